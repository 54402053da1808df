/- The table of types of this seat, and of each function the slots that are read behind a region: reckoned by a program. -/
import Derived.Test.YtjhjcldpcngldaaProg
import Derived.Test.YtjhjcldpcngldaaEZ
set_option linter.unusedVariables false
set_option maxRecDepth 100000
namespace Go.Proofs.Ytjhjcldpcngldaa
open Go Go.EL
def TL : List TD := [
  ⟨.other, 0, 0, [], false⟩,
  ⟨.func, 1, 8, [.nilf], false⟩,
  ⟨(.int .i64), 1, 8, [.int .i64 0], false⟩,
  ⟨(.int .i64), 1, 8, [.int .i64 0], false⟩,
  ⟨.bool, 1, 1, [.bool false], false⟩,
  ⟨(.int .u8), 1, 1, [.int .u8 0], false⟩,
  ⟨.other, 0, 0, [], false⟩,
  ⟨.other, 0, 0, [], false⟩,
  ⟨.other, 0, 0, [], false⟩,
  ⟨.str, 1, 16, [.str []], false⟩,
  ⟨.other, 0, 0, [], false⟩,
  ⟨.other, 0, 0, [], false⟩,
  ⟨(.int .u64), 1, 8, [.int .u64 0], false⟩,
  ⟨(.struct [(9, 0), (12, 1)]), 2, 24, [.str [], .int .u64 0], false⟩,
  ⟨.other, 0, 0, [], false⟩,
  ⟨.other, 0, 0, [], false⟩,
  ⟨.other, 0, 0, [], false⟩,
  ⟨.other, 0, 0, [], false⟩,
  ⟨.other, 0, 0, [], false⟩,
  ⟨(.struct [(17, 0)]), 1, 8, [.nilp], false⟩,
  ⟨.iface, 1, 16, [.nili], false⟩,
  ⟨(.int .i32), 1, 4, [.int .i32 0], false⟩,
  ⟨(.slice 3), 1, 24, [.fslice []], false⟩,
  ⟨.func, 1, 8, [.nilf], false⟩,
  ⟨(.ptr 91), 1, 8, [.nilp], false⟩,
  ⟨.func, 1, 8, [.nilf], false⟩,
  ⟨(.int .i64), 1, 8, [.int .i64 0], false⟩,
  ⟨.other, 0, 0, [], false⟩,
  ⟨.func, 1, 8, [.nilf], false⟩,
  ⟨.func, 1, 8, [.nilf], false⟩,
  ⟨.func, 1, 8, [.nilf], false⟩,
  ⟨(.ptr 34), 1, 8, [.nilp], false⟩,
  ⟨(.slice 36), 1, 24, [.fslice []], false⟩,
  ⟨(.struct [(3, 0), (32, 1), (3, 2)]), 3, 40, [.int .i64 0, .fslice [], .int .i64 0], false⟩,
  ⟨(.struct [(3, 0), (32, 1), (3, 2)]), 3, 40, [.int .i64 0, .fslice [], .int .i64 0], false⟩,
  ⟨(.slice 31), 1, 24, [.fslice []], false⟩,
  ⟨(.ptr 110), 1, 8, [.nilp], false⟩,
  ⟨.other, 0, 0, [], false⟩,
  ⟨.func, 1, 8, [.nilf], false⟩,
  ⟨.other, 0, 0, [], false⟩,
  ⟨.func, 1, 8, [.nilf], false⟩,
  ⟨.func, 1, 8, [.nilf], false⟩,
  ⟨.func, 1, 8, [.nilf], false⟩,
  ⟨.func, 1, 8, [.nilf], false⟩,
  ⟨.func, 1, 8, [.nilf], false⟩,
  ⟨.func, 1, 8, [.nilf], false⟩,
  ⟨.func, 1, 8, [.nilf], false⟩,
  ⟨(.slice 100), 1, 24, [.fslice []], false⟩,
  ⟨.func, 1, 8, [.nilf], false⟩,
  ⟨.func, 1, 8, [.nilf], false⟩,
  ⟨(.slice 137), 1, 24, [.fslice []], false⟩,
  ⟨(.slice 9), 1, 24, [.fslice []], false⟩,
  ⟨.other, 0, 0, [], false⟩,
  ⟨.func, 1, 8, [.nilf], false⟩,
  ⟨.func, 1, 8, [.nilf], false⟩,
  ⟨.func, 1, 8, [.nilf], false⟩,
  ⟨.func, 1, 8, [.nilf], false⟩,
  ⟨(.slice 120), 1, 24, [.fslice []], false⟩,
  ⟨(.struct [(9, 0), (57, 1)]), 2, 40, [.str [], .fslice []], false⟩,
  ⟨(.struct [(9, 0), (57, 1)]), 2, 40, [.str [], .fslice []], false⟩,
  ⟨.func, 1, 8, [.nilf], false⟩,
  ⟨.func, 1, 8, [.nilf], false⟩,
  ⟨.func, 1, 8, [.nilf], false⟩,
  ⟨.func, 1, 8, [.nilf], false⟩,
  ⟨.func, 1, 8, [.nilf], false⟩,
  ⟨(.slice 70), 1, 24, [.fslice []], false⟩,
  ⟨.other, 0, 0, [], false⟩,
  ⟨.func, 1, 8, [.nilf], false⟩,
  ⟨(.slice 149), 1, 24, [.fslice []], false⟩,
  ⟨(.struct [(3, 0), (59, 1), (68, 3), (4, 4), (59, 5)]), 7, 120, [.int .i64 0, .str [], .fslice [], .fslice [], .bool false, .str [], .fslice []], false⟩,
  ⟨(.struct [(3, 0), (59, 1), (68, 3), (4, 4), (59, 5)]), 7, 120, [.int .i64 0, .str [], .fslice [], .fslice [], .bool false, .str [], .fslice []], false⟩,
  ⟨.func, 1, 8, [.nilf], false⟩,
  ⟨.func, 1, 8, [.nilf], false⟩,
  ⟨.func, 1, 8, [.nilf], false⟩,
  ⟨.func, 1, 8, [.nilf], false⟩,
  ⟨.func, 1, 8, [.nilf], false⟩,
  ⟨.func, 1, 8, [.nilf], false⟩,
  ⟨.func, 1, 8, [.nilf], false⟩,
  ⟨.func, 1, 8, [.nilf], false⟩,
  ⟨.func, 1, 8, [.nilf], false⟩,
  ⟨.func, 1, 8, [.nilf], false⟩,
  ⟨.other, 0, 0, [], false⟩,
  ⟨.func, 1, 8, [.nilf], false⟩,
  ⟨.func, 1, 8, [.nilf], false⟩,
  ⟨.func, 1, 8, [.nilf], false⟩,
  ⟨.func, 1, 8, [.nilf], false⟩,
  ⟨.func, 1, 8, [.nilf], false⟩,
  ⟨.func, 1, 8, [.nilf], false⟩,
  ⟨.func, 1, 8, [.nilf], false⟩,
  ⟨.func, 1, 8, [.nilf], false⟩,
  ⟨(.struct [(3, 0), (22, 1)]), 2, 32, [.int .i64 0, .fslice []], false⟩,
  ⟨(.struct [(3, 0), (22, 1)]), 2, 32, [.int .i64 0, .fslice []], false⟩,
  ⟨(.slice 24), 1, 24, [.fslice []], false⟩,
  ⟨(.slice 189), 1, 24, [.fslice []], false⟩,
  ⟨(.struct [(3, 0), (3, 1), (3, 2), (3, 3), (59, 4), (9, 6), (3, 7), (68, 8), (93, 9), (22, 10), (59, 11)]), 13, 208, [.int .i64 0, .int .i64 0, .int .i64 0, .int .i64 0, .str [], .fslice [], .str [], .int .i64 0, .fslice [], .fslice [], .fslice [], .str [], .fslice []], false⟩,
  ⟨(.struct [(3, 0), (3, 1), (3, 2), (3, 3), (59, 4), (9, 6), (3, 7), (68, 8), (93, 9), (22, 10), (59, 11)]), 13, 208, [.int .i64 0, .int .i64 0, .int .i64 0, .int .i64 0, .str [], .fslice [], .str [], .int .i64 0, .fslice [], .fslice [], .fslice [], .str [], .fslice []], false⟩,
  ⟨.other, 0, 0, [], false⟩,
  ⟨.func, 1, 8, [.nilf], false⟩,
  ⟨.func, 1, 8, [.nilf], false⟩,
  ⟨(.struct [(59, 0), (68, 2), (47, 3), (59, 4)]), 6, 128, [.str [], .fslice [], .fslice [], .fslice [], .str [], .fslice []], false⟩,
  ⟨(.struct [(59, 0), (68, 2), (47, 3), (59, 4)]), 6, 128, [.str [], .fslice [], .fslice [], .fslice [], .str [], .fslice []], false⟩,
  ⟨.func, 1, 8, [.nilf], false⟩,
  ⟨.func, 1, 8, [.nilf], false⟩,
  ⟨.func, 1, 8, [.nilf], false⟩,
  ⟨.func, 1, 8, [.nilf], false⟩,
  ⟨.func, 1, 8, [.nilf], false⟩,
  ⟨.func, 1, 8, [.nilf], false⟩,
  ⟨(.map 3 95), 1, 8, [.nilm], false⟩,
  ⟨(.array 4 3), 4, 32, [.int .i64 0, .int .i64 0, .int .i64 0, .int .i64 0], false⟩,
  ⟨(.struct [(107, 0), (108, 1), (108, 5)]), 9, 72, [.nilm, .int .i64 0, .int .i64 0, .int .i64 0, .int .i64 0, .int .i64 0, .int .i64 0, .int .i64 0, .int .i64 0], false⟩,
  ⟨(.struct [(107, 0), (108, 1), (108, 5)]), 9, 72, [.nilm, .int .i64 0, .int .i64 0, .int .i64 0, .int .i64 0, .int .i64 0, .int .i64 0, .int .i64 0, .int .i64 0], false⟩,
  ⟨.func, 1, 8, [.nilf], false⟩,
  ⟨(.slice 5), 1, 24, [.fslice []], false⟩,
  ⟨(.int .u64), 1, 8, [.int .u64 0], false⟩,
  ⟨.func, 1, 8, [.nilf], false⟩,
  ⟨.func, 1, 8, [.nilf], false⟩,
  ⟨.func, 1, 8, [.nilf], false⟩,
  ⟨.func, 1, 8, [.nilf], false⟩,
  ⟨.func, 1, 8, [.nilf], false⟩,
  ⟨(.struct [(3, 0), (3, 1)]), 2, 16, [.int .i64 0, .int .i64 0], true⟩,
  ⟨(.struct [(3, 0), (3, 1)]), 2, 16, [.int .i64 0, .int .i64 0], true⟩,
  ⟨(.slice 59), 1, 24, [.fslice []], false⟩,
  ⟨.func, 1, 8, [.nilf], false⟩,
  ⟨.func, 1, 8, [.nilf], false⟩,
  ⟨(.ptr 127), 1, 8, [.nilp], false⟩,
  ⟨.func, 1, 8, [.nilf], false⟩,
  ⟨(.struct [(47, 0)]), 1, 24, [.fslice []], false⟩,
  ⟨(.struct [(47, 0)]), 1, 24, [.fslice []], false⟩,
  ⟨(.ptr 100), 1, 8, [.nilp], false⟩,
  ⟨.func, 1, 8, [.nilf], false⟩,
  ⟨(.slice 133), 1, 24, [.fslice []], false⟩,
  ⟨.func, 1, 8, [.nilf], false⟩,
  ⟨(.struct [(3, 0), (3, 1), (4, 2)]), 3, 24, [.int .i64 0, .int .i64 0, .bool false], true⟩,
  ⟨(.struct [(3, 0), (3, 1), (4, 2)]), 3, 24, [.int .i64 0, .int .i64 0, .bool false], true⟩,
  ⟨.func, 1, 8, [.nilf], false⟩,
  ⟨.func, 1, 8, [.nilf], false⟩,
  ⟨(.struct [(5, 0), (3, 1)]), 2, 16, [.int .u8 0, .int .i64 0], true⟩,
  ⟨(.struct [(5, 0), (3, 1)]), 2, 16, [.int .u8 0, .int .i64 0], true⟩,
  ⟨.func, 1, 8, [.nilf], false⟩,
  ⟨.func, 1, 8, [.nilf], false⟩,
  ⟨.other, 0, 0, [], false⟩,
  ⟨.func, 1, 8, [.nilf], false⟩,
  ⟨.func, 1, 8, [.nilf], false⟩,
  ⟨.other, 0, 0, [], false⟩,
  ⟨.func, 1, 8, [.nilf], false⟩,
  ⟨.func, 1, 8, [.nilf], false⟩,
  ⟨.func, 1, 8, [.nilf], false⟩,
  ⟨.func, 1, 8, [.nilf], false⟩,
  ⟨(.struct [(59, 0), (59, 2)]), 4, 80, [.str [], .fslice [], .str [], .fslice []], false⟩,
  ⟨(.struct [(59, 0), (59, 2)]), 4, 80, [.str [], .fslice [], .str [], .fslice []], false⟩,
  ⟨(.ptr 152), 1, 8, [.nilp], false⟩,
  ⟨(.struct [(150, 0), (112, 1)]), 2, 32, [.nilp, .fslice []], false⟩,
  ⟨(.struct [(150, 0), (112, 1)]), 2, 32, [.nilp, .fslice []], false⟩,
  ⟨.iface, 1, 16, [.nili], false⟩,
  ⟨.iface, 1, 16, [.nili], false⟩,
  ⟨.other, 0, 0, [], false⟩,
  ⟨.func, 1, 8, [.nilf], false⟩,
  ⟨.func, 1, 8, [.nilf], false⟩,
  ⟨.func, 1, 8, [.nilf], false⟩,
  ⟨.other, 0, 0, [], false⟩,
  ⟨.func, 1, 8, [.nilf], false⟩,
  ⟨.func, 1, 8, [.nilf], false⟩,
  ⟨.other, 0, 0, [], false⟩,
  ⟨.func, 1, 8, [.nilf], false⟩,
  ⟨.func, 1, 8, [.nilf], false⟩,
  ⟨.func, 1, 8, [.nilf], false⟩,
  ⟨.func, 1, 8, [.nilf], false⟩,
  ⟨.func, 1, 8, [.nilf], false⟩,
  ⟨.func, 1, 8, [.nilf], false⟩,
  ⟨.func, 1, 8, [.nilf], false⟩,
  ⟨.func, 1, 8, [.nilf], false⟩,
  ⟨.func, 1, 8, [.nilf], false⟩,
  ⟨.func, 1, 8, [.nilf], false⟩,
  ⟨.func, 1, 8, [.nilf], false⟩,
  ⟨.func, 1, 8, [.nilf], false⟩,
  ⟨.func, 1, 8, [.nilf], false⟩,
  ⟨.func, 1, 8, [.nilf], false⟩,
  ⟨.func, 1, 8, [.nilf], false⟩,
  ⟨.func, 1, 8, [.nilf], false⟩,
  ⟨.func, 1, 8, [.nilf], false⟩,
  ⟨(.ptr 5), 1, 8, [.nilp], false⟩,
  ⟨.func, 1, 8, [.nilf], false⟩,
  ⟨.func, 1, 8, [.nilf], false⟩,
  ⟨.func, 1, 8, [.nilf], false⟩,
  ⟨(.struct [(5, 0), (9, 1)]), 2, 24, [.int .u8 0, .str []], true⟩,
  ⟨(.struct [(5, 0), (9, 1)]), 2, 24, [.int .u8 0, .str []], true⟩,
  ⟨.func, 1, 8, [.nilf], false⟩,
  ⟨.func, 1, 8, [.nilf], false⟩,
  ⟨(.struct [(3, 0), (4, 1), (3, 2)]), 3, 24, [.int .i64 0, .bool false, .int .i64 0], true⟩,
  ⟨(.struct [(3, 0), (4, 1), (3, 2)]), 3, 24, [.int .i64 0, .bool false, .int .i64 0], true⟩,
  ⟨.func, 1, 8, [.nilf], false⟩,
  ⟨.func, 1, 8, [.nilf], false⟩,
  ⟨.func, 1, 8, [.nilf], false⟩,
  ⟨.other, 0, 0, [], false⟩,
  ⟨.func, 1, 8, [.nilf], false⟩,
  ⟨.other, 0, 0, [], false⟩,
  ⟨.func, 1, 8, [.nilf], false⟩,
  ⟨.func, 1, 8, [.nilf], false⟩,
  ⟨.func, 1, 8, [.nilf], false⟩,
  ⟨(.slice 185), 1, 24, [.fslice []], false⟩,
  ⟨.func, 1, 8, [.nilf], false⟩,
  ⟨.func, 1, 8, [.nilf], false⟩,
  ⟨.func, 1, 8, [.nilf], false⟩,
  ⟨.func, 1, 8, [.nilf], false⟩,
  ⟨.func, 1, 8, [.nilf], false⟩,
  ⟨.func, 1, 8, [.nilf], false⟩,
  ⟨.func, 1, 8, [.nilf], false⟩,
  ⟨.func, 1, 8, [.nilf], false⟩,
  ⟨.func, 1, 8, [.nilf], false⟩,
  ⟨.other, 0, 0, [], false⟩,
  ⟨.other, 0, 0, [], false⟩,
  ⟨.other, 0, 0, [], false⟩,
  ⟨.other, 0, 0, [], false⟩,
  ⟨.other, 0, 0, [], false⟩,
  ⟨(.int .u32), 1, 4, [.int .u32 0], false⟩,
  ⟨.other, 0, 0, [], false⟩,
  ⟨.other, 0, 0, [], false⟩,
  ⟨.func, 1, 8, [.nilf], false⟩,
  ⟨.other, 0, 0, [], false⟩,
  ⟨.other, 0, 0, [], false⟩,
  ⟨.other, 0, 0, [], false⟩,
  ⟨.other, 0, 0, [], false⟩]
def T (t : Nat) : TD := TL.getD t ⟨.other, 0, 0, [], false⟩
theorem T_1 : T 1 = ⟨.func, 1, 8, [.nilf], false⟩ := rfl
theorem T_2 : T 2 = ⟨(.int .i64), 1, 8, [.int .i64 0], false⟩ := rfl
theorem T_3 : T 3 = ⟨(.int .i64), 1, 8, [.int .i64 0], false⟩ := rfl
theorem T_4 : T 4 = ⟨.bool, 1, 1, [.bool false], false⟩ := rfl
theorem T_5 : T 5 = ⟨(.int .u8), 1, 1, [.int .u8 0], false⟩ := rfl
theorem T_9 : T 9 = ⟨.str, 1, 16, [.str []], false⟩ := rfl
theorem T_12 : T 12 = ⟨(.int .u64), 1, 8, [.int .u64 0], false⟩ := rfl
theorem T_13 : T 13 = ⟨(.struct [(9, 0), (12, 1)]), 2, 24, [.str [], .int .u64 0], false⟩ := rfl
theorem T_19 : T 19 = ⟨(.struct [(17, 0)]), 1, 8, [.nilp], false⟩ := rfl
theorem T_20 : T 20 = ⟨.iface, 1, 16, [.nili], false⟩ := rfl
theorem T_21 : T 21 = ⟨(.int .i32), 1, 4, [.int .i32 0], false⟩ := rfl
theorem T_22 : T 22 = ⟨(.slice 3), 1, 24, [.fslice []], false⟩ := rfl
theorem T_23 : T 23 = ⟨.func, 1, 8, [.nilf], false⟩ := rfl
theorem T_24 : T 24 = ⟨(.ptr 91), 1, 8, [.nilp], false⟩ := rfl
theorem T_25 : T 25 = ⟨.func, 1, 8, [.nilf], false⟩ := rfl
theorem T_26 : T 26 = ⟨(.int .i64), 1, 8, [.int .i64 0], false⟩ := rfl
theorem T_28 : T 28 = ⟨.func, 1, 8, [.nilf], false⟩ := rfl
theorem T_29 : T 29 = ⟨.func, 1, 8, [.nilf], false⟩ := rfl
theorem T_30 : T 30 = ⟨.func, 1, 8, [.nilf], false⟩ := rfl
theorem T_31 : T 31 = ⟨(.ptr 34), 1, 8, [.nilp], false⟩ := rfl
theorem T_32 : T 32 = ⟨(.slice 36), 1, 24, [.fslice []], false⟩ := rfl
theorem T_33 : T 33 = ⟨(.struct [(3, 0), (32, 1), (3, 2)]), 3, 40, [.int .i64 0, .fslice [], .int .i64 0], false⟩ := rfl
theorem T_34 : T 34 = ⟨(.struct [(3, 0), (32, 1), (3, 2)]), 3, 40, [.int .i64 0, .fslice [], .int .i64 0], false⟩ := rfl
theorem T_35 : T 35 = ⟨(.slice 31), 1, 24, [.fslice []], false⟩ := rfl
theorem T_36 : T 36 = ⟨(.ptr 110), 1, 8, [.nilp], false⟩ := rfl
theorem T_38 : T 38 = ⟨.func, 1, 8, [.nilf], false⟩ := rfl
theorem T_40 : T 40 = ⟨.func, 1, 8, [.nilf], false⟩ := rfl
theorem T_41 : T 41 = ⟨.func, 1, 8, [.nilf], false⟩ := rfl
theorem T_42 : T 42 = ⟨.func, 1, 8, [.nilf], false⟩ := rfl
theorem T_43 : T 43 = ⟨.func, 1, 8, [.nilf], false⟩ := rfl
theorem T_44 : T 44 = ⟨.func, 1, 8, [.nilf], false⟩ := rfl
theorem T_45 : T 45 = ⟨.func, 1, 8, [.nilf], false⟩ := rfl
theorem T_46 : T 46 = ⟨.func, 1, 8, [.nilf], false⟩ := rfl
theorem T_47 : T 47 = ⟨(.slice 100), 1, 24, [.fslice []], false⟩ := rfl
theorem T_48 : T 48 = ⟨.func, 1, 8, [.nilf], false⟩ := rfl
theorem T_49 : T 49 = ⟨.func, 1, 8, [.nilf], false⟩ := rfl
theorem T_50 : T 50 = ⟨(.slice 137), 1, 24, [.fslice []], false⟩ := rfl
theorem T_51 : T 51 = ⟨(.slice 9), 1, 24, [.fslice []], false⟩ := rfl
theorem T_53 : T 53 = ⟨.func, 1, 8, [.nilf], false⟩ := rfl
theorem T_54 : T 54 = ⟨.func, 1, 8, [.nilf], false⟩ := rfl
theorem T_55 : T 55 = ⟨.func, 1, 8, [.nilf], false⟩ := rfl
theorem T_56 : T 56 = ⟨.func, 1, 8, [.nilf], false⟩ := rfl
theorem T_57 : T 57 = ⟨(.slice 120), 1, 24, [.fslice []], false⟩ := rfl
theorem T_58 : T 58 = ⟨(.struct [(9, 0), (57, 1)]), 2, 40, [.str [], .fslice []], false⟩ := rfl
theorem T_59 : T 59 = ⟨(.struct [(9, 0), (57, 1)]), 2, 40, [.str [], .fslice []], false⟩ := rfl
theorem T_60 : T 60 = ⟨.func, 1, 8, [.nilf], false⟩ := rfl
theorem T_61 : T 61 = ⟨.func, 1, 8, [.nilf], false⟩ := rfl
theorem T_62 : T 62 = ⟨.func, 1, 8, [.nilf], false⟩ := rfl
theorem T_63 : T 63 = ⟨.func, 1, 8, [.nilf], false⟩ := rfl
theorem T_64 : T 64 = ⟨.func, 1, 8, [.nilf], false⟩ := rfl
theorem T_65 : T 65 = ⟨(.slice 70), 1, 24, [.fslice []], false⟩ := rfl
theorem T_67 : T 67 = ⟨.func, 1, 8, [.nilf], false⟩ := rfl
theorem T_68 : T 68 = ⟨(.slice 149), 1, 24, [.fslice []], false⟩ := rfl
theorem T_69 : T 69 = ⟨(.struct [(3, 0), (59, 1), (68, 3), (4, 4), (59, 5)]), 7, 120, [.int .i64 0, .str [], .fslice [], .fslice [], .bool false, .str [], .fslice []], false⟩ := rfl
theorem T_70 : T 70 = ⟨(.struct [(3, 0), (59, 1), (68, 3), (4, 4), (59, 5)]), 7, 120, [.int .i64 0, .str [], .fslice [], .fslice [], .bool false, .str [], .fslice []], false⟩ := rfl
theorem T_71 : T 71 = ⟨.func, 1, 8, [.nilf], false⟩ := rfl
theorem T_72 : T 72 = ⟨.func, 1, 8, [.nilf], false⟩ := rfl
theorem T_73 : T 73 = ⟨.func, 1, 8, [.nilf], false⟩ := rfl
theorem T_74 : T 74 = ⟨.func, 1, 8, [.nilf], false⟩ := rfl
theorem T_75 : T 75 = ⟨.func, 1, 8, [.nilf], false⟩ := rfl
theorem T_76 : T 76 = ⟨.func, 1, 8, [.nilf], false⟩ := rfl
theorem T_77 : T 77 = ⟨.func, 1, 8, [.nilf], false⟩ := rfl
theorem T_78 : T 78 = ⟨.func, 1, 8, [.nilf], false⟩ := rfl
theorem T_79 : T 79 = ⟨.func, 1, 8, [.nilf], false⟩ := rfl
theorem T_80 : T 80 = ⟨.func, 1, 8, [.nilf], false⟩ := rfl
theorem T_82 : T 82 = ⟨.func, 1, 8, [.nilf], false⟩ := rfl
theorem T_83 : T 83 = ⟨.func, 1, 8, [.nilf], false⟩ := rfl
theorem T_84 : T 84 = ⟨.func, 1, 8, [.nilf], false⟩ := rfl
theorem T_85 : T 85 = ⟨.func, 1, 8, [.nilf], false⟩ := rfl
theorem T_86 : T 86 = ⟨.func, 1, 8, [.nilf], false⟩ := rfl
theorem T_87 : T 87 = ⟨.func, 1, 8, [.nilf], false⟩ := rfl
theorem T_88 : T 88 = ⟨.func, 1, 8, [.nilf], false⟩ := rfl
theorem T_89 : T 89 = ⟨.func, 1, 8, [.nilf], false⟩ := rfl
theorem T_90 : T 90 = ⟨(.struct [(3, 0), (22, 1)]), 2, 32, [.int .i64 0, .fslice []], false⟩ := rfl
theorem T_91 : T 91 = ⟨(.struct [(3, 0), (22, 1)]), 2, 32, [.int .i64 0, .fslice []], false⟩ := rfl
theorem T_92 : T 92 = ⟨(.slice 24), 1, 24, [.fslice []], false⟩ := rfl
theorem T_93 : T 93 = ⟨(.slice 189), 1, 24, [.fslice []], false⟩ := rfl
theorem T_94 : T 94 = ⟨(.struct [(3, 0), (3, 1), (3, 2), (3, 3), (59, 4), (9, 6), (3, 7), (68, 8), (93, 9), (22, 10), (59, 11)]), 13, 208, [.int .i64 0, .int .i64 0, .int .i64 0, .int .i64 0, .str [], .fslice [], .str [], .int .i64 0, .fslice [], .fslice [], .fslice [], .str [], .fslice []], false⟩ := rfl
theorem T_95 : T 95 = ⟨(.struct [(3, 0), (3, 1), (3, 2), (3, 3), (59, 4), (9, 6), (3, 7), (68, 8), (93, 9), (22, 10), (59, 11)]), 13, 208, [.int .i64 0, .int .i64 0, .int .i64 0, .int .i64 0, .str [], .fslice [], .str [], .int .i64 0, .fslice [], .fslice [], .fslice [], .str [], .fslice []], false⟩ := rfl
theorem T_97 : T 97 = ⟨.func, 1, 8, [.nilf], false⟩ := rfl
theorem T_98 : T 98 = ⟨.func, 1, 8, [.nilf], false⟩ := rfl
theorem T_99 : T 99 = ⟨(.struct [(59, 0), (68, 2), (47, 3), (59, 4)]), 6, 128, [.str [], .fslice [], .fslice [], .fslice [], .str [], .fslice []], false⟩ := rfl
theorem T_100 : T 100 = ⟨(.struct [(59, 0), (68, 2), (47, 3), (59, 4)]), 6, 128, [.str [], .fslice [], .fslice [], .fslice [], .str [], .fslice []], false⟩ := rfl
theorem T_101 : T 101 = ⟨.func, 1, 8, [.nilf], false⟩ := rfl
theorem T_102 : T 102 = ⟨.func, 1, 8, [.nilf], false⟩ := rfl
theorem T_103 : T 103 = ⟨.func, 1, 8, [.nilf], false⟩ := rfl
theorem T_104 : T 104 = ⟨.func, 1, 8, [.nilf], false⟩ := rfl
theorem T_105 : T 105 = ⟨.func, 1, 8, [.nilf], false⟩ := rfl
theorem T_106 : T 106 = ⟨.func, 1, 8, [.nilf], false⟩ := rfl
theorem T_107 : T 107 = ⟨(.map 3 95), 1, 8, [.nilm], false⟩ := rfl
theorem T_108 : T 108 = ⟨(.array 4 3), 4, 32, [.int .i64 0, .int .i64 0, .int .i64 0, .int .i64 0], false⟩ := rfl
theorem T_109 : T 109 = ⟨(.struct [(107, 0), (108, 1), (108, 5)]), 9, 72, [.nilm, .int .i64 0, .int .i64 0, .int .i64 0, .int .i64 0, .int .i64 0, .int .i64 0, .int .i64 0, .int .i64 0], false⟩ := rfl
theorem T_110 : T 110 = ⟨(.struct [(107, 0), (108, 1), (108, 5)]), 9, 72, [.nilm, .int .i64 0, .int .i64 0, .int .i64 0, .int .i64 0, .int .i64 0, .int .i64 0, .int .i64 0, .int .i64 0], false⟩ := rfl
theorem T_111 : T 111 = ⟨.func, 1, 8, [.nilf], false⟩ := rfl
theorem T_112 : T 112 = ⟨(.slice 5), 1, 24, [.fslice []], false⟩ := rfl
theorem T_113 : T 113 = ⟨(.int .u64), 1, 8, [.int .u64 0], false⟩ := rfl
theorem T_114 : T 114 = ⟨.func, 1, 8, [.nilf], false⟩ := rfl
theorem T_115 : T 115 = ⟨.func, 1, 8, [.nilf], false⟩ := rfl
theorem T_116 : T 116 = ⟨.func, 1, 8, [.nilf], false⟩ := rfl
theorem T_117 : T 117 = ⟨.func, 1, 8, [.nilf], false⟩ := rfl
theorem T_118 : T 118 = ⟨.func, 1, 8, [.nilf], false⟩ := rfl
theorem T_119 : T 119 = ⟨(.struct [(3, 0), (3, 1)]), 2, 16, [.int .i64 0, .int .i64 0], true⟩ := rfl
theorem T_120 : T 120 = ⟨(.struct [(3, 0), (3, 1)]), 2, 16, [.int .i64 0, .int .i64 0], true⟩ := rfl
theorem T_121 : T 121 = ⟨(.slice 59), 1, 24, [.fslice []], false⟩ := rfl
theorem T_122 : T 122 = ⟨.func, 1, 8, [.nilf], false⟩ := rfl
theorem T_123 : T 123 = ⟨.func, 1, 8, [.nilf], false⟩ := rfl
theorem T_124 : T 124 = ⟨(.ptr 127), 1, 8, [.nilp], false⟩ := rfl
theorem T_125 : T 125 = ⟨.func, 1, 8, [.nilf], false⟩ := rfl
theorem T_126 : T 126 = ⟨(.struct [(47, 0)]), 1, 24, [.fslice []], false⟩ := rfl
theorem T_127 : T 127 = ⟨(.struct [(47, 0)]), 1, 24, [.fslice []], false⟩ := rfl
theorem T_128 : T 128 = ⟨(.ptr 100), 1, 8, [.nilp], false⟩ := rfl
theorem T_129 : T 129 = ⟨.func, 1, 8, [.nilf], false⟩ := rfl
theorem T_130 : T 130 = ⟨(.slice 133), 1, 24, [.fslice []], false⟩ := rfl
theorem T_131 : T 131 = ⟨.func, 1, 8, [.nilf], false⟩ := rfl
theorem T_132 : T 132 = ⟨(.struct [(3, 0), (3, 1), (4, 2)]), 3, 24, [.int .i64 0, .int .i64 0, .bool false], true⟩ := rfl
theorem T_133 : T 133 = ⟨(.struct [(3, 0), (3, 1), (4, 2)]), 3, 24, [.int .i64 0, .int .i64 0, .bool false], true⟩ := rfl
theorem T_134 : T 134 = ⟨.func, 1, 8, [.nilf], false⟩ := rfl
theorem T_135 : T 135 = ⟨.func, 1, 8, [.nilf], false⟩ := rfl
theorem T_136 : T 136 = ⟨(.struct [(5, 0), (3, 1)]), 2, 16, [.int .u8 0, .int .i64 0], true⟩ := rfl
theorem T_137 : T 137 = ⟨(.struct [(5, 0), (3, 1)]), 2, 16, [.int .u8 0, .int .i64 0], true⟩ := rfl
theorem T_138 : T 138 = ⟨.func, 1, 8, [.nilf], false⟩ := rfl
theorem T_139 : T 139 = ⟨.func, 1, 8, [.nilf], false⟩ := rfl
theorem T_141 : T 141 = ⟨.func, 1, 8, [.nilf], false⟩ := rfl
theorem T_142 : T 142 = ⟨.func, 1, 8, [.nilf], false⟩ := rfl
theorem T_144 : T 144 = ⟨.func, 1, 8, [.nilf], false⟩ := rfl
theorem T_145 : T 145 = ⟨.func, 1, 8, [.nilf], false⟩ := rfl
theorem T_146 : T 146 = ⟨.func, 1, 8, [.nilf], false⟩ := rfl
theorem T_147 : T 147 = ⟨.func, 1, 8, [.nilf], false⟩ := rfl
theorem T_148 : T 148 = ⟨(.struct [(59, 0), (59, 2)]), 4, 80, [.str [], .fslice [], .str [], .fslice []], false⟩ := rfl
theorem T_149 : T 149 = ⟨(.struct [(59, 0), (59, 2)]), 4, 80, [.str [], .fslice [], .str [], .fslice []], false⟩ := rfl
theorem T_150 : T 150 = ⟨(.ptr 152), 1, 8, [.nilp], false⟩ := rfl
theorem T_151 : T 151 = ⟨(.struct [(150, 0), (112, 1)]), 2, 32, [.nilp, .fslice []], false⟩ := rfl
theorem T_152 : T 152 = ⟨(.struct [(150, 0), (112, 1)]), 2, 32, [.nilp, .fslice []], false⟩ := rfl
theorem T_153 : T 153 = ⟨.iface, 1, 16, [.nili], false⟩ := rfl
theorem T_154 : T 154 = ⟨.iface, 1, 16, [.nili], false⟩ := rfl
theorem T_156 : T 156 = ⟨.func, 1, 8, [.nilf], false⟩ := rfl
theorem T_157 : T 157 = ⟨.func, 1, 8, [.nilf], false⟩ := rfl
theorem T_158 : T 158 = ⟨.func, 1, 8, [.nilf], false⟩ := rfl
theorem T_160 : T 160 = ⟨.func, 1, 8, [.nilf], false⟩ := rfl
theorem T_161 : T 161 = ⟨.func, 1, 8, [.nilf], false⟩ := rfl
theorem T_163 : T 163 = ⟨.func, 1, 8, [.nilf], false⟩ := rfl
theorem T_164 : T 164 = ⟨.func, 1, 8, [.nilf], false⟩ := rfl
theorem T_165 : T 165 = ⟨.func, 1, 8, [.nilf], false⟩ := rfl
theorem T_166 : T 166 = ⟨.func, 1, 8, [.nilf], false⟩ := rfl
theorem T_167 : T 167 = ⟨.func, 1, 8, [.nilf], false⟩ := rfl
theorem T_168 : T 168 = ⟨.func, 1, 8, [.nilf], false⟩ := rfl
theorem T_169 : T 169 = ⟨.func, 1, 8, [.nilf], false⟩ := rfl
theorem T_170 : T 170 = ⟨.func, 1, 8, [.nilf], false⟩ := rfl
theorem T_171 : T 171 = ⟨.func, 1, 8, [.nilf], false⟩ := rfl
theorem T_172 : T 172 = ⟨.func, 1, 8, [.nilf], false⟩ := rfl
theorem T_173 : T 173 = ⟨.func, 1, 8, [.nilf], false⟩ := rfl
theorem T_174 : T 174 = ⟨.func, 1, 8, [.nilf], false⟩ := rfl
theorem T_175 : T 175 = ⟨.func, 1, 8, [.nilf], false⟩ := rfl
theorem T_176 : T 176 = ⟨.func, 1, 8, [.nilf], false⟩ := rfl
theorem T_177 : T 177 = ⟨.func, 1, 8, [.nilf], false⟩ := rfl
theorem T_178 : T 178 = ⟨.func, 1, 8, [.nilf], false⟩ := rfl
theorem T_179 : T 179 = ⟨.func, 1, 8, [.nilf], false⟩ := rfl
theorem T_180 : T 180 = ⟨(.ptr 5), 1, 8, [.nilp], false⟩ := rfl
theorem T_181 : T 181 = ⟨.func, 1, 8, [.nilf], false⟩ := rfl
theorem T_182 : T 182 = ⟨.func, 1, 8, [.nilf], false⟩ := rfl
theorem T_183 : T 183 = ⟨.func, 1, 8, [.nilf], false⟩ := rfl
theorem T_184 : T 184 = ⟨(.struct [(5, 0), (9, 1)]), 2, 24, [.int .u8 0, .str []], true⟩ := rfl
theorem T_185 : T 185 = ⟨(.struct [(5, 0), (9, 1)]), 2, 24, [.int .u8 0, .str []], true⟩ := rfl
theorem T_186 : T 186 = ⟨.func, 1, 8, [.nilf], false⟩ := rfl
theorem T_187 : T 187 = ⟨.func, 1, 8, [.nilf], false⟩ := rfl
theorem T_188 : T 188 = ⟨(.struct [(3, 0), (4, 1), (3, 2)]), 3, 24, [.int .i64 0, .bool false, .int .i64 0], true⟩ := rfl
theorem T_189 : T 189 = ⟨(.struct [(3, 0), (4, 1), (3, 2)]), 3, 24, [.int .i64 0, .bool false, .int .i64 0], true⟩ := rfl
theorem T_190 : T 190 = ⟨.func, 1, 8, [.nilf], false⟩ := rfl
theorem T_191 : T 191 = ⟨.func, 1, 8, [.nilf], false⟩ := rfl
theorem T_192 : T 192 = ⟨.func, 1, 8, [.nilf], false⟩ := rfl
theorem T_194 : T 194 = ⟨.func, 1, 8, [.nilf], false⟩ := rfl
theorem T_196 : T 196 = ⟨.func, 1, 8, [.nilf], false⟩ := rfl
theorem T_197 : T 197 = ⟨.func, 1, 8, [.nilf], false⟩ := rfl
theorem T_198 : T 198 = ⟨.func, 1, 8, [.nilf], false⟩ := rfl
theorem T_199 : T 199 = ⟨(.slice 185), 1, 24, [.fslice []], false⟩ := rfl
theorem T_200 : T 200 = ⟨.func, 1, 8, [.nilf], false⟩ := rfl
theorem T_201 : T 201 = ⟨.func, 1, 8, [.nilf], false⟩ := rfl
theorem T_202 : T 202 = ⟨.func, 1, 8, [.nilf], false⟩ := rfl
theorem T_203 : T 203 = ⟨.func, 1, 8, [.nilf], false⟩ := rfl
theorem T_204 : T 204 = ⟨.func, 1, 8, [.nilf], false⟩ := rfl
theorem T_205 : T 205 = ⟨.func, 1, 8, [.nilf], false⟩ := rfl
theorem T_206 : T 206 = ⟨.func, 1, 8, [.nilf], false⟩ := rfl
theorem T_207 : T 207 = ⟨.func, 1, 8, [.nilf], false⟩ := rfl
theorem T_208 : T 208 = ⟨.func, 1, 8, [.nilf], false⟩ := rfl
theorem T_214 : T 214 = ⟨(.int .u32), 1, 4, [.int .u32 0], false⟩ := rfl
theorem T_217 : T 217 = ⟨.func, 1, 8, [.nilf], false⟩ := rfl
theorem TB : type_of% (And.intro (And.intro (And.intro (And.intro (And.intro (And.intro (And.intro (T_1) (T_2)) (And.intro (T_3) (And.intro (T_4) (T_5)))) (And.intro (And.intro (T_9) (And.intro (T_12) (T_13))) (And.intro (T_19) (And.intro (T_20) (T_21))))) (And.intro (And.intro (And.intro (T_22) (And.intro (T_23) (T_24))) (And.intro (T_25) (And.intro (T_26) (T_28)))) (And.intro (And.intro (T_29) (And.intro (T_30) (T_31))) (And.intro (T_32) (And.intro (T_33) (T_34)))))) (And.intro (And.intro (And.intro (And.intro (T_35) (T_36)) (And.intro (T_38) (And.intro (T_40) (T_41)))) (And.intro (And.intro (T_42) (And.intro (T_43) (T_44))) (And.intro (T_45) (And.intro (T_46) (T_47))))) (And.intro (And.intro (And.intro (T_48) (And.intro (T_49) (T_50))) (And.intro (T_51) (And.intro (T_53) (T_54)))) (And.intro (And.intro (T_55) (And.intro (T_56) (T_57))) (And.intro (T_58) (And.intro (T_59) (T_60))))))) (And.intro (And.intro (And.intro (And.intro (And.intro (T_61) (T_62)) (And.intro (T_63) (And.intro (T_64) (T_65)))) (And.intro (And.intro (T_67) (And.intro (T_68) (T_69))) (And.intro (T_70) (And.intro (T_71) (T_72))))) (And.intro (And.intro (And.intro (T_73) (And.intro (T_74) (T_75))) (And.intro (T_76) (And.intro (T_77) (T_78)))) (And.intro (And.intro (T_79) (And.intro (T_80) (T_82))) (And.intro (T_83) (And.intro (T_84) (T_85)))))) (And.intro (And.intro (And.intro (And.intro (T_86) (And.intro (T_87) (T_88))) (And.intro (T_89) (And.intro (T_90) (T_91)))) (And.intro (And.intro (T_92) (And.intro (T_93) (T_94))) (And.intro (T_95) (And.intro (T_97) (T_98))))) (And.intro (And.intro (And.intro (T_99) (And.intro (T_100) (T_101))) (And.intro (T_102) (And.intro (T_103) (T_104)))) (And.intro (And.intro (T_105) (And.intro (T_106) (T_107))) (And.intro (T_108) (And.intro (T_109) (T_110)))))))) (And.intro (And.intro (And.intro (And.intro (And.intro (And.intro (T_111) (T_112)) (And.intro (T_113) (And.intro (T_114) (T_115)))) (And.intro (And.intro (T_116) (And.intro (T_117) (T_118))) (And.intro (T_119) (And.intro (T_120) (T_121))))) (And.intro (And.intro (And.intro (T_122) (And.intro (T_123) (T_124))) (And.intro (T_125) (And.intro (T_126) (T_127)))) (And.intro (And.intro (T_128) (And.intro (T_129) (T_130))) (And.intro (T_131) (And.intro (T_132) (T_133)))))) (And.intro (And.intro (And.intro (And.intro (T_134) (T_135)) (And.intro (T_136) (And.intro (T_137) (T_138)))) (And.intro (And.intro (T_139) (And.intro (T_141) (T_142))) (And.intro (T_144) (And.intro (T_145) (T_146))))) (And.intro (And.intro (And.intro (T_147) (And.intro (T_148) (T_149))) (And.intro (T_150) (And.intro (T_151) (T_152)))) (And.intro (And.intro (T_153) (And.intro (T_154) (T_156))) (And.intro (T_157) (And.intro (T_158) (T_160))))))) (And.intro (And.intro (And.intro (And.intro (And.intro (T_161) (T_163)) (And.intro (T_164) (And.intro (T_165) (T_166)))) (And.intro (And.intro (T_167) (And.intro (T_168) (T_169))) (And.intro (T_170) (And.intro (T_171) (T_172))))) (And.intro (And.intro (And.intro (T_173) (And.intro (T_174) (T_175))) (And.intro (T_176) (And.intro (T_177) (T_178)))) (And.intro (And.intro (T_179) (And.intro (T_180) (T_181))) (And.intro (T_182) (And.intro (T_183) (T_184)))))) (And.intro (And.intro (And.intro (And.intro (T_185) (And.intro (T_186) (T_187))) (And.intro (T_188) (And.intro (T_189) (T_190)))) (And.intro (And.intro (T_191) (And.intro (T_192) (T_194))) (And.intro (T_196) (And.intro (T_197) (T_198))))) (And.intro (And.intro (And.intro (T_199) (And.intro (T_200) (T_201))) (And.intro (T_202) (And.intro (T_203) (T_204)))) (And.intro (And.intro (T_205) (And.intro (T_206) (T_207))) (And.intro (T_208) (And.intro (T_214) (T_217))))))))) := And.intro (And.intro (And.intro (And.intro (And.intro (And.intro (And.intro (T_1) (T_2)) (And.intro (T_3) (And.intro (T_4) (T_5)))) (And.intro (And.intro (T_9) (And.intro (T_12) (T_13))) (And.intro (T_19) (And.intro (T_20) (T_21))))) (And.intro (And.intro (And.intro (T_22) (And.intro (T_23) (T_24))) (And.intro (T_25) (And.intro (T_26) (T_28)))) (And.intro (And.intro (T_29) (And.intro (T_30) (T_31))) (And.intro (T_32) (And.intro (T_33) (T_34)))))) (And.intro (And.intro (And.intro (And.intro (T_35) (T_36)) (And.intro (T_38) (And.intro (T_40) (T_41)))) (And.intro (And.intro (T_42) (And.intro (T_43) (T_44))) (And.intro (T_45) (And.intro (T_46) (T_47))))) (And.intro (And.intro (And.intro (T_48) (And.intro (T_49) (T_50))) (And.intro (T_51) (And.intro (T_53) (T_54)))) (And.intro (And.intro (T_55) (And.intro (T_56) (T_57))) (And.intro (T_58) (And.intro (T_59) (T_60))))))) (And.intro (And.intro (And.intro (And.intro (And.intro (T_61) (T_62)) (And.intro (T_63) (And.intro (T_64) (T_65)))) (And.intro (And.intro (T_67) (And.intro (T_68) (T_69))) (And.intro (T_70) (And.intro (T_71) (T_72))))) (And.intro (And.intro (And.intro (T_73) (And.intro (T_74) (T_75))) (And.intro (T_76) (And.intro (T_77) (T_78)))) (And.intro (And.intro (T_79) (And.intro (T_80) (T_82))) (And.intro (T_83) (And.intro (T_84) (T_85)))))) (And.intro (And.intro (And.intro (And.intro (T_86) (And.intro (T_87) (T_88))) (And.intro (T_89) (And.intro (T_90) (T_91)))) (And.intro (And.intro (T_92) (And.intro (T_93) (T_94))) (And.intro (T_95) (And.intro (T_97) (T_98))))) (And.intro (And.intro (And.intro (T_99) (And.intro (T_100) (T_101))) (And.intro (T_102) (And.intro (T_103) (T_104)))) (And.intro (And.intro (T_105) (And.intro (T_106) (T_107))) (And.intro (T_108) (And.intro (T_109) (T_110)))))))) (And.intro (And.intro (And.intro (And.intro (And.intro (And.intro (T_111) (T_112)) (And.intro (T_113) (And.intro (T_114) (T_115)))) (And.intro (And.intro (T_116) (And.intro (T_117) (T_118))) (And.intro (T_119) (And.intro (T_120) (T_121))))) (And.intro (And.intro (And.intro (T_122) (And.intro (T_123) (T_124))) (And.intro (T_125) (And.intro (T_126) (T_127)))) (And.intro (And.intro (T_128) (And.intro (T_129) (T_130))) (And.intro (T_131) (And.intro (T_132) (T_133)))))) (And.intro (And.intro (And.intro (And.intro (T_134) (T_135)) (And.intro (T_136) (And.intro (T_137) (T_138)))) (And.intro (And.intro (T_139) (And.intro (T_141) (T_142))) (And.intro (T_144) (And.intro (T_145) (T_146))))) (And.intro (And.intro (And.intro (T_147) (And.intro (T_148) (T_149))) (And.intro (T_150) (And.intro (T_151) (T_152)))) (And.intro (And.intro (T_153) (And.intro (T_154) (T_156))) (And.intro (T_157) (And.intro (T_158) (T_160))))))) (And.intro (And.intro (And.intro (And.intro (And.intro (T_161) (T_163)) (And.intro (T_164) (And.intro (T_165) (T_166)))) (And.intro (And.intro (T_167) (And.intro (T_168) (T_169))) (And.intro (T_170) (And.intro (T_171) (T_172))))) (And.intro (And.intro (And.intro (T_173) (And.intro (T_174) (T_175))) (And.intro (T_176) (And.intro (T_177) (T_178)))) (And.intro (And.intro (T_179) (And.intro (T_180) (T_181))) (And.intro (T_182) (And.intro (T_183) (T_184)))))) (And.intro (And.intro (And.intro (And.intro (T_185) (And.intro (T_186) (T_187))) (And.intro (T_188) (And.intro (T_189) (T_190)))) (And.intro (And.intro (T_191) (And.intro (T_192) (T_194))) (And.intro (T_196) (And.intro (T_197) (T_198))))) (And.intro (And.intro (And.intro (T_199) (And.intro (T_200) (T_201))) (And.intro (T_202) (And.intro (T_203) (T_204)))) (And.intro (And.intro (T_205) (And.intro (T_206) (T_207))) (And.intro (T_208) (And.intro (T_214) (T_217))))))))
theorem T_all : (List.range 222).all (fun t => tyCheck Try.prog t (T t)) = true := by kernel_rfl
theorem Tok : TyOK Try.prog T := by
  intro t
  by_cases h : t < 222
  · exact List.all_eq_true.1 T_all t (List.mem_range.2 h)
  · have : T t = ⟨.other, 0, 0, [], false⟩ := by
      unfold T
      have hl : TL.length = 222 := rfl
      rw [List.getD_eq_getElem?_getD, List.getElem?_eq_none (l := TL) (i := t) (by rw [hl]; exact Nat.le_of_not_lt h)]
      rfl
    rw [this]
    rfl
def keep3 : Nat → List Nat
  | 0 => [0, 1, 2, 3]
  | 1 => [0, 1, 2, 3, 19]
  | 2 => [8]
  | 3 => [0, 1, 2, 3, 9]
  | 4 => [0, 1, 2, 3, 9, 10]
  | 5 => [0, 1, 2, 3, 9, 10, 11]
  | 6 => [0, 1, 2, 3, 9, 10, 11, 32]
  | 7 => [0, 1, 2, 3, 9, 10, 11]
  | 8 => [0, 1, 2, 3, 9, 10, 11, 12]
  | 9 => [0, 1, 2, 3, 9, 10, 11, 12, 13]
  | 10 => [0, 1, 2, 3, 9, 10, 11, 12, 13, 42]
  | 11 => [0, 1, 2, 3, 9, 10, 11, 12, 13]
  | 12 => [0, 1, 2, 3, 9, 10, 11, 12, 13, 53]
  | 13 => [0, 1, 2, 3, 9, 10, 11, 12, 13]
  | 14 => [0, 1, 2, 3, 9, 10, 11, 12, 14, 15]
  | 15 => [0, 1, 2, 3, 9, 10, 11, 14, 15]
  | 16 => [0, 1, 2, 3, 9, 10, 11, 79]
  | 17 => [8]
  | 18 => [0, 1, 2, 3, 9, 10, 11, 12, 14, 15, 80]
  | 19 => [0, 1, 2, 3, 9, 10, 11, 89]
  | 20 => [8]
  | 21 => [0, 1, 2, 3, 9, 10, 11, 14, 15, 90]
  | 22 => [0, 1, 2, 3, 9, 10, 11, 99]
  | 23 => [8]
  | 24 => [0, 1, 3, 9, 10, 16, 17]
  | 25 => [0, 1, 3, 9, 10, 16, 17, 113]
  | 26 => [8]
  | 27 => [8]
  | _ => []
def tab3 : Nat → List Nat × List Nat
  | 12 => ([], [])
  | _ => ([], [])
def keep14 : Nat → List Nat
  | 0 => [0, 1]
  | 1 => [0, 1, 5]
  | 2 => [0, 1, 6]
  | 3 => [0, 1, 6, 7]
  | 4 => [0, 1, 6, 7, 8]
  | 5 => [0, 1, 6, 7, 8, 25]
  | 6 => [0, 1, 6, 7, 8]
  | 7 => [0, 1, 6, 7, 8, 10]
  | 8 => [0, 1, 6, 7, 8, 10, 12]
  | 9 => [0, 1, 6, 7, 8, 10, 12, 14]
  | 10 => [0, 1, 6, 7, 8, 10, 12, 14, 16]
  | 11 => [0, 1, 6, 7, 8, 99]
  | 12 => [4]
  | 13 => [4]
  | _ => []
def tab14 : Nat → List Nat × List Nat
  | 11 => ([], [])
  | _ => ([], [])
def keep17 : Nat → List Nat
  | 0 => []
  | 1 => [1]
  | 2 => [1, 2, 3]
  | 3 => [1, 2, 3, 5]
  | 4 => [0]
  | _ => []
def tab17 : Nat → List Nat × List Nat
  | _ => ([], [])
def keep18 : Nat → List Nat
  | 0 => [0, 1]
  | 1 => [4]
  | _ => []
def tab18 : Nat → List Nat × List Nat
  | _ => ([], [])
def keep19 : Nat → List Nat
  | 0 => [0, 3]
  | 1 => [0, 3, 9]
  | 2 => [4, 5]
  | 3 => [0, 3, 6]
  | 4 => [0, 3, 6, 17]
  | 5 => [4, 5]
  | 6 => [0, 3, 25]
  | 7 => [4, 5]
  | 8 => [0]
  | 9 => [4, 5]
  | _ => []
def tab19 : Nat → List Nat × List Nat
  | 8 => ([7, 10], [0])
  | _ => ([], [])
def keep20 : Nat → List Nat
  | 0 => [0, 1]
  | 1 => [0, 1, 6]
  | 2 => [4, 5]
  | 3 => [0, 1, 10]
  | 4 => [4, 5]
  | 5 => [4, 5]
  | _ => []
def tab20 : Nat → List Nat × List Nat
  | _ => ([], [])
def keep21 : Nat → List Nat
  | 0 => [0]
  | 1 => [0, 5]
  | 2 => [2]
  | 3 => [2]
  | _ => []
def tab21 : Nat → List Nat × List Nat
  | _ => ([], [])
def keep22 : Nat → List Nat
  | 0 => [0]
  | 1 => [0, 5]
  | 2 => [2]
  | 3 => [2]
  | _ => []
def tab22 : Nat → List Nat × List Nat
  | _ => ([], [])
def keep23 : Nat → List Nat
  | 0 => [0]
  | 1 => [0, 5]
  | 2 => [2]
  | 3 => [2]
  | _ => []
def tab23 : Nat → List Nat × List Nat
  | _ => ([], [])
def keep29 : Nat → List Nat
  | 0 => []
  | 1 => [1]
  | 2 => [1]
  | 3 => [1]
  | 4 => [0]
  | _ => []
def tab29 : Nat → List Nat × List Nat
  | 2 => ([6], [])
  | _ => ([], [])
def keep47 : Nat → List Nat
  | 0 => [2, 3]
  | 1 => [4]
  | _ => []
def tab47 : Nat → List Nat × List Nat
  | 1 => ([], [])
  | _ => ([], [])
def keep58 : Nat → List Nat
  | 0 => [0, 1]
  | 1 => [0, 1, 10]
  | 2 => [4]
  | 3 => [0, 1, 5]
  | 4 => [0, 1, 5, 14]
  | 5 => [0, 1, 5]
  | 6 => [0, 1, 5, 25]
  | 7 => [4]
  | 8 => [4]
  | _ => []
def tab58 : Nat → List Nat × List Nat
  | 6 => ([], [])
  | _ => ([], [])
def keep59 : Nat → List Nat
  | 0 => [1]
  | 1 => [1, 3]
  | 2 => [1, 3, 4]
  | 3 => [1, 3, 4, 10]
  | 4 => [1, 3, 4]
  | 5 => [1, 3, 4, 5]
  | 6 => [1, 3, 4, 5, 28]
  | 7 => [1, 3, 4, 5]
  | 8 => [1, 3, 4, 5]
  | 9 => [1, 3, 52]
  | 10 => [1, 3]
  | 11 => [2]
  | _ => []
def tab59 : Nat → List Nat × List Nat
  | 8 => ([15], [])
  | _ => ([], [])
def keep73 : Nat → List Nat
  | 0 => [0, 1, 2, 6]
  | 1 => [0, 1, 6, 8, 9]
  | 2 => [0, 1, 6, 8, 9, 19]
  | 3 => [6, 7]
  | 4 => [0, 1, 6, 8, 10, 11]
  | 5 => [0, 6, 8, 10, 28]
  | 6 => [6, 7]
  | 7 => [6, 10, 40]
  | 8 => [6, 7]
  | 9 => [6, 7]
  | _ => []
def tab73 : Nat → List Nat × List Nat
  | 7 => ([], [])
  | _ => ([], [])
def keep74 : Nat → List Nat
  | 0 => [0, 1, 2, 6]
  | 1 => [0, 6, 8, 9]
  | 2 => [0, 6, 8, 9, 17]
  | 3 => [6, 7]
  | 4 => [6, 8, 22]
  | 5 => [6, 7]
  | 6 => [6, 7]
  | _ => []
def tab74 : Nat → List Nat × List Nat
  | 4 => ([], [])
  | _ => ([], [])
def keep75 : Nat → List Nat
  | 0 => [2, 3]
  | 1 => [4]
  | _ => []
def tab75 : Nat → List Nat × List Nat
  | 1 => ([], [])
  | _ => ([], [])
def keep83 : Nat → List Nat
  | 0 => [0]
  | 1 => [2]
  | _ => []
def tab83 : Nat → List Nat × List Nat
  | _ => ([], [])
def keep84 : Nat → List Nat
  | 0 => [0, 1]
  | 1 => [0, 1, 7, 8]
  | 2 => [0, 1, 7, 8, 9]
  | 3 => [0, 1, 5, 7, 8]
  | 4 => [0, 1, 5, 7, 8, 16]
  | 5 => [4]
  | 6 => [0, 1, 7, 8]
  | 7 => [4]
  | _ => []
def tab84 : Nat → List Nat × List Nat
  | _ => ([], [])
def keep85 : Nat → List Nat
  | 0 => [0, 1]
  | 1 => [3]
  | _ => []
def tab85 : Nat → List Nat × List Nat
  | _ => ([], [])
def keep89 : Nat → List Nat
  | 0 => [0, 1, 4]
  | 1 => [4]
  | _ => []
def tab89 : Nat → List Nat × List Nat
  | _ => ([], [])
def keep92 : Nat → List Nat
  | 0 => [0, 1]
  | 1 => [0, 1, 10]
  | 2 => [4]
  | 3 => [0, 1, 5]
  | 4 => [0, 1, 5, 14]
  | 5 => [0, 1, 5]
  | 6 => [0, 1, 5, 42]
  | 7 => [4]
  | 8 => [4]
  | _ => []
def tab92 : Nat → List Nat × List Nat
  | 6 => ([], [])
  | _ => ([], [])
def keep94 : Nat → List Nat
  | 0 => [1, 2]
  | 1 => [1, 2, 3]
  | 2 => [1, 2, 3, 4]
  | 3 => [2, 3, 4, 15, 16, 17]
  | 4 => [2, 3, 4, 15, 16, 17, 18]
  | 5 => [2, 3, 4, 6, 15, 16, 17]
  | 6 => [2, 3, 4, 6, 7, 15, 16, 17]
  | 7 => [2, 3, 4, 7, 15, 16, 17]
  | 8 => [2, 3, 4, 15, 16, 17]
  | 9 => [2, 3, 4, 15, 16, 17]
  | 10 => [2, 3]
  | 11 => [2]
  | _ => []
def tab94 : Nat → List Nat × List Nat
  | 7 => ([6, 8], [])
  | _ => ([], [])
def keep97 : Nat → List Nat
  | 0 => [0, 1]
  | 1 => [0, 1, 10]
  | 2 => [4]
  | 3 => [0, 1, 12, 13]
  | 4 => [0, 1, 12, 13, 14]
  | 5 => [0, 1, 5, 12, 13]
  | 6 => [0, 1, 12, 13, 24]
  | 7 => [4]
  | 8 => [0, 1, 12, 13]
  | 9 => [4]
  | _ => []
def tab97 : Nat → List Nat × List Nat
  | 6 => ([], [])
  | _ => ([], [])
def keep98 : Nat → List Nat
  | 0 => [0, 1, 2]
  | 1 => [0, 1, 2, 7]
  | 2 => [0]
  | 3 => [0, 1, 2, 7, 17]
  | 4 => [0, 1, 2, 7, 20]
  | 5 => [0]
  | 6 => [6]
  | _ => []
def tab98 : Nat → List Nat × List Nat
  | _ => ([], [])
def keep105 : Nat → List Nat
  | 0 => [0]
  | 1 => [2]
  | _ => []
def tab105 : Nat → List Nat × List Nat
  | _ => ([], [])
def keep127 : Nat → List Nat
  | 0 => [0]
  | 1 => [2]
  | _ => []
def tab127 : Nat → List Nat × List Nat
  | _ => ([], [])
def keep128 : Nat → List Nat
  | 0 => [0]
  | 1 => [0, 4]
  | 2 => [2]
  | 3 => [2]
  | _ => []
def tab128 : Nat → List Nat × List Nat
  | _ => ([], [])
def keep129 : Nat → List Nat
  | 0 => [1, 2]
  | 1 => [1, 2]
  | 2 => [1, 2]
  | 3 => [1, 2, 3]
  | 4 => [1, 2, 3, 23, 24, 25]
  | 5 => [1, 2, 3, 23, 24, 25, 26]
  | 6 => [1, 2, 3, 5, 23, 24, 25]
  | 7 => [1, 2, 3, 23, 24, 25]
  | 8 => [1, 2, 3, 23, 24, 25]
  | 9 => [1, 2]
  | 10 => [2]
  | _ => []
def tab129 : Nat → List Nat × List Nat
  | 1 => ([7, 9], [])
  | 2 => ([7, 9], [])
  | 7 => ([9], [])
  | _ => ([], [])
def keep130 : Nat → List Nat
  | 0 => [0]
  | 1 => [2]
  | _ => []
def tab130 : Nat → List Nat × List Nat
  | _ => ([], [])
def keep132 : Nat → List Nat
  | 0 => [1, 2]
  | 1 => [2]
  | _ => []
def tab132 : Nat → List Nat × List Nat
  | 1 => ([7], [])
  | _ => ([], [])
def keep153 : Nat → List Nat
  | 0 => [0]
  | 1 => [0, 4]
  | 2 => [2]
  | 3 => [2]
  | _ => []
def tab153 : Nat → List Nat × List Nat
  | _ => ([], [])
def keep154 : Nat → List Nat
  | 0 => [0]
  | 1 => [0, 4]
  | 2 => [2]
  | 3 => [2]
  | _ => []
def tab154 : Nat → List Nat × List Nat
  | _ => ([], [])
theorem mixed : Try.prog.follows .mixedOrders = true := by kernel_rfl
end Go.Proofs.Ytjhjcldpcngldaa

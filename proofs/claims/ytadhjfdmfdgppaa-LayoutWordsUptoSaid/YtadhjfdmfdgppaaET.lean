/- The table of types of this seat, and of each function the slots that are read behind a region: reckoned by a program. -/
import Derived.Test.YtadhjfdmfdgppaaProg
import Derived.Test.YtadhjfdmfdgppaaEZ
set_option linter.unusedVariables false
set_option maxRecDepth 100000
namespace Go.Proofs.Ytadhjfdmfdgppaa
open Go Go.EL
def TL : List TD := [
  ⟨.other, 0, 0, [], false⟩,
  ⟨.func, 1, 8, [.nilf], false⟩,
  ⟨(.int .i64), 1, 8, [.int .i64 0], false⟩,
  ⟨(.int .i64), 1, 8, [.int .i64 0], false⟩,
  ⟨.bool, 1, 1, [.bool false], false⟩,
  ⟨(.int .u8), 1, 1, [.int .u8 0], false⟩,
  ⟨.other, 0, 0, [], false⟩,
  ⟨.other, 0, 0, [], false⟩,
  ⟨.other, 0, 0, [], false⟩,
  ⟨.str, 1, 16, [.str []], false⟩,
  ⟨.other, 0, 0, [], false⟩,
  ⟨.other, 0, 0, [], false⟩,
  ⟨(.int .u64), 1, 8, [.int .u64 0], false⟩,
  ⟨(.struct [(9, 0), (12, 1)]), 2, 24, [.str [], .int .u64 0], false⟩,
  ⟨.other, 0, 0, [], false⟩,
  ⟨.other, 0, 0, [], false⟩,
  ⟨.other, 0, 0, [], false⟩,
  ⟨.other, 0, 0, [], false⟩,
  ⟨.other, 0, 0, [], false⟩,
  ⟨(.struct [(17, 0)]), 1, 8, [.nilp], false⟩,
  ⟨.iface, 1, 16, [.nili], false⟩,
  ⟨(.int .i32), 1, 4, [.int .i32 0], false⟩,
  ⟨(.slice 26), 1, 24, [.fslice []], false⟩,
  ⟨.func, 1, 8, [.nilf], false⟩,
  ⟨(.slice 3), 1, 24, [.fslice []], false⟩,
  ⟨(.struct [(9, 0), (9, 1)]), 2, 32, [.str [], .str []], true⟩,
  ⟨(.struct [(9, 0), (9, 1)]), 2, 32, [.str [], .str []], true⟩,
  ⟨.func, 1, 8, [.nilf], false⟩,
  ⟨.func, 1, 8, [.nilf], false⟩,
  ⟨.func, 1, 8, [.nilf], false⟩,
  ⟨.func, 1, 8, [.nilf], false⟩,
  ⟨.func, 1, 8, [.nilf], false⟩,
  ⟨.func, 1, 8, [.nilf], false⟩,
  ⟨(.slice 9), 1, 24, [.fslice []], false⟩,
  ⟨.func, 1, 8, [.nilf], false⟩,
  ⟨.func, 1, 8, [.nilf], false⟩,
  ⟨.func, 1, 8, [.nilf], false⟩,
  ⟨(.slice 58), 1, 24, [.fslice []], false⟩,
  ⟨(.slice 5), 1, 24, [.fslice []], false⟩,
  ⟨(.int .i64), 1, 8, [.int .i64 0], false⟩,
  ⟨.other, 0, 0, [], false⟩,
  ⟨.func, 1, 8, [.nilf], false⟩,
  ⟨.func, 1, 8, [.nilf], false⟩,
  ⟨.func, 1, 8, [.nilf], false⟩,
  ⟨.other, 0, 0, [], false⟩,
  ⟨.func, 1, 8, [.nilf], false⟩,
  ⟨.func, 1, 8, [.nilf], false⟩,
  ⟨(.ptr 97), 1, 8, [.nilp], false⟩,
  ⟨.func, 1, 8, [.nilf], false⟩,
  ⟨.other, 0, 0, [], false⟩,
  ⟨.func, 1, 8, [.nilf], false⟩,
  ⟨.func, 1, 8, [.nilf], false⟩,
  ⟨.func, 1, 8, [.nilf], false⟩,
  ⟨.func, 1, 8, [.nilf], false⟩,
  ⟨.other, 0, 0, [], false⟩,
  ⟨.func, 1, 8, [.nilf], false⟩,
  ⟨.func, 1, 8, [.nilf], false⟩,
  ⟨(.struct [(3, 0), (3, 1), (3, 2), (3, 3), (9, 4)]), 5, 48, [.int .i64 0, .int .i64 0, .int .i64 0, .int .i64 0, .str []], true⟩,
  ⟨(.struct [(3, 0), (3, 1), (3, 2), (3, 3), (9, 4)]), 5, 48, [.int .i64 0, .int .i64 0, .int .i64 0, .int .i64 0, .str []], true⟩,
  ⟨.func, 1, 8, [.nilf], false⟩,
  ⟨.func, 1, 8, [.nilf], false⟩,
  ⟨(.slice 69), 1, 24, [.fslice []], false⟩,
  ⟨.other, 0, 0, [], false⟩,
  ⟨.func, 1, 8, [.nilf], false⟩,
  ⟨.func, 1, 8, [.nilf], false⟩,
  ⟨(.slice 129), 1, 24, [.fslice []], false⟩,
  ⟨(.struct [(9, 0), (65, 1)]), 2, 40, [.str [], .fslice []], false⟩,
  ⟨(.struct [(9, 0), (65, 1)]), 2, 40, [.str [], .fslice []], false⟩,
  ⟨(.struct [(67, 0), (67, 2)]), 4, 80, [.str [], .fslice [], .str [], .fslice []], false⟩,
  ⟨(.struct [(67, 0), (67, 2)]), 4, 80, [.str [], .fslice [], .str [], .fslice []], false⟩,
  ⟨.func, 1, 8, [.nilf], false⟩,
  ⟨.func, 1, 8, [.nilf], false⟩,
  ⟨.other, 0, 0, [], false⟩,
  ⟨.func, 1, 8, [.nilf], false⟩,
  ⟨.func, 1, 8, [.nilf], false⟩,
  ⟨.func, 1, 8, [.nilf], false⟩,
  ⟨.func, 1, 8, [.nilf], false⟩,
  ⟨.func, 1, 8, [.nilf], false⟩,
  ⟨(.ptr 81), 1, 8, [.nilp], false⟩,
  ⟨(.slice 83), 1, 24, [.fslice []], false⟩,
  ⟨(.struct [(3, 0), (79, 1), (3, 2)]), 3, 40, [.int .i64 0, .fslice [], .int .i64 0], false⟩,
  ⟨(.struct [(3, 0), (79, 1), (3, 2)]), 3, 40, [.int .i64 0, .fslice [], .int .i64 0], false⟩,
  ⟨(.slice 78), 1, 24, [.fslice []], false⟩,
  ⟨(.ptr 115), 1, 8, [.nilp], false⟩,
  ⟨.other, 0, 0, [], false⟩,
  ⟨.func, 1, 8, [.nilf], false⟩,
  ⟨.other, 0, 0, [], false⟩,
  ⟨.func, 1, 8, [.nilf], false⟩,
  ⟨.func, 1, 8, [.nilf], false⟩,
  ⟨.func, 1, 8, [.nilf], false⟩,
  ⟨.func, 1, 8, [.nilf], false⟩,
  ⟨.func, 1, 8, [.nilf], false⟩,
  ⟨.func, 1, 8, [.nilf], false⟩,
  ⟨(.array 17 9), 17, 272, [.str [], .str [], .str [], .str [], .str [], .str [], .str [], .str [], .str [], .str [], .str [], .str [], .str [], .str [], .str [], .str [], .str []], false⟩,
  ⟨.func, 1, 8, [.nilf], false⟩,
  ⟨.func, 1, 8, [.nilf], false⟩,
  ⟨(.struct [(3, 0), (24, 1)]), 2, 32, [.int .i64 0, .fslice []], false⟩,
  ⟨(.struct [(3, 0), (24, 1)]), 2, 32, [.int .i64 0, .fslice []], false⟩,
  ⟨.func, 1, 8, [.nilf], false⟩,
  ⟨.other, 0, 0, [], false⟩,
  ⟨.func, 1, 8, [.nilf], false⟩,
  ⟨.func, 1, 8, [.nilf], false⟩,
  ⟨.func, 1, 8, [.nilf], false⟩,
  ⟨.func, 1, 8, [.nilf], false⟩,
  ⟨.func, 1, 8, [.nilf], false⟩,
  ⟨(.slice 127), 1, 24, [.fslice []], false⟩,
  ⟨.func, 1, 8, [.nilf], false⟩,
  ⟨.func, 1, 8, [.nilf], false⟩,
  ⟨.func, 1, 8, [.nilf], false⟩,
  ⟨.func, 1, 8, [.nilf], false⟩,
  ⟨.func, 1, 8, [.nilf], false⟩,
  ⟨.func, 1, 8, [.nilf], false⟩,
  ⟨(.map 3 118), 1, 8, [.nilm], false⟩,
  ⟨(.array 4 3), 4, 32, [.int .i64 0, .int .i64 0, .int .i64 0, .int .i64 0], false⟩,
  ⟨(.struct [(112, 0), (113, 1), (113, 5)]), 9, 72, [.nilm, .int .i64 0, .int .i64 0, .int .i64 0, .int .i64 0, .int .i64 0, .int .i64 0, .int .i64 0, .int .i64 0], false⟩,
  ⟨(.struct [(112, 0), (113, 1), (113, 5)]), 9, 72, [.nilm, .int .i64 0, .int .i64 0, .int .i64 0, .int .i64 0, .int .i64 0, .int .i64 0, .int .i64 0, .int .i64 0], false⟩,
  ⟨(.slice 136), 1, 24, [.fslice []], false⟩,
  ⟨(.struct [(3, 0), (3, 1), (3, 2), (3, 3), (67, 4), (9, 6), (3, 7), (61, 8), (116, 9), (24, 10), (67, 11)]), 13, 208, [.int .i64 0, .int .i64 0, .int .i64 0, .int .i64 0, .str [], .fslice [], .str [], .int .i64 0, .fslice [], .fslice [], .fslice [], .str [], .fslice []], false⟩,
  ⟨(.struct [(3, 0), (3, 1), (3, 2), (3, 3), (67, 4), (9, 6), (3, 7), (61, 8), (116, 9), (24, 10), (67, 11)]), 13, 208, [.int .i64 0, .int .i64 0, .int .i64 0, .int .i64 0, .str [], .fslice [], .str [], .int .i64 0, .fslice [], .fslice [], .fslice [], .str [], .fslice []], false⟩,
  ⟨.func, 1, 8, [.nilf], false⟩,
  ⟨(.int .u64), 1, 8, [.int .u64 0], false⟩,
  ⟨.func, 1, 8, [.nilf], false⟩,
  ⟨.func, 1, 8, [.nilf], false⟩,
  ⟨.func, 1, 8, [.nilf], false⟩,
  ⟨.func, 1, 8, [.nilf], false⟩,
  ⟨.func, 1, 8, [.nilf], false⟩,
  ⟨(.struct [(5, 0), (3, 1)]), 2, 16, [.int .u8 0, .int .i64 0], true⟩,
  ⟨(.struct [(5, 0), (3, 1)]), 2, 16, [.int .u8 0, .int .i64 0], true⟩,
  ⟨(.struct [(3, 0), (3, 1)]), 2, 16, [.int .i64 0, .int .i64 0], true⟩,
  ⟨(.struct [(3, 0), (3, 1)]), 2, 16, [.int .i64 0, .int .i64 0], true⟩,
  ⟨.func, 1, 8, [.nilf], false⟩,
  ⟨.func, 1, 8, [.nilf], false⟩,
  ⟨.func, 1, 8, [.nilf], false⟩,
  ⟨.func, 1, 8, [.nilf], false⟩,
  ⟨.func, 1, 8, [.nilf], false⟩,
  ⟨(.struct [(3, 0), (4, 1), (3, 2)]), 3, 24, [.int .i64 0, .bool false, .int .i64 0], true⟩,
  ⟨(.struct [(3, 0), (4, 1), (3, 2)]), 3, 24, [.int .i64 0, .bool false, .int .i64 0], true⟩,
  ⟨.func, 1, 8, [.nilf], false⟩,
  ⟨.func, 1, 8, [.nilf], false⟩,
  ⟨.other, 0, 0, [], false⟩,
  ⟨.other, 0, 0, [], false⟩,
  ⟨.other, 0, 0, [], false⟩,
  ⟨.other, 0, 0, [], false⟩,
  ⟨.other, 0, 0, [], false⟩,
  ⟨(.int .u32), 1, 4, [.int .u32 0], false⟩,
  ⟨.other, 0, 0, [], false⟩,
  ⟨.other, 0, 0, [], false⟩,
  ⟨.func, 1, 8, [.nilf], false⟩,
  ⟨(.ptr 5), 1, 8, [.nilp], false⟩,
  ⟨.other, 0, 0, [], false⟩,
  ⟨.other, 0, 0, [], false⟩,
  ⟨.other, 0, 0, [], false⟩,
  ⟨.other, 0, 0, [], false⟩,
  ⟨.other, 0, 0, [], false⟩]
def T (t : Nat) : TD := TL.getD t ⟨.other, 0, 0, [], false⟩
theorem T_1 : T 1 = ⟨.func, 1, 8, [.nilf], false⟩ := rfl
theorem T_2 : T 2 = ⟨(.int .i64), 1, 8, [.int .i64 0], false⟩ := rfl
theorem T_3 : T 3 = ⟨(.int .i64), 1, 8, [.int .i64 0], false⟩ := rfl
theorem T_4 : T 4 = ⟨.bool, 1, 1, [.bool false], false⟩ := rfl
theorem T_5 : T 5 = ⟨(.int .u8), 1, 1, [.int .u8 0], false⟩ := rfl
theorem T_9 : T 9 = ⟨.str, 1, 16, [.str []], false⟩ := rfl
theorem T_12 : T 12 = ⟨(.int .u64), 1, 8, [.int .u64 0], false⟩ := rfl
theorem T_13 : T 13 = ⟨(.struct [(9, 0), (12, 1)]), 2, 24, [.str [], .int .u64 0], false⟩ := rfl
theorem T_19 : T 19 = ⟨(.struct [(17, 0)]), 1, 8, [.nilp], false⟩ := rfl
theorem T_20 : T 20 = ⟨.iface, 1, 16, [.nili], false⟩ := rfl
theorem T_21 : T 21 = ⟨(.int .i32), 1, 4, [.int .i32 0], false⟩ := rfl
theorem T_22 : T 22 = ⟨(.slice 26), 1, 24, [.fslice []], false⟩ := rfl
theorem T_23 : T 23 = ⟨.func, 1, 8, [.nilf], false⟩ := rfl
theorem T_24 : T 24 = ⟨(.slice 3), 1, 24, [.fslice []], false⟩ := rfl
theorem T_25 : T 25 = ⟨(.struct [(9, 0), (9, 1)]), 2, 32, [.str [], .str []], true⟩ := rfl
theorem T_26 : T 26 = ⟨(.struct [(9, 0), (9, 1)]), 2, 32, [.str [], .str []], true⟩ := rfl
theorem T_27 : T 27 = ⟨.func, 1, 8, [.nilf], false⟩ := rfl
theorem T_28 : T 28 = ⟨.func, 1, 8, [.nilf], false⟩ := rfl
theorem T_29 : T 29 = ⟨.func, 1, 8, [.nilf], false⟩ := rfl
theorem T_30 : T 30 = ⟨.func, 1, 8, [.nilf], false⟩ := rfl
theorem T_31 : T 31 = ⟨.func, 1, 8, [.nilf], false⟩ := rfl
theorem T_32 : T 32 = ⟨.func, 1, 8, [.nilf], false⟩ := rfl
theorem T_33 : T 33 = ⟨(.slice 9), 1, 24, [.fslice []], false⟩ := rfl
theorem T_34 : T 34 = ⟨.func, 1, 8, [.nilf], false⟩ := rfl
theorem T_35 : T 35 = ⟨.func, 1, 8, [.nilf], false⟩ := rfl
theorem T_36 : T 36 = ⟨.func, 1, 8, [.nilf], false⟩ := rfl
theorem T_37 : T 37 = ⟨(.slice 58), 1, 24, [.fslice []], false⟩ := rfl
theorem T_38 : T 38 = ⟨(.slice 5), 1, 24, [.fslice []], false⟩ := rfl
theorem T_39 : T 39 = ⟨(.int .i64), 1, 8, [.int .i64 0], false⟩ := rfl
theorem T_41 : T 41 = ⟨.func, 1, 8, [.nilf], false⟩ := rfl
theorem T_42 : T 42 = ⟨.func, 1, 8, [.nilf], false⟩ := rfl
theorem T_43 : T 43 = ⟨.func, 1, 8, [.nilf], false⟩ := rfl
theorem T_45 : T 45 = ⟨.func, 1, 8, [.nilf], false⟩ := rfl
theorem T_46 : T 46 = ⟨.func, 1, 8, [.nilf], false⟩ := rfl
theorem T_47 : T 47 = ⟨(.ptr 97), 1, 8, [.nilp], false⟩ := rfl
theorem T_48 : T 48 = ⟨.func, 1, 8, [.nilf], false⟩ := rfl
theorem T_50 : T 50 = ⟨.func, 1, 8, [.nilf], false⟩ := rfl
theorem T_51 : T 51 = ⟨.func, 1, 8, [.nilf], false⟩ := rfl
theorem T_52 : T 52 = ⟨.func, 1, 8, [.nilf], false⟩ := rfl
theorem T_53 : T 53 = ⟨.func, 1, 8, [.nilf], false⟩ := rfl
theorem T_55 : T 55 = ⟨.func, 1, 8, [.nilf], false⟩ := rfl
theorem T_56 : T 56 = ⟨.func, 1, 8, [.nilf], false⟩ := rfl
theorem T_57 : T 57 = ⟨(.struct [(3, 0), (3, 1), (3, 2), (3, 3), (9, 4)]), 5, 48, [.int .i64 0, .int .i64 0, .int .i64 0, .int .i64 0, .str []], true⟩ := rfl
theorem T_58 : T 58 = ⟨(.struct [(3, 0), (3, 1), (3, 2), (3, 3), (9, 4)]), 5, 48, [.int .i64 0, .int .i64 0, .int .i64 0, .int .i64 0, .str []], true⟩ := rfl
theorem T_59 : T 59 = ⟨.func, 1, 8, [.nilf], false⟩ := rfl
theorem T_60 : T 60 = ⟨.func, 1, 8, [.nilf], false⟩ := rfl
theorem T_61 : T 61 = ⟨(.slice 69), 1, 24, [.fslice []], false⟩ := rfl
theorem T_63 : T 63 = ⟨.func, 1, 8, [.nilf], false⟩ := rfl
theorem T_64 : T 64 = ⟨.func, 1, 8, [.nilf], false⟩ := rfl
theorem T_65 : T 65 = ⟨(.slice 129), 1, 24, [.fslice []], false⟩ := rfl
theorem T_66 : T 66 = ⟨(.struct [(9, 0), (65, 1)]), 2, 40, [.str [], .fslice []], false⟩ := rfl
theorem T_67 : T 67 = ⟨(.struct [(9, 0), (65, 1)]), 2, 40, [.str [], .fslice []], false⟩ := rfl
theorem T_68 : T 68 = ⟨(.struct [(67, 0), (67, 2)]), 4, 80, [.str [], .fslice [], .str [], .fslice []], false⟩ := rfl
theorem T_69 : T 69 = ⟨(.struct [(67, 0), (67, 2)]), 4, 80, [.str [], .fslice [], .str [], .fslice []], false⟩ := rfl
theorem T_70 : T 70 = ⟨.func, 1, 8, [.nilf], false⟩ := rfl
theorem T_71 : T 71 = ⟨.func, 1, 8, [.nilf], false⟩ := rfl
theorem T_73 : T 73 = ⟨.func, 1, 8, [.nilf], false⟩ := rfl
theorem T_74 : T 74 = ⟨.func, 1, 8, [.nilf], false⟩ := rfl
theorem T_75 : T 75 = ⟨.func, 1, 8, [.nilf], false⟩ := rfl
theorem T_76 : T 76 = ⟨.func, 1, 8, [.nilf], false⟩ := rfl
theorem T_77 : T 77 = ⟨.func, 1, 8, [.nilf], false⟩ := rfl
theorem T_78 : T 78 = ⟨(.ptr 81), 1, 8, [.nilp], false⟩ := rfl
theorem T_79 : T 79 = ⟨(.slice 83), 1, 24, [.fslice []], false⟩ := rfl
theorem T_80 : T 80 = ⟨(.struct [(3, 0), (79, 1), (3, 2)]), 3, 40, [.int .i64 0, .fslice [], .int .i64 0], false⟩ := rfl
theorem T_81 : T 81 = ⟨(.struct [(3, 0), (79, 1), (3, 2)]), 3, 40, [.int .i64 0, .fslice [], .int .i64 0], false⟩ := rfl
theorem T_82 : T 82 = ⟨(.slice 78), 1, 24, [.fslice []], false⟩ := rfl
theorem T_83 : T 83 = ⟨(.ptr 115), 1, 8, [.nilp], false⟩ := rfl
theorem T_85 : T 85 = ⟨.func, 1, 8, [.nilf], false⟩ := rfl
theorem T_87 : T 87 = ⟨.func, 1, 8, [.nilf], false⟩ := rfl
theorem T_88 : T 88 = ⟨.func, 1, 8, [.nilf], false⟩ := rfl
theorem T_89 : T 89 = ⟨.func, 1, 8, [.nilf], false⟩ := rfl
theorem T_90 : T 90 = ⟨.func, 1, 8, [.nilf], false⟩ := rfl
theorem T_91 : T 91 = ⟨.func, 1, 8, [.nilf], false⟩ := rfl
theorem T_92 : T 92 = ⟨.func, 1, 8, [.nilf], false⟩ := rfl
theorem T_93 : T 93 = ⟨(.array 17 9), 17, 272, [.str [], .str [], .str [], .str [], .str [], .str [], .str [], .str [], .str [], .str [], .str [], .str [], .str [], .str [], .str [], .str [], .str []], false⟩ := rfl
theorem T_94 : T 94 = ⟨.func, 1, 8, [.nilf], false⟩ := rfl
theorem T_95 : T 95 = ⟨.func, 1, 8, [.nilf], false⟩ := rfl
theorem T_96 : T 96 = ⟨(.struct [(3, 0), (24, 1)]), 2, 32, [.int .i64 0, .fslice []], false⟩ := rfl
theorem T_97 : T 97 = ⟨(.struct [(3, 0), (24, 1)]), 2, 32, [.int .i64 0, .fslice []], false⟩ := rfl
theorem T_98 : T 98 = ⟨.func, 1, 8, [.nilf], false⟩ := rfl
theorem T_100 : T 100 = ⟨.func, 1, 8, [.nilf], false⟩ := rfl
theorem T_101 : T 101 = ⟨.func, 1, 8, [.nilf], false⟩ := rfl
theorem T_102 : T 102 = ⟨.func, 1, 8, [.nilf], false⟩ := rfl
theorem T_103 : T 103 = ⟨.func, 1, 8, [.nilf], false⟩ := rfl
theorem T_104 : T 104 = ⟨.func, 1, 8, [.nilf], false⟩ := rfl
theorem T_105 : T 105 = ⟨(.slice 127), 1, 24, [.fslice []], false⟩ := rfl
theorem T_106 : T 106 = ⟨.func, 1, 8, [.nilf], false⟩ := rfl
theorem T_107 : T 107 = ⟨.func, 1, 8, [.nilf], false⟩ := rfl
theorem T_108 : T 108 = ⟨.func, 1, 8, [.nilf], false⟩ := rfl
theorem T_109 : T 109 = ⟨.func, 1, 8, [.nilf], false⟩ := rfl
theorem T_110 : T 110 = ⟨.func, 1, 8, [.nilf], false⟩ := rfl
theorem T_111 : T 111 = ⟨.func, 1, 8, [.nilf], false⟩ := rfl
theorem T_112 : T 112 = ⟨(.map 3 118), 1, 8, [.nilm], false⟩ := rfl
theorem T_113 : T 113 = ⟨(.array 4 3), 4, 32, [.int .i64 0, .int .i64 0, .int .i64 0, .int .i64 0], false⟩ := rfl
theorem T_114 : T 114 = ⟨(.struct [(112, 0), (113, 1), (113, 5)]), 9, 72, [.nilm, .int .i64 0, .int .i64 0, .int .i64 0, .int .i64 0, .int .i64 0, .int .i64 0, .int .i64 0, .int .i64 0], false⟩ := rfl
theorem T_115 : T 115 = ⟨(.struct [(112, 0), (113, 1), (113, 5)]), 9, 72, [.nilm, .int .i64 0, .int .i64 0, .int .i64 0, .int .i64 0, .int .i64 0, .int .i64 0, .int .i64 0, .int .i64 0], false⟩ := rfl
theorem T_116 : T 116 = ⟨(.slice 136), 1, 24, [.fslice []], false⟩ := rfl
theorem T_117 : T 117 = ⟨(.struct [(3, 0), (3, 1), (3, 2), (3, 3), (67, 4), (9, 6), (3, 7), (61, 8), (116, 9), (24, 10), (67, 11)]), 13, 208, [.int .i64 0, .int .i64 0, .int .i64 0, .int .i64 0, .str [], .fslice [], .str [], .int .i64 0, .fslice [], .fslice [], .fslice [], .str [], .fslice []], false⟩ := rfl
theorem T_118 : T 118 = ⟨(.struct [(3, 0), (3, 1), (3, 2), (3, 3), (67, 4), (9, 6), (3, 7), (61, 8), (116, 9), (24, 10), (67, 11)]), 13, 208, [.int .i64 0, .int .i64 0, .int .i64 0, .int .i64 0, .str [], .fslice [], .str [], .int .i64 0, .fslice [], .fslice [], .fslice [], .str [], .fslice []], false⟩ := rfl
theorem T_119 : T 119 = ⟨.func, 1, 8, [.nilf], false⟩ := rfl
theorem T_120 : T 120 = ⟨(.int .u64), 1, 8, [.int .u64 0], false⟩ := rfl
theorem T_121 : T 121 = ⟨.func, 1, 8, [.nilf], false⟩ := rfl
theorem T_122 : T 122 = ⟨.func, 1, 8, [.nilf], false⟩ := rfl
theorem T_123 : T 123 = ⟨.func, 1, 8, [.nilf], false⟩ := rfl
theorem T_124 : T 124 = ⟨.func, 1, 8, [.nilf], false⟩ := rfl
theorem T_125 : T 125 = ⟨.func, 1, 8, [.nilf], false⟩ := rfl
theorem T_126 : T 126 = ⟨(.struct [(5, 0), (3, 1)]), 2, 16, [.int .u8 0, .int .i64 0], true⟩ := rfl
theorem T_127 : T 127 = ⟨(.struct [(5, 0), (3, 1)]), 2, 16, [.int .u8 0, .int .i64 0], true⟩ := rfl
theorem T_128 : T 128 = ⟨(.struct [(3, 0), (3, 1)]), 2, 16, [.int .i64 0, .int .i64 0], true⟩ := rfl
theorem T_129 : T 129 = ⟨(.struct [(3, 0), (3, 1)]), 2, 16, [.int .i64 0, .int .i64 0], true⟩ := rfl
theorem T_130 : T 130 = ⟨.func, 1, 8, [.nilf], false⟩ := rfl
theorem T_131 : T 131 = ⟨.func, 1, 8, [.nilf], false⟩ := rfl
theorem T_132 : T 132 = ⟨.func, 1, 8, [.nilf], false⟩ := rfl
theorem T_133 : T 133 = ⟨.func, 1, 8, [.nilf], false⟩ := rfl
theorem T_134 : T 134 = ⟨.func, 1, 8, [.nilf], false⟩ := rfl
theorem T_135 : T 135 = ⟨(.struct [(3, 0), (4, 1), (3, 2)]), 3, 24, [.int .i64 0, .bool false, .int .i64 0], true⟩ := rfl
theorem T_136 : T 136 = ⟨(.struct [(3, 0), (4, 1), (3, 2)]), 3, 24, [.int .i64 0, .bool false, .int .i64 0], true⟩ := rfl
theorem T_137 : T 137 = ⟨.func, 1, 8, [.nilf], false⟩ := rfl
theorem T_138 : T 138 = ⟨.func, 1, 8, [.nilf], false⟩ := rfl
theorem T_144 : T 144 = ⟨(.int .u32), 1, 4, [.int .u32 0], false⟩ := rfl
theorem T_147 : T 147 = ⟨.func, 1, 8, [.nilf], false⟩ := rfl
theorem T_148 : T 148 = ⟨(.ptr 5), 1, 8, [.nilp], false⟩ := rfl
theorem TB : type_of% (And.intro (And.intro (And.intro (And.intro (And.intro (And.intro (T_1) (And.intro (T_2) (T_3))) (And.intro (And.intro (T_4) (T_5)) (And.intro (T_9) (T_12)))) (And.intro (And.intro (And.intro (T_13) (T_19)) (And.intro (T_20) (T_21))) (And.intro (And.intro (T_22) (T_23)) (And.intro (T_24) (T_25))))) (And.intro (And.intro (And.intro (T_26) (And.intro (T_27) (T_28))) (And.intro (And.intro (T_29) (T_30)) (And.intro (T_31) (T_32)))) (And.intro (And.intro (And.intro (T_33) (T_34)) (And.intro (T_35) (T_36))) (And.intro (And.intro (T_37) (T_38)) (And.intro (T_39) (T_41)))))) (And.intro (And.intro (And.intro (And.intro (T_42) (And.intro (T_43) (T_45))) (And.intro (And.intro (T_46) (T_47)) (And.intro (T_48) (T_50)))) (And.intro (And.intro (And.intro (T_51) (T_52)) (And.intro (T_53) (T_55))) (And.intro (And.intro (T_56) (T_57)) (And.intro (T_58) (T_59))))) (And.intro (And.intro (And.intro (And.intro (T_60) (T_61)) (And.intro (T_63) (T_64))) (And.intro (And.intro (T_65) (T_66)) (And.intro (T_67) (T_68)))) (And.intro (And.intro (And.intro (T_69) (T_70)) (And.intro (T_71) (T_73))) (And.intro (And.intro (T_74) (T_75)) (And.intro (T_76) (T_77))))))) (And.intro (And.intro (And.intro (And.intro (And.intro (T_78) (And.intro (T_79) (T_80))) (And.intro (And.intro (T_81) (T_82)) (And.intro (T_83) (T_85)))) (And.intro (And.intro (And.intro (T_87) (T_88)) (And.intro (T_89) (T_90))) (And.intro (And.intro (T_91) (T_92)) (And.intro (T_93) (T_94))))) (And.intro (And.intro (And.intro (T_95) (And.intro (T_96) (T_97))) (And.intro (And.intro (T_98) (T_100)) (And.intro (T_101) (T_102)))) (And.intro (And.intro (And.intro (T_103) (T_104)) (And.intro (T_105) (T_106))) (And.intro (And.intro (T_107) (T_108)) (And.intro (T_109) (T_110)))))) (And.intro (And.intro (And.intro (And.intro (T_111) (And.intro (T_112) (T_113))) (And.intro (And.intro (T_114) (T_115)) (And.intro (T_116) (T_117)))) (And.intro (And.intro (And.intro (T_118) (T_119)) (And.intro (T_120) (T_121))) (And.intro (And.intro (T_122) (T_123)) (And.intro (T_124) (T_125))))) (And.intro (And.intro (And.intro (And.intro (T_126) (T_127)) (And.intro (T_128) (T_129))) (And.intro (And.intro (T_130) (T_131)) (And.intro (T_132) (T_133)))) (And.intro (And.intro (And.intro (T_134) (T_135)) (And.intro (T_136) (T_137))) (And.intro (And.intro (T_138) (T_144)) (And.intro (T_147) (T_148)))))))) := And.intro (And.intro (And.intro (And.intro (And.intro (And.intro (T_1) (And.intro (T_2) (T_3))) (And.intro (And.intro (T_4) (T_5)) (And.intro (T_9) (T_12)))) (And.intro (And.intro (And.intro (T_13) (T_19)) (And.intro (T_20) (T_21))) (And.intro (And.intro (T_22) (T_23)) (And.intro (T_24) (T_25))))) (And.intro (And.intro (And.intro (T_26) (And.intro (T_27) (T_28))) (And.intro (And.intro (T_29) (T_30)) (And.intro (T_31) (T_32)))) (And.intro (And.intro (And.intro (T_33) (T_34)) (And.intro (T_35) (T_36))) (And.intro (And.intro (T_37) (T_38)) (And.intro (T_39) (T_41)))))) (And.intro (And.intro (And.intro (And.intro (T_42) (And.intro (T_43) (T_45))) (And.intro (And.intro (T_46) (T_47)) (And.intro (T_48) (T_50)))) (And.intro (And.intro (And.intro (T_51) (T_52)) (And.intro (T_53) (T_55))) (And.intro (And.intro (T_56) (T_57)) (And.intro (T_58) (T_59))))) (And.intro (And.intro (And.intro (And.intro (T_60) (T_61)) (And.intro (T_63) (T_64))) (And.intro (And.intro (T_65) (T_66)) (And.intro (T_67) (T_68)))) (And.intro (And.intro (And.intro (T_69) (T_70)) (And.intro (T_71) (T_73))) (And.intro (And.intro (T_74) (T_75)) (And.intro (T_76) (T_77))))))) (And.intro (And.intro (And.intro (And.intro (And.intro (T_78) (And.intro (T_79) (T_80))) (And.intro (And.intro (T_81) (T_82)) (And.intro (T_83) (T_85)))) (And.intro (And.intro (And.intro (T_87) (T_88)) (And.intro (T_89) (T_90))) (And.intro (And.intro (T_91) (T_92)) (And.intro (T_93) (T_94))))) (And.intro (And.intro (And.intro (T_95) (And.intro (T_96) (T_97))) (And.intro (And.intro (T_98) (T_100)) (And.intro (T_101) (T_102)))) (And.intro (And.intro (And.intro (T_103) (T_104)) (And.intro (T_105) (T_106))) (And.intro (And.intro (T_107) (T_108)) (And.intro (T_109) (T_110)))))) (And.intro (And.intro (And.intro (And.intro (T_111) (And.intro (T_112) (T_113))) (And.intro (And.intro (T_114) (T_115)) (And.intro (T_116) (T_117)))) (And.intro (And.intro (And.intro (T_118) (T_119)) (And.intro (T_120) (T_121))) (And.intro (And.intro (T_122) (T_123)) (And.intro (T_124) (T_125))))) (And.intro (And.intro (And.intro (And.intro (T_126) (T_127)) (And.intro (T_128) (T_129))) (And.intro (And.intro (T_130) (T_131)) (And.intro (T_132) (T_133)))) (And.intro (And.intro (And.intro (T_134) (T_135)) (And.intro (T_136) (T_137))) (And.intro (And.intro (T_138) (T_144)) (And.intro (T_147) (T_148)))))))
theorem T_all : (List.range 154).all (fun t => tyCheck Try.prog t (T t)) = true := by kernel_rfl
theorem Tok : TyOK Try.prog T := by
  intro t
  by_cases h : t < 154
  · exact List.all_eq_true.1 T_all t (List.mem_range.2 h)
  · have : T t = ⟨.other, 0, 0, [], false⟩ := by
      unfold T
      have hl : TL.length = 154 := rfl
      rw [List.getD_eq_getElem?_getD, List.getElem?_eq_none (l := TL) (i := t) (by rw [hl]; exact Nat.le_of_not_lt h)]
      rfl
    rw [this]
    rfl
def keep2 : Nat → List Nat
  | 0 => []
  | _ => []
def tab2 : Nat → List Nat × List Nat
  | _ => ([], [])
def keep3 : Nat → List Nat
  | 0 => [0, 1]
  | 1 => [0, 1, 13]
  | 2 => [4]
  | 3 => [0, 1, 21]
  | 4 => [4]
  | 5 => [0, 1, 5, 6]
  | 6 => [0, 1, 5, 6, 7]
  | 7 => [0, 1, 5, 6, 7, 25]
  | 8 => [0, 1, 5, 6, 7]
  | 9 => [0, 1, 5, 6, 7, 8]
  | 10 => [0, 1, 5, 6, 7, 8, 9]
  | 11 => [0, 1, 5, 6, 7, 8, 9, 32]
  | 12 => [0, 1, 5, 6, 7, 8, 9]
  | 13 => [0, 1, 5, 6, 7, 8, 9, 64]
  | 14 => [0, 1, 5, 6, 7, 8, 9]
  | 15 => [0, 1, 5, 6, 7]
  | 16 => [0, 1, 5, 6, 10]
  | 17 => [0, 1, 5, 6, 10, 73]
  | 18 => [0, 1, 5, 6, 10]
  | 19 => [0, 1, 5, 6, 10, 79]
  | 20 => [0, 1, 5, 6, 10]
  | 21 => [0, 5, 6, 11]
  | 22 => [4]
  | _ => []
def tab3 : Nat → List Nat × List Nat
  | 13 => ([], [])
  | _ => ([], [])
def keep4 : Nat → List Nat
  | 0 => [0]
  | 1 => [0, 6]
  | 2 => [2]
  | 3 => [0, 9]
  | 4 => [2]
  | 5 => [0, 3]
  | 6 => [0, 3, 4]
  | 7 => [0, 3, 4, 16]
  | 8 => [0, 3, 4]
  | 9 => [0, 3, 4, 30]
  | 10 => [2]
  | 11 => [2]
  | _ => []
def tab4 : Nat → List Nat × List Nat
  | _ => ([], [])
def keep5 : Nat → List Nat
  | 0 => [0, 1]
  | 1 => [0, 1, 9]
  | 2 => [4]
  | 3 => [0, 1, 12]
  | 4 => [0, 1]
  | 5 => [0, 1, 5]
  | 6 => [0, 1, 5, 6]
  | 7 => [0, 1, 5, 6, 18]
  | 8 => [0, 1, 5, 6]
  | 9 => [0, 1, 5, 6, 25]
  | 10 => [0, 1, 5, 6]
  | 11 => [1, 5, 7]
  | 12 => [4]
  | _ => []
def tab5 : Nat → List Nat × List Nat
  | _ => ([], [])
def keep6 : Nat → List Nat
  | 0 => [0, 1]
  | 1 => [0, 1, 13]
  | 2 => [4]
  | 3 => [0, 1, 16]
  | 4 => [0, 1]
  | 5 => [0, 1, 5]
  | 6 => [0, 1, 5, 6]
  | 7 => [0, 1, 5, 6, 7]
  | 8 => [0, 1, 5, 6, 7, 22]
  | 9 => [0, 1, 5, 6, 7]
  | 10 => [0, 1, 5, 6, 7, 29]
  | 11 => [0, 1, 5, 6, 7, 32]
  | 12 => [0, 1, 5, 6, 7]
  | 13 => [0, 1, 5, 6, 7]
  | 14 => [1, 5, 6]
  | 15 => [6, 8, 9]
  | 16 => [6, 8, 9, 10]
  | 17 => [6, 8, 9, 10, 11]
  | 18 => [6, 8, 9, 10, 11, 62]
  | 19 => [6, 8, 9, 10, 11]
  | 20 => [6, 8, 9, 10, 11, 66]
  | 21 => [6, 8, 9, 10, 11]
  | 22 => [6, 8, 9, 10, 11]
  | 23 => [4]
  | _ => []
def tab6 : Nat → List Nat × List Nat
  | 13 => ([6], [7, 8, 9, 10, 11, 12])
  | _ => ([], [])
def keep7 : Nat → List Nat
  | 0 => [0, 1]
  | 1 => [0, 1, 12]
  | 2 => [4]
  | 3 => [0, 1, 5, 6]
  | 4 => [0, 1, 5, 6, 7, 8]
  | 5 => [0, 1, 5, 6, 7, 8, 9, 10]
  | 6 => [5, 7, 9, 10, 45]
  | 7 => [4]
  | 8 => [4]
  | _ => []
def tab7 : Nat → List Nat × List Nat
  | _ => ([], [])
def keep8 : Nat → List Nat
  | 0 => [0]
  | 1 => [0, 10]
  | 2 => [2]
  | 3 => [0, 3]
  | 4 => [0, 3, 4, 5]
  | 5 => [0, 3, 4, 5, 6]
  | 6 => [0, 3, 4, 5, 6, 19]
  | 7 => [0, 3, 4, 5, 6]
  | 8 => [0, 3, 4, 5, 6]
  | 9 => [0, 4, 5, 7]
  | 10 => [0, 4, 5, 7, 29]
  | 11 => [0, 4, 5, 7]
  | 12 => [0, 4, 5, 7]
  | 13 => [0, 5, 8]
  | 14 => [0, 5, 8, 39]
  | 15 => [0, 5, 8]
  | 16 => [0, 5, 8]
  | 17 => [2]
  | _ => []
def tab8 : Nat → List Nat × List Nat
  | _ => ([], [])
def keep9 : Nat → List Nat
  | 0 => [0, 1, 2, 3]
  | 1 => [0, 1, 2, 3, 19]
  | 2 => [8]
  | 3 => [0, 1, 2, 3, 9]
  | 4 => [0, 1, 2, 3, 9, 10]
  | 5 => [0, 1, 2, 3, 9, 10, 11]
  | 6 => [0, 1, 2, 3, 9, 10, 11, 32]
  | 7 => [0, 1, 2, 3, 9, 10, 11]
  | 8 => [0, 1, 2, 3, 9, 10, 11, 12]
  | 9 => [0, 1, 2, 3, 9, 10, 11, 12, 13]
  | 10 => [0, 1, 2, 3, 9, 10, 11, 12, 13, 42]
  | 11 => [0, 1, 2, 3, 9, 10, 11, 12, 13]
  | 12 => [0, 1, 2, 3, 9, 10, 11, 12, 13, 53]
  | 13 => [0, 1, 2, 3, 9, 10, 11, 12, 13]
  | 14 => [0, 1, 2, 3, 9, 10, 11, 12, 14, 15]
  | 15 => [0, 1, 2, 3, 9, 10, 11, 14, 15]
  | 16 => [0, 1, 2, 3, 9, 10, 11, 79]
  | 17 => [8]
  | 18 => [0, 1, 2, 3, 9, 10, 11, 12, 14, 15, 80]
  | 19 => [0, 1, 2, 3, 9, 10, 11, 89]
  | 20 => [8]
  | 21 => [0, 1, 2, 3, 9, 10, 11, 14, 15, 90]
  | 22 => [0, 1, 2, 3, 9, 10, 11, 99]
  | 23 => [8]
  | 24 => [0, 1, 3, 9, 10, 16, 17]
  | 25 => [0, 1, 3, 9, 10, 16, 17, 113]
  | 26 => [8]
  | 27 => [8]
  | _ => []
def tab9 : Nat → List Nat × List Nat
  | 12 => ([], [])
  | _ => ([], [])
def keep10 : Nat → List Nat
  | 0 => [0]
  | 1 => [0, 3]
  | 2 => [0, 3, 4]
  | 3 => [0, 3, 4, 5, 6]
  | 4 => [0, 3, 4, 29]
  | 5 => [2]
  | 6 => [2]
  | _ => []
def tab10 : Nat → List Nat × List Nat
  | 6 => ([], [])
  | _ => ([], [])
def keep11 : Nat → List Nat
  | 0 => [0, 1]
  | 1 => [0, 1, 14]
  | 2 => [4]
  | 3 => [0, 1, 5, 6]
  | 4 => [0, 1, 5, 21]
  | 5 => [0, 1, 7, 8]
  | 6 => [1, 34]
  | 7 => [4]
  | 8 => [1, 37]
  | 9 => [4]
  | 10 => [1, 9, 10]
  | 11 => [1, 9, 44]
  | 12 => [4]
  | 13 => [1, 11, 12]
  | 14 => [4]
  | _ => []
def tab11 : Nat → List Nat × List Nat
  | _ => ([], [])
def keep12 : Nat → List Nat
  | 0 => [1, 2, 3]
  | 1 => [1, 2, 3, 17]
  | 2 => [6]
  | 3 => [1, 2, 3, 7]
  | 4 => [1, 2, 3, 7, 18]
  | 5 => [1, 2, 3, 7]
  | 6 => [1, 2, 3, 7, 27]
  | 7 => [1, 2, 3, 7]
  | 8 => [1, 2, 3, 7, 56]
  | 9 => [1, 2, 3, 7]
  | 10 => [1, 2, 3, 7, 8, 9]
  | 11 => [1, 2, 3, 7, 8, 75]
  | 12 => [6]
  | 13 => [1, 2, 3, 7, 8]
  | 14 => [1, 2, 3, 7, 8, 10]
  | 15 => [1, 2, 3, 7, 8, 10, 11]
  | 16 => [1, 2, 3, 7, 8, 10, 11, 85]
  | 17 => [1, 2, 3, 7, 8, 10, 11]
  | 18 => [1, 2, 3, 7, 8, 10, 11]
  | 19 => [1, 2, 3, 7, 8, 12, 13]
  | 20 => [2, 3, 7, 8, 119]
  | 21 => [6]
  | 22 => [2, 3, 8, 121]
  | 23 => [6]
  | 24 => [2, 3, 8]
  | 25 => [2, 3, 8, 15]
  | 26 => [6]
  | _ => []
def tab12 : Nat → List Nat × List Nat
  | _ => ([], [])
def keep13 : Nat → List Nat
  | 0 => [0, 1]
  | 1 => [0, 1, 12]
  | 2 => [4]
  | 3 => [0, 1, 5, 6]
  | 4 => [0, 1, 5, 6, 7]
  | 5 => [0, 1, 5, 6, 7, 22]
  | 6 => [0, 1, 5, 6, 7]
  | 7 => [0, 1, 5, 6, 7, 8, 9]
  | 8 => [0, 1, 5, 6, 7, 86]
  | 9 => [4]
  | 10 => [0, 1, 6, 10]
  | 11 => [0, 1, 6, 10, 90]
  | 12 => [0, 1, 6, 10]
  | 13 => [0, 1, 6, 10, 108]
  | 14 => [4]
  | 15 => [4]
  | _ => []
def tab13 : Nat → List Nat × List Nat
  | 7 => ([], [])
  | 8 => ([], [])
  | _ => ([], [])
def keep14 : Nat → List Nat
  | 0 => [0, 2, 4]
  | 1 => [0, 2, 4, 17]
  | 2 => [6]
  | 3 => [0, 2, 4, 7]
  | 4 => [0, 2, 4, 7, 8]
  | 5 => [0, 2, 4, 7, 8, 27]
  | 6 => [0, 2, 4, 7]
  | 7 => [0, 2, 4, 7]
  | 8 => [0, 2, 4, 7, 9, 10]
  | 9 => [0, 2, 4, 7, 9, 10, 11]
  | 10 => [0, 2, 4, 7, 9, 10, 11, 39]
  | 11 => [0, 2, 4, 7, 9, 10, 11]
  | 12 => [0, 2, 4, 7, 9, 10, 11, 49]
  | 13 => [0, 2, 4, 7, 9, 10, 11]
  | 14 => [0, 2, 4, 7, 9, 10, 11, 66]
  | 15 => [0, 2, 4, 7, 9, 10, 11]
  | 16 => [0, 2, 4, 7, 9, 10, 12, 13]
  | 17 => [0, 2, 4, 7, 9, 10, 12, 13, 14]
  | 18 => [0, 2, 4, 7, 9, 10, 12, 13, 14, 15]
  | 19 => [0, 2, 4, 7, 9, 10, 12, 13, 14, 15, 85]
  | 20 => [0, 2, 4, 7, 9, 10, 12, 13, 14]
  | 21 => [6]
  | _ => []
def tab14 : Nat → List Nat × List Nat
  | _ => ([], [])
def keep15 : Nat → List Nat
  | 0 => [0]
  | 1 => [0, 3]
  | 2 => [0, 4]
  | 3 => [0, 4, 5]
  | 4 => [0, 4, 5, 21]
  | 5 => [0, 4, 5]
  | 6 => [0, 4, 5, 7]
  | 7 => [0, 4, 5, 7, 9]
  | 8 => [0, 4, 5, 7, 9, 11]
  | 9 => [0, 4, 5, 7, 9, 11, 12, 13]
  | 10 => [0, 4, 5, 76]
  | 11 => [2]
  | 12 => [2]
  | _ => []
def tab15 : Nat → List Nat × List Nat
  | 10 => ([], [])
  | _ => ([], [])
def keep16 : Nat → List Nat
  | 0 => []
  | 1 => [1]
  | 2 => [0]
  | _ => []
def tab16 : Nat → List Nat × List Nat
  | _ => ([], [])
def keep17 : Nat → List Nat
  | 0 => [0, 1]
  | 1 => [0, 1, 5]
  | 2 => [0, 1, 5, 9]
  | 3 => [0, 1, 5]
  | 4 => [0, 1, 5, 17]
  | 5 => [4]
  | 6 => [4]
  | _ => []
def tab17 : Nat → List Nat × List Nat
  | _ => ([], [])
def keep18 : Nat → List Nat
  | 0 => [0, 1]
  | 1 => [0, 1, 5]
  | 2 => [0, 5, 11, 12, 13]
  | 3 => [0, 5, 11, 12, 13, 14]
  | 4 => [0, 5, 7, 11, 12, 13]
  | 5 => [0, 5, 7, 8, 11, 12, 13]
  | 6 => [0, 5, 7, 8, 11, 12, 13, 17, 18, 19]
  | 7 => [0, 5, 7, 8, 11, 12, 13, 17, 18, 19, 20]
  | 8 => [0, 5, 7, 8, 9, 10, 11, 12, 13, 17, 18, 19]
  | 9 => [0, 5, 7, 8, 9, 11, 12, 13, 17, 18, 19, 32]
  | 10 => [0, 5, 8, 11, 12, 13]
  | 11 => [0, 5, 7, 8, 11, 12, 13, 17, 18, 19]
  | 12 => [0, 5, 11, 12, 13]
  | 13 => [0, 5, 11, 12, 13]
  | 14 => [4]
  | _ => []
def tab18 : Nat → List Nat × List Nat
  | _ => ([], [])
def keep19 : Nat → List Nat
  | 0 => [0, 1]
  | 1 => [0, 1, 10]
  | 2 => [4]
  | 3 => [0, 1, 5]
  | 4 => [0, 1, 5, 14]
  | 5 => [0, 1, 5]
  | 6 => [0, 1, 5, 25]
  | 7 => [4]
  | 8 => [4]
  | _ => []
def tab19 : Nat → List Nat × List Nat
  | 6 => ([], [])
  | _ => ([], [])
def keep20 : Nat → List Nat
  | 0 => [0, 1]
  | 1 => [0, 1, 5]
  | 2 => [1, 5, 8, 9]
  | 3 => [1, 5, 8, 9, 10]
  | 4 => [1, 5, 6, 8, 9]
  | 5 => [1, 5, 6, 8, 9, 15]
  | 6 => [1, 5, 8, 9]
  | 7 => [1, 5, 8, 9]
  | 8 => [4]
  | _ => []
def tab20 : Nat → List Nat × List Nat
  | _ => ([], [])
def keep21 : Nat → List Nat
  | 0 => []
  | 1 => [0]
  | _ => []
def tab21 : Nat → List Nat × List Nat
  | _ => ([], [])
def keep22 : Nat → List Nat
  | 0 => [0, 1]
  | 1 => [0, 1, 10]
  | 2 => [4]
  | 3 => [0, 1, 5]
  | 4 => [0, 1, 5, 14]
  | 5 => [0, 1, 5]
  | 6 => [0, 1, 5, 25]
  | 7 => [4]
  | 8 => [4]
  | _ => []
def tab22 : Nat → List Nat × List Nat
  | 6 => ([], [])
  | _ => ([], [])
def keep23 : Nat → List Nat
  | 0 => [0, 1]
  | 1 => [0, 1]
  | 2 => [0, 1, 5]
  | 3 => [0, 1, 5, 6]
  | 4 => [1, 5, 6, 12, 13, 14]
  | 5 => [1, 5, 6, 12, 13, 14, 15]
  | 6 => [1, 5, 6, 8, 12, 13, 14]
  | 7 => [1, 5, 8, 12, 13, 14]
  | 8 => [1, 5, 6, 12, 13, 14]
  | 9 => [1, 5, 6, 8, 12, 13, 14, 23]
  | 10 => [1, 5, 6, 12, 13, 14]
  | 11 => [1, 5, 6, 8, 12, 13, 14, 27]
  | 12 => [1, 5, 6, 12, 13, 14]
  | 13 => [1, 5, 6, 12, 13, 14]
  | 14 => [5, 6, 42]
  | 15 => [5]
  | 16 => [4]
  | _ => []
def tab23 : Nat → List Nat × List Nat
  | _ => ([], [])
def keep24 : Nat → List Nat
  | 0 => [0, 1]
  | 1 => [0, 1, 5]
  | 2 => [0, 1, 5, 6]
  | 3 => [0, 1, 5, 6, 11]
  | 4 => [0, 1, 5, 6, 7]
  | 5 => [0, 1, 5, 6, 7]
  | 6 => [0, 1, 5, 6, 7, 34]
  | 7 => [0, 1, 5, 6, 7]
  | 8 => [0, 1, 5, 6, 7]
  | 9 => [0, 1, 5, 6]
  | 10 => [4]
  | _ => []
def tab24 : Nat → List Nat × List Nat
  | _ => ([], [])
def keep25 : Nat → List Nat
  | 0 => []
  | 1 => [1, 2]
  | 2 => [0]
  | _ => []
def tab25 : Nat → List Nat × List Nat
  | _ => ([], [])
def keep26 : Nat → List Nat
  | 0 => [0]
  | 1 => [0, 10]
  | 2 => [2, 3]
  | 3 => [0, 4]
  | 4 => [4, 11, 12, 13]
  | 5 => [4, 11, 12, 13, 14]
  | 6 => [4, 6, 11, 12, 13]
  | 7 => [4, 6, 7, 11, 12, 13]
  | 8 => [4, 6, 7, 11, 12, 13, 20]
  | 9 => [2, 3]
  | 10 => [4, 11, 12, 13]
  | 11 => [4, 11, 12, 13]
  | 12 => [2, 3]
  | _ => []
def tab26 : Nat → List Nat × List Nat
  | _ => ([], [])
def keep27 : Nat → List Nat
  | 0 => []
  | 1 => [0]
  | _ => []
def tab27 : Nat → List Nat × List Nat
  | _ => ([], [])
def keep28 : Nat → List Nat
  | 0 => []
  | 1 => [1]
  | 2 => [0]
  | _ => []
def tab28 : Nat → List Nat × List Nat
  | _ => ([], [])
def keep29 : Nat → List Nat
  | 0 => []
  | 1 => [0, 1]
  | _ => []
def tab29 : Nat → List Nat × List Nat
  | _ => ([], [])
def keep30 : Nat → List Nat
  | 0 => [0]
  | 1 => [2]
  | _ => []
def tab30 : Nat → List Nat × List Nat
  | _ => ([], [])
def keep31 : Nat → List Nat
  | 0 => [0]
  | 1 => [2]
  | _ => []
def tab31 : Nat → List Nat × List Nat
  | _ => ([], [])
def keep32 : Nat → List Nat
  | 0 => []
  | 1 => [1]
  | 2 => [1, 2, 3]
  | 3 => [1, 2, 3, 5]
  | 4 => [0]
  | _ => []
def tab32 : Nat → List Nat × List Nat
  | _ => ([], [])
def keep33 : Nat → List Nat
  | 0 => [0, 1]
  | 1 => [4]
  | _ => []
def tab33 : Nat → List Nat × List Nat
  | _ => ([], [])
def keep34 : Nat → List Nat
  | 0 => [0, 3]
  | 1 => [0, 3, 9]
  | 2 => [4, 5]
  | 3 => [0, 3, 6]
  | 4 => [0, 3, 6, 17]
  | 5 => [4, 5]
  | 6 => [0, 3, 25]
  | 7 => [4, 5]
  | 8 => [0]
  | 9 => [4, 5]
  | _ => []
def tab34 : Nat → List Nat × List Nat
  | 8 => ([7, 10], [0])
  | _ => ([], [])
def keep35 : Nat → List Nat
  | 0 => [0, 1]
  | 1 => [0, 1, 6]
  | 2 => [4, 5]
  | 3 => [0, 1, 10]
  | 4 => [4, 5]
  | 5 => [4, 5]
  | _ => []
def tab35 : Nat → List Nat × List Nat
  | _ => ([], [])
def keep36 : Nat → List Nat
  | 0 => [0]
  | 1 => [0, 5]
  | 2 => [2]
  | 3 => [2]
  | _ => []
def tab36 : Nat → List Nat × List Nat
  | _ => ([], [])
def keep37 : Nat → List Nat
  | 0 => [0]
  | 1 => [0, 5]
  | 2 => [2]
  | 3 => [2]
  | _ => []
def tab37 : Nat → List Nat × List Nat
  | _ => ([], [])
def keep38 : Nat → List Nat
  | 0 => [0]
  | 1 => [0, 5]
  | 2 => [2]
  | 3 => [2]
  | _ => []
def tab38 : Nat → List Nat × List Nat
  | _ => ([], [])
def keep39 : Nat → List Nat
  | 0 => [0, 1]
  | 1 => [0, 1, 5]
  | 2 => [0, 1, 5, 9]
  | 3 => [0, 1, 5]
  | 4 => [0, 1, 5, 17]
  | 5 => [4]
  | 6 => [4]
  | _ => []
def tab39 : Nat → List Nat × List Nat
  | _ => ([], [])
def keep40 : Nat → List Nat
  | 0 => [0]
  | 1 => [2]
  | _ => []
def tab40 : Nat → List Nat × List Nat
  | _ => ([], [])
def keep41 : Nat → List Nat
  | 0 => [0]
  | 1 => [2]
  | _ => []
def tab41 : Nat → List Nat × List Nat
  | _ => ([], [])
def keep42 : Nat → List Nat
  | 0 => [0]
  | 1 => [2]
  | _ => []
def tab42 : Nat → List Nat × List Nat
  | _ => ([], [])
def keep43 : Nat → List Nat
  | 0 => [0]
  | 1 => [2]
  | _ => []
def tab43 : Nat → List Nat × List Nat
  | _ => ([], [])
def keep44 : Nat → List Nat
  | 0 => [0]
  | 1 => [0, 4]
  | 2 => [0, 4, 10]
  | 3 => [4, 5, 6, 7]
  | 4 => [4, 5, 6, 18]
  | 5 => [2, 3]
  | 6 => [0, 4]
  | 7 => [4, 26]
  | 8 => [2, 3]
  | 9 => [2, 3]
  | _ => []
def tab44 : Nat → List Nat × List Nat
  | _ => ([], [])
def keep45 : Nat → List Nat
  | 0 => [0, 1]
  | 1 => [0, 1, 10]
  | 2 => [4]
  | 3 => [0, 1, 5]
  | 4 => [0, 1, 5, 14]
  | 5 => [0, 1, 5]
  | 6 => [0, 1, 5, 25]
  | 7 => [4]
  | 8 => [4]
  | _ => []
def tab45 : Nat → List Nat × List Nat
  | 6 => ([], [])
  | _ => ([], [])
def keep46 : Nat → List Nat
  | 0 => [1]
  | 1 => [1, 3]
  | 2 => [2]
  | 3 => [1, 12]
  | 4 => [2]
  | 5 => [21]
  | 6 => [2]
  | 7 => [2]
  | _ => []
def tab46 : Nat → List Nat × List Nat
  | _ => ([], [])
def keep47 : Nat → List Nat
  | 0 => []
  | 1 => [1]
  | 2 => [1, 2]
  | 3 => [3]
  | 4 => [0]
  | _ => []
def tab47 : Nat → List Nat × List Nat
  | _ => ([], [])
def keep48 : Nat → List Nat
  | 0 => [0, 1]
  | 1 => [0, 1]
  | 2 => [0, 1, 6]
  | 3 => [0, 1, 6, 7]
  | 4 => [0, 1, 6, 7, 17, 18, 19]
  | 5 => [0, 1, 6, 7, 17, 18, 19, 20]
  | 6 => [0, 1, 6, 7, 9, 17, 18, 19]
  | 7 => [0, 1, 6, 7, 9, 10, 17, 18, 19]
  | 8 => [0, 1, 6, 7, 9, 17, 18, 19, 38]
  | 9 => [0, 1, 6, 7, 17, 18, 19]
  | 10 => [0, 1, 6, 7, 17, 18, 19]
  | 11 => [1, 6, 7, 44, 45, 46]
  | 12 => [1, 6, 7, 44, 45, 46, 47]
  | 13 => [1, 6, 7, 12, 44, 45, 46]
  | 14 => [1, 6, 7, 12, 44, 45, 46, 55]
  | 15 => [1, 6, 7, 44, 45, 46]
  | 16 => [1, 6, 7, 44, 45, 46]
  | 17 => [4, 5]
  | _ => []
def tab48 : Nat → List Nat × List Nat
  | 8 => ([], [])
  | _ => ([], [])
def keep49 : Nat → List Nat
  | 0 => [0, 1]
  | 1 => [0, 1, 5]
  | 2 => [0, 1, 5, 9]
  | 3 => [0, 1, 5]
  | 4 => [0, 1, 5, 19]
  | 5 => [4]
  | 6 => [4]
  | _ => []
def tab49 : Nat → List Nat × List Nat
  | _ => ([], [])
def keep50 : Nat → List Nat
  | 0 => [2, 3]
  | 1 => [4]
  | _ => []
def tab50 : Nat → List Nat × List Nat
  | 1 => ([], [])
  | _ => ([], [])
def keep51 : Nat → List Nat
  | 0 => [0, 1, 4]
  | 1 => [0, 4, 6]
  | 2 => [0, 4, 6, 11]
  | 3 => [4, 5]
  | 4 => [4, 5]
  | _ => []
def tab51 : Nat → List Nat × List Nat
  | _ => ([], [])
def keep52 : Nat → List Nat
  | 0 => [0, 1]
  | 1 => [0, 1, 10]
  | 2 => [4]
  | 3 => [0, 1, 5]
  | 4 => [0, 1, 5, 14]
  | 5 => [0, 1, 5]
  | 6 => [0, 1, 5, 42]
  | 7 => [4]
  | 8 => [4]
  | _ => []
def tab52 : Nat → List Nat × List Nat
  | 6 => ([], [])
  | _ => ([], [])
def keep53 : Nat → List Nat
  | 0 => [0, 3]
  | 1 => [3, 5]
  | 2 => [3, 5, 6]
  | 3 => [3, 5, 6, 15]
  | 4 => [5]
  | 5 => [4]
  | 6 => [4]
  | _ => []
def tab53 : Nat → List Nat × List Nat
  | _ => ([], [])
def keep54 : Nat → List Nat
  | 0 => [0, 3]
  | 1 => [4]
  | _ => []
def tab54 : Nat → List Nat × List Nat
  | _ => ([], [])
def keep55 : Nat → List Nat
  | 0 => [0]
  | 1 => [0, 3]
  | 2 => [3, 6, 7, 8]
  | 3 => [3, 6, 7, 8, 9]
  | 4 => [3, 5, 6, 7, 8]
  | 5 => [3, 5, 6, 7, 8, 17]
  | 6 => [3, 6, 7, 8]
  | 7 => [3, 6, 7, 8]
  | 8 => [2]
  | _ => []
def tab55 : Nat → List Nat × List Nat
  | _ => ([], [])
def keep56 : Nat → List Nat
  | 0 => [0]
  | 1 => [2, 3]
  | _ => []
def tab56 : Nat → List Nat × List Nat
  | _ => ([], [])
def keep57 : Nat → List Nat
  | 0 => [0]
  | 1 => [2, 3]
  | _ => []
def tab57 : Nat → List Nat × List Nat
  | _ => ([], [])
def keep58 : Nat → List Nat
  | 0 => [0]
  | 1 => [2, 3]
  | _ => []
def tab58 : Nat → List Nat × List Nat
  | _ => ([], [])
def keep59 : Nat → List Nat
  | 0 => [0]
  | 1 => [0, 14]
  | 2 => [2, 3]
  | 3 => [2, 3]
  | _ => []
def tab59 : Nat → List Nat × List Nat
  | 3 => ([], [])
  | _ => ([], [])
def keep60 : Nat → List Nat
  | 0 => [0, 1]
  | 1 => [0, 5]
  | 2 => [0, 5, 14]
  | 3 => [4]
  | 4 => [0]
  | 5 => [0, 45]
  | 6 => [0]
  | 7 => []
  | 8 => [4]
  | _ => []
def tab60 : Nat → List Nat × List Nat
  | 4 => ([18, 21], [0])
  | 5 => ([], [])
  | _ => ([], [])
def keep61 : Nat → List Nat
  | 0 => []
  | 1 => [1]
  | 2 => [1]
  | 3 => [1]
  | 4 => [0]
  | _ => []
def tab61 : Nat → List Nat × List Nat
  | 2 => ([6], [])
  | _ => ([], [])
def keep62 : Nat → List Nat
  | 0 => [0]
  | 1 => [2]
  | _ => []
def tab62 : Nat → List Nat × List Nat
  | _ => ([], [])
def keep63 : Nat → List Nat
  | 0 => []
  | 1 => [1]
  | 2 => [1, 2, 3]
  | 3 => [1, 2, 3, 5]
  | 4 => [0]
  | _ => []
def tab63 : Nat → List Nat × List Nat
  | _ => ([], [])
def keep64 : Nat → List Nat
  | 0 => [0, 1]
  | 1 => [4]
  | _ => []
def tab64 : Nat → List Nat × List Nat
  | _ => ([], [])
def keep65 : Nat → List Nat
  | 0 => [0]
  | 1 => [2]
  | _ => []
def tab65 : Nat → List Nat × List Nat
  | _ => ([], [])
def keep66 : Nat → List Nat
  | 0 => [1]
  | 1 => [1, 3]
  | 2 => [1, 4]
  | 3 => [2]
  | _ => []
def tab66 : Nat → List Nat × List Nat
  | _ => ([], [])
def keep67 : Nat → List Nat
  | 0 => [0, 1]
  | 1 => [0, 1, 5]
  | 2 => [0, 1, 5, 12]
  | 3 => [4]
  | 4 => [0, 1, 5, 6]
  | 5 => [0, 1, 5, 6, 19]
  | 6 => [0, 1, 5, 6]
  | 7 => [0, 1, 5, 6, 7]
  | 8 => [0, 1, 5, 6, 7, 29]
  | 9 => [0, 1, 5, 6]
  | 10 => [0, 1, 5, 6]
  | 11 => [0, 5]
  | 12 => [4]
  | _ => []
def tab67 : Nat → List Nat × List Nat
  | _ => ([], [])
def keep68 : Nat → List Nat
  | 0 => []
  | 1 => [0]
  | _ => []
def tab68 : Nat → List Nat × List Nat
  | _ => ([], [])
def keep69 : Nat → List Nat
  | 0 => []
  | 1 => [0]
  | _ => []
def tab69 : Nat → List Nat × List Nat
  | _ => ([], [])
def keep70 : Nat → List Nat
  | 0 => [0, 1]
  | 1 => [4]
  | _ => []
def tab70 : Nat → List Nat × List Nat
  | _ => ([], [])
def keep71 : Nat → List Nat
  | 0 => [0]
  | 1 => [2]
  | _ => []
def tab71 : Nat → List Nat × List Nat
  | _ => ([], [])
def keep72 : Nat → List Nat
  | 0 => [0, 1]
  | 1 => [0, 1, 7, 8]
  | 2 => [0, 1, 7, 8, 9]
  | 3 => [0, 1, 5, 7, 8]
  | 4 => [0, 1, 5, 7, 8, 16]
  | 5 => [4]
  | 6 => [0, 1, 7, 8]
  | 7 => [4]
  | _ => []
def tab72 : Nat → List Nat × List Nat
  | _ => ([], [])
def keep73 : Nat → List Nat
  | 0 => [0, 1]
  | 1 => [3]
  | _ => []
def tab73 : Nat → List Nat × List Nat
  | _ => ([], [])
def keep74 : Nat → List Nat
  | 0 => [0, 2]
  | 1 => [0, 2, 9]
  | 2 => [2, 3, 4]
  | 3 => [0, 2, 5]
  | 4 => [0, 2, 5, 25]
  | 5 => [2, 3, 4]
  | 6 => [0, 2, 5, 6]
  | 7 => [2, 3, 4]
  | _ => []
def tab74 : Nat → List Nat × List Nat
  | 3 => ([], [])
  | 6 => ([22, 23], [0, 1, 2, 3, 4, 5, 6, 7, 8, 9, 10, 11, 12, 13, 14, 15, 16, 17, 18, 19, 20, 21])
  | 7 => ([8], [1, 2, 3, 4, 7])
  | _ => ([], [])
def keep75 : Nat → List Nat
  | 0 => [0, 1]
  | 1 => [4]
  | _ => []
def tab75 : Nat → List Nat × List Nat
  | _ => ([], [])
def keep76 : Nat → List Nat
  | 0 => [0]
  | 1 => [2]
  | _ => []
def tab76 : Nat → List Nat × List Nat
  | _ => ([], [])
def keep77 : Nat → List Nat
  | 0 => [0, 1, 4]
  | 1 => [4]
  | _ => []
def tab77 : Nat → List Nat × List Nat
  | _ => ([], [])
def keep78 : Nat → List Nat
  | 0 => [0, 3]
  | 1 => [4]
  | _ => []
def tab78 : Nat → List Nat × List Nat
  | _ => ([], [])
def keep79 : Nat → List Nat
  | 0 => [2, 3]
  | 1 => [4]
  | _ => []
def tab79 : Nat → List Nat × List Nat
  | _ => ([], [])
def keep80 : Nat → List Nat
  | 0 => [0, 1]
  | 1 => [0, 1, 10]
  | 2 => [4]
  | 3 => [0, 1, 5]
  | 4 => [0, 1, 5, 14]
  | 5 => [0, 1, 5]
  | 6 => [0, 1, 5, 25]
  | 7 => [4]
  | 8 => [4]
  | _ => []
def tab80 : Nat → List Nat × List Nat
  | 6 => ([], [])
  | _ => ([], [])
def keep81 : Nat → List Nat
  | 0 => [1]
  | 1 => [1, 3]
  | 2 => [1, 3, 4]
  | 3 => [1, 3, 4, 10]
  | 4 => [1, 3, 4]
  | 5 => [1, 3, 4, 5]
  | 6 => [1, 3, 4, 5, 28]
  | 7 => [1, 3, 4, 5]
  | 8 => [1, 3, 4, 5]
  | 9 => [1, 3, 52]
  | 10 => [1, 3]
  | 11 => [2]
  | _ => []
def tab81 : Nat → List Nat × List Nat
  | 8 => ([15], [])
  | _ => ([], [])
def keep82 : Nat → List Nat
  | 0 => [1, 2]
  | 1 => [1, 2, 3]
  | 2 => [1, 2, 3, 4]
  | 3 => [2, 3, 4, 15, 16, 17]
  | 4 => [2, 3, 4, 15, 16, 17, 18]
  | 5 => [2, 3, 4, 6, 15, 16, 17]
  | 6 => [2, 3, 4, 6, 7, 15, 16, 17]
  | 7 => [2, 3, 4, 7, 15, 16, 17]
  | 8 => [2, 3, 4, 15, 16, 17]
  | 9 => [2, 3, 4, 15, 16, 17]
  | 10 => [2, 3]
  | 11 => [2]
  | _ => []
def tab82 : Nat → List Nat × List Nat
  | 7 => ([6, 8], [])
  | _ => ([], [])
def keep83 : Nat → List Nat
  | 0 => [0]
  | 1 => [0, 3]
  | 2 => [3, 6, 7, 8]
  | 3 => [3, 6, 7, 8, 9]
  | 4 => [3, 5, 6, 7, 8]
  | 5 => [3, 6, 7, 8]
  | 6 => [3, 6, 7, 8]
  | 7 => [2]
  | _ => []
def tab83 : Nat → List Nat × List Nat
  | _ => ([], [])
def keep84 : Nat → List Nat
  | 0 => [1, 2]
  | 1 => [2]
  | _ => []
def tab84 : Nat → List Nat × List Nat
  | 1 => ([7], [])
  | _ => ([], [])
def keep85 : Nat → List Nat
  | 0 => [0, 1]
  | 1 => [0, 1, 5]
  | 2 => [0, 1, 5, 12]
  | 3 => [4]
  | 4 => [0, 1, 5, 6]
  | 5 => [0, 1, 5, 6, 19]
  | 6 => [0, 1, 5, 6]
  | 7 => [0, 1, 5, 6, 7]
  | 8 => [0, 1, 5, 6, 7, 29]
  | 9 => [0, 1, 5, 6]
  | 10 => [0, 1, 5, 6]
  | 11 => [0, 5]
  | 12 => [4]
  | _ => []
def tab85 : Nat → List Nat × List Nat
  | _ => ([], [])
def keep86 : Nat → List Nat
  | 0 => [1, 2]
  | 1 => [3]
  | _ => []
def tab86 : Nat → List Nat × List Nat
  | _ => ([], [])
def keep87 : Nat → List Nat
  | 0 => [0, 1]
  | 1 => [0, 1, 31]
  | 2 => [4, 5]
  | 3 => [0]
  | 4 => [4, 5]
  | _ => []
def tab87 : Nat → List Nat × List Nat
  | 1 => ([], [])
  | 4 => ([], [])
  | _ => ([], [])
def keep88 : Nat → List Nat
  | 0 => [0]
  | 1 => [2]
  | _ => []
def tab88 : Nat → List Nat × List Nat
  | _ => ([], [])
def keep89 : Nat → List Nat
  | 0 => [0]
  | 1 => [0, 8]
  | 2 => [2]
  | 3 => [3]
  | 4 => [3, 28]
  | 5 => [3, 28, 30]
  | 6 => [3, 4, 5, 28]
  | 7 => [3, 28]
  | 8 => [2]
  | _ => []
def tab89 : Nat → List Nat × List Nat
  | 3 => ([14], [])
  | 7 => ([7], [])
  | _ => ([], [])
def keep90 : Nat → List Nat
  | 0 => [0, 1]
  | 1 => [0, 1, 7, 8]
  | 2 => [0, 1, 7, 8, 9]
  | 3 => [0, 1, 5, 7, 8]
  | 4 => [0, 1, 5, 7, 8, 16]
  | 5 => [4]
  | 6 => [0, 1, 7, 8]
  | 7 => [4]
  | _ => []
def tab90 : Nat → List Nat × List Nat
  | _ => ([], [])
def keep91 : Nat → List Nat
  | 0 => [0, 1]
  | 1 => [0, 1, 7, 8]
  | 2 => [0, 1, 7, 8, 9]
  | 3 => [0, 1, 5, 7, 8]
  | 4 => [0, 1, 5, 7, 8, 16]
  | 5 => [4]
  | 6 => [0, 1, 7, 8]
  | 7 => [4]
  | _ => []
def tab91 : Nat → List Nat × List Nat
  | _ => ([], [])
def keep92 : Nat → List Nat
  | 0 => [0, 1]
  | 1 => [0, 1, 7, 8]
  | 2 => [0, 1, 7, 8, 9]
  | 3 => [0, 1, 5, 7, 8]
  | 4 => [0, 1, 5, 7, 8, 16]
  | 5 => [4]
  | 6 => [0, 1, 7, 8]
  | 7 => [4]
  | _ => []
def tab92 : Nat → List Nat × List Nat
  | _ => ([], [])
def keep93 : Nat → List Nat
  | 0 => [0, 1, 2]
  | 1 => [0, 1, 2, 7]
  | 2 => [0]
  | 3 => [0, 1, 2, 7, 17]
  | 4 => [0, 1, 2, 7, 20]
  | 5 => [0]
  | 6 => [6]
  | _ => []
def tab93 : Nat → List Nat × List Nat
  | _ => ([], [])
def keep94 : Nat → List Nat
  | 0 => [0]
  | 1 => [2]
  | _ => []
def tab94 : Nat → List Nat × List Nat
  | _ => ([], [])
def keep95 : Nat → List Nat
  | 0 => [0, 1]
  | 1 => [0, 1, 7, 8]
  | 2 => [0, 1, 7, 8, 9]
  | 3 => [0, 1, 5, 7, 8]
  | 4 => [0, 1, 5, 7, 8, 16]
  | 5 => [4]
  | 6 => [0, 1, 7, 8]
  | 7 => [4]
  | _ => []
def tab95 : Nat → List Nat × List Nat
  | _ => ([], [])
def keep96 : Nat → List Nat
  | 0 => [1, 2]
  | 1 => [3]
  | _ => []
def tab96 : Nat → List Nat × List Nat
  | _ => ([], [])
def keep97 : Nat → List Nat
  | 0 => [2, 3]
  | 1 => [4]
  | _ => []
def tab97 : Nat → List Nat × List Nat
  | 1 => ([], [])
  | _ => ([], [])
def keep98 : Nat → List Nat
  | 0 => [0]
  | 1 => [2]
  | _ => []
def tab98 : Nat → List Nat × List Nat
  | _ => ([], [])
def keep99 : Nat → List Nat
  | 0 => [0]
  | 1 => [2]
  | _ => []
def tab99 : Nat → List Nat × List Nat
  | _ => ([], [])
def keep100 : Nat → List Nat
  | 0 => [0]
  | 1 => [0, 4]
  | 2 => [2]
  | 3 => [2]
  | _ => []
def tab100 : Nat → List Nat × List Nat
  | _ => ([], [])
def keep101 : Nat → List Nat
  | 0 => [1, 2]
  | 1 => [1, 2]
  | 2 => [1, 2]
  | 3 => [1, 2, 3]
  | 4 => [1, 2, 3, 23, 24, 25]
  | 5 => [1, 2, 3, 23, 24, 25, 26]
  | 6 => [1, 2, 3, 5, 23, 24, 25]
  | 7 => [1, 2, 3, 23, 24, 25]
  | 8 => [1, 2, 3, 23, 24, 25]
  | 9 => [1, 2]
  | 10 => [2]
  | _ => []
def tab101 : Nat → List Nat × List Nat
  | 1 => ([7, 9], [])
  | 2 => ([7, 9], [])
  | 7 => ([9], [])
  | _ => ([], [])
def keep102 : Nat → List Nat
  | 0 => [0, 1]
  | 1 => [0, 1, 10]
  | 2 => [4]
  | 3 => [0, 1, 12, 13]
  | 4 => [0, 1, 12, 13, 14]
  | 5 => [0, 1, 5, 12, 13]
  | 6 => [0, 1, 12, 13, 24]
  | 7 => [4]
  | 8 => [0, 1, 12, 13]
  | 9 => [4]
  | _ => []
def tab102 : Nat → List Nat × List Nat
  | 6 => ([], [])
  | _ => ([], [])
def keep104 : Nat → List Nat
  | 0 => [0]
  | 1 => [0, 4]
  | 2 => [2]
  | 3 => [2]
  | _ => []
def tab104 : Nat → List Nat × List Nat
  | _ => ([], [])
def keep105 : Nat → List Nat
  | 0 => [0]
  | 1 => [0, 4]
  | 2 => [2]
  | 3 => [2]
  | _ => []
def tab105 : Nat → List Nat × List Nat
  | _ => ([], [])
theorem mixed : Try.prog.follows .mixedOrders = true := by kernel_rfl
end Go.Proofs.Ytadhjfdmfdgppaa

/- The table of types of this seat, and of each function the slots that are read behind a region: reckoned by a program. -/
import Derived.Test.YtimhcdhignamiaaProg
import Derived.Test.YtimhcdhignamiaaEX
set_option linter.unusedVariables false
set_option maxRecDepth 100000
namespace Go.Proofs.Ytimhcdhignamiaa
open Go Go.EL
def TL : List TD := [
  ⟨.other, 0, 0, [], false⟩,
  ⟨.func, 1, 8, [.nilf], false⟩,
  ⟨(.int .i64), 1, 8, [.int .i64 0], false⟩,
  ⟨(.int .i64), 1, 8, [.int .i64 0], false⟩,
  ⟨.bool, 1, 1, [.bool false], false⟩,
  ⟨(.int .u8), 1, 1, [.int .u8 0], false⟩,
  ⟨.other, 0, 0, [], false⟩,
  ⟨.other, 0, 0, [], false⟩,
  ⟨.other, 0, 0, [], false⟩,
  ⟨.str, 1, 16, [.str []], false⟩,
  ⟨.other, 0, 0, [], false⟩,
  ⟨.other, 0, 0, [], false⟩,
  ⟨(.int .u64), 1, 8, [.int .u64 0], false⟩,
  ⟨(.struct [(9, 0), (12, 1)]), 2, 24, [.str [], .int .u64 0], false⟩,
  ⟨.other, 0, 0, [], false⟩,
  ⟨.other, 0, 0, [], false⟩,
  ⟨.other, 0, 0, [], false⟩,
  ⟨.other, 0, 0, [], false⟩,
  ⟨.other, 0, 0, [], false⟩,
  ⟨(.struct [(17, 0)]), 1, 8, [.nilp], false⟩,
  ⟨.iface, 1, 16, [.nili], false⟩,
  ⟨(.int .i32), 1, 4, [.int .i32 0], false⟩,
  ⟨(.slice 26), 1, 24, [.fslice []], false⟩,
  ⟨.func, 1, 8, [.nilf], false⟩,
  ⟨(.slice 3), 1, 24, [.fslice []], false⟩,
  ⟨(.struct [(9, 0), (9, 1)]), 2, 32, [.str [], .str []], true⟩,
  ⟨(.struct [(9, 0), (9, 1)]), 2, 32, [.str [], .str []], true⟩,
  ⟨.func, 1, 8, [.nilf], false⟩,
  ⟨.func, 1, 8, [.nilf], false⟩,
  ⟨.func, 1, 8, [.nilf], false⟩,
  ⟨.func, 1, 8, [.nilf], false⟩,
  ⟨.func, 1, 8, [.nilf], false⟩,
  ⟨.func, 1, 8, [.nilf], false⟩,
  ⟨(.slice 9), 1, 24, [.fslice []], false⟩,
  ⟨.func, 1, 8, [.nilf], false⟩,
  ⟨.func, 1, 8, [.nilf], false⟩,
  ⟨.func, 1, 8, [.nilf], false⟩,
  ⟨(.slice 48), 1, 24, [.fslice []], false⟩,
  ⟨(.slice 5), 1, 24, [.fslice []], false⟩,
  ⟨(.int .i64), 1, 8, [.int .i64 0], false⟩,
  ⟨.other, 0, 0, [], false⟩,
  ⟨.func, 1, 8, [.nilf], false⟩,
  ⟨.func, 1, 8, [.nilf], false⟩,
  ⟨.func, 1, 8, [.nilf], false⟩,
  ⟨.other, 0, 0, [], false⟩,
  ⟨.func, 1, 8, [.nilf], false⟩,
  ⟨.func, 1, 8, [.nilf], false⟩,
  ⟨(.struct [(3, 0), (3, 1), (3, 2), (3, 3), (9, 4)]), 5, 48, [.int .i64 0, .int .i64 0, .int .i64 0, .int .i64 0, .str []], true⟩,
  ⟨(.struct [(3, 0), (3, 1), (3, 2), (3, 3), (9, 4)]), 5, 48, [.int .i64 0, .int .i64 0, .int .i64 0, .int .i64 0, .str []], true⟩,
  ⟨.func, 1, 8, [.nilf], false⟩,
  ⟨.func, 1, 8, [.nilf], false⟩,
  ⟨(.array 17 9), 17, 272, [.str [], .str [], .str [], .str [], .str [], .str [], .str [], .str [], .str [], .str [], .str [], .str [], .str [], .str [], .str [], .str [], .str []], false⟩,
  ⟨.func, 1, 8, [.nilf], false⟩,
  ⟨.func, 1, 8, [.nilf], false⟩,
  ⟨.func, 1, 8, [.nilf], false⟩,
  ⟨.func, 1, 8, [.nilf], false⟩,
  ⟨.func, 1, 8, [.nilf], false⟩,
  ⟨(.int .u64), 1, 8, [.int .u64 0], false⟩,
  ⟨.func, 1, 8, [.nilf], false⟩,
  ⟨.func, 1, 8, [.nilf], false⟩,
  ⟨.func, 1, 8, [.nilf], false⟩,
  ⟨.func, 1, 8, [.nilf], false⟩,
  ⟨.other, 0, 0, [], false⟩,
  ⟨.other, 0, 0, [], false⟩,
  ⟨.other, 0, 0, [], false⟩,
  ⟨.other, 0, 0, [], false⟩,
  ⟨.other, 0, 0, [], false⟩,
  ⟨.func, 1, 8, [.nilf], false⟩,
  ⟨(.int .u32), 1, 4, [.int .u32 0], false⟩,
  ⟨.other, 0, 0, [], false⟩,
  ⟨.other, 0, 0, [], false⟩,
  ⟨.func, 1, 8, [.nilf], false⟩,
  ⟨(.ptr 5), 1, 8, [.nilp], false⟩,
  ⟨.other, 0, 0, [], false⟩,
  ⟨.other, 0, 0, [], false⟩,
  ⟨.other, 0, 0, [], false⟩,
  ⟨.other, 0, 0, [], false⟩,
  ⟨.other, 0, 0, [], false⟩]
def T (t : Nat) : TD := TL.getD t ⟨.other, 0, 0, [], false⟩
theorem T_1 : T 1 = ⟨.func, 1, 8, [.nilf], false⟩ := rfl
theorem T_2 : T 2 = ⟨(.int .i64), 1, 8, [.int .i64 0], false⟩ := rfl
theorem T_3 : T 3 = ⟨(.int .i64), 1, 8, [.int .i64 0], false⟩ := rfl
theorem T_4 : T 4 = ⟨.bool, 1, 1, [.bool false], false⟩ := rfl
theorem T_5 : T 5 = ⟨(.int .u8), 1, 1, [.int .u8 0], false⟩ := rfl
theorem T_9 : T 9 = ⟨.str, 1, 16, [.str []], false⟩ := rfl
theorem T_12 : T 12 = ⟨(.int .u64), 1, 8, [.int .u64 0], false⟩ := rfl
theorem T_13 : T 13 = ⟨(.struct [(9, 0), (12, 1)]), 2, 24, [.str [], .int .u64 0], false⟩ := rfl
theorem T_19 : T 19 = ⟨(.struct [(17, 0)]), 1, 8, [.nilp], false⟩ := rfl
theorem T_20 : T 20 = ⟨.iface, 1, 16, [.nili], false⟩ := rfl
theorem T_21 : T 21 = ⟨(.int .i32), 1, 4, [.int .i32 0], false⟩ := rfl
theorem T_22 : T 22 = ⟨(.slice 26), 1, 24, [.fslice []], false⟩ := rfl
theorem T_23 : T 23 = ⟨.func, 1, 8, [.nilf], false⟩ := rfl
theorem T_24 : T 24 = ⟨(.slice 3), 1, 24, [.fslice []], false⟩ := rfl
theorem T_25 : T 25 = ⟨(.struct [(9, 0), (9, 1)]), 2, 32, [.str [], .str []], true⟩ := rfl
theorem T_26 : T 26 = ⟨(.struct [(9, 0), (9, 1)]), 2, 32, [.str [], .str []], true⟩ := rfl
theorem T_27 : T 27 = ⟨.func, 1, 8, [.nilf], false⟩ := rfl
theorem T_28 : T 28 = ⟨.func, 1, 8, [.nilf], false⟩ := rfl
theorem T_29 : T 29 = ⟨.func, 1, 8, [.nilf], false⟩ := rfl
theorem T_30 : T 30 = ⟨.func, 1, 8, [.nilf], false⟩ := rfl
theorem T_31 : T 31 = ⟨.func, 1, 8, [.nilf], false⟩ := rfl
theorem T_32 : T 32 = ⟨.func, 1, 8, [.nilf], false⟩ := rfl
theorem T_33 : T 33 = ⟨(.slice 9), 1, 24, [.fslice []], false⟩ := rfl
theorem T_34 : T 34 = ⟨.func, 1, 8, [.nilf], false⟩ := rfl
theorem T_35 : T 35 = ⟨.func, 1, 8, [.nilf], false⟩ := rfl
theorem T_36 : T 36 = ⟨.func, 1, 8, [.nilf], false⟩ := rfl
theorem T_37 : T 37 = ⟨(.slice 48), 1, 24, [.fslice []], false⟩ := rfl
theorem T_38 : T 38 = ⟨(.slice 5), 1, 24, [.fslice []], false⟩ := rfl
theorem T_39 : T 39 = ⟨(.int .i64), 1, 8, [.int .i64 0], false⟩ := rfl
theorem T_41 : T 41 = ⟨.func, 1, 8, [.nilf], false⟩ := rfl
theorem T_42 : T 42 = ⟨.func, 1, 8, [.nilf], false⟩ := rfl
theorem T_43 : T 43 = ⟨.func, 1, 8, [.nilf], false⟩ := rfl
theorem T_45 : T 45 = ⟨.func, 1, 8, [.nilf], false⟩ := rfl
theorem T_46 : T 46 = ⟨.func, 1, 8, [.nilf], false⟩ := rfl
theorem T_47 : T 47 = ⟨(.struct [(3, 0), (3, 1), (3, 2), (3, 3), (9, 4)]), 5, 48, [.int .i64 0, .int .i64 0, .int .i64 0, .int .i64 0, .str []], true⟩ := rfl
theorem T_48 : T 48 = ⟨(.struct [(3, 0), (3, 1), (3, 2), (3, 3), (9, 4)]), 5, 48, [.int .i64 0, .int .i64 0, .int .i64 0, .int .i64 0, .str []], true⟩ := rfl
theorem T_49 : T 49 = ⟨.func, 1, 8, [.nilf], false⟩ := rfl
theorem T_50 : T 50 = ⟨.func, 1, 8, [.nilf], false⟩ := rfl
theorem T_51 : T 51 = ⟨(.array 17 9), 17, 272, [.str [], .str [], .str [], .str [], .str [], .str [], .str [], .str [], .str [], .str [], .str [], .str [], .str [], .str [], .str [], .str [], .str []], false⟩ := rfl
theorem T_52 : T 52 = ⟨.func, 1, 8, [.nilf], false⟩ := rfl
theorem T_53 : T 53 = ⟨.func, 1, 8, [.nilf], false⟩ := rfl
theorem T_54 : T 54 = ⟨.func, 1, 8, [.nilf], false⟩ := rfl
theorem T_55 : T 55 = ⟨.func, 1, 8, [.nilf], false⟩ := rfl
theorem T_56 : T 56 = ⟨.func, 1, 8, [.nilf], false⟩ := rfl
theorem T_57 : T 57 = ⟨(.int .u64), 1, 8, [.int .u64 0], false⟩ := rfl
theorem T_58 : T 58 = ⟨.func, 1, 8, [.nilf], false⟩ := rfl
theorem T_59 : T 59 = ⟨.func, 1, 8, [.nilf], false⟩ := rfl
theorem T_60 : T 60 = ⟨.func, 1, 8, [.nilf], false⟩ := rfl
theorem T_61 : T 61 = ⟨.func, 1, 8, [.nilf], false⟩ := rfl
theorem T_67 : T 67 = ⟨.func, 1, 8, [.nilf], false⟩ := rfl
theorem T_68 : T 68 = ⟨(.int .u32), 1, 4, [.int .u32 0], false⟩ := rfl
theorem T_71 : T 71 = ⟨.func, 1, 8, [.nilf], false⟩ := rfl
theorem T_72 : T 72 = ⟨(.ptr 5), 1, 8, [.nilp], false⟩ := rfl
theorem T_all : (List.range 78).all (fun t => tyCheck Try.prog t (T t)) = true := by kernel_rfl
theorem Tok : TyOK Try.prog T := by
  intro t
  by_cases h : t < 78
  · exact List.all_eq_true.1 T_all t (List.mem_range.2 h)
  · have : T t = ⟨.other, 0, 0, [], false⟩ := by
      unfold T
      have hl : TL.length = 78 := rfl
      rw [List.getD_eq_getElem?_getD, List.getElem?_eq_none (l := TL) (i := t) (by rw [hl]; exact Nat.le_of_not_lt h)]
      rfl
    rw [this]
    rfl
def keep2 (r : Nat) : List Nat := ([[]] : List (List Nat)).getD r []
def keep3 (r : Nat) : List Nat := ([[0, 1], [0, 1, 13], [4], [0, 1, 21], [4], [0, 1, 5, 6], [0, 1, 5, 6, 7], [0, 1, 5, 6, 7, 25], [0, 1, 5, 6, 7], [0, 1, 5, 6, 7, 8], [0, 1, 5, 6, 7, 8, 9], [0, 1, 5, 6, 7, 8, 9, 32], [0, 1, 5, 6, 7, 8, 9], [0, 1, 5, 6, 7, 8, 9, 64], [0, 1, 5, 6, 7, 8, 9], [0, 1, 5, 6, 7], [0, 1, 5, 6, 10], [0, 1, 5, 6, 10, 73], [0, 1, 5, 6, 10], [0, 1, 5, 6, 10, 79], [0, 1, 5, 6, 10], [0, 5, 6, 11], [4]] : List (List Nat)).getD r []
def keep4 (r : Nat) : List Nat := ([[0], [0, 6], [2], [0, 9], [2], [0, 3], [0, 3, 4], [0, 3, 4, 16], [0, 3, 4], [0, 3, 4, 30], [2], [2]] : List (List Nat)).getD r []
def keep5 (r : Nat) : List Nat := ([[0, 1], [0, 1, 9], [4], [0, 1, 12], [0, 1], [0, 1, 5], [0, 1, 5, 6], [0, 1, 5, 6, 18], [0, 1, 5, 6], [0, 1, 5, 6, 25], [0, 1, 5, 6], [1, 5, 7], [4]] : List (List Nat)).getD r []
def keep6 (r : Nat) : List Nat := ([[0, 1], [0, 1, 13], [4], [0, 1, 16], [0, 1], [0, 1, 5], [0, 1, 5, 6], [0, 1, 5, 6, 7], [0, 1, 5, 6, 7, 22], [0, 1, 5, 6, 7], [0, 1, 5, 6, 7, 29], [0, 1, 5, 6, 7, 32], [0, 1, 5, 6, 7], [0, 1, 5, 6, 7], [1, 5, 6], [6, 8, 9], [6, 8, 9, 10], [6, 8, 9, 10, 11], [6, 8, 9, 10, 11, 62], [6, 8, 9, 10, 11], [6, 8, 9, 10, 11, 66], [6, 8, 9, 10, 11], [6, 8, 9, 10, 11], [4]] : List (List Nat)).getD r []
def keep7 (r : Nat) : List Nat := ([[0, 1], [0, 1, 12], [4], [0, 1, 5, 6], [0, 1, 5, 6, 7, 8], [0, 1, 5, 6, 7, 8, 9, 10], [5, 7, 9, 10, 45], [4], [4]] : List (List Nat)).getD r []
def keep8 (r : Nat) : List Nat := ([[0], [0, 10], [2], [0, 3], [0, 3, 4, 5], [0, 3, 4, 5, 6], [0, 3, 4, 5, 6, 19], [0, 3, 4, 5, 6], [0, 3, 4, 5, 6], [0, 4, 5, 7], [0, 4, 5, 7, 29], [0, 4, 5, 7], [0, 4, 5, 7], [0, 5, 8], [0, 5, 8, 39], [0, 5, 8], [0, 5, 8], [2]] : List (List Nat)).getD r []
def keep9 (r : Nat) : List Nat := ([[], [1], [0]] : List (List Nat)).getD r []
def keep10 (r : Nat) : List Nat := ([[0, 1], [0, 1, 5], [0, 1, 5, 9], [0, 1, 5], [0, 1, 5, 17], [4], [4]] : List (List Nat)).getD r []
def keep11 (r : Nat) : List Nat := ([[0, 1], [0, 1, 5], [0, 5, 11, 12, 13], [0, 5, 11, 12, 13, 14], [0, 5, 7, 11, 12, 13], [0, 5, 7, 8, 11, 12, 13], [0, 5, 7, 8, 11, 12, 13, 17, 18, 19], [0, 5, 7, 8, 11, 12, 13, 17, 18, 19, 20], [0, 5, 7, 8, 9, 10, 11, 12, 13, 17, 18, 19], [0, 5, 7, 8, 9, 11, 12, 13, 17, 18, 19, 32], [0, 5, 8, 11, 12, 13], [0, 5, 7, 8, 11, 12, 13, 17, 18, 19], [0, 5, 11, 12, 13], [0, 5, 11, 12, 13], [4]] : List (List Nat)).getD r []
def keep12 (r : Nat) : List Nat := ([[0, 1], [0, 1, 10], [4], [0, 1, 5], [0, 1, 5, 14], [0, 1, 5], [0, 1, 5, 25], [4], [4]] : List (List Nat)).getD r []
def keep13 (r : Nat) : List Nat := ([[0, 1], [0, 1, 5], [1, 5, 8, 9], [1, 5, 8, 9, 10], [1, 5, 6, 8, 9], [1, 5, 6, 8, 9, 15], [1, 5, 8, 9], [1, 5, 8, 9], [4]] : List (List Nat)).getD r []
def keep14 (r : Nat) : List Nat := ([[], [0]] : List (List Nat)).getD r []
def keep15 (r : Nat) : List Nat := ([[0, 1], [0, 1, 10], [4], [0, 1, 5], [0, 1, 5, 14], [0, 1, 5], [0, 1, 5, 25], [4], [4]] : List (List Nat)).getD r []
def keep16 (r : Nat) : List Nat := ([[0, 1], [0, 1], [0, 1, 5], [0, 1, 5, 6], [1, 5, 6, 12, 13, 14], [1, 5, 6, 12, 13, 14, 15], [1, 5, 6, 8, 12, 13, 14], [1, 5, 8, 12, 13, 14], [1, 5, 6, 12, 13, 14], [1, 5, 6, 8, 12, 13, 14, 23], [1, 5, 6, 12, 13, 14], [1, 5, 6, 8, 12, 13, 14, 27], [1, 5, 6, 12, 13, 14], [1, 5, 6, 12, 13, 14], [5, 6, 42], [5], [4]] : List (List Nat)).getD r []
def keep17 (r : Nat) : List Nat := ([[0, 1], [0, 1, 5], [0, 1, 5, 6], [0, 1, 5, 6, 11], [0, 1, 5, 6, 7], [0, 1, 5, 6, 7], [0, 1, 5, 6, 7, 34], [0, 1, 5, 6, 7], [0, 1, 5, 6, 7], [0, 1, 5, 6], [4]] : List (List Nat)).getD r []
def keep18 (r : Nat) : List Nat := ([[], [1, 2], [0]] : List (List Nat)).getD r []
def keep19 (r : Nat) : List Nat := ([[0], [0, 10], [2, 3], [0, 4], [4, 11, 12, 13], [4, 11, 12, 13, 14], [4, 6, 11, 12, 13], [4, 6, 7, 11, 12, 13], [4, 6, 7, 11, 12, 13, 20], [2, 3], [4, 11, 12, 13], [4, 11, 12, 13], [2, 3]] : List (List Nat)).getD r []
def keep20 (r : Nat) : List Nat := ([[], [0]] : List (List Nat)).getD r []
def keep21 (r : Nat) : List Nat := ([[], [1], [0]] : List (List Nat)).getD r []
def keep22 (r : Nat) : List Nat := ([[], [0, 1]] : List (List Nat)).getD r []
def keep23 (r : Nat) : List Nat := ([[0], [2]] : List (List Nat)).getD r []
def keep24 (r : Nat) : List Nat := ([[0], [2]] : List (List Nat)).getD r []
def keep25 (r : Nat) : List Nat := ([[0, 1], [4]] : List (List Nat)).getD r []
def keep26 (r : Nat) : List Nat := ([[0], [2]] : List (List Nat)).getD r []
def keep27 (r : Nat) : List Nat := ([[1], [1, 3], [2], [1, 12], [2], [21], [2], [2]] : List (List Nat)).getD r []
def keep28 (r : Nat) : List Nat := ([[1], [1, 3], [1, 4], [2]] : List (List Nat)).getD r []
def keep29 (r : Nat) : List Nat := ([[0, 1], [0, 1, 5], [0, 1, 5, 12], [4], [0, 1, 5, 6], [0, 1, 5, 6, 19], [0, 1, 5, 6], [0, 1, 5, 6, 7], [0, 1, 5, 6, 7, 29], [0, 1, 5, 6], [0, 1, 5, 6], [0, 5], [4]] : List (List Nat)).getD r []
def keep30 (r : Nat) : List Nat := ([[0], [2]] : List (List Nat)).getD r []
def keep31 (r : Nat) : List Nat := ([[], [0]] : List (List Nat)).getD r []
def keep32 (r : Nat) : List Nat := ([[], [0]] : List (List Nat)).getD r []
def keep33 (r : Nat) : List Nat := ([[0, 1], [4]] : List (List Nat)).getD r []
def keep34 (r : Nat) : List Nat := ([[0, 1], [0, 1, 7, 8], [0, 1, 7, 8, 9], [0, 1, 5, 7, 8], [0, 1, 5, 7, 8, 16], [4], [0, 1, 7, 8], [4]] : List (List Nat)).getD r []
def keep35 (r : Nat) : List Nat := ([[0, 1], [4]] : List (List Nat)).getD r []
def keep36 (r : Nat) : List Nat := ([[0], [2]] : List (List Nat)).getD r []
def keep37 (r : Nat) : List Nat := ([[0, 1], [0, 1, 7, 8], [0, 1, 7, 8, 9], [0, 1, 5, 7, 8], [0, 1, 5, 7, 8, 16], [4], [0, 1, 7, 8], [4]] : List (List Nat)).getD r []
def keep38 (r : Nat) : List Nat := ([[0, 1], [0, 1, 7, 8], [0, 1, 7, 8, 9], [0, 1, 5, 7, 8], [0, 1, 5, 7, 8, 16], [4], [0, 1, 7, 8], [4]] : List (List Nat)).getD r []
def keep39 (r : Nat) : List Nat := ([[0, 1], [0, 1, 7, 8], [0, 1, 7, 8, 9], [0, 1, 5, 7, 8], [0, 1, 5, 7, 8, 16], [4], [0, 1, 7, 8], [4]] : List (List Nat)).getD r []
theorem mixed : Try.prog.follows .mixedOrders = true := by kernel_rfl
end Go.Proofs.Ytimhcdhignamiaa

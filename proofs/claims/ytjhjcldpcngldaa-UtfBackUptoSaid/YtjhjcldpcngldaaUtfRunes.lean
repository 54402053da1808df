/- UtfRunes holds of every two numbers (Said): no condition. Runes of unlike numbers that may be are unlike, and read as one sequence. -/
import Derived.Test.YtjhjcldpcngldaaUtf4
import Derived.Test.YtjhjcldpcngldaaRows
import Derived.ProofKit
import Derived.JoinedCond
set_option linter.unusedSimpArgs false
set_option linter.unusedVariables false
set_option maxRecDepth 100000
set_option maxHeartbeats 1000000
namespace Go.Proofs.Ytjhjcldpcngldaa
open Go Go.EL

mutual
theorem bulk_eq {H : Type} : ∀ d : DataW H, bulk d = Rows.uptoBulk d
  | .lit l => by cases l <;> simp [bulk, Rows.uptoBulk]
  | .nil => by simp [bulk, Rows.uptoBulk]
  | .ptr d => by simp only [bulk, Rows.uptoBulk, bulk_eq d]
  | .slice a b => by simp only [bulk, Rows.uptoBulk, bulkAll_eq a, bulkAll_eq b]
  | .agg ps => by simp only [bulk, Rows.uptoBulk, bulkAll_eq ps]
  | .iface t d => by simp only [bulk, Rows.uptoBulk, bulk_eq d]
  | .map es => by simp only [bulk, Rows.uptoBulk, bulkEntries_eq es]
  | .held _ => by simp [bulk, Rows.uptoBulk]
theorem bulkAll_eq {H : Type} : ∀ l : List (DataW H), bulkAll l = Rows.uptoBulkAll l
  | [] => by simp [bulkAll, Rows.uptoBulkAll]
  | d :: r => by simp only [bulkAll, Rows.uptoBulkAll, bulk_eq d, bulkAll_eq r]
theorem bulkEntries_eq {H : Type} : ∀ l : List (Lit × DataW H), bulkEntries l = Rows.uptoBulkEntries l
  | [] => by simp [bulkEntries, Rows.uptoBulkEntries]
  | d :: r => by simp only [bulkEntries, Rows.uptoBulkEntries, bulkEntry_eq d, bulkEntries_eq r]
theorem bulkEntry_eq {H : Type} : ∀ x : Lit × DataW H, bulkEntry x = Rows.uptoBulkEntry x
  | (k, d) => by cases k <;> simp [bulkEntry, Rows.uptoBulkEntry, bulk_eq d]
end
theorem le_sum {α : Type} (g : α → Nat) : ∀ {l : List α} {x : α}, x ∈ l → g x ≤ (l.map g).sum
  | y :: l, x, h => by
    simp only [List.map_cons, List.sum_cons]
    rcases List.mem_cons.1 h with rfl | h
    · omega
    · have := le_sum g h; omega
theorem len_sum {α : Type} (g : α → Nat) (hg : ∀ x, 1 ≤ g x) : ∀ (l : List α), l.length ≤ (l.map g).sum
  | [] => by simp
  | y :: l => by
    have := len_sum g hg l
    have := hg y
    simp only [List.map_cons, List.sum_cons, List.length_cons]
    omega
theorem own_none : ownKnob Try.prog.godebug = none := by kernel_rfl
theorem laid_out : laidOutB Try.prog = true := by kernel_rfl

theorem bN_toNat {k : Nat} (h : k < 256) : (bN k).toNat = k := by simp [bN]; omega
theorem bN_inj {k k' : Nat} (h : k < 256) (h' : k' < 256) (e : bN k = bN k') : k = k' := by rw [← bN_toNat h, ← bN_toNat h', e]
theorem moreN_lt (m s : Nat) : moreN m s < 192 ∧ 128 ≤ moreN m s := by
  have : m / 2 ^ s % 64 < 64 := Nat.mod_lt _ (by omega)
  unfold moreN
  omega
theorem cont_step {t : List UInt8} {lo hi : Int} {i k : Nat} {c : UInt8} (hc : t[i]? = some c) (h1 : lo ≤ c.toNat) (h2 : (c.toNat : Int) ≤ hi) : contU t lo hi i (k + 1) = contU t 128 191 (i + 1) k := by
  rw [contU, hc]
  simp only
  rw [if_neg (by omega)]
theorem runeM_next (m : Nat) (h1 : 1 ≤ m) (h2 : m ≤ 1114111) (h3 : m < 55296 ∨ 57343 < m) : nextU (runeM m) = ((runeM m).length, true) := by
  have a0 := moreN_lt m 0
  have a6 := moreN_lt m 6
  have a12 := moreN_lt m 12
  have b0 := bN_toNat (k := moreN m 0) (by omega)
  have b6 := bN_toNat (k := moreN m 6) (by omega)
  have b12 := bN_toNat (k := moreN m 12) (by omega)
  unfold runeM
  by_cases c1 : m < 128
  · rw [if_pos c1]
    have hb := bN_toNat (k := m) (by omega)
    simp only [nextU, hb]
    have : leadC (m : Int) = (0, 128, 191) := by unfold leadC; rw [if_pos (by omega)]
    rw [this, if_neg (by decide)]
    rfl
  rw [if_neg c1]
  by_cases c2 : m < 2048
  · rw [if_pos c2]
    have hb := bN_toNat (k := 192 + m / 64) (by omega)
    have : leadC ((192 + m / 64 : Nat) : Int) = (1, 128, 191) := by unfold leadC; rw [if_neg (by omega), if_pos (by omega)]
    simp only [nextU, hb]
    rw [this, if_neg (by decide)]
    show contU _ 128 191 1 1 = _
    rw [cont_step (c := bN (moreN m 0)) rfl (by omega) (by omega)]
    rfl
  rw [if_neg c2]
  by_cases c3 : m < 65536
  · rw [if_pos c3]
    have hb := bN_toNat (k := 224 + m / 4096) (by omega)
    have e6 : moreN m 6 = 128 + m / 64 % 64 := rfl
    obtain ⟨lo, hi, hl, g1, g2⟩ : ∃ lo hi, leadC ((224 + m / 4096 : Nat) : Int) = (2, lo, hi) ∧ lo ≤ (moreN m 6 : Int) ∧ (moreN m 6 : Int) ≤ hi := by
      unfold leadC
      rw [if_neg (by omega), if_neg (by omega)]
      by_cases d1 : m < 4096
      · rw [if_pos (by omega)]; exact ⟨_, _, rfl, by omega, by omega⟩
      rw [if_neg (by omega)]
      by_cases d2 : m / 4096 = 13
      · rw [if_pos (by omega)]; exact ⟨_, _, rfl, by omega, by omega⟩
      rw [if_neg (by omega), if_pos (by omega)]
      exact ⟨_, _, rfl, by omega, by omega⟩
    simp only [nextU, hb]
    rw [hl, if_neg (by simp)]
    show contU _ lo hi 1 2 = _
    rw [cont_step (c := bN (moreN m 6)) rfl (by omega) (by omega), cont_step (c := bN (moreN m 0)) rfl (by omega) (by omega)]
    rfl
  rw [if_neg c3]
  have hb := bN_toNat (k := 240 + m / 262144) (by omega)
  have e12 : moreN m 12 = 128 + m / 4096 % 64 := rfl
  obtain ⟨lo, hi, hl, g1, g2⟩ : ∃ lo hi, leadC ((240 + m / 262144 : Nat) : Int) = (3, lo, hi) ∧ lo ≤ (moreN m 12 : Int) ∧ (moreN m 12 : Int) ≤ hi := by
    unfold leadC
    rw [if_neg (by omega), if_neg (by omega), if_neg (by omega), if_neg (by omega), if_neg (by omega)]
    by_cases d1 : m / 262144 = 0
    · rw [if_pos (by omega)]; exact ⟨_, _, rfl, by omega, by omega⟩
    rw [if_neg (by omega)]
    by_cases d2 : m / 262144 ≤ 3
    · rw [if_pos (by omega)]; exact ⟨_, _, rfl, by omega, by omega⟩
    rw [if_neg (by omega), if_pos (by omega)]
    exact ⟨_, _, rfl, by omega, by omega⟩
  simp only [nextU, hb]
  rw [hl, if_neg (by simp)]
  show contU _ lo hi 1 3 = _
  rw [cont_step (c := bN (moreN m 12)) rfl (by omega) (by omega), cont_step (c := bN (moreN m 6)) rfl (by omega) (by omega), cont_step (c := bN (moreN m 0)) rfl (by omega) (by omega)]
  rfl
theorem runeN_next (n : Int) : nextU (runeN n) = ((runeN n).length, true) := by
  unfold runeN
  by_cases h : badR n
  · rw [if_pos h]; rfl
  · rw [if_neg h]
    unfold badR at h
    exact runeM_next _ (by omega) (by omega) (by omega)
theorem runeN_ne (n : Int) : runeN n ≠ [] := by
  unfold runeN
  split
  · simp
  · unfold runeM
    repeat' split
    all_goals simp
theorem runeN_wlks (n : Int) : (wlks 0 (runeN n)).length = 1 := by
  have h0 := runeN_ne n
  have h1 := runeN_next n
  generalize runeN n = t at *
  cases t with
  | nil => exact absurd rfl h0
  | cons c t =>
    rw [wlks, h1, List.drop_length, wlks]
    rfl
theorem runeM_inj (m m' : Nat) (h : m ≤ 1114111) (h' : m' ≤ 1114111) (e : runeM m = runeM m') : m = m' := by
  have k0 := moreN_lt m 0
  have k6 := moreN_lt m 6
  have k12 := moreN_lt m 12
  have k0' := moreN_lt m' 0
  have k6' := moreN_lt m' 6
  have k12' := moreN_lt m' 12
  have e0 : moreN m 0 = 128 + m / 1 % 64 := rfl
  have e6 : moreN m 6 = 128 + m / 64 % 64 := rfl
  have e12 : moreN m 12 = 128 + m / 4096 % 64 := rfl
  have e0' : moreN m' 0 = 128 + m' / 1 % 64 := rfl
  have e6' : moreN m' 6 = 128 + m' / 64 % 64 := rfl
  have e12' : moreN m' 12 = 128 + m' / 4096 % 64 := rfl
  unfold runeM at e
  (repeat' split at e) <;> simp only [List.cons.injEq, and_true, reduceCtorEq, and_false, false_and] at e
  · exact bN_inj (by omega) (by omega) e
  · obtain ⟨e1, e2⟩ := e
    have := bN_inj (by omega) (by omega) e1
    have := bN_inj (by omega) (by omega) e2
    omega
  · obtain ⟨e1, e2, e3⟩ := e
    have := bN_inj (by omega) (by omega) e1
    have := bN_inj (by omega) (by omega) e2
    have := bN_inj (by omega) (by omega) e3
    omega
  · obtain ⟨e1, e2, e3, e4⟩ := e
    have := bN_inj (by omega) (by omega) e1
    have := bN_inj (by omega) (by omega) e2
    have := bN_inj (by omega) (by omega) e3
    have := bN_inj (by omega) (by omega) e4
    omega
theorem runeN_inj (a b : Int) (ha : ¬ badR a) (hb : ¬ badR b) (e : runeN a = runeN b) : a = b := by
  rw [runeN, if_neg ha, runeN, if_neg hb] at e
  unfold badR at ha hb
  have := runeM_inj _ _ (by omega) (by omega) e
  omega
theorem normR (a : Int) : ∃ A : Int, IntKind.i64.wrap ((IntKind.i64.wrap (a.tmod 1114111 + 1114111)).tmod 1114111 + 1) = A ∧ 1 ≤ A ∧ A ≤ 1114111 := by
  have h1 := Int.tmod_lt_of_pos a (show (0 : Int) < 1114111 by omega)
  have h2 := Int.tmod_lt_of_pos (-a) (show (0 : Int) < 1114111 by omega)
  rw [Int.neg_tmod] at h2
  generalize a.tmod 1114111 = x at *
  rw [wrapI (x := x + 1114111) (by omega)]
  have h3 := Int.tmod_lt_of_pos (x + 1114111) (show (0 : Int) < 1114111 by omega)
  have h4 := Int.tmod_nonneg 1114111 (show 0 ≤ x + 1114111 by omega)
  generalize (x + 1114111).tmod 1114111 = y at *
  rw [wrapI (by omega)]
  exact ⟨_, rfl, by omega, by omega⟩
theorem runeN_odd (A : Int) (h : badR A) : runeN A = [239, 191, 189] := by rw [runeN, if_pos h]
theorem utfRunes (H : List Ob) (a b : Int) : SCall Try.prog 11 [.int .i64 a, .int .i64 b] H (fun r _ => r = .bool true) := by
  refine SCall.of_good fun hH => ?_
  have hHk := HLt.add hH
  refine SCall.of_code Tok Try.func11 rfl Try.call11 (n := 61) rfl (by simp) (rs := [.tmp 4]) rfl ?_
  refine EWn.to ?_
  refine EWn.of_c Tok mixed (own := false) keep11 tab11 (by kernel_rfl) ?_
  (repeat (first | simp -dsimp only [st_run, sz_run, st1_run, cl_run, st_Str, sz_Str, st1_Str, cl_Str, st_c, sz_c, st1_c, cl_c, st_wlk, sz_wlk, st1_wlk, cl_wlk, RB, TB, keep11, tab11, ewOp, xop, xindexAddr, xindex, xslice, xconvert, xlen, drawStep, FreeW, SameW, ChangeW, limBytes, Nat.reduceBEq, Nat.reduceAdd, Nat.reduceEqDiff, Nat.reduceLT, Nat.reduceLeDiff, Nat.reduceMul, Nat.reduceSub, Int.reduceBEq, Int.reduceBNe, Int.reduceToNat, Int.reduceLT, Int.reduceLE, Int.reduceGT, Int.reduceGE, Int.reduceAdd, Int.reduceSub, Int.reduceNeg, Int.reduceEq, Int.toNat_zero, Int.toNat_one, reduceIte, reduceCtorEq, ne_eq, decide_true, decide_false] | ((with_reducible refine Need.intro ?_ ?_); (first | trivial | omega | (simp; done) | (simp; omega)))))
  (first | refine SCall.then (alive02 _) ?_ | refine SCall.thenA (alive02 _) (by repeat (first | exact trivial | exact .inl (.inl rfl) | exact .inl (.inr ⟨_, rfl, rfl⟩) | exact .inl rfl | exact .inr ⟨_, rfl, rfl⟩ | refine .inr ⟨_, _, rfl, rfl, ?_⟩ | refine ⟨?_, ?_⟩)) ?_ | refine CallE.intro _ (alive02 _) ?_ | refine CallE.introA (alive02 _) (by repeat (first | exact trivial | exact .inl (.inl rfl) | exact .inl (.inr ⟨_, rfl, rfl⟩) | exact .inl rfl | exact .inr ⟨_, rfl, rfl⟩ | refine .inr ⟨_, _, rfl, rfl, ?_⟩ | refine ⟨?_, ?_⟩)) ?_ | refine CallE.intro _ (fun _ => alive02 _) ?_ | refine CallE.intro _ (fun _ => SCall.arg (by repeat (first | exact trivial | exact .inl (.inl rfl) | exact .inl (.inr ⟨_, rfl, rfl⟩) | exact .inl rfl | exact .inr ⟨_, rfl, rfl⟩ | refine .inr ⟨_, _, rfl, rfl, ?_⟩ | refine ⟨?_, ?_⟩)) (alive02 _)) ?_ | refine CallE2.intro _ _ (alive02 _) ?_ | refine CallE2.intro _ _ (SCall.arg (by repeat (first | exact trivial | exact .inl (.inl rfl) | exact .inl (.inr ⟨_, rfl, rfl⟩) | exact .inl rfl | exact .inr ⟨_, rfl, rfl⟩ | refine .inr ⟨_, _, rfl, rfl, ?_⟩ | refine ⟨?_, ?_⟩)) (alive02 _)) ?_)
  (repeat (first | simp -dsimp only [st_run, sz_run, st1_run, cl_run, st_Str, sz_Str, st1_Str, cl_Str, st_c, sz_c, st1_c, cl_c, st_wlk, sz_wlk, st1_wlk, cl_wlk, RB, TB, keep11, tab11, ewOp, xop, xindexAddr, xindex, xslice, xconvert, xlen, drawStep, FreeW, SameW, ChangeW, limBytes, Nat.reduceBEq, Nat.reduceAdd, Nat.reduceEqDiff, Nat.reduceLT, Nat.reduceLeDiff, Nat.reduceMul, Nat.reduceSub, Int.reduceBEq, Int.reduceBNe, Int.reduceToNat, Int.reduceLT, Int.reduceLE, Int.reduceGT, Int.reduceGE, Int.reduceAdd, Int.reduceSub, Int.reduceNeg, Int.reduceEq, Int.toNat_zero, Int.toNat_one, reduceIte, reduceCtorEq, ne_eq, decide_true, decide_false] | ((with_reducible refine Need.intro ?_ ?_); (first | trivial | omega | (simp; done) | (simp; omega)))))
  obtain ⟨A, hA, hA1, hA2⟩ := normR a
  obtain ⟨B, hB, hB1, hB2⟩ := normR b
  rw [hA, hB]
  have hn := runeN_next A
  have hw := runeN_wlks A
  have hl : (runeN A).length ≤ 1000000000 := by
    unfold runeN runeM
    repeat' split
    all_goals simp
  (first | refine SCall.then (uRune _ A) ?_ | refine SCall.thenA (uRune _ A) (by repeat (first | exact trivial | exact .inl (.inl rfl) | exact .inl (.inr ⟨_, rfl, rfl⟩) | exact .inl rfl | exact .inr ⟨_, rfl, rfl⟩ | refine .inr ⟨_, _, rfl, rfl, ?_⟩ | refine ⟨?_, ?_⟩)) ?_ | refine CallE.intro _ (uRune _ A) ?_ | refine CallE.introA (uRune _ A) (by repeat (first | exact trivial | exact .inl (.inl rfl) | exact .inl (.inr ⟨_, rfl, rfl⟩) | exact .inl rfl | exact .inr ⟨_, rfl, rfl⟩ | refine .inr ⟨_, _, rfl, rfl, ?_⟩ | refine ⟨?_, ?_⟩)) ?_ | refine CallE.intro _ (fun _ => uRune _ A) ?_ | refine CallE.intro _ (fun _ => SCall.arg (by repeat (first | exact trivial | exact .inl (.inl rfl) | exact .inl (.inr ⟨_, rfl, rfl⟩) | exact .inl rfl | exact .inr ⟨_, rfl, rfl⟩ | refine .inr ⟨_, _, rfl, rfl, ?_⟩ | refine ⟨?_, ?_⟩)) (uRune _ A)) ?_ | refine CallE2.intro _ _ (uRune _ A) ?_ | refine CallE2.intro _ _ (SCall.arg (by repeat (first | exact trivial | exact .inl (.inl rfl) | exact .inl (.inr ⟨_, rfl, rfl⟩) | exact .inl rfl | exact .inr ⟨_, rfl, rfl⟩ | refine .inr ⟨_, _, rfl, rfl, ?_⟩ | refine ⟨?_, ?_⟩)) (uRune _ A)) ?_)
  (repeat (first | simp -dsimp only [st_run, sz_run, st1_run, cl_run, st_Str, sz_Str, st1_Str, cl_Str, st_c, sz_c, st1_c, cl_c, st_wlk, sz_wlk, st1_wlk, cl_wlk, RB, TB, keep11, tab11, ewOp, xop, xindexAddr, xindex, xslice, xconvert, xlen, drawStep, FreeW, SameW, ChangeW, limBytes, Nat.reduceBEq, Nat.reduceAdd, Nat.reduceEqDiff, Nat.reduceLT, Nat.reduceLeDiff, Nat.reduceMul, Nat.reduceSub, Int.reduceBEq, Int.reduceBNe, Int.reduceToNat, Int.reduceLT, Int.reduceLE, Int.reduceGT, Int.reduceGE, Int.reduceAdd, Int.reduceSub, Int.reduceNeg, Int.reduceEq, Int.toNat_zero, Int.toNat_one, reduceIte, reduceCtorEq, ne_eq, decide_true, decide_false] | ((with_reducible refine Need.intro ?_ ?_); (first | trivial | omega | (simp; done) | (simp; omega)))))
  (first | refine SCall.then (uRune _ B) ?_ | refine SCall.thenA (uRune _ B) (by repeat (first | exact trivial | exact .inl (.inl rfl) | exact .inl (.inr ⟨_, rfl, rfl⟩) | exact .inl rfl | exact .inr ⟨_, rfl, rfl⟩ | refine .inr ⟨_, _, rfl, rfl, ?_⟩ | refine ⟨?_, ?_⟩)) ?_ | refine CallE.intro _ (uRune _ B) ?_ | refine CallE.introA (uRune _ B) (by repeat (first | exact trivial | exact .inl (.inl rfl) | exact .inl (.inr ⟨_, rfl, rfl⟩) | exact .inl rfl | exact .inr ⟨_, rfl, rfl⟩ | refine .inr ⟨_, _, rfl, rfl, ?_⟩ | refine ⟨?_, ?_⟩)) ?_ | refine CallE.intro _ (fun _ => uRune _ B) ?_ | refine CallE.intro _ (fun _ => SCall.arg (by repeat (first | exact trivial | exact .inl (.inl rfl) | exact .inl (.inr ⟨_, rfl, rfl⟩) | exact .inl rfl | exact .inr ⟨_, rfl, rfl⟩ | refine .inr ⟨_, _, rfl, rfl, ?_⟩ | refine ⟨?_, ?_⟩)) (uRune _ B)) ?_ | refine CallE2.intro _ _ (uRune _ B) ?_ | refine CallE2.intro _ _ (SCall.arg (by repeat (first | exact trivial | exact .inl (.inl rfl) | exact .inl (.inr ⟨_, rfl, rfl⟩) | exact .inl rfl | exact .inr ⟨_, rfl, rfl⟩ | refine .inr ⟨_, _, rfl, rfl, ?_⟩ | refine ⟨?_, ?_⟩)) (uRune _ B)) ?_)
  (repeat (first | simp -dsimp only [st_run, sz_run, st1_run, cl_run, st_Str, sz_Str, st1_Str, cl_Str, st_c, sz_c, st1_c, cl_c, st_wlk, sz_wlk, st1_wlk, cl_wlk, RB, TB, keep11, tab11, ewOp, xop, xindexAddr, xindex, xslice, xconvert, xlen, drawStep, FreeW, SameW, ChangeW, limBytes, Nat.reduceBEq, Nat.reduceAdd, Nat.reduceEqDiff, Nat.reduceLT, Nat.reduceLeDiff, Nat.reduceMul, Nat.reduceSub, Int.reduceBEq, Int.reduceBNe, Int.reduceToNat, Int.reduceLT, Int.reduceLE, Int.reduceGT, Int.reduceGE, Int.reduceAdd, Int.reduceSub, Int.reduceNeg, Int.reduceEq, Int.toNat_zero, Int.toNat_one, reduceIte, reduceCtorEq, ne_eq, decide_true, decide_false] | ((with_reducible refine Need.intro ?_ ?_); (first | trivial | omega | (simp; done) | (simp; omega)))))
  (first | refine SCall.then (uNext _ (runeN A)) ?_ | refine SCall.thenA (uNext _ (runeN A)) (by repeat (first | exact trivial | exact .inl (.inl rfl) | exact .inl (.inr ⟨_, rfl, rfl⟩) | exact .inl rfl | exact .inr ⟨_, rfl, rfl⟩ | refine .inr ⟨_, _, rfl, rfl, ?_⟩ | refine ⟨?_, ?_⟩)) ?_ | refine CallE.intro _ (uNext _ (runeN A)) ?_ | refine CallE.introA (uNext _ (runeN A)) (by repeat (first | exact trivial | exact .inl (.inl rfl) | exact .inl (.inr ⟨_, rfl, rfl⟩) | exact .inl rfl | exact .inr ⟨_, rfl, rfl⟩ | refine .inr ⟨_, _, rfl, rfl, ?_⟩ | refine ⟨?_, ?_⟩)) ?_ | refine CallE.intro _ (fun _ => uNext _ (runeN A)) ?_ | refine CallE.intro _ (fun _ => SCall.arg (by repeat (first | exact trivial | exact .inl (.inl rfl) | exact .inl (.inr ⟨_, rfl, rfl⟩) | exact .inl rfl | exact .inr ⟨_, rfl, rfl⟩ | refine .inr ⟨_, _, rfl, rfl, ?_⟩ | refine ⟨?_, ?_⟩)) (uNext _ (runeN A))) ?_ | refine CallE2.intro _ _ (uNext _ (runeN A)) ?_ | refine CallE2.intro _ _ (SCall.arg (by repeat (first | exact trivial | exact .inl (.inl rfl) | exact .inl (.inr ⟨_, rfl, rfl⟩) | exact .inl rfl | exact .inr ⟨_, rfl, rfl⟩ | refine .inr ⟨_, _, rfl, rfl, ?_⟩ | refine ⟨?_, ?_⟩)) (uNext _ (runeN A))) ?_)
  (repeat (first | simp -dsimp only [st_run, sz_run, st1_run, cl_run, st_Str, sz_Str, st1_Str, cl_Str, st_c, sz_c, st1_c, cl_c, st_wlk, sz_wlk, st1_wlk, cl_wlk, hn, RB, TB, keep11, tab11, ewOp, xop, xindexAddr, xindex, xslice, xconvert, xlen, drawStep, FreeW, SameW, ChangeW, limBytes, Nat.reduceBEq, Nat.reduceAdd, Nat.reduceEqDiff, Nat.reduceLT, Nat.reduceLeDiff, Nat.reduceMul, Nat.reduceSub, Int.reduceBEq, Int.reduceBNe, Int.reduceToNat, Int.reduceLT, Int.reduceLE, Int.reduceGT, Int.reduceGE, Int.reduceAdd, Int.reduceSub, Int.reduceNeg, Int.reduceEq, Int.toNat_zero, Int.toNat_one, reduceIte, reduceCtorEq, ne_eq, decide_true, decide_false] | ((with_reducible refine Need.intro ?_ ?_); (first | trivial | omega | (simp; done) | (simp; omega)))))
  cases hx : (runeN A == [239, 191, 189])
  · (repeat (first | simp -dsimp only [st_run, sz_run, st1_run, cl_run, st_Str, sz_Str, st1_Str, cl_Str, st_c, sz_c, st1_c, cl_c, st_wlk, sz_wlk, st1_wlk, cl_wlk, hx, RB, TB, keep11, tab11, ewOp, xop, xindexAddr, xindex, xslice, xconvert, xlen, drawStep, FreeW, SameW, ChangeW, limBytes, Nat.reduceBEq, Nat.reduceAdd, Nat.reduceEqDiff, Nat.reduceLT, Nat.reduceLeDiff, Nat.reduceMul, Nat.reduceSub, Int.reduceBEq, Int.reduceBNe, Int.reduceToNat, Int.reduceLT, Int.reduceLE, Int.reduceGT, Int.reduceGE, Int.reduceAdd, Int.reduceSub, Int.reduceNeg, Int.reduceEq, Int.toNat_zero, Int.toNat_one, reduceIte, reduceCtorEq, ne_eq, decide_true, decide_false] | ((with_reducible refine Need.intro ?_ ?_); (first | trivial | omega | (simp; done) | (simp; omega)))))
    cases hy : (runeN B == [239, 191, 189])
    · (repeat (first | simp -dsimp only [st_run, sz_run, st1_run, cl_run, st_Str, sz_Str, st1_Str, cl_Str, st_c, sz_c, st1_c, cl_c, st_wlk, sz_wlk, st1_wlk, cl_wlk, hx, hy, RB, TB, keep11, tab11, ewOp, xop, xindexAddr, xindex, xslice, xconvert, xlen, drawStep, FreeW, SameW, ChangeW, limBytes, Nat.reduceBEq, Nat.reduceAdd, Nat.reduceEqDiff, Nat.reduceLT, Nat.reduceLeDiff, Nat.reduceMul, Nat.reduceSub, Int.reduceBEq, Int.reduceBNe, Int.reduceToNat, Int.reduceLT, Int.reduceLE, Int.reduceGT, Int.reduceGE, Int.reduceAdd, Int.reduceSub, Int.reduceNeg, Int.reduceEq, Int.toNat_zero, Int.toNat_one, reduceIte, reduceCtorEq, ne_eq, decide_true, decide_false] | ((with_reducible refine Need.intro ?_ ?_); (first | trivial | omega | (simp; done) | (simp; omega)))))
      (first | refine SCall.then (uCount _ (runeN A) hl) ?_ | refine SCall.thenA (uCount _ (runeN A) hl) (by repeat (first | exact trivial | exact .inl (.inl rfl) | exact .inl (.inr ⟨_, rfl, rfl⟩) | exact .inl rfl | exact .inr ⟨_, rfl, rfl⟩ | refine .inr ⟨_, _, rfl, rfl, ?_⟩ | refine ⟨?_, ?_⟩)) ?_ | refine CallE.intro _ (uCount _ (runeN A) hl) ?_ | refine CallE.introA (uCount _ (runeN A) hl) (by repeat (first | exact trivial | exact .inl (.inl rfl) | exact .inl (.inr ⟨_, rfl, rfl⟩) | exact .inl rfl | exact .inr ⟨_, rfl, rfl⟩ | refine .inr ⟨_, _, rfl, rfl, ?_⟩ | refine ⟨?_, ?_⟩)) ?_ | refine CallE.intro _ (fun _ => uCount _ (runeN A) hl) ?_ | refine CallE.intro _ (fun _ => SCall.arg (by repeat (first | exact trivial | exact .inl (.inl rfl) | exact .inl (.inr ⟨_, rfl, rfl⟩) | exact .inl rfl | exact .inr ⟨_, rfl, rfl⟩ | refine .inr ⟨_, _, rfl, rfl, ?_⟩ | refine ⟨?_, ?_⟩)) (uCount _ (runeN A) hl)) ?_ | refine CallE2.intro _ _ (uCount _ (runeN A) hl) ?_ | refine CallE2.intro _ _ (SCall.arg (by repeat (first | exact trivial | exact .inl (.inl rfl) | exact .inl (.inr ⟨_, rfl, rfl⟩) | exact .inl rfl | exact .inr ⟨_, rfl, rfl⟩ | refine .inr ⟨_, _, rfl, rfl, ?_⟩ | refine ⟨?_, ?_⟩)) (uCount _ (runeN A) hl)) ?_)
      (repeat (first | simp -dsimp only [st_run, sz_run, st1_run, cl_run, st_Str, sz_Str, st1_Str, cl_Str, st_c, sz_c, st1_c, cl_c, st_wlk, sz_wlk, st1_wlk, cl_wlk, hw, RB, TB, keep11, tab11, ewOp, xop, xindexAddr, xindex, xslice, xconvert, xlen, drawStep, FreeW, SameW, ChangeW, limBytes, Nat.reduceBEq, Nat.reduceAdd, Nat.reduceEqDiff, Nat.reduceLT, Nat.reduceLeDiff, Nat.reduceMul, Nat.reduceSub, Int.reduceBEq, Int.reduceBNe, Int.reduceToNat, Int.reduceLT, Int.reduceLE, Int.reduceGT, Int.reduceGE, Int.reduceAdd, Int.reduceSub, Int.reduceNeg, Int.reduceEq, Int.toNat_zero, Int.toNat_one, reduceIte, reduceCtorEq, ne_eq, decide_true, decide_false] | ((with_reducible refine Need.intro ?_ ?_); (first | trivial | omega | (simp; done) | (simp; omega)))))
      refine RetW.auto0 false _ (by first | rfl | exact (List.append_nil _).symm) ?_ ?_
      · (simp (maxDischargeDepth := 6) [LTB, HLt_set, ltL_take, ltL_drop, ltL_rep, ltL_set, upd, eset, hH, hHk, lt_vi, lt_str, lt_vb, ltc_str, ltc_vi, lt_run, lt1_run, ltc_run, lt_Str, lt1_Str, ltc_Str, lt_c, lt1_c, ltc_c, lt_wlk, lt1_wlk, ltc_wlk] <;> omega)
      (try simp only [wk, wk1, wk0, RB, limBytes, Nat.reduceBEq, Nat.reduceAdd, Nat.reduceEqDiff, Nat.reduceLT, Nat.reduceLeDiff, Nat.reduceMul, Nat.reduceSub, Int.reduceBEq, Int.reduceBNe, Int.reduceToNat, Int.reduceLT, Int.reduceLE, Int.reduceGT, Int.reduceGE, Int.reduceAdd, Int.reduceSub, Int.reduceNeg, Int.reduceEq, Int.toNat_zero, Int.toNat_one, reduceIte, reduceCtorEq, ne_eq, decide_true, decide_false])
      (try (rw [List.take_of_length_le]; rotate_left 1; (· first | (simp; done) | (simp; omega) | omega)))
      have gA : ¬ badR A := fun h => by rw [runeN_odd A h] at hx; simp at hx
      have gB : ¬ badR B := fun h => by rw [runeN_odd B h] at hy; simp at hy
      congr 1
      by_cases e : A = B
      · subst e; simp
      · have : runeN A ≠ runeN B := fun h => e (runeN_inj A B gA gB h)
        rw [beq_false_of_ne this, beq_false_of_ne e]; rfl
    · (repeat (first | simp -dsimp only [st_run, sz_run, st1_run, cl_run, st_Str, sz_Str, st1_Str, cl_Str, st_c, sz_c, st1_c, cl_c, st_wlk, sz_wlk, st1_wlk, cl_wlk, hx, hy, RB, TB, keep11, tab11, ewOp, xop, xindexAddr, xindex, xslice, xconvert, xlen, drawStep, FreeW, SameW, ChangeW, limBytes, Nat.reduceBEq, Nat.reduceAdd, Nat.reduceEqDiff, Nat.reduceLT, Nat.reduceLeDiff, Nat.reduceMul, Nat.reduceSub, Int.reduceBEq, Int.reduceBNe, Int.reduceToNat, Int.reduceLT, Int.reduceLE, Int.reduceGT, Int.reduceGE, Int.reduceAdd, Int.reduceSub, Int.reduceNeg, Int.reduceEq, Int.toNat_zero, Int.toNat_one, reduceIte, reduceCtorEq, ne_eq, decide_true, decide_false] | ((with_reducible refine Need.intro ?_ ?_); (first | trivial | omega | (simp; done) | (simp; omega)))))
      (first | refine SCall.then (uCount _ (runeN A) hl) ?_ | refine SCall.thenA (uCount _ (runeN A) hl) (by repeat (first | exact trivial | exact .inl (.inl rfl) | exact .inl (.inr ⟨_, rfl, rfl⟩) | exact .inl rfl | exact .inr ⟨_, rfl, rfl⟩ | refine .inr ⟨_, _, rfl, rfl, ?_⟩ | refine ⟨?_, ?_⟩)) ?_ | refine CallE.intro _ (uCount _ (runeN A) hl) ?_ | refine CallE.introA (uCount _ (runeN A) hl) (by repeat (first | exact trivial | exact .inl (.inl rfl) | exact .inl (.inr ⟨_, rfl, rfl⟩) | exact .inl rfl | exact .inr ⟨_, rfl, rfl⟩ | refine .inr ⟨_, _, rfl, rfl, ?_⟩ | refine ⟨?_, ?_⟩)) ?_ | refine CallE.intro _ (fun _ => uCount _ (runeN A) hl) ?_ | refine CallE.intro _ (fun _ => SCall.arg (by repeat (first | exact trivial | exact .inl (.inl rfl) | exact .inl (.inr ⟨_, rfl, rfl⟩) | exact .inl rfl | exact .inr ⟨_, rfl, rfl⟩ | refine .inr ⟨_, _, rfl, rfl, ?_⟩ | refine ⟨?_, ?_⟩)) (uCount _ (runeN A) hl)) ?_ | refine CallE2.intro _ _ (uCount _ (runeN A) hl) ?_ | refine CallE2.intro _ _ (SCall.arg (by repeat (first | exact trivial | exact .inl (.inl rfl) | exact .inl (.inr ⟨_, rfl, rfl⟩) | exact .inl rfl | exact .inr ⟨_, rfl, rfl⟩ | refine .inr ⟨_, _, rfl, rfl, ?_⟩ | refine ⟨?_, ?_⟩)) (uCount _ (runeN A) hl)) ?_)
      (repeat (first | simp -dsimp only [st_run, sz_run, st1_run, cl_run, st_Str, sz_Str, st1_Str, cl_Str, st_c, sz_c, st1_c, cl_c, st_wlk, sz_wlk, st1_wlk, cl_wlk, hw, RB, TB, keep11, tab11, ewOp, xop, xindexAddr, xindex, xslice, xconvert, xlen, drawStep, FreeW, SameW, ChangeW, limBytes, Nat.reduceBEq, Nat.reduceAdd, Nat.reduceEqDiff, Nat.reduceLT, Nat.reduceLeDiff, Nat.reduceMul, Nat.reduceSub, Int.reduceBEq, Int.reduceBNe, Int.reduceToNat, Int.reduceLT, Int.reduceLE, Int.reduceGT, Int.reduceGE, Int.reduceAdd, Int.reduceSub, Int.reduceNeg, Int.reduceEq, Int.toNat_zero, Int.toNat_one, reduceIte, reduceCtorEq, ne_eq, decide_true, decide_false] | ((with_reducible refine Need.intro ?_ ?_); (first | trivial | omega | (simp; done) | (simp; omega)))))
      refine RetW.auto0 false _ (by first | rfl | exact (List.append_nil _).symm) ?_ ?_
      · (simp (maxDischargeDepth := 6) [LTB, HLt_set, ltL_take, ltL_drop, ltL_rep, ltL_set, upd, eset, hH, hHk, lt_vi, lt_str, lt_vb, ltc_str, ltc_vi, lt_run, lt1_run, ltc_run, lt_Str, lt1_Str, ltc_Str, lt_c, lt1_c, ltc_c, lt_wlk, lt1_wlk, ltc_wlk] <;> omega)
      (try simp only [wk, wk1, wk0, RB, limBytes, Nat.reduceBEq, Nat.reduceAdd, Nat.reduceEqDiff, Nat.reduceLT, Nat.reduceLeDiff, Nat.reduceMul, Nat.reduceSub, Int.reduceBEq, Int.reduceBNe, Int.reduceToNat, Int.reduceLT, Int.reduceLE, Int.reduceGT, Int.reduceGE, Int.reduceAdd, Int.reduceSub, Int.reduceNeg, Int.reduceEq, Int.toNat_zero, Int.toNat_one, reduceIte, reduceCtorEq, ne_eq, decide_true, decide_false])
      (try (rw [List.take_of_length_le]; rotate_left 1; (· first | (simp; done) | (simp; omega) | omega)))
  · (repeat (first | simp -dsimp only [st_run, sz_run, st1_run, cl_run, st_Str, sz_Str, st1_Str, cl_Str, st_c, sz_c, st1_c, cl_c, st_wlk, sz_wlk, st1_wlk, cl_wlk, hx, RB, TB, keep11, tab11, ewOp, xop, xindexAddr, xindex, xslice, xconvert, xlen, drawStep, FreeW, SameW, ChangeW, limBytes, Nat.reduceBEq, Nat.reduceAdd, Nat.reduceEqDiff, Nat.reduceLT, Nat.reduceLeDiff, Nat.reduceMul, Nat.reduceSub, Int.reduceBEq, Int.reduceBNe, Int.reduceToNat, Int.reduceLT, Int.reduceLE, Int.reduceGT, Int.reduceGE, Int.reduceAdd, Int.reduceSub, Int.reduceNeg, Int.reduceEq, Int.toNat_zero, Int.toNat_one, reduceIte, reduceCtorEq, ne_eq, decide_true, decide_false] | ((with_reducible refine Need.intro ?_ ?_); (first | trivial | omega | (simp; done) | (simp; omega)))))
    (first | refine SCall.then (uCount _ (runeN A) hl) ?_ | refine SCall.thenA (uCount _ (runeN A) hl) (by repeat (first | exact trivial | exact .inl (.inl rfl) | exact .inl (.inr ⟨_, rfl, rfl⟩) | exact .inl rfl | exact .inr ⟨_, rfl, rfl⟩ | refine .inr ⟨_, _, rfl, rfl, ?_⟩ | refine ⟨?_, ?_⟩)) ?_ | refine CallE.intro _ (uCount _ (runeN A) hl) ?_ | refine CallE.introA (uCount _ (runeN A) hl) (by repeat (first | exact trivial | exact .inl (.inl rfl) | exact .inl (.inr ⟨_, rfl, rfl⟩) | exact .inl rfl | exact .inr ⟨_, rfl, rfl⟩ | refine .inr ⟨_, _, rfl, rfl, ?_⟩ | refine ⟨?_, ?_⟩)) ?_ | refine CallE.intro _ (fun _ => uCount _ (runeN A) hl) ?_ | refine CallE.intro _ (fun _ => SCall.arg (by repeat (first | exact trivial | exact .inl (.inl rfl) | exact .inl (.inr ⟨_, rfl, rfl⟩) | exact .inl rfl | exact .inr ⟨_, rfl, rfl⟩ | refine .inr ⟨_, _, rfl, rfl, ?_⟩ | refine ⟨?_, ?_⟩)) (uCount _ (runeN A) hl)) ?_ | refine CallE2.intro _ _ (uCount _ (runeN A) hl) ?_ | refine CallE2.intro _ _ (SCall.arg (by repeat (first | exact trivial | exact .inl (.inl rfl) | exact .inl (.inr ⟨_, rfl, rfl⟩) | exact .inl rfl | exact .inr ⟨_, rfl, rfl⟩ | refine .inr ⟨_, _, rfl, rfl, ?_⟩ | refine ⟨?_, ?_⟩)) (uCount _ (runeN A) hl)) ?_)
    (repeat (first | simp -dsimp only [st_run, sz_run, st1_run, cl_run, st_Str, sz_Str, st1_Str, cl_Str, st_c, sz_c, st1_c, cl_c, st_wlk, sz_wlk, st1_wlk, cl_wlk, hw, RB, TB, keep11, tab11, ewOp, xop, xindexAddr, xindex, xslice, xconvert, xlen, drawStep, FreeW, SameW, ChangeW, limBytes, Nat.reduceBEq, Nat.reduceAdd, Nat.reduceEqDiff, Nat.reduceLT, Nat.reduceLeDiff, Nat.reduceMul, Nat.reduceSub, Int.reduceBEq, Int.reduceBNe, Int.reduceToNat, Int.reduceLT, Int.reduceLE, Int.reduceGT, Int.reduceGE, Int.reduceAdd, Int.reduceSub, Int.reduceNeg, Int.reduceEq, Int.toNat_zero, Int.toNat_one, reduceIte, reduceCtorEq, ne_eq, decide_true, decide_false] | ((with_reducible refine Need.intro ?_ ?_); (first | trivial | omega | (simp; done) | (simp; omega)))))
    refine RetW.auto0 false _ (by first | rfl | exact (List.append_nil _).symm) ?_ ?_
    · (simp (maxDischargeDepth := 6) [LTB, HLt_set, ltL_take, ltL_drop, ltL_rep, ltL_set, upd, eset, hH, hHk, lt_vi, lt_str, lt_vb, ltc_str, ltc_vi, lt_run, lt1_run, ltc_run, lt_Str, lt1_Str, ltc_Str, lt_c, lt1_c, ltc_c, lt_wlk, lt1_wlk, ltc_wlk] <;> omega)
    (try simp only [wk, wk1, wk0, RB, limBytes, Nat.reduceBEq, Nat.reduceAdd, Nat.reduceEqDiff, Nat.reduceLT, Nat.reduceLeDiff, Nat.reduceMul, Nat.reduceSub, Int.reduceBEq, Int.reduceBNe, Int.reduceToNat, Int.reduceLT, Int.reduceLE, Int.reduceGT, Int.reduceGE, Int.reduceAdd, Int.reduceSub, Int.reduceNeg, Int.reduceEq, Int.toNat_zero, Int.toNat_one, reduceIte, reduceCtorEq, ne_eq, decide_true, decide_false])
    (try (rw [List.take_of_length_le]; rotate_left 1; (· first | (simp; done) | (simp; omega) | omega)))
open Go.ChangeShapes Go.WideShapes Go.ChangeAt Go.RowKit in
theorem utfRunes_lifted (os : Os) (started : os.Started) (H : Type) (enc : TypeId × Value → H) :
    ReturnsInHanded {} Try.checked os 11 .any (Rows.utfRunesSpec.pre6 enc Try.prog Try.f11 Rows.utfRunesRow.domain false) (Rows.utfRunesSpec.post enc Try.prog Try.f11 false true false false) := by
  refine returnsInHanded_of_change (C := Try.checked) own_none started (by kernel_rfl) Try.func11
    (ChangeSpec.witness6 (enc := enc) (C := Try.checked) false ⟨#[], #[.int .i64 0, .int .i64 0], []⟩ 8 (by kernel_rfl) (by kernel_rfl) (by kernel_rfl) (by kernel_rfl)) ?_
  intro W base args ds gs before hval0 hW hcnd _
  have hval : ∀ (j : Nat) t v, Try.f11.params[j]? = some t → args[j]? = some v → Value.okWide Try.prog W .any base t v := hval0
  obtain ⟨p0_, q0_, hA, _⟩ := id hW
  have hA0 : DataW.TrodAll enc Try.prog W 0 (fun _ => true) true Try.f11.params.toList args.toList ds p0_ := hA
  rw [Try.params11] at hA0 hval
  obtain ⟨v0, v1, d0, d1, p0, p1, rfl, rfl, rfl, h0, h1⟩ := trodAll_two hA0
  obtain ⟨a, hp_a, hz_a, hv_a⟩ := (Dec.int Try.underlying3).value h0 (fun _ => okAgg_leaf (by simp) (ok_int Try.underlying3 (hval 0 3 v0 rfl rfl)))
  obtain ⟨b, hp_b, hz_b, hv_b⟩ := (Dec.int Try.underlying3).value h1 (fun _ => okAgg_leaf (by simp) (ok_int Try.underlying3 (hval 1 3 v1 rfl rfl)))
  exact row_contract (P := Try.prog) (s := Rows.utfRunesSpec) (vs := [.int .i64 a, .int .i64 b]) laid_out (by kernel_rfl) rfl Try.call11 rfl Try.underlying4 hW ⟨rfl, rfl, rfl⟩ ⟨hv_a, hv_b, trivial⟩ (utfRunes [] a b)
theorem utfRunes_holds : Rows.UtfRunesSaid :=
  OpenClaim.holds_of_wide 11 Try.f11 rfl rfl rfl rfl rfl rfl rfl ⟨rfl, rfl, rfl, rfl, rfl⟩ rfl rfl rfl rfl rfl (by kernel_rfl) Try.func11 (by kernel_rfl)
    (of_decide_eq_true (by kernel_rfl)) (by unfold Func.isWrapper; first | (rw [if_neg (by decide +kernel)]; exact ⟨rfl, rfl⟩) | (rw [if_pos (by decide +kernel)]; kernel_rfl))
    (fun os started H enc _ => utfRunes_lifted os started H enc)
end Go.Proofs.Ytjhjcldpcngldaa

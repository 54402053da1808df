/- The walks of package allow. -/
import Derived.Test.YtadhjfdmfdgppaaET
set_option linter.unusedSimpArgs false
set_option linter.unusedVariables false
set_option maxRecDepth 100000
namespace Go.Proofs.Ytadhjfdmfdgppaa
open Go Go.EL
theorem lt_vi (n : Nat) (l : List Int) : ltL n (l.map vi) := ltL_map (f := vi) (fun _ => trivial) l
theorem lt_str (n : Nat) (l : List (List UInt8)) : ltL n (l.map V.str) := ltL_map (f := V.str) (fun _ => trivial) l
theorem lt_vb (n : Nat) (l : List UInt8) : ltL n (l.map vb) := ltL_map (f := vb) (fun _ => trivial) l
theorem wrapI {x : Int} (h : -9223372036854775808 ≤ x ∧ x ≤ 9223372036854775807) : IntKind.i64.wrap x = x := wrap64_id h
theorem ge_of {a b : Nat} (h : decide ((a : Int) < b) = false) : b ≤ a := by have := of_decide_eq_false h; omega
theorem lt_of {a b : Nat} (h : decide ((a : Int) < b) = true) : a < b := by have := of_decide_eq_true h; omega
/-- the place of the first one; -1: none -/
def ix {α : Type} (p : α → Bool) (l : List α) : Int := if l.findIdx p < l.length then (l.findIdx p : Nat) else -1
theorem ix_hit {α : Type} {p : α → Bool} {l : List α} {i : Nat} (h : i < l.length) (hp : p l[i] = true) (hn : ∀ x ∈ l.take i, p x = false) : ix p l = i := by
  have : l.findIdx p = i := by
    rw [List.findIdx_eq h]
    refine ⟨hp, fun j hj => ?_⟩
    exact hn _ (List.mem_take_iff_getElem.2 ⟨j, by omega, rfl⟩)
  rw [ix, this, if_pos h]
theorem ix_none {α : Type} {p : α → Bool} {l : List α} (hn : ∀ x ∈ l, p x = false) : ix p l = -1 := by
  rw [ix, if_neg]
  rw [List.findIdx_lt_length]
  rintro ⟨x, hx, h⟩
  rw [hn x hx] at h
  cases h
theorem ix_nonneg {α : Type} {p : α → Bool} {l : List α} : 0 ≤ ix p l ↔ ∃ x ∈ l, p x = true := by
  unfold ix
  by_cases h : l.findIdx p < l.length
  · rw [if_pos h]; exact ⟨fun _ => List.findIdx_lt_length.1 h, fun _ => by omega⟩
  · rw [if_neg h]; exact ⟨fun h => by omega, fun h' => absurd (List.findIdx_lt_length.2 h') h⟩
theorem ix_any {α : Type} {p : α → Bool} {l : List α} : decide (0 ≤ ix p l) = l.any p := by
  rw [Bool.eq_iff_iff, decide_eq_true_iff, ix_nonneg, List.any_eq_true]
theorem take_step {α : Type} {q : α → Prop} {l : List α} {i : Nat} (h : i < l.length) (hq : q l[i]) (hn : ∀ x ∈ l.take i, q x) : ∀ x ∈ l.take (i + 1), q x := by
  intro x hx
  rw [List.take_succ_eq_append_getElem h] at hx
  rcases List.mem_append.1 hx with hx | hx
  · exact hn x hx
  · rw [List.mem_singleton.1 hx]; exact hq
theorem take_all {α : Type} {q : α → Prop} {l : List α} {i : Nat} (h : l.length ≤ i) (hn : ∀ x ∈ l.take i, q x) : ∀ x ∈ l, q x := by
  rwa [List.take_of_length_le h] at hn
theorem isE {α : Type} {l : List α} (h : l ≠ []) : l.isEmpty = false := by cases l <;> simp_all

theorem index_str (H : List Ob) (l : List (List UInt8)) (v : List UInt8) : SCall Try.prog 92 [.slice (l.map V.str), .str v] H (fun r H' => r = .int .i64 (ix (fun x => v == x) l) ∧ H' = H) := by
  refine SCall.sized 0 rfl fun hl => ?_
  rw [List.length_map, maxLen_eq] at hl
  refine SCall.of_good fun hH => ?_
  have hHk := HLt.add hH
  refine SCall.of_code Tok Try.func92 rfl Try.call92 (n := 19) rfl (by simp) (rs := [.tmp 4]) rfl ?_
  refine EW.of_c Tok mixed (own := false) keep92 tab92 (by kernel_rfl) ?_
  (repeat (first | simp -dsimp only [RB, TB, keep92, tab92, ewOp, xop, xindexAddr, xindex, xslice, xconvert, xlen, drawStep, FreeW, SameW, ChangeW, limBytes, Nat.reduceAdd, Nat.reduceEqDiff, Nat.reduceLT, Nat.reduceLeDiff, Nat.reduceMul, Nat.reduceSub, Int.reduceBEq, Int.reduceBNe, Int.reduceToNat, Int.reduceLT, Int.reduceLE, Int.reduceGT, Int.reduceGE, Int.reduceAdd, Int.reduceSub, Int.reduceNeg, Int.reduceEq, Int.toNat_zero, Int.toNat_one, reduceIte, reduceCtorEq, ne_eq, decide_true, decide_false] | ((with_reducible refine Need.intro ?_ ?_); (first | trivial | omega | (simp; done) | (simp; omega)))))
  refine EW.loopE (ι := (Nat)) (fun (i : (Nat)) => i ≤ l.length ∧ ∀ x ∈ l.take i, (v == x) = false) (fun (i : (Nat)) => l.length - i) (fun (i : (Nat)) => [(8, .int .i64 i)]) (fun (i : (Nat)) => H) (0) ?_ ?_ ?_ ?_ ?_
  · first | rfl | simp [upd, eset]
  · first | rfl | (simp; done) | exact (set_same (by assumption)).symm
  · rintro i hok; exact ⟨by simp, by (simp (maxDischargeDepth := 6) [LTB, HLt_set, ltL_take, ltL_drop, ltL_rep, upd, eset, *, lt_vi, lt_str, lt_vb] <;> omega), by (simp (maxDischargeDepth := 6) [LTB, HLt_set, ltL_take, ltL_drop, ltL_rep, upd, eset, *, lt_vi, lt_str, lt_vb] <;> omega)⟩
  · simp
  rintro i ⟨hi, hno⟩
  refine EW.of_c Tok mixed (own := false) keep92 tab92 (by kernel_rfl) ?_
  (repeat (first | simp -dsimp only [RB, TB, keep92, tab92, ewOp, xop, xindexAddr, xindex, xslice, xconvert, xlen, drawStep, FreeW, SameW, ChangeW, limBytes, Nat.reduceAdd, Nat.reduceEqDiff, Nat.reduceLT, Nat.reduceLeDiff, Nat.reduceMul, Nat.reduceSub, Int.reduceBEq, Int.reduceBNe, Int.reduceToNat, Int.reduceLT, Int.reduceLE, Int.reduceGT, Int.reduceGE, Int.reduceAdd, Int.reduceSub, Int.reduceNeg, Int.reduceEq, Int.toNat_zero, Int.toNat_one, reduceIte, reduceCtorEq, ne_eq, decide_true, decide_false] | ((with_reducible refine Need.intro ?_ ?_); (first | trivial | omega | (simp; done) | (simp; omega)))))
  refine IfW.intro (fun h => ?_) (fun h => ?_)
  · have hlt := lt_of h
    (repeat (first | simp -dsimp only [h, at_map V.str l i hlt, V.str, RB, TB, keep92, tab92, ewOp, xop, xindexAddr, xindex, xslice, xconvert, xlen, drawStep, FreeW, SameW, ChangeW, limBytes, Nat.reduceAdd, Nat.reduceEqDiff, Nat.reduceLT, Nat.reduceLeDiff, Nat.reduceMul, Nat.reduceSub, Int.reduceBEq, Int.reduceBNe, Int.reduceToNat, Int.reduceLT, Int.reduceLE, Int.reduceGT, Int.reduceGE, Int.reduceAdd, Int.reduceSub, Int.reduceNeg, Int.reduceEq, Int.toNat_zero, Int.toNat_one, reduceIte, reduceCtorEq, ne_eq, decide_true, decide_false] | ((with_reducible refine Need.intro ?_ ?_); (first | trivial | omega | (simp; done) | (simp; omega)))))
    refine IfW.intro (fun hb => ?_) (fun hb => ?_)
    · (repeat (first | simp -dsimp only [hb, RB, TB, keep92, tab92, ewOp, xop, xindexAddr, xindex, xslice, xconvert, xlen, drawStep, FreeW, SameW, ChangeW, limBytes, Nat.reduceAdd, Nat.reduceEqDiff, Nat.reduceLT, Nat.reduceLeDiff, Nat.reduceMul, Nat.reduceSub, Int.reduceBEq, Int.reduceBNe, Int.reduceToNat, Int.reduceLT, Int.reduceLE, Int.reduceGT, Int.reduceGE, Int.reduceAdd, Int.reduceSub, Int.reduceNeg, Int.reduceEq, Int.toNat_zero, Int.toNat_one, reduceIte, reduceCtorEq, ne_eq, decide_true, decide_false] | ((with_reducible refine Need.intro ?_ ?_); (first | trivial | omega | (simp; done) | (simp; omega)))))
      refine RetW.auto0 false _ (by first | rfl | exact (List.append_nil _).symm) ?_ ?_
      · (simp (maxDischargeDepth := 6) [LTB, HLt_set, ltL_take, ltL_drop, ltL_rep, upd, eset, *, lt_vi, lt_str, lt_vb] <;> omega)
      (try simp only [wk, wk1, wk0, RB, limBytes, Nat.reduceAdd, Nat.reduceEqDiff, Nat.reduceLT, Nat.reduceLeDiff, Nat.reduceMul, Nat.reduceSub, Int.reduceBEq, Int.reduceBNe, Int.reduceToNat, Int.reduceLT, Int.reduceLE, Int.reduceGT, Int.reduceGE, Int.reduceAdd, Int.reduceSub, Int.reduceNeg, Int.reduceEq, Int.toNat_zero, Int.toNat_one, reduceIte, reduceCtorEq, ne_eq, decide_true, decide_false])
      (try (rw [List.take_of_length_le]; rotate_left 1; (· first | (simp; done) | (simp; omega) | omega)))
      rw [ix_hit hlt hb hno]
    · (repeat (first | simp -dsimp only [hb, RB, TB, keep92, tab92, ewOp, xop, xindexAddr, xindex, xslice, xconvert, xlen, drawStep, FreeW, SameW, ChangeW, limBytes, Nat.reduceAdd, Nat.reduceEqDiff, Nat.reduceLT, Nat.reduceLeDiff, Nat.reduceMul, Nat.reduceSub, Int.reduceBEq, Int.reduceBNe, Int.reduceToNat, Int.reduceLT, Int.reduceLE, Int.reduceGT, Int.reduceGE, Int.reduceAdd, Int.reduceSub, Int.reduceNeg, Int.reduceEq, Int.toNat_zero, Int.toNat_one, reduceIte, reduceCtorEq, ne_eq, decide_true, decide_false] | ((with_reducible refine Need.intro ?_ ?_); (first | trivial | omega | (simp; done) | (simp; omega)))))
      rw [wrapI (by omega)]
      refine UpTo.here ⟨(i + 1), ?_, by first | omega | (simp only [List.length_append, List.length_cons, List.length_nil]; omega), by simp [upd, eset], ⟨_, by simp; try rfl⟩⟩
      exact ⟨hlt, take_step hlt hb hno⟩
  · (repeat (first | simp -dsimp only [h, RB, TB, keep92, tab92, ewOp, xop, xindexAddr, xindex, xslice, xconvert, xlen, drawStep, FreeW, SameW, ChangeW, limBytes, Nat.reduceAdd, Nat.reduceEqDiff, Nat.reduceLT, Nat.reduceLeDiff, Nat.reduceMul, Nat.reduceSub, Int.reduceBEq, Int.reduceBNe, Int.reduceToNat, Int.reduceLT, Int.reduceLE, Int.reduceGT, Int.reduceGE, Int.reduceAdd, Int.reduceSub, Int.reduceNeg, Int.reduceEq, Int.toNat_zero, Int.toNat_one, reduceIte, reduceCtorEq, ne_eq, decide_true, decide_false] | ((with_reducible refine Need.intro ?_ ?_); (first | trivial | omega | (simp; done) | (simp; omega)))))
    refine RetW.auto0 false _ (by first | rfl | exact (List.append_nil _).symm) ?_ ?_
    · (simp (maxDischargeDepth := 6) [LTB, HLt_set, ltL_take, ltL_drop, ltL_rep, upd, eset, *, lt_vi, lt_str, lt_vb] <;> omega)
    (try simp only [wk, wk1, wk0, RB, limBytes, Nat.reduceAdd, Nat.reduceEqDiff, Nat.reduceLT, Nat.reduceLeDiff, Nat.reduceMul, Nat.reduceSub, Int.reduceBEq, Int.reduceBNe, Int.reduceToNat, Int.reduceLT, Int.reduceLE, Int.reduceGT, Int.reduceGE, Int.reduceAdd, Int.reduceSub, Int.reduceNeg, Int.reduceEq, Int.toNat_zero, Int.toNat_one, reduceIte, reduceCtorEq, ne_eq, decide_true, decide_false])
    (try (rw [List.take_of_length_le]; rotate_left 1; (· first | (simp; done) | (simp; omega) | omega)))
    rw [ix_none (take_all (ge_of h) hno)]
theorem contains_str (H : List Ob) (l : List (List UInt8)) (v : List UInt8) : SCall Try.prog 70 [.slice (l.map V.str), .str v] H (fun r H' => r = .bool (decide (v ∈ l)) ∧ H' = H) := by
  refine SCall.of_good fun hH => ?_
  have hHk := HLt.add hH
  refine SCall.of_code Tok Try.func70 rfl Try.call70 (n := 9) rfl (by simp) (rs := [.tmp 4]) rfl ?_
  refine EW.of_c Tok mixed (own := false) keep70 tab70 (by kernel_rfl) ?_
  (repeat (first | simp -dsimp only [RB, TB, keep70, tab70, ewOp, xop, xindexAddr, xindex, xslice, xconvert, xlen, drawStep, FreeW, SameW, ChangeW, limBytes, Nat.reduceAdd, Nat.reduceEqDiff, Nat.reduceLT, Nat.reduceLeDiff, Nat.reduceMul, Nat.reduceSub, Int.reduceBEq, Int.reduceBNe, Int.reduceToNat, Int.reduceLT, Int.reduceLE, Int.reduceGT, Int.reduceGE, Int.reduceAdd, Int.reduceSub, Int.reduceNeg, Int.reduceEq, Int.toNat_zero, Int.toNat_one, reduceIte, reduceCtorEq, ne_eq, decide_true, decide_false] | ((with_reducible refine Need.intro ?_ ?_); (first | trivial | omega | (simp; done) | (simp; omega)))))
  (first | refine SCall.then (index_str _ l v) ?_ | refine SCall.thenA (index_str _ l v) (by repeat (first | exact trivial | exact .inl rfl | exact .inr ⟨_, rfl, rfl⟩ | refine ⟨?_, ?_⟩)) ?_ | refine CallE.intro _ (index_str _ l v) ?_ | refine CallE.introA (index_str _ l v) (by repeat (first | exact trivial | exact .inl rfl | exact .inr ⟨_, rfl, rfl⟩ | refine ⟨?_, ?_⟩)) ?_)
  (repeat (first | simp -dsimp only [RB, TB, keep70, tab70, ewOp, xop, xindexAddr, xindex, xslice, xconvert, xlen, drawStep, FreeW, SameW, ChangeW, limBytes, Nat.reduceAdd, Nat.reduceEqDiff, Nat.reduceLT, Nat.reduceLeDiff, Nat.reduceMul, Nat.reduceSub, Int.reduceBEq, Int.reduceBNe, Int.reduceToNat, Int.reduceLT, Int.reduceLE, Int.reduceGT, Int.reduceGE, Int.reduceAdd, Int.reduceSub, Int.reduceNeg, Int.reduceEq, Int.toNat_zero, Int.toNat_one, reduceIte, reduceCtorEq, ne_eq, decide_true, decide_false] | ((with_reducible refine Need.intro ?_ ?_); (first | trivial | omega | (simp; done) | (simp; omega)))))
  refine RetW.auto0 false _ (by first | rfl | exact (List.append_nil _).symm) ?_ ?_
  · (simp (maxDischargeDepth := 6) [LTB, HLt_set, ltL_take, ltL_drop, ltL_rep, upd, eset, *, lt_vi, lt_str, lt_vb] <;> omega)
  (try simp only [wk, wk1, wk0, RB, limBytes, Nat.reduceAdd, Nat.reduceEqDiff, Nat.reduceLT, Nat.reduceLeDiff, Nat.reduceMul, Nat.reduceSub, Int.reduceBEq, Int.reduceBNe, Int.reduceToNat, Int.reduceLT, Int.reduceLE, Int.reduceGT, Int.reduceGE, Int.reduceAdd, Int.reduceSub, Int.reduceNeg, Int.reduceEq, Int.toNat_zero, Int.toNat_one, reduceIte, reduceCtorEq, ne_eq, decide_true, decide_false])
  (try (rw [List.take_of_length_le]; rotate_left 1; (· first | (simp; done) | (simp; omega) | omega)))
  rw [show (decide (ix (fun x => v == x) l ≥ 0)) = decide (0 ≤ ix (fun x => v == x) l) from rfl, ix_any]
  congr 1
  rw [Bool.eq_iff_iff]
  simp
theorem contains_str_vec (H : List Ob) (l : List (List UInt8)) (v : List UInt8) (o ver es n : Nat) (ho : H[o]? = some (.vec ver es (l.map V.str))) (hn : n = l.length) : SCall Try.prog 70 [.vec o ver 0 n, .str v] H (fun r H' => r = .bool (decide (v ∈ l)) ∧ H' = H) := by
  subst hn
  refine SCall.borrow (args' := [.slice (l.map V.str), .str v]) ⟨⟨es, _, ho, by simp, by rw [List.drop_zero, ← List.length_map (f := V.str), List.take_length], lt_str _ _⟩, ⟨rfl, by first | trivial | simp [V.lt, ltL]⟩, trivial⟩ ?_
  refine (contains_str [] l v).mono ?_
  rintro r H' ⟨rfl, _⟩
  exact ⟨rfl, trivial⟩

theorem indexFunc_str (H : List Ob) (l : List (List UInt8)) (k : FuncId) (fi ca : List V) (p : List UInt8 → Bool) (hf : ∀ x ∈ l, SCall Try.prog k (fi ++ V.str x :: ca) H (fun r H' => r = .bool (p x) ∧ H' = H)) (hlf : ltL H.length fi ∧ ltL H.length ca) : SCall Try.prog 91 [.slice (l.map V.str), .fn (.func k) fi ca] H (fun r H' => r = .int .i64 (ix p l) ∧ H' = H) := by
  obtain ⟨hl1, hl2⟩ := hlf
  refine SCall.sized 0 rfl fun hl => ?_
  rw [List.length_map, maxLen_eq] at hl
  refine SCall.of_good fun hH => ?_
  have hHk := HLt.add hH
  refine SCall.of_code Tok Try.func91 rfl Try.call91 (n := 19) rfl (by simp) (rs := [.tmp 4]) rfl ?_
  refine EW.of_c Tok mixed (own := false) keep91 tab91 (by kernel_rfl) ?_
  (repeat (first | simp -dsimp only [RB, TB, keep91, tab91, ewOp, xop, xindexAddr, xindex, xslice, xconvert, xlen, drawStep, FreeW, SameW, ChangeW, limBytes, Nat.reduceAdd, Nat.reduceEqDiff, Nat.reduceLT, Nat.reduceLeDiff, Nat.reduceMul, Nat.reduceSub, Int.reduceBEq, Int.reduceBNe, Int.reduceToNat, Int.reduceLT, Int.reduceLE, Int.reduceGT, Int.reduceGE, Int.reduceAdd, Int.reduceSub, Int.reduceNeg, Int.reduceEq, Int.toNat_zero, Int.toNat_one, reduceIte, reduceCtorEq, ne_eq, decide_true, decide_false] | ((with_reducible refine Need.intro ?_ ?_); (first | trivial | omega | (simp; done) | (simp; omega)))))
  refine EW.loopE (ι := (Nat)) (fun (i : (Nat)) => i ≤ l.length ∧ ∀ x ∈ l.take i, p x = false) (fun (i : (Nat)) => l.length - i) (fun (i : (Nat)) => [(8, .int .i64 i)]) (fun (i : (Nat)) => H) (0) ?_ ?_ ?_ ?_ ?_
  · first | rfl | simp [upd, eset]
  · first | rfl | (simp; done) | exact (set_same (by assumption)).symm
  · rintro i hok; exact ⟨by simp, by (simp (maxDischargeDepth := 6) [LTB, HLt_set, ltL_take, ltL_drop, ltL_rep, upd, eset, *, lt_vi, lt_str, lt_vb] <;> omega), by (simp (maxDischargeDepth := 6) [LTB, HLt_set, ltL_take, ltL_drop, ltL_rep, upd, eset, *, lt_vi, lt_str, lt_vb] <;> omega)⟩
  · simp
  rintro i ⟨hi, hno⟩
  refine EW.of_c Tok mixed (own := false) keep91 tab91 (by kernel_rfl) ?_
  (repeat (first | simp -dsimp only [RB, TB, keep91, tab91, ewOp, xop, xindexAddr, xindex, xslice, xconvert, xlen, drawStep, FreeW, SameW, ChangeW, limBytes, Nat.reduceAdd, Nat.reduceEqDiff, Nat.reduceLT, Nat.reduceLeDiff, Nat.reduceMul, Nat.reduceSub, Int.reduceBEq, Int.reduceBNe, Int.reduceToNat, Int.reduceLT, Int.reduceLE, Int.reduceGT, Int.reduceGE, Int.reduceAdd, Int.reduceSub, Int.reduceNeg, Int.reduceEq, Int.toNat_zero, Int.toNat_one, reduceIte, reduceCtorEq, ne_eq, decide_true, decide_false] | ((with_reducible refine Need.intro ?_ ?_); (first | trivial | omega | (simp; done) | (simp; omega)))))
  refine IfW.intro (fun h => ?_) (fun h => ?_)
  · have hlt := lt_of h
    (repeat (first | simp -dsimp only [h, at_map V.str l i hlt, vi, RB, TB, keep91, tab91, ewOp, xop, xindexAddr, xindex, xslice, xconvert, xlen, drawStep, FreeW, SameW, ChangeW, limBytes, Nat.reduceAdd, Nat.reduceEqDiff, Nat.reduceLT, Nat.reduceLeDiff, Nat.reduceMul, Nat.reduceSub, Int.reduceBEq, Int.reduceBNe, Int.reduceToNat, Int.reduceLT, Int.reduceLE, Int.reduceGT, Int.reduceGE, Int.reduceAdd, Int.reduceSub, Int.reduceNeg, Int.reduceEq, Int.toNat_zero, Int.toNat_one, reduceIte, reduceCtorEq, ne_eq, decide_true, decide_false] | ((with_reducible refine Need.intro ?_ ?_); (first | trivial | omega | (simp; done) | (simp; omega)))))
    refine SCall.then (hf l[i] (List.getElem_mem hlt)) ?_
    (repeat (first | simp -dsimp only [RB, TB, keep91, tab91, ewOp, xop, xindexAddr, xindex, xslice, xconvert, xlen, drawStep, FreeW, SameW, ChangeW, limBytes, Nat.reduceAdd, Nat.reduceEqDiff, Nat.reduceLT, Nat.reduceLeDiff, Nat.reduceMul, Nat.reduceSub, Int.reduceBEq, Int.reduceBNe, Int.reduceToNat, Int.reduceLT, Int.reduceLE, Int.reduceGT, Int.reduceGE, Int.reduceAdd, Int.reduceSub, Int.reduceNeg, Int.reduceEq, Int.toNat_zero, Int.toNat_one, reduceIte, reduceCtorEq, ne_eq, decide_true, decide_false] | ((with_reducible refine Need.intro ?_ ?_); (first | trivial | omega | (simp; done) | (simp; omega)))))
    refine IfW.intro (fun hb => ?_) (fun hb => ?_)
    · (repeat (first | simp -dsimp only [hb, RB, TB, keep91, tab91, ewOp, xop, xindexAddr, xindex, xslice, xconvert, xlen, drawStep, FreeW, SameW, ChangeW, limBytes, Nat.reduceAdd, Nat.reduceEqDiff, Nat.reduceLT, Nat.reduceLeDiff, Nat.reduceMul, Nat.reduceSub, Int.reduceBEq, Int.reduceBNe, Int.reduceToNat, Int.reduceLT, Int.reduceLE, Int.reduceGT, Int.reduceGE, Int.reduceAdd, Int.reduceSub, Int.reduceNeg, Int.reduceEq, Int.toNat_zero, Int.toNat_one, reduceIte, reduceCtorEq, ne_eq, decide_true, decide_false] | ((with_reducible refine Need.intro ?_ ?_); (first | trivial | omega | (simp; done) | (simp; omega)))))
      refine RetW.auto0 false _ (by first | rfl | exact (List.append_nil _).symm) ?_ ?_
      · (simp (maxDischargeDepth := 6) [LTB, HLt_set, ltL_take, ltL_drop, ltL_rep, upd, eset, *, lt_vi, lt_str, lt_vb] <;> omega)
      (try simp only [wk, wk1, wk0, RB, limBytes, Nat.reduceAdd, Nat.reduceEqDiff, Nat.reduceLT, Nat.reduceLeDiff, Nat.reduceMul, Nat.reduceSub, Int.reduceBEq, Int.reduceBNe, Int.reduceToNat, Int.reduceLT, Int.reduceLE, Int.reduceGT, Int.reduceGE, Int.reduceAdd, Int.reduceSub, Int.reduceNeg, Int.reduceEq, Int.toNat_zero, Int.toNat_one, reduceIte, reduceCtorEq, ne_eq, decide_true, decide_false])
      (try (rw [List.take_of_length_le]; rotate_left 1; (· first | (simp; done) | (simp; omega) | omega)))
      rw [ix_hit hlt hb hno]
    · (repeat (first | simp -dsimp only [hb, RB, TB, keep91, tab91, ewOp, xop, xindexAddr, xindex, xslice, xconvert, xlen, drawStep, FreeW, SameW, ChangeW, limBytes, Nat.reduceAdd, Nat.reduceEqDiff, Nat.reduceLT, Nat.reduceLeDiff, Nat.reduceMul, Nat.reduceSub, Int.reduceBEq, Int.reduceBNe, Int.reduceToNat, Int.reduceLT, Int.reduceLE, Int.reduceGT, Int.reduceGE, Int.reduceAdd, Int.reduceSub, Int.reduceNeg, Int.reduceEq, Int.toNat_zero, Int.toNat_one, reduceIte, reduceCtorEq, ne_eq, decide_true, decide_false] | ((with_reducible refine Need.intro ?_ ?_); (first | trivial | omega | (simp; done) | (simp; omega)))))
      rw [wrapI (by omega)]
      refine UpTo.here ⟨(i + 1), ?_, by first | omega | (simp only [List.length_append, List.length_cons, List.length_nil]; omega), by simp [upd, eset], ⟨_, by simp; try rfl⟩⟩
      exact ⟨hlt, take_step hlt hb hno⟩
  · (repeat (first | simp -dsimp only [h, RB, TB, keep91, tab91, ewOp, xop, xindexAddr, xindex, xslice, xconvert, xlen, drawStep, FreeW, SameW, ChangeW, limBytes, Nat.reduceAdd, Nat.reduceEqDiff, Nat.reduceLT, Nat.reduceLeDiff, Nat.reduceMul, Nat.reduceSub, Int.reduceBEq, Int.reduceBNe, Int.reduceToNat, Int.reduceLT, Int.reduceLE, Int.reduceGT, Int.reduceGE, Int.reduceAdd, Int.reduceSub, Int.reduceNeg, Int.reduceEq, Int.toNat_zero, Int.toNat_one, reduceIte, reduceCtorEq, ne_eq, decide_true, decide_false] | ((with_reducible refine Need.intro ?_ ?_); (first | trivial | omega | (simp; done) | (simp; omega)))))
    refine RetW.auto0 false _ (by first | rfl | exact (List.append_nil _).symm) ?_ ?_
    · (simp (maxDischargeDepth := 6) [LTB, HLt_set, ltL_take, ltL_drop, ltL_rep, upd, eset, *, lt_vi, lt_str, lt_vb] <;> omega)
    (try simp only [wk, wk1, wk0, RB, limBytes, Nat.reduceAdd, Nat.reduceEqDiff, Nat.reduceLT, Nat.reduceLeDiff, Nat.reduceMul, Nat.reduceSub, Int.reduceBEq, Int.reduceBNe, Int.reduceToNat, Int.reduceLT, Int.reduceLE, Int.reduceGT, Int.reduceGE, Int.reduceAdd, Int.reduceSub, Int.reduceNeg, Int.reduceEq, Int.toNat_zero, Int.toNat_one, reduceIte, reduceCtorEq, ne_eq, decide_true, decide_false])
    (try (rw [List.take_of_length_le]; rotate_left 1; (· first | (simp; done) | (simp; omega) | omega)))
    rw [ix_none (take_all (ge_of h) hno)]
theorem indexFunc_str_vec (H : List Ob) (l : List (List UInt8)) (k : FuncId) (fi ca : List V) (p : List UInt8 → Bool) (hf : ∀ x ∈ l, SCall Try.prog k (fi ++ V.str x :: ca) [] (fun r H' => r = .bool (p x) ∧ H' = [])) (hlf : ltL 0 fi ∧ ltL 0 ca) (o ver es n : Nat) (ho : H[o]? = some (.vec ver es (l.map V.str))) (hn : n = l.length) : SCall Try.prog 91 [.vec o ver 0 n, .fn (.func k) fi ca] H (fun r H' => r = .int .i64 (ix p l) ∧ H' = H) := by
  subst hn
  refine SCall.borrow (args' := [.slice (l.map V.str), .fn (.func k) fi ca]) ⟨⟨es, _, ho, by simp, by rw [List.drop_zero, ← List.length_map (f := V.str), List.take_length], lt_str _ _⟩, ⟨rfl, hlf⟩, trivial⟩ ?_
  refine (indexFunc_str [] l k fi ca p hf hlf).mono ?_
  rintro r H' ⟨rfl, _⟩
  exact ⟨rfl, trivial⟩

theorem deleteFunc_str (H : List Ob) (l : List (List UInt8)) (k : FuncId) (fi ca : List V) (p : List UInt8 → Bool) (hf : ∀ x ∈ l, ∀ H, SCall Try.prog k (fi ++ V.str x :: ca) H (fun r H' => r = .bool (p x) ∧ H' = H)) (hlf : ltL 0 fi ∧ ltL 0 ca) (o ver n : Nat) (ho : H[o]? = some (.vec ver 1 (l.map V.str))) (hn : n = l.length) (hb : l.length ≤ 1000000000) :
    SCall Try.prog 67 [.vec o ver 0 n, .fn (.func k) fi ca] H (fun r H' => ∃ L : List (List UInt8), L.length = l.length ∧ r = .vec o ver 0 (l.filter fun x => !p x).length ∧ L.take (l.filter fun x => !p x).length = (l.filter fun x => !p x) ∧ H' = H.set o (.vec ver 1 (L.map V.str))) := by
  subst hn
  have holt := lt_of_get ho
  have hlf1 := ltL_le (Nat.zero_le H.length) _ hlf.1
  have hlf2 := ltL_le (Nat.zero_le H.length) _ hlf.2
  have hll : ltL H.length (l.map V.str) := lt_str _ _
  refine SCall.of_good fun hH => ?_
  have hHk := HLt.add hH
  refine SCall.of_code Tok Try.func67 rfl Try.call67 (n := 42) rfl (by simp) (rs := [.tmp 4]) rfl ?_
  refine EW.of_c Tok mixed (own := false) keep67 tab67 (by kernel_rfl) ?_
  (repeat (first | simp -dsimp only [RB, TB, keep67, tab67, ewOp, xop, xindexAddr, xindex, xslice, xconvert, xlen, drawStep, FreeW, SameW, ChangeW, limBytes, Nat.reduceAdd, Nat.reduceEqDiff, Nat.reduceLT, Nat.reduceLeDiff, Nat.reduceMul, Nat.reduceSub, Int.reduceBEq, Int.reduceBNe, Int.reduceToNat, Int.reduceLT, Int.reduceLE, Int.reduceGT, Int.reduceGE, Int.reduceAdd, Int.reduceSub, Int.reduceNeg, Int.reduceEq, Int.toNat_zero, Int.toNat_one, reduceIte, reduceCtorEq, ne_eq, decide_true, decide_false] | ((with_reducible refine Need.intro ?_ ?_); (first | trivial | omega | (simp; done) | (simp; omega)))))
  (first | refine SCall.then (indexFunc_str_vec _ l k fi ca p (fun x hx => hf x hx []) hlf _ _ _ _ ho rfl) ?_ | refine SCall.thenA (indexFunc_str_vec _ l k fi ca p (fun x hx => hf x hx []) hlf _ _ _ _ ho rfl) (by repeat (first | exact trivial | exact .inl rfl | exact .inr ⟨_, rfl, rfl⟩ | refine ⟨?_, ?_⟩)) ?_ | refine CallE.intro _ (indexFunc_str_vec _ l k fi ca p (fun x hx => hf x hx []) hlf _ _ _ _ ho rfl) ?_ | refine CallE.introA (indexFunc_str_vec _ l k fi ca p (fun x hx => hf x hx []) hlf _ _ _ _ ho rfl) (by repeat (first | exact trivial | exact .inl rfl | exact .inr ⟨_, rfl, rfl⟩ | refine ⟨?_, ?_⟩)) ?_)
  (repeat (first | simp -dsimp only [RB, TB, keep67, tab67, ewOp, xop, xindexAddr, xindex, xslice, xconvert, xlen, drawStep, FreeW, SameW, ChangeW, limBytes, Nat.reduceAdd, Nat.reduceEqDiff, Nat.reduceLT, Nat.reduceLeDiff, Nat.reduceMul, Nat.reduceSub, Int.reduceBEq, Int.reduceBNe, Int.reduceToNat, Int.reduceLT, Int.reduceLE, Int.reduceGT, Int.reduceGE, Int.reduceAdd, Int.reduceSub, Int.reduceNeg, Int.reduceEq, Int.toNat_zero, Int.toNat_one, reduceIte, reduceCtorEq, ne_eq, decide_true, decide_false] | ((with_reducible refine Need.intro ?_ ?_); (first | trivial | omega | (simp; done) | (simp; omega)))))
  by_cases hany : ∃ x ∈ l, p x = true
  · obtain ⟨i0, hi0, hp0, hno⟩ : ∃ i0, ∃ h : i0 < l.length, p l[i0] = true ∧ ∀ x ∈ l.take i0, p x = false := by
      have hlt := List.findIdx_lt_length.2 hany
      refine ⟨l.findIdx p, hlt, List.findIdx_getElem, fun x hx => ?_⟩
      obtain ⟨j, hj, rfl⟩ := List.mem_take_iff_getElem.1 hx
      have := List.not_of_lt_findIdx (p := p) (xs := l) (i := j) (by omega)
      simpa using this
    have hix := ix_hit hi0 hp0 hno
    rw [hix]
    have hne : ((i0 : Int) == -1) = false := by simp
    (repeat (first | simp -dsimp only [hne, RB, TB, keep67, tab67, ewOp, xop, xindexAddr, xindex, xslice, xconvert, xlen, drawStep, FreeW, SameW, ChangeW, limBytes, Nat.reduceAdd, Nat.reduceEqDiff, Nat.reduceLT, Nat.reduceLeDiff, Nat.reduceMul, Nat.reduceSub, Int.reduceBEq, Int.reduceBNe, Int.reduceToNat, Int.reduceLT, Int.reduceLE, Int.reduceGT, Int.reduceGE, Int.reduceAdd, Int.reduceSub, Int.reduceNeg, Int.reduceEq, Int.toNat_zero, Int.toNat_one, reduceIte, reduceCtorEq, ne_eq, decide_true, decide_false] | ((with_reducible refine Need.intro ?_ ?_); (first | trivial | omega | (simp; done) | (simp; omega)))))
    rw [wrapI (by omega)]
    refine EW.loopE (ι := (Nat) × (Nat) × (List (List UInt8))) (fun (x_ : (Nat) × (Nat) × (List (List UInt8))) => match x_ with | (i, j, L) => i < j ∧ j ≤ l.length ∧ L.length = l.length ∧ L.take i = (l.take j).filter (fun x => !p x) ∧ L.drop j = l.drop j) (fun (x_ : (Nat) × (Nat) × (List (List UInt8))) => match x_ with | (i, j, L) => l.length - j) (fun (x_ : (Nat) × (Nat) × (List (List UInt8))) => match x_ with | (i, j, L) => [(5, .int .i64 i), (6, .int .i64 j)]) (fun (x_ : (Nat) × (Nat) × (List (List UInt8))) => match x_ with | (i, j, L) => H.set o (.vec ver 1 (L.map V.str))) (i0, i0 + 1, l) ?_ ?_ ?_ ?_ ?_
    · first | rfl | simp [upd, eset]
    · first | rfl | (simp; done) | exact (set_same (by assumption)).symm
    · rintro ⟨i, j, L⟩ hok; exact ⟨by simp, by (simp (maxDischargeDepth := 6) [LTB, HLt_set, ltL_take, ltL_drop, ltL_rep, upd, eset, *, lt_vi, lt_str, lt_vb] <;> omega), by (simp (maxDischargeDepth := 6) [LTB, HLt_set, ltL_take, ltL_drop, ltL_rep, upd, eset, *, lt_vi, lt_str, lt_vb] <;> omega)⟩
    · refine ⟨by omega, by omega, rfl, ?_, rfl⟩
      rw [List.take_succ_eq_append_getElem hi0, List.filter_append, List.filter_eq_self.2 (fun x hx => by simp [hno x hx])]
      simp [hp0]
    rintro ⟨i, j, L⟩ ⟨hij, hj, hL, ht, hd⟩
    refine EW.of_c Tok mixed (own := false) keep67 tab67 (by kernel_rfl) ?_
    (repeat (first | simp -dsimp only [List.getElem?_set_self holt, List.set_set, RB, TB, keep67, tab67, ewOp, xop, xindexAddr, xindex, xslice, xconvert, xlen, drawStep, FreeW, SameW, ChangeW, limBytes, Nat.reduceAdd, Nat.reduceEqDiff, Nat.reduceLT, Nat.reduceLeDiff, Nat.reduceMul, Nat.reduceSub, Int.reduceBEq, Int.reduceBNe, Int.reduceToNat, Int.reduceLT, Int.reduceLE, Int.reduceGT, Int.reduceGE, Int.reduceAdd, Int.reduceSub, Int.reduceNeg, Int.reduceEq, Int.toNat_zero, Int.toNat_one, reduceIte, reduceCtorEq, ne_eq, decide_true, decide_false] | ((with_reducible refine Need.intro ?_ ?_); (first | trivial | omega | (simp; done) | (simp; omega)))))
    refine IfW.intro (fun h => ?_) (fun h => ?_)
    · have hlt := lt_of h
      have hLj : L[j]'(by omega) = l[j] := by
        have := congrArg (fun x => x[0]?) hd
        simp only [List.getElem?_drop, Nat.add_zero] at this
        rw [List.getElem?_eq_getElem (by omega), List.getElem?_eq_getElem hlt] at this
        injection this
      (repeat (first | simp -dsimp only [h, List.getElem?_set_self holt, List.set_set, at_map V.str L j (by omega), vi, hLj, RB, TB, keep67, tab67, ewOp, xop, xindexAddr, xindex, xslice, xconvert, xlen, drawStep, FreeW, SameW, ChangeW, limBytes, Nat.reduceAdd, Nat.reduceEqDiff, Nat.reduceLT, Nat.reduceLeDiff, Nat.reduceMul, Nat.reduceSub, Int.reduceBEq, Int.reduceBNe, Int.reduceToNat, Int.reduceLT, Int.reduceLE, Int.reduceGT, Int.reduceGE, Int.reduceAdd, Int.reduceSub, Int.reduceNeg, Int.reduceEq, Int.toNat_zero, Int.toNat_one, reduceIte, reduceCtorEq, ne_eq, decide_true, decide_false] | ((with_reducible refine Need.intro ?_ ?_); (first | trivial | omega | (simp; done) | (simp; omega)))))
      refine SCall.then (hf l[j] (List.getElem_mem hlt) _) ?_
      (repeat (first | simp -dsimp only [RB, TB, keep67, tab67, ewOp, xop, xindexAddr, xindex, xslice, xconvert, xlen, drawStep, FreeW, SameW, ChangeW, limBytes, Nat.reduceAdd, Nat.reduceEqDiff, Nat.reduceLT, Nat.reduceLeDiff, Nat.reduceMul, Nat.reduceSub, Int.reduceBEq, Int.reduceBNe, Int.reduceToNat, Int.reduceLT, Int.reduceLE, Int.reduceGT, Int.reduceGE, Int.reduceAdd, Int.reduceSub, Int.reduceNeg, Int.reduceEq, Int.toNat_zero, Int.toNat_one, reduceIte, reduceCtorEq, ne_eq, decide_true, decide_false] | ((with_reducible refine Need.intro ?_ ?_); (first | trivial | omega | (simp; done) | (simp; omega)))))
      have htk : l.take (j + 1) = l.take j ++ [l[j]] := List.take_succ_eq_append_getElem hlt
      have hdk : L.drop (j + 1) = l.drop (j + 1) := by rw [← List.drop_drop, hd, List.drop_drop]
      refine IfW.intro (fun hb => ?_) (fun hb => ?_)
      · (repeat (first | simp -dsimp only [hb, RB, TB, keep67, tab67, ewOp, xop, xindexAddr, xindex, xslice, xconvert, xlen, drawStep, FreeW, SameW, ChangeW, limBytes, Nat.reduceAdd, Nat.reduceEqDiff, Nat.reduceLT, Nat.reduceLeDiff, Nat.reduceMul, Nat.reduceSub, Int.reduceBEq, Int.reduceBNe, Int.reduceToNat, Int.reduceLT, Int.reduceLE, Int.reduceGT, Int.reduceGE, Int.reduceAdd, Int.reduceSub, Int.reduceNeg, Int.reduceEq, Int.toNat_zero, Int.toNat_one, reduceIte, reduceCtorEq, ne_eq, decide_true, decide_false] | ((with_reducible refine Need.intro ?_ ?_); (first | trivial | omega | (simp; done) | (simp; omega)))))
        rw [wrapI (by omega)]
        refine UpTo.here ⟨(i, j + 1, L), ?_, by first | omega | (simp only [List.length_append, List.length_cons, List.length_nil]; omega), by simp [upd, eset], ⟨_, by simp; try rfl⟩⟩
        exact ⟨by omega, hlt, hL, by rw [ht, htk, List.filter_append]; simp [hb], hdk⟩
      · have hiL : i < L.length := by omega
        (repeat (first | simp -dsimp only [hb, List.getElem?_set_self holt, List.set_set, at_map V.str L i hiL, vi, RB, TB, keep67, tab67, ewOp, xop, xindexAddr, xindex, xslice, xconvert, xlen, drawStep, FreeW, SameW, ChangeW, limBytes, Nat.reduceAdd, Nat.reduceEqDiff, Nat.reduceLT, Nat.reduceLeDiff, Nat.reduceMul, Nat.reduceSub, Int.reduceBEq, Int.reduceBNe, Int.reduceToNat, Int.reduceLT, Int.reduceLE, Int.reduceGT, Int.reduceGE, Int.reduceAdd, Int.reduceSub, Int.reduceNeg, Int.reduceEq, Int.toNat_zero, Int.toNat_one, reduceIte, reduceCtorEq, ne_eq, decide_true, decide_false] | ((with_reducible refine Need.intro ?_ ?_); (first | trivial | omega | (simp; done) | (simp; omega)))))
        rw [wrapI (by omega), wrapI (by omega)]
        refine UpTo.here ⟨(i + 1, j + 1, L.set i l[j]), ?_, by first | omega | (simp only [List.length_append, List.length_cons, List.length_nil]; omega), by simp [upd, eset], ⟨_, by simp; try rfl⟩⟩
        refine ⟨by omega, hlt, by simp [hL], ?_, ?_⟩
        · rw [List.take_succ_eq_append_getElem (by simpa using hiL), htk, List.filter_append, List.getElem_set_self, List.take_set_of_le (Nat.le_refl _), ht]
          simp [hb]
        · rw [List.drop_set_of_lt (by omega), hdk]
    · (repeat (first | simp -dsimp only [h, List.getElem?_set_self holt, List.set_set, RB, TB, keep67, tab67, ewOp, xop, xindexAddr, xindex, xslice, xconvert, xlen, drawStep, FreeW, SameW, ChangeW, limBytes, Nat.reduceAdd, Nat.reduceEqDiff, Nat.reduceLT, Nat.reduceLeDiff, Nat.reduceMul, Nat.reduceSub, Int.reduceBEq, Int.reduceBNe, Int.reduceToNat, Int.reduceLT, Int.reduceLE, Int.reduceGT, Int.reduceGE, Int.reduceAdd, Int.reduceSub, Int.reduceNeg, Int.reduceEq, Int.toNat_zero, Int.toNat_one, reduceIte, reduceCtorEq, ne_eq, decide_true, decide_false] | ((with_reducible refine Need.intro ?_ ?_); (first | trivial | omega | (simp; done) | (simp; omega)))))
      have hjl : j = l.length := Nat.le_antisymm hj (ge_of h)
      subst hjl
      rw [List.take_length] at ht
      have hfl : (l.filter fun x => !p x).length = i := by rw [← ht, List.length_take]; omega
      refine RetW.keep false (by simp) ?_ ?_ ?_
      · (simp (maxDischargeDepth := 6) [LTB, HLt_set, ltL_take, ltL_drop, ltL_rep, upd, eset, *, lt_vi, lt_str, lt_vb] <;> omega)
      · (simp (maxDischargeDepth := 6) [LTB, HLt_set, ltL_take, ltL_drop, ltL_rep, upd, eset, *, lt_vi, lt_str, lt_vb] <;> omega)
      refine ⟨L.take i ++ List.replicate (l.length - i) ([] : List UInt8), by simp; omega, ?_, ?_, ?_⟩
      · rw [hfl]
        have : ¬ H.length ≤ o := by omega
        simp [wk, wk1, wk0, this]
      · rw [hfl, List.take_left' (by simp; omega), ht]
      · rw [List.drop_of_length_le (by simp; omega)]
        simp
  · have hix : ix p l = -1 := ix_none fun x hx => by cases h : p x with
      | false => rfl
      | true => exact absurd ⟨x, hx, h⟩ hany
    rw [hix]
    (repeat (first | simp -dsimp only [RB, TB, keep67, tab67, ewOp, xop, xindexAddr, xindex, xslice, xconvert, xlen, drawStep, FreeW, SameW, ChangeW, limBytes, Nat.reduceAdd, Nat.reduceEqDiff, Nat.reduceLT, Nat.reduceLeDiff, Nat.reduceMul, Nat.reduceSub, Int.reduceBEq, Int.reduceBNe, Int.reduceToNat, Int.reduceLT, Int.reduceLE, Int.reduceGT, Int.reduceGE, Int.reduceAdd, Int.reduceSub, Int.reduceNeg, Int.reduceEq, Int.toNat_zero, Int.toNat_one, reduceIte, reduceCtorEq, ne_eq, decide_true, decide_false] | ((with_reducible refine Need.intro ?_ ?_); (first | trivial | omega | (simp; done) | (simp; omega)))))
    have hfe : (l.filter fun x => !p x) = l := List.filter_eq_self.2 fun x hx => by
      cases h : p x with
      | false => rfl
      | true => exact absurd ⟨x, hx, h⟩ hany
    refine RetW.keep false (Nat.le_refl _) hH ?_ ?_
    · (simp (maxDischargeDepth := 6) [LTB, HLt_set, ltL_take, ltL_drop, ltL_rep, upd, eset, *, lt_vi, lt_str, lt_vb] <;> omega)
    have : ¬ H.length ≤ o := by omega
    simp [wk, wk1, wk0, this]
    exact ⟨l, rfl, by rw [hfe], by rw [hfe, List.take_length], (set_same ho).symm⟩

theorem texts_eq (H : List Ob) (l m : List (List UInt8)) : SCall Try.prog 22 [.slice (l.map V.str), .slice (m.map V.str)] H (fun r H' => r = .bool (decide (l = m)) ∧ H' = H) := by
  refine SCall.sized 0 rfl fun hl => ?_
  rw [List.length_map, maxLen_eq] at hl
  refine SCall.of_good fun hH => ?_
  have hHk := HLt.add hH
  refine SCall.of_code Tok Try.func22 rfl Try.call22 (n := 26) rfl (by simp) (rs := [.tmp 4]) rfl ?_
  refine EW.of_c Tok mixed (own := false) keep22 tab22 (by kernel_rfl) ?_
  (repeat (first | simp -dsimp only [RB, TB, keep22, tab22, ewOp, xop, xindexAddr, xindex, xslice, xconvert, xlen, drawStep, FreeW, SameW, ChangeW, limBytes, Nat.reduceAdd, Nat.reduceEqDiff, Nat.reduceLT, Nat.reduceLeDiff, Nat.reduceMul, Nat.reduceSub, Int.reduceBEq, Int.reduceBNe, Int.reduceToNat, Int.reduceLT, Int.reduceLE, Int.reduceGT, Int.reduceGE, Int.reduceAdd, Int.reduceSub, Int.reduceNeg, Int.reduceEq, Int.toNat_zero, Int.toNat_one, reduceIte, reduceCtorEq, ne_eq, decide_true, decide_false] | ((with_reducible refine Need.intro ?_ ?_); (first | trivial | omega | (simp; done) | (simp; omega)))))
  refine IfW.intro (fun h => ?_) (fun h => ?_)
  rotate_left
  · (repeat (first | simp -dsimp only [h, RB, TB, keep22, tab22, ewOp, xop, xindexAddr, xindex, xslice, xconvert, xlen, drawStep, FreeW, SameW, ChangeW, limBytes, Nat.reduceAdd, Nat.reduceEqDiff, Nat.reduceLT, Nat.reduceLeDiff, Nat.reduceMul, Nat.reduceSub, Int.reduceBEq, Int.reduceBNe, Int.reduceToNat, Int.reduceLT, Int.reduceLE, Int.reduceGT, Int.reduceGE, Int.reduceAdd, Int.reduceSub, Int.reduceNeg, Int.reduceEq, Int.toNat_zero, Int.toNat_one, reduceIte, reduceCtorEq, ne_eq, decide_true, decide_false] | ((with_reducible refine Need.intro ?_ ?_); (first | trivial | omega | (simp; done) | (simp; omega)))))
    refine RetW.auto0 false _ (by first | rfl | exact (List.append_nil _).symm) ?_ ?_
    · (simp (maxDischargeDepth := 6) [LTB, HLt_set, ltL_take, ltL_drop, ltL_rep, upd, eset, *, lt_vi, lt_str, lt_vb] <;> omega)
    (try simp only [wk, wk1, wk0, RB, limBytes, Nat.reduceAdd, Nat.reduceEqDiff, Nat.reduceLT, Nat.reduceLeDiff, Nat.reduceMul, Nat.reduceSub, Int.reduceBEq, Int.reduceBNe, Int.reduceToNat, Int.reduceLT, Int.reduceLE, Int.reduceGT, Int.reduceGE, Int.reduceAdd, Int.reduceSub, Int.reduceNeg, Int.reduceEq, Int.toNat_zero, Int.toNat_one, reduceIte, reduceCtorEq, ne_eq, decide_true, decide_false])
    (try (rw [List.take_of_length_le]; rotate_left 1; (· first | (simp; done) | (simp; omega) | omega)))
    have hlm : l ≠ m := by rintro rfl; simp at h
    simp [hlm]
  have hlm : l.length = m.length := by simp at h; omega
  (repeat (first | simp -dsimp only [h, RB, TB, keep22, tab22, ewOp, xop, xindexAddr, xindex, xslice, xconvert, xlen, drawStep, FreeW, SameW, ChangeW, limBytes, Nat.reduceAdd, Nat.reduceEqDiff, Nat.reduceLT, Nat.reduceLeDiff, Nat.reduceMul, Nat.reduceSub, Int.reduceBEq, Int.reduceBNe, Int.reduceToNat, Int.reduceLT, Int.reduceLE, Int.reduceGT, Int.reduceGE, Int.reduceAdd, Int.reduceSub, Int.reduceNeg, Int.reduceEq, Int.toNat_zero, Int.toNat_one, reduceIte, reduceCtorEq, ne_eq, decide_true, decide_false] | ((with_reducible refine Need.intro ?_ ?_); (first | trivial | omega | (simp; done) | (simp; omega)))))
  refine EW.loopE (ι := (Nat)) (fun (i : (Nat)) => i ≤ l.length ∧ l.take i = m.take i) (fun (i : (Nat)) => l.length - i) (fun (i : (Nat)) => [(5, .int .i64 i)]) (fun (i : (Nat)) => H) (0) ?_ ?_ ?_ ?_ ?_
  · first | rfl | simp [upd, eset]
  · first | rfl | (simp; done) | exact (set_same (by assumption)).symm
  · rintro i hok; exact ⟨by simp, by (simp (maxDischargeDepth := 6) [LTB, HLt_set, ltL_take, ltL_drop, ltL_rep, upd, eset, *, lt_vi, lt_str, lt_vb] <;> omega), by (simp (maxDischargeDepth := 6) [LTB, HLt_set, ltL_take, ltL_drop, ltL_rep, upd, eset, *, lt_vi, lt_str, lt_vb] <;> omega)⟩
  · simp
  rintro i ⟨hi, hno⟩
  refine EW.of_c Tok mixed (own := false) keep22 tab22 (by kernel_rfl) ?_
  (repeat (first | simp -dsimp only [RB, TB, keep22, tab22, ewOp, xop, xindexAddr, xindex, xslice, xconvert, xlen, drawStep, FreeW, SameW, ChangeW, limBytes, Nat.reduceAdd, Nat.reduceEqDiff, Nat.reduceLT, Nat.reduceLeDiff, Nat.reduceMul, Nat.reduceSub, Int.reduceBEq, Int.reduceBNe, Int.reduceToNat, Int.reduceLT, Int.reduceLE, Int.reduceGT, Int.reduceGE, Int.reduceAdd, Int.reduceSub, Int.reduceNeg, Int.reduceEq, Int.toNat_zero, Int.toNat_one, reduceIte, reduceCtorEq, ne_eq, decide_true, decide_false] | ((with_reducible refine Need.intro ?_ ?_); (first | trivial | omega | (simp; done) | (simp; omega)))))
  refine IfW.intro (fun h1 => ?_) (fun h1 => ?_)
  · have hlt := lt_of h1
    have hlt' : i < m.length := by omega
    (repeat (first | simp -dsimp only [h1, at_map V.str l i hlt, at_map V.str m i hlt', vi, RB, TB, keep22, tab22, ewOp, xop, xindexAddr, xindex, xslice, xconvert, xlen, drawStep, FreeW, SameW, ChangeW, limBytes, Nat.reduceAdd, Nat.reduceEqDiff, Nat.reduceLT, Nat.reduceLeDiff, Nat.reduceMul, Nat.reduceSub, Int.reduceBEq, Int.reduceBNe, Int.reduceToNat, Int.reduceLT, Int.reduceLE, Int.reduceGT, Int.reduceGE, Int.reduceAdd, Int.reduceSub, Int.reduceNeg, Int.reduceEq, Int.toNat_zero, Int.toNat_one, reduceIte, reduceCtorEq, ne_eq, decide_true, decide_false] | ((with_reducible refine Need.intro ?_ ?_); (first | trivial | omega | (simp; done) | (simp; omega)))))
    refine IfW.intro (fun hb => ?_) (fun hb => ?_)
    · (repeat (first | simp -dsimp only [hb, RB, TB, keep22, tab22, ewOp, xop, xindexAddr, xindex, xslice, xconvert, xlen, drawStep, FreeW, SameW, ChangeW, limBytes, Nat.reduceAdd, Nat.reduceEqDiff, Nat.reduceLT, Nat.reduceLeDiff, Nat.reduceMul, Nat.reduceSub, Int.reduceBEq, Int.reduceBNe, Int.reduceToNat, Int.reduceLT, Int.reduceLE, Int.reduceGT, Int.reduceGE, Int.reduceAdd, Int.reduceSub, Int.reduceNeg, Int.reduceEq, Int.toNat_zero, Int.toNat_one, reduceIte, reduceCtorEq, ne_eq, decide_true, decide_false] | ((with_reducible refine Need.intro ?_ ?_); (first | trivial | omega | (simp; done) | (simp; omega)))))
      rw [wrapI (by omega)]
      have hb : l[i] = m[i] := by simpa using hb
      refine UpTo.here ⟨(i + 1), ?_, by first | omega | (simp only [List.length_append, List.length_cons, List.length_nil]; omega), by simp [upd, eset], ⟨_, by simp; try rfl⟩⟩
      exact ⟨hlt, by rw [List.take_succ_eq_append_getElem hlt, List.take_succ_eq_append_getElem hlt', hno, hb]⟩
    · (repeat (first | simp -dsimp only [hb, RB, TB, keep22, tab22, ewOp, xop, xindexAddr, xindex, xslice, xconvert, xlen, drawStep, FreeW, SameW, ChangeW, limBytes, Nat.reduceAdd, Nat.reduceEqDiff, Nat.reduceLT, Nat.reduceLeDiff, Nat.reduceMul, Nat.reduceSub, Int.reduceBEq, Int.reduceBNe, Int.reduceToNat, Int.reduceLT, Int.reduceLE, Int.reduceGT, Int.reduceGE, Int.reduceAdd, Int.reduceSub, Int.reduceNeg, Int.reduceEq, Int.toNat_zero, Int.toNat_one, reduceIte, reduceCtorEq, ne_eq, decide_true, decide_false] | ((with_reducible refine Need.intro ?_ ?_); (first | trivial | omega | (simp; done) | (simp; omega)))))
      refine RetW.auto0 false _ (by first | rfl | exact (List.append_nil _).symm) ?_ ?_
      · (simp (maxDischargeDepth := 6) [LTB, HLt_set, ltL_take, ltL_drop, ltL_rep, upd, eset, *, lt_vi, lt_str, lt_vb] <;> omega)
      (try simp only [wk, wk1, wk0, RB, limBytes, Nat.reduceAdd, Nat.reduceEqDiff, Nat.reduceLT, Nat.reduceLeDiff, Nat.reduceMul, Nat.reduceSub, Int.reduceBEq, Int.reduceBNe, Int.reduceToNat, Int.reduceLT, Int.reduceLE, Int.reduceGT, Int.reduceGE, Int.reduceAdd, Int.reduceSub, Int.reduceNeg, Int.reduceEq, Int.toNat_zero, Int.toNat_one, reduceIte, reduceCtorEq, ne_eq, decide_true, decide_false])
      (try (rw [List.take_of_length_le]; rotate_left 1; (· first | (simp; done) | (simp; omega) | omega)))
      have hlm : l ≠ m := by rintro rfl; simp at hb
      simp [hlm]
  · (repeat (first | simp -dsimp only [h1, RB, TB, keep22, tab22, ewOp, xop, xindexAddr, xindex, xslice, xconvert, xlen, drawStep, FreeW, SameW, ChangeW, limBytes, Nat.reduceAdd, Nat.reduceEqDiff, Nat.reduceLT, Nat.reduceLeDiff, Nat.reduceMul, Nat.reduceSub, Int.reduceBEq, Int.reduceBNe, Int.reduceToNat, Int.reduceLT, Int.reduceLE, Int.reduceGT, Int.reduceGE, Int.reduceAdd, Int.reduceSub, Int.reduceNeg, Int.reduceEq, Int.toNat_zero, Int.toNat_one, reduceIte, reduceCtorEq, ne_eq, decide_true, decide_false] | ((with_reducible refine Need.intro ?_ ?_); (first | trivial | omega | (simp; done) | (simp; omega)))))
    have hge := ge_of h1
    rw [List.take_of_length_le hge, List.take_of_length_le (by omega)] at hno
    refine RetW.auto0 false _ (by first | rfl | exact (List.append_nil _).symm) ?_ ?_
    · (simp (maxDischargeDepth := 6) [LTB, HLt_set, ltL_take, ltL_drop, ltL_rep, upd, eset, *, lt_vi, lt_str, lt_vb] <;> omega)
    (try simp only [wk, wk1, wk0, RB, limBytes, Nat.reduceAdd, Nat.reduceEqDiff, Nat.reduceLT, Nat.reduceLeDiff, Nat.reduceMul, Nat.reduceSub, Int.reduceBEq, Int.reduceBNe, Int.reduceToNat, Int.reduceLT, Int.reduceLE, Int.reduceGT, Int.reduceGE, Int.reduceAdd, Int.reduceSub, Int.reduceNeg, Int.reduceEq, Int.toNat_zero, Int.toNat_one, reduceIte, reduceCtorEq, ne_eq, decide_true, decide_false])
    (try (rw [List.take_of_length_le]; rotate_left 1; (· first | (simp; done) | (simp; omega) | omega)))
    simp [hno]
theorem texts_eqB (H : List Ob) (l m : List (List UInt8)) (x y : V) (hx : Bo H x (.slice (l.map V.str))) (hy : Bo H y (.slice (m.map V.str))) : SCall Try.prog 22 [x, y] H (fun r H' => r = .bool (decide (l = m)) ∧ H' = H) := by
  refine SCall.borrow (args' := [.slice (l.map V.str), .slice (m.map V.str)]) ⟨hx, hy, trivial⟩ ?_
  refine (texts_eq [] l m).mono ?_
  rintro r H' ⟨rfl, _⟩
  exact ⟨rfl, trivial⟩

def tagsL : List (List UInt8) := [[100, 105, 118], [115, 112, 97, 110], [112], [97], [117, 108], [108, 105], [98], [105], [101, 109], [115, 116, 114, 111, 110, 103], [104, 49], [104, 50], [98, 114], [104, 114], [105, 109, 103], [115, 99, 114, 105, 112, 116], [115, 116, 121, 108, 101]]
def plainL : List (List UInt8) := [[99, 108, 97, 115, 115], [105, 100], [116, 105, 116, 108, 101], [97, 108, 116], [110, 97, 109, 101]]
def addrL : List (List UInt8) := [[104, 114, 101, 102], [115, 114, 99]]
theorem tags (H : List Ob) : SCall Try.prog 28 [] H (fun r H' => r = .vec H.length 1 0 17 ∧ H' = H ++ [.vec 1 1 (tagsL.map V.str)]) := by
  refine SCall.of_good fun hH => ?_
  have hHk := HLt.add hH
  refine SCall.of_code Tok Try.func28 rfl Try.call28 (n := 4) rfl (by simp) (rs := [.tmp 0]) rfl ?_
  refine EW.of_c Tok mixed (own := false) keep28 tab28 (by kernel_rfl) ?_
  (repeat (first | simp -dsimp only [RB, TB, keep28, tab28, ewOp, xop, xindexAddr, xindex, xslice, xconvert, xlen, drawStep, FreeW, SameW, ChangeW, limBytes, Nat.reduceAdd, Nat.reduceEqDiff, Nat.reduceLT, Nat.reduceLeDiff, Nat.reduceMul, Nat.reduceSub, Int.reduceBEq, Int.reduceBNe, Int.reduceToNat, Int.reduceLT, Int.reduceLE, Int.reduceGT, Int.reduceGE, Int.reduceAdd, Int.reduceSub, Int.reduceNeg, Int.reduceEq, Int.toNat_zero, Int.toNat_one, reduceIte, reduceCtorEq, ne_eq, decide_true, decide_false] | ((with_reducible refine Need.intro ?_ ?_); (first | trivial | omega | (simp; done) | (simp; omega)))))
  refine RetW.auto false [.vec 1 1 (tagsL.map V.str)] _ (by first | rfl | simp) ?_ ?_ ?_
  · (simp (maxDischargeDepth := 6) [LTB, HLt_set, ltL_take, ltL_drop, ltL_rep, upd, eset, *, lt_vi, lt_str, lt_vb] <;> omega)
  · (simp (maxDischargeDepth := 6) [LTB, HLt_set, ltL_take, ltL_drop, ltL_rep, upd, eset, *, lt_vi, lt_str, lt_vb] <;> omega)
  (try simp only [wk, wk1, wk0, RB, limBytes, Nat.reduceAdd, Nat.reduceEqDiff, Nat.reduceLT, Nat.reduceLeDiff, Nat.reduceMul, Nat.reduceSub, Int.reduceBEq, Int.reduceBNe, Int.reduceToNat, Int.reduceLT, Int.reduceLE, Int.reduceGT, Int.reduceGE, Int.reduceAdd, Int.reduceSub, Int.reduceNeg, Int.reduceEq, Int.toNat_zero, Int.toNat_one, reduceIte, reduceCtorEq, ne_eq, decide_true, decide_false])
  (try (rw [List.take_of_length_le]; rotate_left 1; (· first | (simp; done) | (simp; omega) | omega)))
  simp [tagsL]
theorem plain (H : List Ob) : SCall Try.prog 68 [] H (fun r H' => r = .fslice (plainL.map V.str) ∧ H' = H) := by
  refine SCall.of_good fun hH => ?_
  have hHk := HLt.add hH
  refine SCall.of_code Tok Try.func68 rfl Try.call68 (n := 2) rfl (by simp) (rs := [.tmp 0]) rfl ?_
  refine EW.of_c Tok mixed (own := false) keep68 tab68 (by kernel_rfl) ?_
  (repeat (first | simp -dsimp only [RB, TB, keep68, tab68, ewOp, xop, xindexAddr, xindex, xslice, xconvert, xlen, drawStep, FreeW, SameW, ChangeW, limBytes, Nat.reduceAdd, Nat.reduceEqDiff, Nat.reduceLT, Nat.reduceLeDiff, Nat.reduceMul, Nat.reduceSub, Int.reduceBEq, Int.reduceBNe, Int.reduceToNat, Int.reduceLT, Int.reduceLE, Int.reduceGT, Int.reduceGE, Int.reduceAdd, Int.reduceSub, Int.reduceNeg, Int.reduceEq, Int.toNat_zero, Int.toNat_one, reduceIte, reduceCtorEq, ne_eq, decide_true, decide_false] | ((with_reducible refine Need.intro ?_ ?_); (first | trivial | omega | (simp; done) | (simp; omega)))))
  refine RetW.auto0 true _ (by first | rfl | exact (List.append_nil _).symm) ?_ ?_
  · (simp (maxDischargeDepth := 6) [LTB, HLt_set, ltL_take, ltL_drop, ltL_rep, upd, eset, *, lt_vi, lt_str, lt_vb] <;> omega)
  (try simp only [wk, wk1, wk0, RB, if_true, limBytes, Nat.reduceAdd, Nat.reduceEqDiff, Nat.reduceLT, Nat.reduceLeDiff, Nat.reduceMul, Nat.reduceSub, Int.reduceBEq, Int.reduceBNe, Int.reduceToNat, Int.reduceLT, Int.reduceLE, Int.reduceGT, Int.reduceGE, Int.reduceAdd, Int.reduceSub, Int.reduceNeg, Int.reduceEq, Int.toNat_zero, Int.toNat_one, reduceIte, reduceCtorEq, ne_eq, decide_true, decide_false])
  (try (rw [List.take_of_length_le]; rotate_left 1; (· first | (simp; done) | (simp; omega) | omega)))
  rfl
theorem addresses (H : List Ob) : SCall Try.prog 69 [] H (fun r H' => r = .fslice (addrL.map V.str) ∧ H' = H) := by
  refine SCall.of_good fun hH => ?_
  have hHk := HLt.add hH
  refine SCall.of_code Tok Try.func69 rfl Try.call69 (n := 2) rfl (by simp) (rs := [.tmp 0]) rfl ?_
  refine EW.of_c Tok mixed (own := false) keep69 tab69 (by kernel_rfl) ?_
  (repeat (first | simp -dsimp only [RB, TB, keep69, tab69, ewOp, xop, xindexAddr, xindex, xslice, xconvert, xlen, drawStep, FreeW, SameW, ChangeW, limBytes, Nat.reduceAdd, Nat.reduceEqDiff, Nat.reduceLT, Nat.reduceLeDiff, Nat.reduceMul, Nat.reduceSub, Int.reduceBEq, Int.reduceBNe, Int.reduceToNat, Int.reduceLT, Int.reduceLE, Int.reduceGT, Int.reduceGE, Int.reduceAdd, Int.reduceSub, Int.reduceNeg, Int.reduceEq, Int.toNat_zero, Int.toNat_one, reduceIte, reduceCtorEq, ne_eq, decide_true, decide_false] | ((with_reducible refine Need.intro ?_ ?_); (first | trivial | omega | (simp; done) | (simp; omega)))))
  refine RetW.auto0 true _ (by first | rfl | exact (List.append_nil _).symm) ?_ ?_
  · (simp (maxDischargeDepth := 6) [LTB, HLt_set, ltL_take, ltL_drop, ltL_rep, upd, eset, *, lt_vi, lt_str, lt_vb] <;> omega)
  (try simp only [wk, wk1, wk0, RB, if_true, limBytes, Nat.reduceAdd, Nat.reduceEqDiff, Nat.reduceLT, Nat.reduceLeDiff, Nat.reduceMul, Nat.reduceSub, Int.reduceBEq, Int.reduceBNe, Int.reduceToNat, Int.reduceLT, Int.reduceLE, Int.reduceGT, Int.reduceGE, Int.reduceAdd, Int.reduceSub, Int.reduceNeg, Int.reduceEq, Int.toNat_zero, Int.toNat_one, reduceIte, reduceCtorEq, ne_eq, decide_true, decide_false])
  (try (rw [List.take_of_length_le]; rotate_left 1; (· first | (simp; done) | (simp; omega) | omega)))
  rfl
def rawB (s : List UInt8) : Bool := s == [115, 99, 114, 105, 112, 116] || s == [115, 116, 121, 108, 101]
theorem raw (H : List Ob) (s : List UInt8) : SCall Try.prog 42 [.str s] H (fun r H' => r = .bool (rawB s) ∧ H' = H) := by
  refine SCall.of_good fun hH => ?_
  have hHk := HLt.add hH
  refine SCall.of_code Tok Try.func42 rfl Try.call42 (n := 9) rfl (by simp) (rs := [.tmp 2]) rfl ?_
  refine EW.of_c Tok mixed (own := false) keep42 tab42 (by kernel_rfl) ?_
  (repeat (first | simp -dsimp only [RB, TB, keep42, tab42, ewOp, xop, xindexAddr, xindex, xslice, xconvert, xlen, drawStep, FreeW, SameW, ChangeW, limBytes, Nat.reduceAdd, Nat.reduceEqDiff, Nat.reduceLT, Nat.reduceLeDiff, Nat.reduceMul, Nat.reduceSub, Int.reduceBEq, Int.reduceBNe, Int.reduceToNat, Int.reduceLT, Int.reduceLE, Int.reduceGT, Int.reduceGE, Int.reduceAdd, Int.reduceSub, Int.reduceNeg, Int.reduceEq, Int.toNat_zero, Int.toNat_one, reduceIte, reduceCtorEq, ne_eq, decide_true, decide_false] | ((with_reducible refine Need.intro ?_ ?_); (first | trivial | omega | (simp; done) | (simp; omega)))))
  repeat' (first | simp -dsimp only [*, RB, TB, keep42, tab42, ewOp, xop, xindexAddr, xindex, xslice, xconvert, xlen, drawStep, FreeW, SameW, ChangeW, limBytes, Nat.reduceAdd, Nat.reduceEqDiff, Nat.reduceLT, Nat.reduceLeDiff, Nat.reduceMul, Nat.reduceSub, Int.reduceBEq, Int.reduceBNe, Int.reduceToNat, Int.reduceLT, Int.reduceLE, Int.reduceGT, Int.reduceGE, Int.reduceAdd, Int.reduceSub, Int.reduceNeg, Int.reduceEq, Int.toNat_zero, Int.toNat_one, reduceIte, reduceCtorEq, ne_eq, decide_true, decide_false] | ((with_reducible refine Need.intro ?_ ?_); (first | trivial | omega | (simp; done) | (simp; omega))) | (with_reducible refine IfW.intro (fun h_ => ?_) (fun h_ => ?_)) | ((with_reducible refine RetW.auto0 false _ (by first | rfl | exact (List.append_nil _).symm) (by (simp (maxDischargeDepth := 6) [LTB, HLt_set, ltL_take, ltL_drop, ltL_rep, upd, eset, *, lt_vi, lt_str, lt_vb] <;> omega)) ?_); (try simp only [wk, wk1, wk0, RB, limBytes, Nat.reduceAdd, Nat.reduceEqDiff, Nat.reduceLT, Nat.reduceLeDiff, Nat.reduceMul, Nat.reduceSub, Int.reduceBEq, Int.reduceBNe, Int.reduceToNat, Int.reduceLT, Int.reduceLE, Int.reduceGT, Int.reduceGE, Int.reduceAdd, Int.reduceSub, Int.reduceNeg, Int.reduceEq, Int.toNat_zero, Int.toNat_one, reduceIte, reduceCtorEq, ne_eq, decide_true, decide_false]); (try (rw [List.take_of_length_le]; rotate_left 1; (· first | (simp; done) | (simp; omega) | omega))); (try (simp_all [rawB])); done))
theorem tag (H : List Ob) (s : List UInt8) : SCall Try.prog 30 [.str s] H (fun r H' => r = .bool (decide (s ∈ tagsL)) ∧ H' = H) := by
  refine SCall.of_good fun hH => ?_
  have hHk := HLt.add hH
  refine SCall.of_code Tok Try.func30 rfl Try.call30 (n := 6) rfl (by simp) (rs := [.tmp 2]) rfl ?_
  refine EW.of_c Tok mixed (own := false) keep30 tab30 (by kernel_rfl) ?_
  (repeat (first | simp -dsimp only [RB, TB, keep30, tab30, ewOp, xop, xindexAddr, xindex, xslice, xconvert, xlen, drawStep, FreeW, SameW, ChangeW, limBytes, Nat.reduceAdd, Nat.reduceEqDiff, Nat.reduceLT, Nat.reduceLeDiff, Nat.reduceMul, Nat.reduceSub, Int.reduceBEq, Int.reduceBNe, Int.reduceToNat, Int.reduceLT, Int.reduceLE, Int.reduceGT, Int.reduceGE, Int.reduceAdd, Int.reduceSub, Int.reduceNeg, Int.reduceEq, Int.toNat_zero, Int.toNat_one, reduceIte, reduceCtorEq, ne_eq, decide_true, decide_false] | ((with_reducible refine Need.intro ?_ ?_); (first | trivial | omega | (simp; done) | (simp; omega)))))
  (first | refine SCall.then (tags _) ?_ | refine SCall.thenA (tags _) (by repeat (first | exact trivial | exact .inl rfl | exact .inr ⟨_, rfl, rfl⟩ | refine ⟨?_, ?_⟩)) ?_ | refine CallE.intro _ (tags _) ?_ | refine CallE.introA (tags _) (by repeat (first | exact trivial | exact .inl rfl | exact .inr ⟨_, rfl, rfl⟩ | refine ⟨?_, ?_⟩)) ?_)
  (repeat (first | simp -dsimp only [RB, TB, keep30, tab30, ewOp, xop, xindexAddr, xindex, xslice, xconvert, xlen, drawStep, FreeW, SameW, ChangeW, limBytes, Nat.reduceAdd, Nat.reduceEqDiff, Nat.reduceLT, Nat.reduceLeDiff, Nat.reduceMul, Nat.reduceSub, Int.reduceBEq, Int.reduceBNe, Int.reduceToNat, Int.reduceLT, Int.reduceLE, Int.reduceGT, Int.reduceGE, Int.reduceAdd, Int.reduceSub, Int.reduceNeg, Int.reduceEq, Int.toNat_zero, Int.toNat_one, reduceIte, reduceCtorEq, ne_eq, decide_true, decide_false] | ((with_reducible refine Need.intro ?_ ?_); (first | trivial | omega | (simp; done) | (simp; omega)))))
  (first | refine SCall.then (contains_str_vec _ tagsL s _ _ _ _ (by simp; rfl) rfl) ?_ | refine SCall.thenA (contains_str_vec _ tagsL s _ _ _ _ (by simp; rfl) rfl) (by repeat (first | exact trivial | exact .inl rfl | exact .inr ⟨_, rfl, rfl⟩ | refine ⟨?_, ?_⟩)) ?_ | refine CallE.intro _ (contains_str_vec _ tagsL s _ _ _ _ (by simp; rfl) rfl) ?_ | refine CallE.introA (contains_str_vec _ tagsL s _ _ _ _ (by simp; rfl) rfl) (by repeat (first | exact trivial | exact .inl rfl | exact .inr ⟨_, rfl, rfl⟩ | refine ⟨?_, ?_⟩)) ?_)
  (repeat (first | simp -dsimp only [RB, TB, keep30, tab30, ewOp, xop, xindexAddr, xindex, xslice, xconvert, xlen, drawStep, FreeW, SameW, ChangeW, limBytes, Nat.reduceAdd, Nat.reduceEqDiff, Nat.reduceLT, Nat.reduceLeDiff, Nat.reduceMul, Nat.reduceSub, Int.reduceBEq, Int.reduceBNe, Int.reduceToNat, Int.reduceLT, Int.reduceLE, Int.reduceGT, Int.reduceGE, Int.reduceAdd, Int.reduceSub, Int.reduceNeg, Int.reduceEq, Int.toNat_zero, Int.toNat_one, reduceIte, reduceCtorEq, ne_eq, decide_true, decide_false] | ((with_reducible refine Need.intro ?_ ?_); (first | trivial | omega | (simp; done) | (simp; omega)))))
  refine RetW.auto0 false _ (by first | rfl | exact (List.append_nil _).symm) ?_ ?_
  · (simp (maxDischargeDepth := 6) [LTB, HLt_set, ltL_take, ltL_drop, ltL_rep, upd, eset, *, lt_vi, lt_str, lt_vb] <;> omega)
  (try simp only [wk, wk1, wk0, RB, limBytes, Nat.reduceAdd, Nat.reduceEqDiff, Nat.reduceLT, Nat.reduceLeDiff, Nat.reduceMul, Nat.reduceSub, Int.reduceBEq, Int.reduceBNe, Int.reduceToNat, Int.reduceLT, Int.reduceLE, Int.reduceGT, Int.reduceGE, Int.reduceAdd, Int.reduceSub, Int.reduceNeg, Int.reduceEq, Int.toNat_zero, Int.toNat_one, reduceIte, reduceCtorEq, ne_eq, decide_true, decide_false])
  (try (rw [List.take_of_length_le]; rotate_left 1; (· first | (simp; done) | (simp; omega) | omega)))
theorem attr (H : List Ob) (s : List UInt8) : SCall Try.prog 31 [.str s] H (fun r H' => r = .bool (decide (s ∈ plainL)) ∧ H' = H) := by
  refine SCall.of_good fun hH => ?_
  have hHk := HLt.add hH
  refine SCall.of_code Tok Try.func31 rfl Try.call31 (n := 6) rfl (by simp) (rs := [.tmp 2]) rfl ?_
  refine EW.of_c Tok mixed (own := false) keep31 tab31 (by kernel_rfl) ?_
  (repeat (first | simp -dsimp only [RB, TB, keep31, tab31, ewOp, xop, xindexAddr, xindex, xslice, xconvert, xlen, drawStep, FreeW, SameW, ChangeW, limBytes, Nat.reduceAdd, Nat.reduceEqDiff, Nat.reduceLT, Nat.reduceLeDiff, Nat.reduceMul, Nat.reduceSub, Int.reduceBEq, Int.reduceBNe, Int.reduceToNat, Int.reduceLT, Int.reduceLE, Int.reduceGT, Int.reduceGE, Int.reduceAdd, Int.reduceSub, Int.reduceNeg, Int.reduceEq, Int.toNat_zero, Int.toNat_one, reduceIte, reduceCtorEq, ne_eq, decide_true, decide_false] | ((with_reducible refine Need.intro ?_ ?_); (first | trivial | omega | (simp; done) | (simp; omega)))))
  (first | refine SCall.then (plain _) ?_ | refine SCall.thenA (plain _) (by repeat (first | exact trivial | exact .inl rfl | exact .inr ⟨_, rfl, rfl⟩ | refine ⟨?_, ?_⟩)) ?_ | refine CallE.intro _ (plain _) ?_ | refine CallE.introA (plain _) (by repeat (first | exact trivial | exact .inl rfl | exact .inr ⟨_, rfl, rfl⟩ | refine ⟨?_, ?_⟩)) ?_)
  (repeat (first | simp -dsimp only [RB, TB, keep31, tab31, ewOp, xop, xindexAddr, xindex, xslice, xconvert, xlen, drawStep, FreeW, SameW, ChangeW, limBytes, Nat.reduceAdd, Nat.reduceEqDiff, Nat.reduceLT, Nat.reduceLeDiff, Nat.reduceMul, Nat.reduceSub, Int.reduceBEq, Int.reduceBNe, Int.reduceToNat, Int.reduceLT, Int.reduceLE, Int.reduceGT, Int.reduceGE, Int.reduceAdd, Int.reduceSub, Int.reduceNeg, Int.reduceEq, Int.toNat_zero, Int.toNat_one, reduceIte, reduceCtorEq, ne_eq, decide_true, decide_false] | ((with_reducible refine Need.intro ?_ ?_); (first | trivial | omega | (simp; done) | (simp; omega)))))
  (first | refine SCall.then (contains_str _ plainL s) ?_ | refine SCall.thenA (contains_str _ plainL s) (by repeat (first | exact trivial | exact .inl rfl | exact .inr ⟨_, rfl, rfl⟩ | refine ⟨?_, ?_⟩)) ?_ | refine CallE.intro _ (contains_str _ plainL s) ?_ | refine CallE.introA (contains_str _ plainL s) (by repeat (first | exact trivial | exact .inl rfl | exact .inr ⟨_, rfl, rfl⟩ | refine ⟨?_, ?_⟩)) ?_)
  (repeat (first | simp -dsimp only [RB, TB, keep31, tab31, ewOp, xop, xindexAddr, xindex, xslice, xconvert, xlen, drawStep, FreeW, SameW, ChangeW, limBytes, Nat.reduceAdd, Nat.reduceEqDiff, Nat.reduceLT, Nat.reduceLeDiff, Nat.reduceMul, Nat.reduceSub, Int.reduceBEq, Int.reduceBNe, Int.reduceToNat, Int.reduceLT, Int.reduceLE, Int.reduceGT, Int.reduceGE, Int.reduceAdd, Int.reduceSub, Int.reduceNeg, Int.reduceEq, Int.toNat_zero, Int.toNat_one, reduceIte, reduceCtorEq, ne_eq, decide_true, decide_false] | ((with_reducible refine Need.intro ?_ ?_); (first | trivial | omega | (simp; done) | (simp; omega)))))
  refine RetW.auto0 false _ (by first | rfl | exact (List.append_nil _).symm) ?_ ?_
  · (simp (maxDischargeDepth := 6) [LTB, HLt_set, ltL_take, ltL_drop, ltL_rep, upd, eset, *, lt_vi, lt_str, lt_vb] <;> omega)
  (try simp only [wk, wk1, wk0, RB, limBytes, Nat.reduceAdd, Nat.reduceEqDiff, Nat.reduceLT, Nat.reduceLeDiff, Nat.reduceMul, Nat.reduceSub, Int.reduceBEq, Int.reduceBNe, Int.reduceToNat, Int.reduceLT, Int.reduceLE, Int.reduceGT, Int.reduceGE, Int.reduceAdd, Int.reduceSub, Int.reduceNeg, Int.reduceEq, Int.toNat_zero, Int.toNat_one, reduceIte, reduceCtorEq, ne_eq, decide_true, decide_false])
  (try (rw [List.take_of_length_le]; rotate_left 1; (· first | (simp; done) | (simp; omega) | omega)))
theorem address (H : List Ob) (s : List UInt8) : SCall Try.prog 40 [.str s] H (fun r H' => r = .bool (decide (s ∈ addrL)) ∧ H' = H) := by
  refine SCall.of_good fun hH => ?_
  have hHk := HLt.add hH
  refine SCall.of_code Tok Try.func40 rfl Try.call40 (n := 6) rfl (by simp) (rs := [.tmp 2]) rfl ?_
  refine EW.of_c Tok mixed (own := false) keep40 tab40 (by kernel_rfl) ?_
  (repeat (first | simp -dsimp only [RB, TB, keep40, tab40, ewOp, xop, xindexAddr, xindex, xslice, xconvert, xlen, drawStep, FreeW, SameW, ChangeW, limBytes, Nat.reduceAdd, Nat.reduceEqDiff, Nat.reduceLT, Nat.reduceLeDiff, Nat.reduceMul, Nat.reduceSub, Int.reduceBEq, Int.reduceBNe, Int.reduceToNat, Int.reduceLT, Int.reduceLE, Int.reduceGT, Int.reduceGE, Int.reduceAdd, Int.reduceSub, Int.reduceNeg, Int.reduceEq, Int.toNat_zero, Int.toNat_one, reduceIte, reduceCtorEq, ne_eq, decide_true, decide_false] | ((with_reducible refine Need.intro ?_ ?_); (first | trivial | omega | (simp; done) | (simp; omega)))))
  (first | refine SCall.then (addresses _) ?_ | refine SCall.thenA (addresses _) (by repeat (first | exact trivial | exact .inl rfl | exact .inr ⟨_, rfl, rfl⟩ | refine ⟨?_, ?_⟩)) ?_ | refine CallE.intro _ (addresses _) ?_ | refine CallE.introA (addresses _) (by repeat (first | exact trivial | exact .inl rfl | exact .inr ⟨_, rfl, rfl⟩ | refine ⟨?_, ?_⟩)) ?_)
  (repeat (first | simp -dsimp only [RB, TB, keep40, tab40, ewOp, xop, xindexAddr, xindex, xslice, xconvert, xlen, drawStep, FreeW, SameW, ChangeW, limBytes, Nat.reduceAdd, Nat.reduceEqDiff, Nat.reduceLT, Nat.reduceLeDiff, Nat.reduceMul, Nat.reduceSub, Int.reduceBEq, Int.reduceBNe, Int.reduceToNat, Int.reduceLT, Int.reduceLE, Int.reduceGT, Int.reduceGE, Int.reduceAdd, Int.reduceSub, Int.reduceNeg, Int.reduceEq, Int.toNat_zero, Int.toNat_one, reduceIte, reduceCtorEq, ne_eq, decide_true, decide_false] | ((with_reducible refine Need.intro ?_ ?_); (first | trivial | omega | (simp; done) | (simp; omega)))))
  (first | refine SCall.then (contains_str _ addrL s) ?_ | refine SCall.thenA (contains_str _ addrL s) (by repeat (first | exact trivial | exact .inl rfl | exact .inr ⟨_, rfl, rfl⟩ | refine ⟨?_, ?_⟩)) ?_ | refine CallE.intro _ (contains_str _ addrL s) ?_ | refine CallE.introA (contains_str _ addrL s) (by repeat (first | exact trivial | exact .inl rfl | exact .inr ⟨_, rfl, rfl⟩ | refine ⟨?_, ?_⟩)) ?_)
  (repeat (first | simp -dsimp only [RB, TB, keep40, tab40, ewOp, xop, xindexAddr, xindex, xslice, xconvert, xlen, drawStep, FreeW, SameW, ChangeW, limBytes, Nat.reduceAdd, Nat.reduceEqDiff, Nat.reduceLT, Nat.reduceLeDiff, Nat.reduceMul, Nat.reduceSub, Int.reduceBEq, Int.reduceBNe, Int.reduceToNat, Int.reduceLT, Int.reduceLE, Int.reduceGT, Int.reduceGE, Int.reduceAdd, Int.reduceSub, Int.reduceNeg, Int.reduceEq, Int.toNat_zero, Int.toNat_one, reduceIte, reduceCtorEq, ne_eq, decide_true, decide_false] | ((with_reducible refine Need.intro ?_ ?_); (first | trivial | omega | (simp; done) | (simp; omega)))))
  refine RetW.auto0 false _ (by first | rfl | exact (List.append_nil _).symm) ?_ ?_
  · (simp (maxDischargeDepth := 6) [LTB, HLt_set, ltL_take, ltL_drop, ltL_rep, upd, eset, *, lt_vi, lt_str, lt_vb] <;> omega)
  (try simp only [wk, wk1, wk0, RB, limBytes, Nat.reduceAdd, Nat.reduceEqDiff, Nat.reduceLT, Nat.reduceLeDiff, Nat.reduceMul, Nat.reduceSub, Int.reduceBEq, Int.reduceBNe, Int.reduceToNat, Int.reduceLT, Int.reduceLE, Int.reduceGT, Int.reduceGE, Int.reduceAdd, Int.reduceSub, Int.reduceNeg, Int.reduceEq, Int.toNat_zero, Int.toNat_one, reduceIte, reduceCtorEq, ne_eq, decide_true, decide_false])
  (try (rw [List.take_of_length_le]; rotate_left 1; (· first | (simp; done) | (simp; omega) | omega)))
theorem handler (H : List Ob) (s : List UInt8) : SCall Try.prog 41 [.str s] H (fun r H' => r = .bool (decide (s ∈ [[111, 110, 99, 108, 105, 99, 107], [111, 110, 105, 110, 112, 117, 116], [111, 110, 107, 101, 121]])) ∧ H' = H) := by
  refine SCall.of_good fun hH => ?_
  have hHk := HLt.add hH
  refine SCall.of_code Tok Try.func41 rfl Try.call41 (n := 6) rfl (by simp) (rs := [.tmp 2]) rfl ?_
  refine EW.of_c Tok mixed (own := false) keep41 tab41 (by kernel_rfl) ?_
  (repeat (first | simp -dsimp only [RB, TB, keep41, tab41, ewOp, xop, xindexAddr, xindex, xslice, xconvert, xlen, drawStep, FreeW, SameW, ChangeW, limBytes, Nat.reduceAdd, Nat.reduceEqDiff, Nat.reduceLT, Nat.reduceLeDiff, Nat.reduceMul, Nat.reduceSub, Int.reduceBEq, Int.reduceBNe, Int.reduceToNat, Int.reduceLT, Int.reduceLE, Int.reduceGT, Int.reduceGE, Int.reduceAdd, Int.reduceSub, Int.reduceNeg, Int.reduceEq, Int.toNat_zero, Int.toNat_one, reduceIte, reduceCtorEq, ne_eq, decide_true, decide_false] | ((with_reducible refine Need.intro ?_ ?_); (first | trivial | omega | (simp; done) | (simp; omega)))))
  (first | refine SCall.then (contains_str _ [[111, 110, 99, 108, 105, 99, 107], [111, 110, 105, 110, 112, 117, 116], [111, 110, 107, 101, 121]] s) ?_ | refine SCall.thenA (contains_str _ [[111, 110, 99, 108, 105, 99, 107], [111, 110, 105, 110, 112, 117, 116], [111, 110, 107, 101, 121]] s) (by repeat (first | exact trivial | exact .inl rfl | exact .inr ⟨_, rfl, rfl⟩ | refine ⟨?_, ?_⟩)) ?_ | refine CallE.intro _ (contains_str _ [[111, 110, 99, 108, 105, 99, 107], [111, 110, 105, 110, 112, 117, 116], [111, 110, 107, 101, 121]] s) ?_ | refine CallE.introA (contains_str _ [[111, 110, 99, 108, 105, 99, 107], [111, 110, 105, 110, 112, 117, 116], [111, 110, 107, 101, 121]] s) (by repeat (first | exact trivial | exact .inl rfl | exact .inr ⟨_, rfl, rfl⟩ | refine ⟨?_, ?_⟩)) ?_)
  (repeat (first | simp -dsimp only [RB, TB, keep41, tab41, ewOp, xop, xindexAddr, xindex, xslice, xconvert, xlen, drawStep, FreeW, SameW, ChangeW, limBytes, Nat.reduceAdd, Nat.reduceEqDiff, Nat.reduceLT, Nat.reduceLeDiff, Nat.reduceMul, Nat.reduceSub, Int.reduceBEq, Int.reduceBNe, Int.reduceToNat, Int.reduceLT, Int.reduceLE, Int.reduceGT, Int.reduceGE, Int.reduceAdd, Int.reduceSub, Int.reduceNeg, Int.reduceEq, Int.toNat_zero, Int.toNat_one, reduceIte, reduceCtorEq, ne_eq, decide_true, decide_false] | ((with_reducible refine Need.intro ?_ ?_); (first | trivial | omega | (simp; done) | (simp; omega)))))
  refine RetW.auto0 false _ (by first | rfl | exact (List.append_nil _).symm) ?_ ?_
  · (simp (maxDischargeDepth := 6) [LTB, HLt_set, ltL_take, ltL_drop, ltL_rep, upd, eset, *, lt_vi, lt_str, lt_vb] <;> omega)
  (try simp only [wk, wk1, wk0, RB, limBytes, Nat.reduceAdd, Nat.reduceEqDiff, Nat.reduceLT, Nat.reduceLeDiff, Nat.reduceMul, Nat.reduceSub, Int.reduceBEq, Int.reduceBNe, Int.reduceToNat, Int.reduceLT, Int.reduceLE, Int.reduceGT, Int.reduceGE, Int.reduceAdd, Int.reduceSub, Int.reduceNeg, Int.reduceEq, Int.toNat_zero, Int.toNat_one, reduceIte, reduceCtorEq, ne_eq, decide_true, decide_false])
  (try (rw [List.take_of_length_le]; rotate_left 1; (· first | (simp; done) | (simp; omega) | omega)))
theorem void (H : List Ob) (s : List UInt8) : SCall Try.prog 43 [.str s] H (fun r H' => r = .bool (decide (s ∈ [[98, 114], [104, 114], [105, 109, 103]])) ∧ H' = H) := by
  refine SCall.of_good fun hH => ?_
  have hHk := HLt.add hH
  refine SCall.of_code Tok Try.func43 rfl Try.call43 (n := 6) rfl (by simp) (rs := [.tmp 2]) rfl ?_
  refine EW.of_c Tok mixed (own := false) keep43 tab43 (by kernel_rfl) ?_
  (repeat (first | simp -dsimp only [RB, TB, keep43, tab43, ewOp, xop, xindexAddr, xindex, xslice, xconvert, xlen, drawStep, FreeW, SameW, ChangeW, limBytes, Nat.reduceAdd, Nat.reduceEqDiff, Nat.reduceLT, Nat.reduceLeDiff, Nat.reduceMul, Nat.reduceSub, Int.reduceBEq, Int.reduceBNe, Int.reduceToNat, Int.reduceLT, Int.reduceLE, Int.reduceGT, Int.reduceGE, Int.reduceAdd, Int.reduceSub, Int.reduceNeg, Int.reduceEq, Int.toNat_zero, Int.toNat_one, reduceIte, reduceCtorEq, ne_eq, decide_true, decide_false] | ((with_reducible refine Need.intro ?_ ?_); (first | trivial | omega | (simp; done) | (simp; omega)))))
  (first | refine SCall.then (contains_str _ [[98, 114], [104, 114], [105, 109, 103]] s) ?_ | refine SCall.thenA (contains_str _ [[98, 114], [104, 114], [105, 109, 103]] s) (by repeat (first | exact trivial | exact .inl rfl | exact .inr ⟨_, rfl, rfl⟩ | refine ⟨?_, ?_⟩)) ?_ | refine CallE.intro _ (contains_str _ [[98, 114], [104, 114], [105, 109, 103]] s) ?_ | refine CallE.introA (contains_str _ [[98, 114], [104, 114], [105, 109, 103]] s) (by repeat (first | exact trivial | exact .inl rfl | exact .inr ⟨_, rfl, rfl⟩ | refine ⟨?_, ?_⟩)) ?_)
  (repeat (first | simp -dsimp only [RB, TB, keep43, tab43, ewOp, xop, xindexAddr, xindex, xslice, xconvert, xlen, drawStep, FreeW, SameW, ChangeW, limBytes, Nat.reduceAdd, Nat.reduceEqDiff, Nat.reduceLT, Nat.reduceLeDiff, Nat.reduceMul, Nat.reduceSub, Int.reduceBEq, Int.reduceBNe, Int.reduceToNat, Int.reduceLT, Int.reduceLE, Int.reduceGT, Int.reduceGE, Int.reduceAdd, Int.reduceSub, Int.reduceNeg, Int.reduceEq, Int.toNat_zero, Int.toNat_one, reduceIte, reduceCtorEq, ne_eq, decide_true, decide_false] | ((with_reducible refine Need.intro ?_ ?_); (first | trivial | omega | (simp; done) | (simp; omega)))))
  refine RetW.auto0 false _ (by first | rfl | exact (List.append_nil _).symm) ?_ ?_
  · (simp (maxDischargeDepth := 6) [LTB, HLt_set, ltL_take, ltL_drop, ltL_rep, upd, eset, *, lt_vi, lt_str, lt_vb] <;> omega)
  (try simp only [wk, wk1, wk0, RB, limBytes, Nat.reduceAdd, Nat.reduceEqDiff, Nat.reduceLT, Nat.reduceLeDiff, Nat.reduceMul, Nat.reduceSub, Int.reduceBEq, Int.reduceBNe, Int.reduceToNat, Int.reduceLT, Int.reduceLE, Int.reduceGT, Int.reduceGE, Int.reduceAdd, Int.reduceSub, Int.reduceNeg, Int.reduceEq, Int.toNat_zero, Int.toNat_one, reduceIte, reduceCtorEq, ne_eq, decide_true, decide_false])
  (try (rw [List.take_of_length_le]; rotate_left 1; (· first | (simp; done) | (simp; omega) | omega)))
theorem filt_tags : (tagsL.filter fun x => !rawB x) = tagsL.take 15 := by decide +kernel
theorem common (H : List Ob) : SCall Try.prog 29 [] H (fun r H' => ∃ L : List (List UInt8), L.length = 17 ∧ L.take 15 = tagsL.take 15 ∧ r = .tuple [.vec H.length 1 0 15, .vec (H.length + 1) 1 0 7] ∧ H' = H ++ [.vec 1 1 (L.map V.str), .vec 1 1 ((plainL ++ addrL).map V.str)]) := by
  refine SCall.of_good fun hH => ?_
  have hHk := HLt.add hH
  refine SCall.of_code Tok Try.func29 rfl Try.call29 (n := 7) rfl (by simp) (rs := [.tmp 0, .tmp 1]) rfl ?_
  refine EW.of_c Tok mixed (own := false) keep29 tab29 (by kernel_rfl) ?_
  (repeat (first | simp -dsimp only [RB, TB, keep29, tab29, ewOp, xop, xindexAddr, xindex, xslice, xconvert, xlen, drawStep, FreeW, SameW, ChangeW, limBytes, Nat.reduceAdd, Nat.reduceEqDiff, Nat.reduceLT, Nat.reduceLeDiff, Nat.reduceMul, Nat.reduceSub, Int.reduceBEq, Int.reduceBNe, Int.reduceToNat, Int.reduceLT, Int.reduceLE, Int.reduceGT, Int.reduceGE, Int.reduceAdd, Int.reduceSub, Int.reduceNeg, Int.reduceEq, Int.toNat_zero, Int.toNat_one, reduceIte, reduceCtorEq, ne_eq, decide_true, decide_false] | ((with_reducible refine Need.intro ?_ ?_); (first | trivial | omega | (simp; done) | (simp; omega)))))
  (first | refine SCall.then (tags _) ?_ | refine SCall.thenA (tags _) (by repeat (first | exact trivial | exact .inl rfl | exact .inr ⟨_, rfl, rfl⟩ | refine ⟨?_, ?_⟩)) ?_ | refine CallE.intro _ (tags _) ?_ | refine CallE.introA (tags _) (by repeat (first | exact trivial | exact .inl rfl | exact .inr ⟨_, rfl, rfl⟩ | refine ⟨?_, ?_⟩)) ?_)
  (repeat (first | simp -dsimp only [RB, TB, keep29, tab29, ewOp, xop, xindexAddr, xindex, xslice, xconvert, xlen, drawStep, FreeW, SameW, ChangeW, limBytes, Nat.reduceAdd, Nat.reduceEqDiff, Nat.reduceLT, Nat.reduceLeDiff, Nat.reduceMul, Nat.reduceSub, Int.reduceBEq, Int.reduceBNe, Int.reduceToNat, Int.reduceLT, Int.reduceLE, Int.reduceGT, Int.reduceGE, Int.reduceAdd, Int.reduceSub, Int.reduceNeg, Int.reduceEq, Int.toNat_zero, Int.toNat_one, reduceIte, reduceCtorEq, ne_eq, decide_true, decide_false] | ((with_reducible refine Need.intro ?_ ?_); (first | trivial | omega | (simp; done) | (simp; omega)))))
  refine SCall.mono (deleteFunc_str _ tagsL _ [] [] rawB (fun x _ H => raw H x) ⟨trivial, trivial⟩ _ _ _ (by simp) rfl (by decide)) ?_
  rintro r H1 ⟨L, hL, rfl, ht, rfl⟩
  rw [filt_tags] at ht ⊢
  have h15 : (tagsL.take 15).length = 15 := rfl
  rw [h15] at ht ⊢
  (repeat (first | simp -dsimp only [RB, TB, keep29, tab29, ewOp, xop, xindexAddr, xindex, xslice, xconvert, xlen, drawStep, FreeW, SameW, ChangeW, limBytes, Nat.reduceAdd, Nat.reduceEqDiff, Nat.reduceLT, Nat.reduceLeDiff, Nat.reduceMul, Nat.reduceSub, Int.reduceBEq, Int.reduceBNe, Int.reduceToNat, Int.reduceLT, Int.reduceLE, Int.reduceGT, Int.reduceGE, Int.reduceAdd, Int.reduceSub, Int.reduceNeg, Int.reduceEq, Int.toNat_zero, Int.toNat_one, reduceIte, reduceCtorEq, ne_eq, decide_true, decide_false] | ((with_reducible refine Need.intro ?_ ?_); (first | trivial | omega | (simp; done) | (simp; omega)))))
  (first | refine SCall.then (plain _) ?_ | refine SCall.thenA (plain _) (by repeat (first | exact trivial | exact .inl rfl | exact .inr ⟨_, rfl, rfl⟩ | refine ⟨?_, ?_⟩)) ?_ | refine CallE.intro _ (plain _) ?_ | refine CallE.introA (plain _) (by repeat (first | exact trivial | exact .inl rfl | exact .inr ⟨_, rfl, rfl⟩ | refine ⟨?_, ?_⟩)) ?_)
  (repeat (first | simp -dsimp only [RB, TB, keep29, tab29, ewOp, xop, xindexAddr, xindex, xslice, xconvert, xlen, drawStep, FreeW, SameW, ChangeW, limBytes, Nat.reduceAdd, Nat.reduceEqDiff, Nat.reduceLT, Nat.reduceLeDiff, Nat.reduceMul, Nat.reduceSub, Int.reduceBEq, Int.reduceBNe, Int.reduceToNat, Int.reduceLT, Int.reduceLE, Int.reduceGT, Int.reduceGE, Int.reduceAdd, Int.reduceSub, Int.reduceNeg, Int.reduceEq, Int.toNat_zero, Int.toNat_one, reduceIte, reduceCtorEq, ne_eq, decide_true, decide_false] | ((with_reducible refine Need.intro ?_ ?_); (first | trivial | omega | (simp; done) | (simp; omega)))))
  (first | refine SCall.then (addresses _) ?_ | refine SCall.thenA (addresses _) (by repeat (first | exact trivial | exact .inl rfl | exact .inr ⟨_, rfl, rfl⟩ | refine ⟨?_, ?_⟩)) ?_ | refine CallE.intro _ (addresses _) ?_ | refine CallE.introA (addresses _) (by repeat (first | exact trivial | exact .inl rfl | exact .inr ⟨_, rfl, rfl⟩ | refine ⟨?_, ?_⟩)) ?_)
  (repeat (first | simp -dsimp only [show plainL.isEmpty = false from rfl, show addrL.isEmpty = false from rfl, show plainL.length = 5 from rfl, show addrL.length = 2 from rfl, RB, TB, keep29, tab29, ewOp, xop, xindexAddr, xindex, xslice, xconvert, xlen, drawStep, FreeW, SameW, ChangeW, limBytes, Nat.reduceAdd, Nat.reduceEqDiff, Nat.reduceLT, Nat.reduceLeDiff, Nat.reduceMul, Nat.reduceSub, Int.reduceBEq, Int.reduceBNe, Int.reduceToNat, Int.reduceLT, Int.reduceLE, Int.reduceGT, Int.reduceGE, Int.reduceAdd, Int.reduceSub, Int.reduceNeg, Int.reduceEq, Int.toNat_zero, Int.toNat_one, reduceIte, reduceCtorEq, ne_eq, decide_true, decide_false] | ((with_reducible refine Need.intro ?_ ?_); (first | trivial | omega | (simp; done) | (simp; omega)))))
  refine RetW.auto false [.vec 1 1 (L.map V.str), .vec 1 1 ((plainL ++ addrL).map V.str)] _ (by first | rfl | simp) ?_ ?_ ?_
  · (simp (maxDischargeDepth := 6) [LTB, HLt_set, ltL_take, ltL_drop, ltL_rep, upd, eset, *, lt_vi, lt_str, lt_vb] <;> omega)
  · (simp (maxDischargeDepth := 6) [LTB, HLt_set, ltL_take, ltL_drop, ltL_rep, upd, eset, *, lt_vi, lt_str, lt_vb] <;> omega)
  (try simp only [wk, wk1, wk0, RB, limBytes, Nat.reduceAdd, Nat.reduceEqDiff, Nat.reduceLT, Nat.reduceLeDiff, Nat.reduceMul, Nat.reduceSub, Int.reduceBEq, Int.reduceBNe, Int.reduceToNat, Int.reduceLT, Int.reduceLE, Int.reduceGT, Int.reduceGE, Int.reduceAdd, Int.reduceSub, Int.reduceNeg, Int.reduceEq, Int.toNat_zero, Int.toNat_one, reduceIte, reduceCtorEq, ne_eq, decide_true, decide_false])
  (try (rw [List.take_of_length_le]; rotate_left 1; (· first | (simp; done) | (simp; omega) | omega)))
  exact ⟨L, hL, ht, by simp, by simp⟩
theorem alive16 (H : List Ob) : SCall Try.prog 27 [] H (fun r H' => r = .bool true ∧ H' = H) := by
  refine SCall.of_good fun hH => ?_
  have hHk := HLt.add hH
  refine SCall.of_code Tok Try.func27 rfl Try.call27 (n := 11) rfl (by simp) (rs := [.tmp 0]) rfl ?_
  refine EW.of_c Tok mixed (own := false) keep27 tab27 (by kernel_rfl) ?_
  (repeat (first | simp -dsimp only [RB, TB, keep27, tab27, ewOp, xop, xindexAddr, xindex, xslice, xconvert, xlen, drawStep, FreeW, SameW, ChangeW, limBytes, Nat.reduceAdd, Nat.reduceEqDiff, Nat.reduceLT, Nat.reduceLeDiff, Nat.reduceMul, Nat.reduceSub, Int.reduceBEq, Int.reduceBNe, Int.reduceToNat, Int.reduceLT, Int.reduceLE, Int.reduceGT, Int.reduceGE, Int.reduceAdd, Int.reduceSub, Int.reduceNeg, Int.reduceEq, Int.toNat_zero, Int.toNat_one, reduceIte, reduceCtorEq, ne_eq, decide_true, decide_false] | ((with_reducible refine Need.intro ?_ ?_); (first | trivial | omega | (simp; done) | (simp; omega)))))
  (first | refine SCall.then (tag _ _) ?_ | refine SCall.thenA (tag _ _) (by repeat (first | exact trivial | exact .inl rfl | exact .inr ⟨_, rfl, rfl⟩ | refine ⟨?_, ?_⟩)) ?_ | refine CallE.intro _ (tag _ _) ?_ | refine CallE.introA (tag _ _) (by repeat (first | exact trivial | exact .inl rfl | exact .inr ⟨_, rfl, rfl⟩ | refine ⟨?_, ?_⟩)) ?_)
  (repeat (first | simp -dsimp only [show decide ([105, 102, 114, 97, 109, 101] ∈ tagsL) = false from by decide +kernel, RB, TB, keep27, tab27, ewOp, xop, xindexAddr, xindex, xslice, xconvert, xlen, drawStep, FreeW, SameW, ChangeW, limBytes, Nat.reduceAdd, Nat.reduceEqDiff, Nat.reduceLT, Nat.reduceLeDiff, Nat.reduceMul, Nat.reduceSub, Int.reduceBEq, Int.reduceBNe, Int.reduceToNat, Int.reduceLT, Int.reduceLE, Int.reduceGT, Int.reduceGE, Int.reduceAdd, Int.reduceSub, Int.reduceNeg, Int.reduceEq, Int.toNat_zero, Int.toNat_one, reduceIte, reduceCtorEq, ne_eq, decide_true, decide_false] | ((with_reducible refine Need.intro ?_ ?_); (first | trivial | omega | (simp; done) | (simp; omega)))))
  (first | refine SCall.then (tag _ _) ?_ | refine SCall.thenA (tag _ _) (by repeat (first | exact trivial | exact .inl rfl | exact .inr ⟨_, rfl, rfl⟩ | refine ⟨?_, ?_⟩)) ?_ | refine CallE.intro _ (tag _ _) ?_ | refine CallE.introA (tag _ _) (by repeat (first | exact trivial | exact .inl rfl | exact .inr ⟨_, rfl, rfl⟩ | refine ⟨?_, ?_⟩)) ?_)
  (repeat (first | simp -dsimp only [show decide ([100, 105, 118] ∈ tagsL) = true from by decide +kernel, RB, TB, keep27, tab27, ewOp, xop, xindexAddr, xindex, xslice, xconvert, xlen, drawStep, FreeW, SameW, ChangeW, limBytes, Nat.reduceAdd, Nat.reduceEqDiff, Nat.reduceLT, Nat.reduceLeDiff, Nat.reduceMul, Nat.reduceSub, Int.reduceBEq, Int.reduceBNe, Int.reduceToNat, Int.reduceLT, Int.reduceLE, Int.reduceGT, Int.reduceGE, Int.reduceAdd, Int.reduceSub, Int.reduceNeg, Int.reduceEq, Int.toNat_zero, Int.toNat_one, reduceIte, reduceCtorEq, ne_eq, decide_true, decide_false] | ((with_reducible refine Need.intro ?_ ?_); (first | trivial | omega | (simp; done) | (simp; omega)))))
  (first | refine SCall.then (tags _) ?_ | refine SCall.thenA (tags _) (by repeat (first | exact trivial | exact .inl rfl | exact .inr ⟨_, rfl, rfl⟩ | refine ⟨?_, ?_⟩)) ?_ | refine CallE.intro _ (tags _) ?_ | refine CallE.introA (tags _) (by repeat (first | exact trivial | exact .inl rfl | exact .inr ⟨_, rfl, rfl⟩ | refine ⟨?_, ?_⟩)) ?_)
  (repeat (first | simp -dsimp only [RB, TB, keep27, tab27, ewOp, xop, xindexAddr, xindex, xslice, xconvert, xlen, drawStep, FreeW, SameW, ChangeW, limBytes, Nat.reduceAdd, Nat.reduceEqDiff, Nat.reduceLT, Nat.reduceLeDiff, Nat.reduceMul, Nat.reduceSub, Int.reduceBEq, Int.reduceBNe, Int.reduceToNat, Int.reduceLT, Int.reduceLE, Int.reduceGT, Int.reduceGE, Int.reduceAdd, Int.reduceSub, Int.reduceNeg, Int.reduceEq, Int.toNat_zero, Int.toNat_one, reduceIte, reduceCtorEq, ne_eq, decide_true, decide_false] | ((with_reducible refine Need.intro ?_ ?_); (first | trivial | omega | (simp; done) | (simp; omega)))))
  refine RetW.auto0 false _ (by first | rfl | exact (List.append_nil _).symm) ?_ ?_
  · (simp (maxDischargeDepth := 6) [LTB, HLt_set, ltL_take, ltL_drop, ltL_rep, upd, eset, *, lt_vi, lt_str, lt_vb] <;> omega)
  (try simp only [wk, wk1, wk0, RB, limBytes, Nat.reduceAdd, Nat.reduceEqDiff, Nat.reduceLT, Nat.reduceLeDiff, Nat.reduceMul, Nat.reduceSub, Int.reduceBEq, Int.reduceBNe, Int.reduceToNat, Int.reduceLT, Int.reduceLE, Int.reduceGT, Int.reduceGE, Int.reduceAdd, Int.reduceSub, Int.reduceNeg, Int.reduceEq, Int.toNat_zero, Int.toNat_one, reduceIte, reduceCtorEq, ne_eq, decide_true, decide_false])
  (try (rw [List.take_of_length_le]; rotate_left 1; (· first | (simp; done) | (simp; omega) | omega)))
theorem in16 (H : List Ob) (s : List UInt8) (l : List (List UInt8)) : SCall Try.prog 39 [.str s, .slice (l.map V.str)] H (fun r H' => r = .bool (decide (s ∈ l)) ∧ H' = H) := by
  refine SCall.sized 1 rfl fun hl => ?_
  rw [List.length_map, maxLen_eq] at hl
  refine SCall.of_good fun hH => ?_
  have hHk := HLt.add hH
  refine SCall.of_code Tok Try.func39 rfl Try.call39 (n := 18) rfl (by simp) (rs := [.tmp 4]) rfl ?_
  refine EW.of_c Tok mixed (own := false) keep39 tab39 (by kernel_rfl) ?_
  (repeat (first | simp -dsimp only [RB, TB, keep39, tab39, ewOp, xop, xindexAddr, xindex, xslice, xconvert, xlen, drawStep, FreeW, SameW, ChangeW, limBytes, Nat.reduceAdd, Nat.reduceEqDiff, Nat.reduceLT, Nat.reduceLeDiff, Nat.reduceMul, Nat.reduceSub, Int.reduceBEq, Int.reduceBNe, Int.reduceToNat, Int.reduceLT, Int.reduceLE, Int.reduceGT, Int.reduceGE, Int.reduceAdd, Int.reduceSub, Int.reduceNeg, Int.reduceEq, Int.toNat_zero, Int.toNat_one, reduceIte, reduceCtorEq, ne_eq, decide_true, decide_false] | ((with_reducible refine Need.intro ?_ ?_); (first | trivial | omega | (simp; done) | (simp; omega)))))
  refine EW.loopE (ι := (Nat)) (fun (i : (Nat)) => i ≤ l.length ∧ ∀ x ∈ l.take i, (x == s) = false) (fun (i : (Nat)) => l.length - i) (fun (i : (Nat)) => [(5, .int .i64 i)]) (fun (i : (Nat)) => H) (0) ?_ ?_ ?_ ?_ ?_
  · first | rfl | simp [upd, eset]
  · first | rfl | (simp; done) | exact (set_same (by assumption)).symm
  · rintro i hok; exact ⟨by simp, by (simp (maxDischargeDepth := 6) [LTB, HLt_set, ltL_take, ltL_drop, ltL_rep, upd, eset, *, lt_vi, lt_str, lt_vb] <;> omega), by (simp (maxDischargeDepth := 6) [LTB, HLt_set, ltL_take, ltL_drop, ltL_rep, upd, eset, *, lt_vi, lt_str, lt_vb] <;> omega)⟩
  · simp
  rintro i ⟨hi, hno⟩
  refine EW.of_c Tok mixed (own := false) keep39 tab39 (by kernel_rfl) ?_
  (repeat (first | simp -dsimp only [RB, TB, keep39, tab39, ewOp, xop, xindexAddr, xindex, xslice, xconvert, xlen, drawStep, FreeW, SameW, ChangeW, limBytes, Nat.reduceAdd, Nat.reduceEqDiff, Nat.reduceLT, Nat.reduceLeDiff, Nat.reduceMul, Nat.reduceSub, Int.reduceBEq, Int.reduceBNe, Int.reduceToNat, Int.reduceLT, Int.reduceLE, Int.reduceGT, Int.reduceGE, Int.reduceAdd, Int.reduceSub, Int.reduceNeg, Int.reduceEq, Int.toNat_zero, Int.toNat_one, reduceIte, reduceCtorEq, ne_eq, decide_true, decide_false] | ((with_reducible refine Need.intro ?_ ?_); (first | trivial | omega | (simp; done) | (simp; omega)))))
  refine IfW.intro (fun h => ?_) (fun h => ?_)
  · have hlt := lt_of h
    (repeat (first | simp -dsimp only [h, at_map V.str l i hlt, RB, TB, keep39, tab39, ewOp, xop, xindexAddr, xindex, xslice, xconvert, xlen, drawStep, FreeW, SameW, ChangeW, limBytes, Nat.reduceAdd, Nat.reduceEqDiff, Nat.reduceLT, Nat.reduceLeDiff, Nat.reduceMul, Nat.reduceSub, Int.reduceBEq, Int.reduceBNe, Int.reduceToNat, Int.reduceLT, Int.reduceLE, Int.reduceGT, Int.reduceGE, Int.reduceAdd, Int.reduceSub, Int.reduceNeg, Int.reduceEq, Int.toNat_zero, Int.toNat_one, reduceIte, reduceCtorEq, ne_eq, decide_true, decide_false] | ((with_reducible refine Need.intro ?_ ?_); (first | trivial | omega | (simp; done) | (simp; omega)))))
    refine IfW.intro (fun hb => ?_) (fun hb => ?_)
    · (repeat (first | simp -dsimp only [hb, RB, TB, keep39, tab39, ewOp, xop, xindexAddr, xindex, xslice, xconvert, xlen, drawStep, FreeW, SameW, ChangeW, limBytes, Nat.reduceAdd, Nat.reduceEqDiff, Nat.reduceLT, Nat.reduceLeDiff, Nat.reduceMul, Nat.reduceSub, Int.reduceBEq, Int.reduceBNe, Int.reduceToNat, Int.reduceLT, Int.reduceLE, Int.reduceGT, Int.reduceGE, Int.reduceAdd, Int.reduceSub, Int.reduceNeg, Int.reduceEq, Int.toNat_zero, Int.toNat_one, reduceIte, reduceCtorEq, ne_eq, decide_true, decide_false] | ((with_reducible refine Need.intro ?_ ?_); (first | trivial | omega | (simp; done) | (simp; omega)))))
      refine RetW.auto0 false _ (by first | rfl | exact (List.append_nil _).symm) ?_ ?_
      · (simp (maxDischargeDepth := 6) [LTB, HLt_set, ltL_take, ltL_drop, ltL_rep, upd, eset, *, lt_vi, lt_str, lt_vb] <;> omega)
      (try simp only [wk, wk1, wk0, RB, limBytes, Nat.reduceAdd, Nat.reduceEqDiff, Nat.reduceLT, Nat.reduceLeDiff, Nat.reduceMul, Nat.reduceSub, Int.reduceBEq, Int.reduceBNe, Int.reduceToNat, Int.reduceLT, Int.reduceLE, Int.reduceGT, Int.reduceGE, Int.reduceAdd, Int.reduceSub, Int.reduceNeg, Int.reduceEq, Int.toNat_zero, Int.toNat_one, reduceIte, reduceCtorEq, ne_eq, decide_true, decide_false])
      (try (rw [List.take_of_length_le]; rotate_left 1; (· first | (simp; done) | (simp; omega) | omega)))
      have hb : l[i] = s := by simpa using hb
      have : s ∈ l := hb ▸ List.getElem_mem hlt
      simp [this]
    · (repeat (first | simp -dsimp only [hb, RB, TB, keep39, tab39, ewOp, xop, xindexAddr, xindex, xslice, xconvert, xlen, drawStep, FreeW, SameW, ChangeW, limBytes, Nat.reduceAdd, Nat.reduceEqDiff, Nat.reduceLT, Nat.reduceLeDiff, Nat.reduceMul, Nat.reduceSub, Int.reduceBEq, Int.reduceBNe, Int.reduceToNat, Int.reduceLT, Int.reduceLE, Int.reduceGT, Int.reduceGE, Int.reduceAdd, Int.reduceSub, Int.reduceNeg, Int.reduceEq, Int.toNat_zero, Int.toNat_one, reduceIte, reduceCtorEq, ne_eq, decide_true, decide_false] | ((with_reducible refine Need.intro ?_ ?_); (first | trivial | omega | (simp; done) | (simp; omega)))))
      rw [wrapI (by omega)]
      refine UpTo.here ⟨(i + 1), ?_, by first | omega | (simp only [List.length_append, List.length_cons, List.length_nil]; omega), by simp [upd, eset], ⟨_, by simp; try rfl⟩⟩
      exact ⟨hlt, take_step hlt hb hno⟩
  · (repeat (first | simp -dsimp only [h, RB, TB, keep39, tab39, ewOp, xop, xindexAddr, xindex, xslice, xconvert, xlen, drawStep, FreeW, SameW, ChangeW, limBytes, Nat.reduceAdd, Nat.reduceEqDiff, Nat.reduceLT, Nat.reduceLeDiff, Nat.reduceMul, Nat.reduceSub, Int.reduceBEq, Int.reduceBNe, Int.reduceToNat, Int.reduceLT, Int.reduceLE, Int.reduceGT, Int.reduceGE, Int.reduceAdd, Int.reduceSub, Int.reduceNeg, Int.reduceEq, Int.toNat_zero, Int.toNat_one, reduceIte, reduceCtorEq, ne_eq, decide_true, decide_false] | ((with_reducible refine Need.intro ?_ ?_); (first | trivial | omega | (simp; done) | (simp; omega)))))
    refine RetW.auto0 false _ (by first | rfl | exact (List.append_nil _).symm) ?_ ?_
    · (simp (maxDischargeDepth := 6) [LTB, HLt_set, ltL_take, ltL_drop, ltL_rep, upd, eset, *, lt_vi, lt_str, lt_vb] <;> omega)
    (try simp only [wk, wk1, wk0, RB, limBytes, Nat.reduceAdd, Nat.reduceEqDiff, Nat.reduceLT, Nat.reduceLeDiff, Nat.reduceMul, Nat.reduceSub, Int.reduceBEq, Int.reduceBNe, Int.reduceToNat, Int.reduceLT, Int.reduceLE, Int.reduceGT, Int.reduceGE, Int.reduceAdd, Int.reduceSub, Int.reduceNeg, Int.reduceEq, Int.toNat_zero, Int.toNat_one, reduceIte, reduceCtorEq, ne_eq, decide_true, decide_false])
    (try (rw [List.take_of_length_le]; rotate_left 1; (· first | (simp; done) | (simp; omega) | omega)))
    have := take_all (ge_of h) hno
    have : s ∉ l := fun hs => by have := this s hs; simp at this
    simp [this]
end Go.Proofs.Ytadhjfdmfdgppaa

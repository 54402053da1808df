/- The walks of package code: Check, octets, Put. -/
import Derived.Test.YtadhjfdmfdgppaaET
set_option linter.unusedSimpArgs false
set_option linter.unusedVariables false
set_option maxRecDepth 100000
namespace Go.Proofs.Ytadhjfdmfdgppaa
open Go Go.EL
theorem lt_vi (n : Nat) (l : List Int) : ltL n (l.map vi) := ltL_map (f := vi) (fun _ => trivial) l
theorem lt_str (n : Nat) (l : List (List UInt8)) : ltL n (l.map V.str) := ltL_map (f := V.str) (fun _ => trivial) l
theorem lt_vb (n : Nat) (l : List UInt8) : ltL n (l.map vb) := ltL_map (f := vb) (fun _ => trivial) l
theorem wrapI {x : Int} (h : -9223372036854775808 ≤ x ∧ x ≤ 9223372036854775807) : IntKind.i64.wrap x = x := wrap64_id h
theorem ge_of {a b : Nat} (h : decide ((a : Int) < b) = false) : b ≤ a := by have := of_decide_eq_false h; omega
theorem lt_of {a b : Nat} (h : decide ((a : Int) < b) = true) : a < b := by have := of_decide_eq_true h; omega
/-- the place of the first one; -1: none -/
def ix {α : Type} (p : α → Bool) (l : List α) : Int := if l.findIdx p < l.length then (l.findIdx p : Nat) else -1
theorem ix_hit {α : Type} {p : α → Bool} {l : List α} {i : Nat} (h : i < l.length) (hp : p l[i] = true) (hn : ∀ x ∈ l.take i, p x = false) : ix p l = i := by
  have : l.findIdx p = i := by
    rw [List.findIdx_eq h]
    refine ⟨hp, fun j hj => ?_⟩
    exact hn _ (List.mem_take_iff_getElem.2 ⟨j, by omega, rfl⟩)
  rw [ix, this, if_pos h]
theorem ix_none {α : Type} {p : α → Bool} {l : List α} (hn : ∀ x ∈ l, p x = false) : ix p l = -1 := by
  rw [ix, if_neg]
  rw [List.findIdx_lt_length]
  rintro ⟨x, hx, h⟩
  rw [hn x hx] at h
  cases h
theorem ix_nonneg {α : Type} {p : α → Bool} {l : List α} : 0 ≤ ix p l ↔ ∃ x ∈ l, p x = true := by
  unfold ix
  by_cases h : l.findIdx p < l.length
  · rw [if_pos h]; exact ⟨fun _ => List.findIdx_lt_length.1 h, fun _ => by omega⟩
  · rw [if_neg h]; exact ⟨fun h => by omega, fun h' => absurd (List.findIdx_lt_length.2 h') h⟩
theorem ix_any {α : Type} {p : α → Bool} {l : List α} : decide (0 ≤ ix p l) = l.any p := by
  rw [Bool.eq_iff_iff, decide_eq_true_iff, ix_nonneg, List.any_eq_true]
theorem take_step {α : Type} {q : α → Prop} {l : List α} {i : Nat} (h : i < l.length) (hq : q l[i]) (hn : ∀ x ∈ l.take i, q x) : ∀ x ∈ l.take (i + 1), q x := by
  intro x hx
  rw [List.take_succ_eq_append_getElem h] at hx
  rcases List.mem_append.1 hx with hx | hx
  · exact hn x hx
  · rw [List.mem_singleton.1 hx]; exact hq
theorem take_all {α : Type} {q : α → Prop} {l : List α} {i : Nat} (h : l.length ≤ i) (hn : ∀ x ∈ l.take i, q x) : ∀ x ∈ l, q x := by
  rwa [List.take_of_length_le h] at hn
theorem isE {α : Type} {l : List α} (h : l ≠ []) : l.isEmpty = false := by cases l <;> simp_all

theorem indexFunc_int (H : List Ob) (l : List (Int)) (k : FuncId) (fi ca : List V) (p : Int → Bool) (hf : ∀ x ∈ l, SCall Try.prog k (fi ++ vi x :: ca) H (fun r H' => r = .bool (p x) ∧ H' = H)) (hlf : ltL H.length fi ∧ ltL H.length ca) : SCall Try.prog 72 [.slice (l.map vi), .fn (.func k) fi ca] H (fun r H' => r = .int .i64 (ix p l) ∧ H' = H) := by
  obtain ⟨hl1, hl2⟩ := hlf
  refine SCall.sized 0 rfl fun hl => ?_
  rw [List.length_map, maxLen_eq] at hl
  refine SCall.of_good fun hH => ?_
  have hHk := HLt.add hH
  refine SCall.of_code Tok Try.func72 rfl Try.call72 (n := 19) rfl (by simp) (rs := [.tmp 4]) rfl ?_
  refine EWn.to ?_
  refine EWn.of_c Tok mixed (own := false) keep72 tab72 (by kernel_rfl) ?_
  (repeat (first | simp -dsimp only [RB, TB, keep72, tab72, ewOp, xop, xindexAddr, xindex, xslice, xconvert, xlen, drawStep, FreeW, SameW, ChangeW, limBytes, Nat.reduceBEq, Nat.reduceAdd, Nat.reduceEqDiff, Nat.reduceLT, Nat.reduceLeDiff, Nat.reduceMul, Nat.reduceSub, Int.reduceBEq, Int.reduceBNe, Int.reduceToNat, Int.reduceLT, Int.reduceLE, Int.reduceGT, Int.reduceGE, Int.reduceAdd, Int.reduceSub, Int.reduceNeg, Int.reduceEq, Int.toNat_zero, Int.toNat_one, reduceIte, reduceCtorEq, ne_eq, decide_true, decide_false] | ((with_reducible refine Need.intro ?_ ?_); (first | trivial | omega | (simp; done) | (simp; omega)))))
  refine EWn.loopE (ι := (Nat)) (fun (i : (Nat)) => i ≤ l.length ∧ ∀ x ∈ l.take i, p x = false) (fun (i : (Nat)) => l.length - i) (fun (i : (Nat)) => [(8, .int .i64 i)]) (fun (i : (Nat)) => H) (0) ?_ ?_ ?_ ?_ ?_
  · first | rfl | simp [upd, eset]
  · first | rfl | (simp; done) | exact (set_same (by assumption)).symm
  · rintro i hok; exact ⟨by first | (simp; done) | (simp; omega), by (simp (maxDischargeDepth := 6) [LTB, HLt_set, ltL_take, ltL_drop, ltL_rep, upd, eset, hH, hHk, hl1, hl2, lt_vi, lt_str, lt_vb] <;> omega), by (simp (maxDischargeDepth := 6) [LTB, HLt_set, ltL_take, ltL_drop, ltL_rep, upd, eset, hH, hHk, hl1, hl2, lt_vi, lt_str, lt_vb] <;> omega)⟩
  · simp
  rintro i ⟨hi, hno⟩
  refine EWn.of_c Tok mixed (own := false) keep72 tab72 (by kernel_rfl) ?_
  (repeat (first | simp -dsimp only [RB, TB, keep72, tab72, ewOp, xop, xindexAddr, xindex, xslice, xconvert, xlen, drawStep, FreeW, SameW, ChangeW, limBytes, Nat.reduceBEq, Nat.reduceAdd, Nat.reduceEqDiff, Nat.reduceLT, Nat.reduceLeDiff, Nat.reduceMul, Nat.reduceSub, Int.reduceBEq, Int.reduceBNe, Int.reduceToNat, Int.reduceLT, Int.reduceLE, Int.reduceGT, Int.reduceGE, Int.reduceAdd, Int.reduceSub, Int.reduceNeg, Int.reduceEq, Int.toNat_zero, Int.toNat_one, reduceIte, reduceCtorEq, ne_eq, decide_true, decide_false] | ((with_reducible refine Need.intro ?_ ?_); (first | trivial | omega | (simp; done) | (simp; omega)))))
  refine IfW.intro (fun h => ?_) (fun h => ?_)
  · have hlt := lt_of h
    (repeat (first | simp -dsimp only [h, at_map vi l i hlt, vi, RB, TB, keep72, tab72, ewOp, xop, xindexAddr, xindex, xslice, xconvert, xlen, drawStep, FreeW, SameW, ChangeW, limBytes, Nat.reduceBEq, Nat.reduceAdd, Nat.reduceEqDiff, Nat.reduceLT, Nat.reduceLeDiff, Nat.reduceMul, Nat.reduceSub, Int.reduceBEq, Int.reduceBNe, Int.reduceToNat, Int.reduceLT, Int.reduceLE, Int.reduceGT, Int.reduceGE, Int.reduceAdd, Int.reduceSub, Int.reduceNeg, Int.reduceEq, Int.toNat_zero, Int.toNat_one, reduceIte, reduceCtorEq, ne_eq, decide_true, decide_false] | ((with_reducible refine Need.intro ?_ ?_); (first | trivial | omega | (simp; done) | (simp; omega)))))
    refine SCall.then (hf l[i] (List.getElem_mem hlt)) ?_
    (repeat (first | simp -dsimp only [RB, TB, keep72, tab72, ewOp, xop, xindexAddr, xindex, xslice, xconvert, xlen, drawStep, FreeW, SameW, ChangeW, limBytes, Nat.reduceBEq, Nat.reduceAdd, Nat.reduceEqDiff, Nat.reduceLT, Nat.reduceLeDiff, Nat.reduceMul, Nat.reduceSub, Int.reduceBEq, Int.reduceBNe, Int.reduceToNat, Int.reduceLT, Int.reduceLE, Int.reduceGT, Int.reduceGE, Int.reduceAdd, Int.reduceSub, Int.reduceNeg, Int.reduceEq, Int.toNat_zero, Int.toNat_one, reduceIte, reduceCtorEq, ne_eq, decide_true, decide_false] | ((with_reducible refine Need.intro ?_ ?_); (first | trivial | omega | (simp; done) | (simp; omega)))))
    refine IfW.intro (fun hb => ?_) (fun hb => ?_)
    · (repeat (first | simp -dsimp only [hb, RB, TB, keep72, tab72, ewOp, xop, xindexAddr, xindex, xslice, xconvert, xlen, drawStep, FreeW, SameW, ChangeW, limBytes, Nat.reduceBEq, Nat.reduceAdd, Nat.reduceEqDiff, Nat.reduceLT, Nat.reduceLeDiff, Nat.reduceMul, Nat.reduceSub, Int.reduceBEq, Int.reduceBNe, Int.reduceToNat, Int.reduceLT, Int.reduceLE, Int.reduceGT, Int.reduceGE, Int.reduceAdd, Int.reduceSub, Int.reduceNeg, Int.reduceEq, Int.toNat_zero, Int.toNat_one, reduceIte, reduceCtorEq, ne_eq, decide_true, decide_false] | ((with_reducible refine Need.intro ?_ ?_); (first | trivial | omega | (simp; done) | (simp; omega)))))
      refine RetW.auto0 false _ (by first | rfl | exact (List.append_nil _).symm) ?_ ?_
      · (simp (maxDischargeDepth := 6) [LTB, HLt_set, ltL_take, ltL_drop, ltL_rep, upd, eset, hH, hHk, hl1, hl2, lt_vi, lt_str, lt_vb] <;> omega)
      (try simp only [wk, wk1, wk0, RB, limBytes, Nat.reduceBEq, Nat.reduceAdd, Nat.reduceEqDiff, Nat.reduceLT, Nat.reduceLeDiff, Nat.reduceMul, Nat.reduceSub, Int.reduceBEq, Int.reduceBNe, Int.reduceToNat, Int.reduceLT, Int.reduceLE, Int.reduceGT, Int.reduceGE, Int.reduceAdd, Int.reduceSub, Int.reduceNeg, Int.reduceEq, Int.toNat_zero, Int.toNat_one, reduceIte, reduceCtorEq, ne_eq, decide_true, decide_false])
      (try (rw [List.take_of_length_le]; rotate_left 1; (· first | (simp; done) | (simp; omega) | omega)))
      rw [ix_hit hlt hb hno]
    · (repeat (first | simp -dsimp only [hb, RB, TB, keep72, tab72, ewOp, xop, xindexAddr, xindex, xslice, xconvert, xlen, drawStep, FreeW, SameW, ChangeW, limBytes, Nat.reduceBEq, Nat.reduceAdd, Nat.reduceEqDiff, Nat.reduceLT, Nat.reduceLeDiff, Nat.reduceMul, Nat.reduceSub, Int.reduceBEq, Int.reduceBNe, Int.reduceToNat, Int.reduceLT, Int.reduceLE, Int.reduceGT, Int.reduceGE, Int.reduceAdd, Int.reduceSub, Int.reduceNeg, Int.reduceEq, Int.toNat_zero, Int.toNat_one, reduceIte, reduceCtorEq, ne_eq, decide_true, decide_false] | ((with_reducible refine Need.intro ?_ ?_); (first | trivial | omega | (simp; done) | (simp; omega)))))
      rw [wrapI (by omega)]
      refine UpTo.here ⟨(i + 1), ?_, by first | omega | (simp only [List.length_append, List.length_cons, List.length_nil]; omega), by simp [upd, eset], ⟨_, by simp; try rfl⟩⟩
      exact ⟨hlt, take_step hlt hb hno⟩
  · (repeat (first | simp -dsimp only [h, RB, TB, keep72, tab72, ewOp, xop, xindexAddr, xindex, xslice, xconvert, xlen, drawStep, FreeW, SameW, ChangeW, limBytes, Nat.reduceBEq, Nat.reduceAdd, Nat.reduceEqDiff, Nat.reduceLT, Nat.reduceLeDiff, Nat.reduceMul, Nat.reduceSub, Int.reduceBEq, Int.reduceBNe, Int.reduceToNat, Int.reduceLT, Int.reduceLE, Int.reduceGT, Int.reduceGE, Int.reduceAdd, Int.reduceSub, Int.reduceNeg, Int.reduceEq, Int.toNat_zero, Int.toNat_one, reduceIte, reduceCtorEq, ne_eq, decide_true, decide_false] | ((with_reducible refine Need.intro ?_ ?_); (first | trivial | omega | (simp; done) | (simp; omega)))))
    refine RetW.auto0 false _ (by first | rfl | exact (List.append_nil _).symm) ?_ ?_
    · (simp (maxDischargeDepth := 6) [LTB, HLt_set, ltL_take, ltL_drop, ltL_rep, upd, eset, hH, hHk, hl1, hl2, lt_vi, lt_str, lt_vb] <;> omega)
    (try simp only [wk, wk1, wk0, RB, limBytes, Nat.reduceBEq, Nat.reduceAdd, Nat.reduceEqDiff, Nat.reduceLT, Nat.reduceLeDiff, Nat.reduceMul, Nat.reduceSub, Int.reduceBEq, Int.reduceBNe, Int.reduceToNat, Int.reduceLT, Int.reduceLE, Int.reduceGT, Int.reduceGE, Int.reduceAdd, Int.reduceSub, Int.reduceNeg, Int.reduceEq, Int.toNat_zero, Int.toNat_one, reduceIte, reduceCtorEq, ne_eq, decide_true, decide_false])
    (try (rw [List.take_of_length_le]; rotate_left 1; (· first | (simp; done) | (simp; omega) | omega)))
    rw [ix_none (take_all (ge_of h) hno)]
theorem indexFunc_int_vec (H : List Ob) (l : List (Int)) (k : FuncId) (fi ca : List V) (p : Int → Bool) (hf : ∀ x ∈ l, SCall Try.prog k (fi ++ vi x :: ca) [] (fun r H' => r = .bool (p x) ∧ H' = [])) (hlf : ltL 0 fi ∧ ltL 0 ca) (o ver es n : Nat) (ho : H[o]? = some (.vec ver es (l.map vi))) (hn : n = l.length) : SCall Try.prog 72 [.vec o ver 0 n, .fn (.func k) fi ca] H (fun r H' => r = .int .i64 (ix p l) ∧ H' = H) := by
  subst hn
  refine SCall.borrow (args' := [.slice (l.map vi), .fn (.func k) fi ca]) ⟨⟨es, _, ho, by simp, by rw [List.drop_zero, ← List.length_map (f := vi), List.take_length], lt_vi _ _⟩, ⟨rfl, hlf⟩, trivial⟩ ?_
  refine (indexFunc_int [] l k fi ca p hf hlf).mono ?_
  rintro r H' ⟨rfl, _⟩
  exact ⟨rfl, trivial⟩

theorem containsFunc_int (H : List Ob) (l : List (Int)) (k : FuncId) (fi ca : List V) (p : Int → Bool) (hf : ∀ x ∈ l, SCall Try.prog k (fi ++ vi x :: ca) H (fun r H' => r = .bool (p x) ∧ H' = H)) (hlf : ltL H.length fi ∧ ltL H.length ca) : SCall Try.prog 75 [.slice (l.map vi), .fn (.func k) fi ca] H (fun r H' => r = .bool (l.any p) ∧ H' = H) := by
  refine SCall.of_good fun hH => ?_
  have hHk := HLt.add hH
  refine SCall.of_code Tok Try.func75 rfl Try.call75 (n := 9) rfl (by simp) (rs := [.tmp 4]) rfl ?_
  refine EWn.to ?_
  refine EWn.of_c Tok mixed (own := false) keep75 tab75 (by kernel_rfl) ?_
  (repeat (first | simp -dsimp only [RB, TB, keep75, tab75, ewOp, xop, xindexAddr, xindex, xslice, xconvert, xlen, drawStep, FreeW, SameW, ChangeW, limBytes, Nat.reduceBEq, Nat.reduceAdd, Nat.reduceEqDiff, Nat.reduceLT, Nat.reduceLeDiff, Nat.reduceMul, Nat.reduceSub, Int.reduceBEq, Int.reduceBNe, Int.reduceToNat, Int.reduceLT, Int.reduceLE, Int.reduceGT, Int.reduceGE, Int.reduceAdd, Int.reduceSub, Int.reduceNeg, Int.reduceEq, Int.toNat_zero, Int.toNat_one, reduceIte, reduceCtorEq, ne_eq, decide_true, decide_false] | ((with_reducible refine Need.intro ?_ ?_); (first | trivial | omega | (simp; done) | (simp; omega)))))
  (first | refine SCall.then (indexFunc_int _ l k fi ca p hf hlf) ?_ | refine SCall.thenA (indexFunc_int _ l k fi ca p hf hlf) (by repeat (first | exact trivial | exact .inl rfl | exact .inr ⟨_, rfl, rfl⟩ | refine ⟨?_, ?_⟩)) ?_ | refine CallE.intro _ (indexFunc_int _ l k fi ca p hf hlf) ?_ | refine CallE.introA (indexFunc_int _ l k fi ca p hf hlf) (by repeat (first | exact trivial | exact .inl rfl | exact .inr ⟨_, rfl, rfl⟩ | refine ⟨?_, ?_⟩)) ?_ | refine CallE.intro _ (fun _ => indexFunc_int _ l k fi ca p hf hlf) ?_ | refine CallE.intro _ (fun _ => SCall.arg (by repeat (first | exact trivial | exact .inl rfl | exact .inr ⟨_, rfl, rfl⟩ | refine ⟨?_, ?_⟩)) (indexFunc_int _ l k fi ca p hf hlf)) ?_)
  (repeat (first | simp -dsimp only [RB, TB, keep75, tab75, ewOp, xop, xindexAddr, xindex, xslice, xconvert, xlen, drawStep, FreeW, SameW, ChangeW, limBytes, Nat.reduceBEq, Nat.reduceAdd, Nat.reduceEqDiff, Nat.reduceLT, Nat.reduceLeDiff, Nat.reduceMul, Nat.reduceSub, Int.reduceBEq, Int.reduceBNe, Int.reduceToNat, Int.reduceLT, Int.reduceLE, Int.reduceGT, Int.reduceGE, Int.reduceAdd, Int.reduceSub, Int.reduceNeg, Int.reduceEq, Int.toNat_zero, Int.toNat_one, reduceIte, reduceCtorEq, ne_eq, decide_true, decide_false] | ((with_reducible refine Need.intro ?_ ?_); (first | trivial | omega | (simp; done) | (simp; omega)))))
  refine RetW.auto0 false _ (by first | rfl | exact (List.append_nil _).symm) ?_ ?_
  · (simp (maxDischargeDepth := 6) [LTB, HLt_set, ltL_take, ltL_drop, ltL_rep, upd, eset, hH, hHk, lt_vi, lt_str, lt_vb] <;> omega)
  (try simp only [wk, wk1, wk0, RB, limBytes, Nat.reduceBEq, Nat.reduceAdd, Nat.reduceEqDiff, Nat.reduceLT, Nat.reduceLeDiff, Nat.reduceMul, Nat.reduceSub, Int.reduceBEq, Int.reduceBNe, Int.reduceToNat, Int.reduceLT, Int.reduceLE, Int.reduceGT, Int.reduceGE, Int.reduceAdd, Int.reduceSub, Int.reduceNeg, Int.reduceEq, Int.toNat_zero, Int.toNat_one, reduceIte, reduceCtorEq, ne_eq, decide_true, decide_false])
  (try (rw [List.take_of_length_le]; rotate_left 1; (· first | (simp; done) | (simp; omega) | omega)))
  rw [← ix_any]

structure Cmd where
  op : Int
  a : Int
  b : Int
  c : Int
  text : List UInt8
  deriving DecidableEq
def cmdV (c : Cmd) : V := .agg [.int .i64 c.op, .int .i64 c.a, .int .i64 c.b, .int .i64 c.c, .str c.text]
theorem lt_cmd (n : Nat) (l : List Cmd) : ltL n (l.map cmdV) := ltL_map (f := cmdV) (fun _ => by simp [cmdV, V.lt, ltL]) l
theorem lt1_cmd (n : Nat) (x : Cmd) : V.lt n (cmdV x) := by simp [cmdV, V.lt, ltL]
theorem st_cmd (l : List Cmd) : (∀ x, x ∈ l.map cmdV → x.storable) = True := eq_true (storable_map (f := cmdV) (fun _ => trivial) l)
theorem sz_cmd (l : List Cmd) : Sized 5 (l.map cmdV) = True := eq_true (sized_map (f := cmdV) (fun _ => rfl) l)

def badB (n : Int) : Bool := decide (n < 0) || decide (n > 255)
theorem check1 (H : List Ob) (n : Int) : SCall Try.prog 76 [.int .i64 n] H (fun r H' => r = .bool (badB n) ∧ H' = H) := by
  refine SCall.of_good fun hH => ?_
  have hHk := HLt.add hH
  refine SCall.of_code Tok Try.func76 rfl Try.call76 (n := 9) rfl (by simp) (rs := [.tmp 2]) rfl ?_
  refine EWn.to ?_
  refine EWn.of_c Tok mixed (own := false) keep76 tab76 (by kernel_rfl) ?_
  (repeat (first | simp -dsimp only [st_cmd, sz_cmd, RB, TB, keep76, tab76, ewOp, xop, xindexAddr, xindex, xslice, xconvert, xlen, drawStep, FreeW, SameW, ChangeW, limBytes, Nat.reduceBEq, Nat.reduceAdd, Nat.reduceEqDiff, Nat.reduceLT, Nat.reduceLeDiff, Nat.reduceMul, Nat.reduceSub, Int.reduceBEq, Int.reduceBNe, Int.reduceToNat, Int.reduceLT, Int.reduceLE, Int.reduceGT, Int.reduceGE, Int.reduceAdd, Int.reduceSub, Int.reduceNeg, Int.reduceEq, Int.toNat_zero, Int.toNat_one, reduceIte, reduceCtorEq, ne_eq, decide_true, decide_false] | ((with_reducible refine Need.intro ?_ ?_); (first | trivial | omega | (simp; done) | (simp; omega)))))
  refine IfW.intro (fun h => ?_) (fun h => ?_)
  all_goals
    (repeat (first | simp -dsimp only [st_cmd, sz_cmd, h, RB, TB, keep76, tab76, ewOp, xop, xindexAddr, xindex, xslice, xconvert, xlen, drawStep, FreeW, SameW, ChangeW, limBytes, Nat.reduceBEq, Nat.reduceAdd, Nat.reduceEqDiff, Nat.reduceLT, Nat.reduceLeDiff, Nat.reduceMul, Nat.reduceSub, Int.reduceBEq, Int.reduceBNe, Int.reduceToNat, Int.reduceLT, Int.reduceLE, Int.reduceGT, Int.reduceGE, Int.reduceAdd, Int.reduceSub, Int.reduceNeg, Int.reduceEq, Int.toNat_zero, Int.toNat_one, reduceIte, reduceCtorEq, ne_eq, decide_true, decide_false] | ((with_reducible refine Need.intro ?_ ?_); (first | trivial | omega | (simp; done) | (simp; omega)))))
    refine RetW.auto0 false _ (by first | rfl | exact (List.append_nil _).symm) ?_ ?_
    · (simp (maxDischargeDepth := 6) [LTB, HLt_set, ltL_take, ltL_drop, ltL_rep, upd, eset, hH, hHk, lt_vi, lt_str, lt_vb, lt_cmd, lt1_cmd] <;> omega)
    (try simp only [wk, wk1, wk0, RB, limBytes, Nat.reduceBEq, Nat.reduceAdd, Nat.reduceEqDiff, Nat.reduceLT, Nat.reduceLeDiff, Nat.reduceMul, Nat.reduceSub, Int.reduceBEq, Int.reduceBNe, Int.reduceToNat, Int.reduceLT, Int.reduceLE, Int.reduceGT, Int.reduceGE, Int.reduceAdd, Int.reduceSub, Int.reduceNeg, Int.reduceEq, Int.toNat_zero, Int.toNat_one, reduceIte, reduceCtorEq, ne_eq, decide_true, decide_false])
    (try (rw [List.take_of_length_le]; rotate_left 1; (· first | (simp; done) | (simp; omega) | omega)))
    simp [badB, h]
def checkC (c : Cmd) : Int := if c.op < 1 ∨ c.op > 9 then 12 else if badB c.a = true ∨ badB c.b = true ∨ badB c.c = true then 4 else if (c.text.length : Int) > 4096 then 5 else 0
theorem check (H : List Ob) (c : Cmd) : SCall Try.prog 46 [cmdV c] H (fun r H' => r = .int .i64 (checkC c) ∧ H' = H) := by
  obtain ⟨op, a, b, cc, text⟩ := c
  unfold cmdV
  refine SCall.of_good fun hH => ?_
  have hHk := HLt.add hH
  refine SCall.of_code Tok Try.func46 rfl Try.call46 (n := 26) rfl (by simp) (rs := [.tmp 2]) rfl ?_
  refine EWn.to ?_
  refine EWn.of_c Tok mixed (own := false) keep46 tab46 (by kernel_rfl) ?_
  (repeat (first | simp -dsimp only [st_cmd, sz_cmd, RB, TB, keep46, tab46, ewOp, xop, xindexAddr, xindex, xslice, xconvert, xlen, drawStep, FreeW, SameW, ChangeW, limBytes, Nat.reduceBEq, Nat.reduceAdd, Nat.reduceEqDiff, Nat.reduceLT, Nat.reduceLeDiff, Nat.reduceMul, Nat.reduceSub, Int.reduceBEq, Int.reduceBNe, Int.reduceToNat, Int.reduceLT, Int.reduceLE, Int.reduceGT, Int.reduceGE, Int.reduceAdd, Int.reduceSub, Int.reduceNeg, Int.reduceEq, Int.toNat_zero, Int.toNat_one, reduceIte, reduceCtorEq, ne_eq, decide_true, decide_false] | ((with_reducible refine Need.intro ?_ ?_); (first | trivial | omega | (simp; done) | (simp; omega)))))
  repeat' (first | simp -dsimp only [st_cmd, sz_cmd, *, RB, TB, keep46, tab46, ewOp, xop, xindexAddr, xindex, xslice, xconvert, xlen, drawStep, FreeW, SameW, ChangeW, limBytes, Nat.reduceBEq, Nat.reduceAdd, Nat.reduceEqDiff, Nat.reduceLT, Nat.reduceLeDiff, Nat.reduceMul, Nat.reduceSub, Int.reduceBEq, Int.reduceBNe, Int.reduceToNat, Int.reduceLT, Int.reduceLE, Int.reduceGT, Int.reduceGE, Int.reduceAdd, Int.reduceSub, Int.reduceNeg, Int.reduceEq, Int.toNat_zero, Int.toNat_one, reduceIte, reduceCtorEq, ne_eq, decide_true, decide_false] | ((with_reducible refine Need.intro ?_ ?_); (first | trivial | omega | (simp; done) | (simp; omega))) | (refine SCall.arg (args' := [.slice ([a, b, cc].map vi), .fn (.func 76) [] []]) ⟨.inr ⟨_, rfl, rfl⟩, .inl rfl, trivial⟩ ?_) | (first | refine SCall.then (containsFunc_int _ [a, b, cc] _ [] [] badB (fun x _ => check1 _ x) ⟨trivial, trivial⟩) ?_ | refine SCall.thenA (containsFunc_int _ [a, b, cc] _ [] [] badB (fun x _ => check1 _ x) ⟨trivial, trivial⟩) (by repeat (first | exact trivial | exact .inl rfl | exact .inr ⟨_, rfl, rfl⟩ | refine ⟨?_, ?_⟩)) ?_ | refine CallE.intro _ (containsFunc_int _ [a, b, cc] _ [] [] badB (fun x _ => check1 _ x) ⟨trivial, trivial⟩) ?_ | refine CallE.introA (containsFunc_int _ [a, b, cc] _ [] [] badB (fun x _ => check1 _ x) ⟨trivial, trivial⟩) (by repeat (first | exact trivial | exact .inl rfl | exact .inr ⟨_, rfl, rfl⟩ | refine ⟨?_, ?_⟩)) ?_ | refine CallE.intro _ (fun _ => containsFunc_int _ [a, b, cc] _ [] [] badB (fun x _ => check1 _ x) ⟨trivial, trivial⟩) ?_ | refine CallE.intro _ (fun _ => SCall.arg (by repeat (first | exact trivial | exact .inl rfl | exact .inr ⟨_, rfl, rfl⟩ | refine ⟨?_, ?_⟩)) (containsFunc_int _ [a, b, cc] _ [] [] badB (fun x _ => check1 _ x) ⟨trivial, trivial⟩)) ?_) | (with_reducible refine IfW.intro (fun h_ => ?_) (fun h_ => ?_)) | ((with_reducible refine RetW.auto0 false _ (by first | rfl | exact (List.append_nil _).symm) (by (simp (maxDischargeDepth := 6) [LTB, HLt_set, ltL_take, ltL_drop, ltL_rep, upd, eset, hH, hHk, lt_vi, lt_str, lt_vb, lt_cmd, lt1_cmd] <;> omega)) ?_); (try simp only [wk, wk1, wk0, RB, limBytes, Nat.reduceBEq, Nat.reduceAdd, Nat.reduceEqDiff, Nat.reduceLT, Nat.reduceLeDiff, Nat.reduceMul, Nat.reduceSub, Int.reduceBEq, Int.reduceBNe, Int.reduceToNat, Int.reduceLT, Int.reduceLE, Int.reduceGT, Int.reduceGE, Int.reduceAdd, Int.reduceSub, Int.reduceNeg, Int.reduceEq, Int.toNat_zero, Int.toNat_one, reduceIte, reduceCtorEq, ne_eq, decide_true, decide_false]); (try (rw [List.take_of_length_le]; rotate_left 1; (· first | (simp; done) | (simp; omega) | omega))); (try (simp_all [checkC, badB] <;> omega)); done))
def octetsC (c : Cmd) : List UInt8 := [byt c.op, byt c.a, byt c.b, byt c.c, byt (Int.fdiv c.text.length 256), byt c.text.length] ++ c.text
theorem octetsC_len (c : Cmd) : (octetsC c).length = c.text.length + 6 := by simp [octetsC]
theorem octets (H : List Ob) (c : Cmd) (h : c.text.length ≤ 4096) : SCall Try.prog 66 [cmdV c] H (fun r H' => r = .slice ((octetsC c).map vb) ∧ H' = H) := by
  obtain ⟨op, a, b, cc, text⟩ := c
  unfold cmdV
  simp only at h
  refine SCall.of_good fun hH => ?_
  have hHk := HLt.add hH
  refine SCall.of_code Tok Try.func66 rfl Try.call66 (n := 30) rfl (by simp) (rs := [.tmp 2]) rfl ?_
  refine EWn.to ?_
  refine EWn.of_c Tok mixed (own := false) keep66 tab66 (by kernel_rfl) ?_
  (repeat (first | simp -dsimp only [st_cmd, sz_cmd, RB, TB, keep66, tab66, ewOp, xop, xindexAddr, xindex, xslice, xconvert, xlen, drawStep, FreeW, SameW, ChangeW, limBytes, Nat.reduceBEq, Nat.reduceAdd, Nat.reduceEqDiff, Nat.reduceLT, Nat.reduceLeDiff, Nat.reduceMul, Nat.reduceSub, Int.reduceBEq, Int.reduceBNe, Int.reduceToNat, Int.reduceLT, Int.reduceLE, Int.reduceGT, Int.reduceGE, Int.reduceAdd, Int.reduceSub, Int.reduceNeg, Int.reduceEq, Int.toNat_zero, Int.toNat_one, reduceIte, reduceCtorEq, ne_eq, decide_true, decide_false] | ((with_reducible refine Need.intro ?_ ?_); (first | trivial | omega | (simp; done) | (simp; omega)))))
  by_cases ht : text = []
  · subst ht
    (repeat (first | simp -dsimp only [st_cmd, sz_cmd, wrap_u8, RB, TB, keep66, tab66, ewOp, xop, xindexAddr, xindex, xslice, xconvert, xlen, drawStep, FreeW, SameW, ChangeW, limBytes, Nat.reduceBEq, Nat.reduceAdd, Nat.reduceEqDiff, Nat.reduceLT, Nat.reduceLeDiff, Nat.reduceMul, Nat.reduceSub, Int.reduceBEq, Int.reduceBNe, Int.reduceToNat, Int.reduceLT, Int.reduceLE, Int.reduceGT, Int.reduceGE, Int.reduceAdd, Int.reduceSub, Int.reduceNeg, Int.reduceEq, Int.toNat_zero, Int.toNat_one, reduceIte, reduceCtorEq, ne_eq, decide_true, decide_false] | ((with_reducible refine Need.intro ?_ ?_); (first | trivial | omega | (simp; done) | (simp; omega)))))
    refine RetW.auto0 false _ (by first | rfl | exact (List.append_nil _).symm) ?_ ?_
    · (simp (maxDischargeDepth := 6) [LTB, HLt_set, ltL_take, ltL_drop, ltL_rep, upd, eset, hH, hHk, lt_vi, lt_str, lt_vb, lt_cmd, lt1_cmd] <;> omega)
    (try simp only [wk, wk1, wk0, RB, limBytes, Nat.reduceBEq, Nat.reduceAdd, Nat.reduceEqDiff, Nat.reduceLT, Nat.reduceLeDiff, Nat.reduceMul, Nat.reduceSub, Int.reduceBEq, Int.reduceBNe, Int.reduceToNat, Int.reduceLT, Int.reduceLE, Int.reduceGT, Int.reduceGE, Int.reduceAdd, Int.reduceSub, Int.reduceNeg, Int.reduceEq, Int.toNat_zero, Int.toNat_one, reduceIte, reduceCtorEq, ne_eq, decide_true, decide_false])
    (try (rw [List.take_of_length_le]; rotate_left 1; (· first | (simp; done) | (simp; omega) | omega)))
    simp [octetsC, vb, show min 8 IntKind.i64.bits = 8 from rfl]
  have ht := isE ht
  (repeat (first | simp -dsimp only [st_cmd, sz_cmd, wrap_u8, ht, RB, TB, keep66, tab66, ewOp, xop, xindexAddr, xindex, xslice, xconvert, xlen, drawStep, FreeW, SameW, ChangeW, limBytes, Nat.reduceBEq, Nat.reduceAdd, Nat.reduceEqDiff, Nat.reduceLT, Nat.reduceLeDiff, Nat.reduceMul, Nat.reduceSub, Int.reduceBEq, Int.reduceBNe, Int.reduceToNat, Int.reduceLT, Int.reduceLE, Int.reduceGT, Int.reduceGE, Int.reduceAdd, Int.reduceSub, Int.reduceNeg, Int.reduceEq, Int.toNat_zero, Int.toNat_one, reduceIte, reduceCtorEq, ne_eq, decide_true, decide_false] | ((with_reducible refine Need.intro ?_ ?_); (first | trivial | omega | (simp; done) | (simp; omega)))))
  refine RetW.auto0 false _ (by first | rfl | exact (List.append_nil _).symm) ?_ ?_
  · (simp (maxDischargeDepth := 6) [LTB, HLt_set, ltL_take, ltL_drop, ltL_rep, upd, eset, hH, hHk, lt_vi, lt_str, lt_vb, lt_cmd, lt1_cmd] <;> omega)
  (try simp only [wk, wk1, wk0, RB, limBytes, Nat.reduceBEq, Nat.reduceAdd, Nat.reduceEqDiff, Nat.reduceLT, Nat.reduceLeDiff, Nat.reduceMul, Nat.reduceSub, Int.reduceBEq, Int.reduceBNe, Int.reduceToNat, Int.reduceLT, Int.reduceLE, Int.reduceGT, Int.reduceGE, Int.reduceAdd, Int.reduceSub, Int.reduceNeg, Int.reduceEq, Int.toNat_zero, Int.toNat_one, reduceIte, reduceCtorEq, ne_eq, decide_true, decide_false])
  (try (rw [List.take_of_length_le]; rotate_left 1; (· first | (simp; done) | (simp; omega) | omega)))
  simp [octetsC, vb, show min 8 IntKind.i64.bits = 8 from rfl]
/-- the octets of all, and the error -/
def putC (l : List Cmd) : List UInt8 × Int :=
  if l.length > 256 then ([], 3) else match l.find? (fun c => checkC c != 0) with
  | some c => ([], checkC c)
  | none => (l.flatMap octetsC, 0)
theorem checkC_len {c : Cmd} (h : checkC c = 0) : c.text.length ≤ 4096 := by
  unfold checkC at h
  split at h
  · omega
  split at h
  · omega
  split at h <;> omega
theorem flat_len {l : List Cmd} (h : ∀ c ∈ l, checkC c = 0) : (l.flatMap octetsC).length ≤ l.length * 4102 := by
  induction l with
  | nil => simp
  | cons c l ih =>
    have := ih fun c hc => h c (by simp [hc])
    have h2 := checkC_len (h c (by simp))
    have h3 := octetsC_len c
    simp only [List.flatMap_cons, List.length_append, List.length_cons]
    omega
theorem putC_bad {l : List Cmd} {i : Nat} (h256 : l.length ≤ 256) (h : i < l.length) (hb : checkC l[i] ≠ 0) (hn : ∀ c ∈ l.take i, checkC c = 0) : putC l = ([], checkC l[i]) := by
  unfold putC
  rw [if_neg (by omega)]
  have : l.find? (fun c => checkC c != 0) = some l[i] := by
    rw [List.find?_eq_some_iff_getElem]
    refine ⟨by simpa using hb, i, h, rfl, fun j hj => ?_⟩
    have := hn l[j] (List.mem_take_iff_getElem.2 ⟨j, by omega, rfl⟩)
    simp [this]
  rw [this]
theorem putC_good {l : List Cmd} (h256 : l.length ≤ 256) (hn : ∀ c ∈ l, checkC c = 0) : putC l = (l.flatMap octetsC, 0) := by
  unfold putC
  rw [if_neg (by omega)]
  have : l.find? (fun c => checkC c != 0) = none := by
    rw [List.find?_eq_none]
    intro c hc
    simp [hn c hc]
  rw [this]
theorem put (H : List Ob) (l : List Cmd) : SCall Try.prog 26 [.slice (l.map cmdV)] H (fun r H' => r = .tuple [.slice ((putC l).1.map vb), .int .i64 (putC l).2] ∧ H' = H) := by
  refine SCall.of_good fun hH => ?_
  have hHk := HLt.add hH
  refine SCall.of_code Tok Try.func26 rfl Try.call26 (n := 28) rfl (by simp) (rs := [.tmp 2, .tmp 3]) rfl ?_
  refine EWn.to ?_
  refine EWn.of_c Tok mixed (own := false) keep26 tab26 (by kernel_rfl) ?_
  (repeat (first | simp -dsimp only [st_cmd, sz_cmd, RB, TB, keep26, tab26, ewOp, xop, xindexAddr, xindex, xslice, xconvert, xlen, drawStep, FreeW, SameW, ChangeW, limBytes, Nat.reduceBEq, Nat.reduceAdd, Nat.reduceEqDiff, Nat.reduceLT, Nat.reduceLeDiff, Nat.reduceMul, Nat.reduceSub, Int.reduceBEq, Int.reduceBNe, Int.reduceToNat, Int.reduceLT, Int.reduceLE, Int.reduceGT, Int.reduceGE, Int.reduceAdd, Int.reduceSub, Int.reduceNeg, Int.reduceEq, Int.toNat_zero, Int.toNat_one, reduceIte, reduceCtorEq, ne_eq, decide_true, decide_false] | ((with_reducible refine Need.intro ?_ ?_); (first | trivial | omega | (simp; done) | (simp; omega)))))
  refine IfW.intro (fun h => ?_) (fun h => ?_)
  · (repeat (first | simp -dsimp only [st_cmd, sz_cmd, h, RB, TB, keep26, tab26, ewOp, xop, xindexAddr, xindex, xslice, xconvert, xlen, drawStep, FreeW, SameW, ChangeW, limBytes, Nat.reduceBEq, Nat.reduceAdd, Nat.reduceEqDiff, Nat.reduceLT, Nat.reduceLeDiff, Nat.reduceMul, Nat.reduceSub, Int.reduceBEq, Int.reduceBNe, Int.reduceToNat, Int.reduceLT, Int.reduceLE, Int.reduceGT, Int.reduceGE, Int.reduceAdd, Int.reduceSub, Int.reduceNeg, Int.reduceEq, Int.toNat_zero, Int.toNat_one, reduceIte, reduceCtorEq, ne_eq, decide_true, decide_false] | ((with_reducible refine Need.intro ?_ ?_); (first | trivial | omega | (simp; done) | (simp; omega)))))
    refine RetW.auto0 false _ (by first | rfl | exact (List.append_nil _).symm) ?_ ?_
    · (simp (maxDischargeDepth := 6) [LTB, HLt_set, ltL_take, ltL_drop, ltL_rep, upd, eset, hH, hHk, lt_vi, lt_str, lt_vb, lt_cmd, lt1_cmd] <;> omega)
    (try simp only [wk, wk1, wk0, RB, limBytes, Nat.reduceBEq, Nat.reduceAdd, Nat.reduceEqDiff, Nat.reduceLT, Nat.reduceLeDiff, Nat.reduceMul, Nat.reduceSub, Int.reduceBEq, Int.reduceBNe, Int.reduceToNat, Int.reduceLT, Int.reduceLE, Int.reduceGT, Int.reduceGE, Int.reduceAdd, Int.reduceSub, Int.reduceNeg, Int.reduceEq, Int.toNat_zero, Int.toNat_one, reduceIte, reduceCtorEq, ne_eq, decide_true, decide_false])
    (try (rw [List.take_of_length_le]; rotate_left 1; (· first | (simp; done) | (simp; omega) | omega)))
    have : l.length > 256 := by have := of_decide_eq_true h; omega
    simp [putC, this]
  have h256 : l.length ≤ 256 := by have := of_decide_eq_false h; omega
  (repeat (first | simp -dsimp only [st_cmd, sz_cmd, h, RB, TB, keep26, tab26, ewOp, xop, xindexAddr, xindex, xslice, xconvert, xlen, drawStep, FreeW, SameW, ChangeW, limBytes, Nat.reduceBEq, Nat.reduceAdd, Nat.reduceEqDiff, Nat.reduceLT, Nat.reduceLeDiff, Nat.reduceMul, Nat.reduceSub, Int.reduceBEq, Int.reduceBNe, Int.reduceToNat, Int.reduceLT, Int.reduceLE, Int.reduceGT, Int.reduceGE, Int.reduceAdd, Int.reduceSub, Int.reduceNeg, Int.reduceEq, Int.toNat_zero, Int.toNat_one, reduceIte, reduceCtorEq, ne_eq, decide_true, decide_false] | ((with_reducible refine Need.intro ?_ ?_); (first | trivial | omega | (simp; done) | (simp; omega)))))
  refine EWn.ghost (Gho.adopt 4 1 rfl) ?_
  refine EWn.loopE (ι := (Nat) × (Nat)) (fun (x_ : (Nat) × (Nat)) => match x_ with | (i, ver) => i ≤ l.length ∧ ∀ c ∈ l.take i, checkC c = 0) (fun (x_ : (Nat) × (Nat)) => match x_ with | (i, ver) => l.length - i) (fun (x_ : (Nat) × (Nat)) => match x_ with | (i, ver) => [(4, .vec H.length ver 0 ((l.take i).flatMap octetsC).length), (13, .int .i64 i)]) (fun (x_ : (Nat) × (Nat)) => match x_ with | (i, ver) => H ++ [.vec ver 1 (((l.take i).flatMap octetsC).map vb)]) (0, 1) ?_ ?_ ?_ ?_ ?_
  · first | rfl | simp [upd, eset]
  · first | rfl | (simp; done) | exact (set_same (by assumption)).symm
  · rintro ⟨i, ver⟩ hok; exact ⟨by first | (simp; done) | (simp; omega), by (simp (maxDischargeDepth := 6) [LTB, HLt_set, ltL_take, ltL_drop, ltL_rep, upd, eset, hH, hHk, lt_vi, lt_str, lt_vb, lt_cmd, lt1_cmd] <;> omega), by (simp (maxDischargeDepth := 6) [LTB, HLt_set, ltL_take, ltL_drop, ltL_rep, upd, eset, hH, hHk, lt_vi, lt_str, lt_vb, lt_cmd, lt1_cmd] <;> omega)⟩
  · simp
  rintro ⟨i, ver⟩ ⟨hi, hno⟩
  have hfl := flat_len hno
  have hti : (l.take i).length ≤ 256 := by simp; omega
  refine EWn.of_c Tok mixed (own := false) keep26 tab26 (by kernel_rfl) ?_
  (repeat (first | simp -dsimp only [st_cmd, sz_cmd, RB, TB, keep26, tab26, ewOp, xop, xindexAddr, xindex, xslice, xconvert, xlen, drawStep, FreeW, SameW, ChangeW, limBytes, Nat.reduceBEq, Nat.reduceAdd, Nat.reduceEqDiff, Nat.reduceLT, Nat.reduceLeDiff, Nat.reduceMul, Nat.reduceSub, Int.reduceBEq, Int.reduceBNe, Int.reduceToNat, Int.reduceLT, Int.reduceLE, Int.reduceGT, Int.reduceGE, Int.reduceAdd, Int.reduceSub, Int.reduceNeg, Int.reduceEq, Int.toNat_zero, Int.toNat_one, reduceIte, reduceCtorEq, ne_eq, decide_true, decide_false] | ((with_reducible refine Need.intro ?_ ?_); (first | trivial | omega | (simp; done) | (simp; omega)))))
  refine IfW.intro (fun h1 => ?_) (fun h1 => ?_)
  · have hlt := lt_of h1
    (repeat (first | simp -dsimp only [st_cmd, sz_cmd, h1, at_map cmdV l i hlt, cmdV, RB, TB, keep26, tab26, ewOp, xop, xindexAddr, xindex, xslice, xconvert, xlen, drawStep, FreeW, SameW, ChangeW, limBytes, Nat.reduceBEq, Nat.reduceAdd, Nat.reduceEqDiff, Nat.reduceLT, Nat.reduceLeDiff, Nat.reduceMul, Nat.reduceSub, Int.reduceBEq, Int.reduceBNe, Int.reduceToNat, Int.reduceLT, Int.reduceLE, Int.reduceGT, Int.reduceGE, Int.reduceAdd, Int.reduceSub, Int.reduceNeg, Int.reduceEq, Int.toNat_zero, Int.toNat_one, reduceIte, reduceCtorEq, ne_eq, decide_true, decide_false] | ((with_reducible refine Need.intro ?_ ?_); (first | trivial | omega | (simp; done) | (simp; omega)))))
    (first | refine SCall.then (check _ l[i]) ?_ | refine SCall.thenA (check _ l[i]) (by repeat (first | exact trivial | exact .inl rfl | exact .inr ⟨_, rfl, rfl⟩ | refine ⟨?_, ?_⟩)) ?_ | refine CallE.intro _ (check _ l[i]) ?_ | refine CallE.introA (check _ l[i]) (by repeat (first | exact trivial | exact .inl rfl | exact .inr ⟨_, rfl, rfl⟩ | refine ⟨?_, ?_⟩)) ?_ | refine CallE.intro _ (fun _ => check _ l[i]) ?_ | refine CallE.intro _ (fun _ => SCall.arg (by repeat (first | exact trivial | exact .inl rfl | exact .inr ⟨_, rfl, rfl⟩ | refine ⟨?_, ?_⟩)) (check _ l[i])) ?_)
    (repeat (first | simp -dsimp only [st_cmd, sz_cmd, RB, TB, keep26, tab26, ewOp, xop, xindexAddr, xindex, xslice, xconvert, xlen, drawStep, FreeW, SameW, ChangeW, limBytes, Nat.reduceBEq, Nat.reduceAdd, Nat.reduceEqDiff, Nat.reduceLT, Nat.reduceLeDiff, Nat.reduceMul, Nat.reduceSub, Int.reduceBEq, Int.reduceBNe, Int.reduceToNat, Int.reduceLT, Int.reduceLE, Int.reduceGT, Int.reduceGE, Int.reduceAdd, Int.reduceSub, Int.reduceNeg, Int.reduceEq, Int.toNat_zero, Int.toNat_one, reduceIte, reduceCtorEq, ne_eq, decide_true, decide_false] | ((with_reducible refine Need.intro ?_ ?_); (first | trivial | omega | (simp; done) | (simp; omega)))))
    refine IfW.intro (fun hb => ?_) (fun hb => ?_)
    · have hb' : checkC l[i] = 0 := by simpa using hb
      have hl4 := checkC_len hb'
      have ho := octetsC_len l[i]
      (repeat (first | simp -dsimp only [st_cmd, sz_cmd, hb, RB, TB, keep26, tab26, ewOp, xop, xindexAddr, xindex, xslice, xconvert, xlen, drawStep, FreeW, SameW, ChangeW, limBytes, Nat.reduceBEq, Nat.reduceAdd, Nat.reduceEqDiff, Nat.reduceLT, Nat.reduceLeDiff, Nat.reduceMul, Nat.reduceSub, Int.reduceBEq, Int.reduceBNe, Int.reduceToNat, Int.reduceLT, Int.reduceLE, Int.reduceGT, Int.reduceGE, Int.reduceAdd, Int.reduceSub, Int.reduceNeg, Int.reduceEq, Int.toNat_zero, Int.toNat_one, reduceIte, reduceCtorEq, ne_eq, decide_true, decide_false] | ((with_reducible refine Need.intro ?_ ?_); (first | trivial | omega | (simp; done) | (simp; omega)))))
      (first | refine SCall.then (octets _ l[i] hl4) ?_ | refine SCall.thenA (octets _ l[i] hl4) (by repeat (first | exact trivial | exact .inl rfl | exact .inr ⟨_, rfl, rfl⟩ | refine ⟨?_, ?_⟩)) ?_ | refine CallE.intro _ (octets _ l[i] hl4) ?_ | refine CallE.introA (octets _ l[i] hl4) (by repeat (first | exact trivial | exact .inl rfl | exact .inr ⟨_, rfl, rfl⟩ | refine ⟨?_, ?_⟩)) ?_ | refine CallE.intro _ (fun _ => octets _ l[i] hl4) ?_ | refine CallE.intro _ (fun _ => SCall.arg (by repeat (first | exact trivial | exact .inl rfl | exact .inr ⟨_, rfl, rfl⟩ | refine ⟨?_, ?_⟩)) (octets _ l[i] hl4)) ?_)
      (repeat (first | simp -dsimp only [st_cmd, sz_cmd, RB, TB, keep26, tab26, ewOp, xop, xindexAddr, xindex, xslice, xconvert, xlen, drawStep, FreeW, SameW, ChangeW, limBytes, Nat.reduceBEq, Nat.reduceAdd, Nat.reduceEqDiff, Nat.reduceLT, Nat.reduceLeDiff, Nat.reduceMul, Nat.reduceSub, Int.reduceBEq, Int.reduceBNe, Int.reduceToNat, Int.reduceLT, Int.reduceLE, Int.reduceGT, Int.reduceGE, Int.reduceAdd, Int.reduceSub, Int.reduceNeg, Int.reduceEq, Int.toNat_zero, Int.toNat_one, reduceIte, reduceCtorEq, ne_eq, decide_true, decide_false] | ((with_reducible refine Need.intro ?_ ?_); (first | trivial | omega | (simp; done) | (simp; omega)))))
      rw [wrapI (by omega)]
      have hsucc : (l.take (i + 1)).flatMap octetsC = (l.take i).flatMap octetsC ++ octetsC l[i] := by
        rw [List.take_succ_eq_append_getElem hlt, List.flatMap_append]; simp only [List.flatMap_cons, List.flatMap_nil, List.append_nil]
      refine UpTo.here ⟨(i + 1, ver + 1), ⟨hlt, take_step (q := fun c => checkC c = 0) hlt hb' hno⟩, by simp only; omega, by simp only [hsucc]; simp [upd, eset], ⟨_, by simp only [hsucc]; simp; rfl⟩⟩
    · (repeat (first | simp -dsimp only [st_cmd, sz_cmd, hb, RB, TB, keep26, tab26, ewOp, xop, xindexAddr, xindex, xslice, xconvert, xlen, drawStep, FreeW, SameW, ChangeW, limBytes, Nat.reduceBEq, Nat.reduceAdd, Nat.reduceEqDiff, Nat.reduceLT, Nat.reduceLeDiff, Nat.reduceMul, Nat.reduceSub, Int.reduceBEq, Int.reduceBNe, Int.reduceToNat, Int.reduceLT, Int.reduceLE, Int.reduceGT, Int.reduceGE, Int.reduceAdd, Int.reduceSub, Int.reduceNeg, Int.reduceEq, Int.toNat_zero, Int.toNat_one, reduceIte, reduceCtorEq, ne_eq, decide_true, decide_false] | ((with_reducible refine Need.intro ?_ ?_); (first | trivial | omega | (simp; done) | (simp; omega)))))
      refine RetW.auto0 false _ (by first | rfl | exact (List.append_nil _).symm) ?_ ?_
      · (simp (maxDischargeDepth := 6) [LTB, HLt_set, ltL_take, ltL_drop, ltL_rep, upd, eset, hH, hHk, lt_vi, lt_str, lt_vb, lt_cmd, lt1_cmd] <;> omega)
      (try simp only [wk, wk1, wk0, RB, limBytes, Nat.reduceBEq, Nat.reduceAdd, Nat.reduceEqDiff, Nat.reduceLT, Nat.reduceLeDiff, Nat.reduceMul, Nat.reduceSub, Int.reduceBEq, Int.reduceBNe, Int.reduceToNat, Int.reduceLT, Int.reduceLE, Int.reduceGT, Int.reduceGE, Int.reduceAdd, Int.reduceSub, Int.reduceNeg, Int.reduceEq, Int.toNat_zero, Int.toNat_one, reduceIte, reduceCtorEq, ne_eq, decide_true, decide_false])
      (try (rw [List.take_of_length_le]; rotate_left 1; (· first | (simp; done) | (simp; omega) | omega)))
      rw [putC_bad h256 hlt (by simpa using hb) hno]
      simp
  · (repeat (first | simp -dsimp only [st_cmd, sz_cmd, h1, RB, TB, keep26, tab26, ewOp, xop, xindexAddr, xindex, xslice, xconvert, xlen, drawStep, FreeW, SameW, ChangeW, limBytes, Nat.reduceBEq, Nat.reduceAdd, Nat.reduceEqDiff, Nat.reduceLT, Nat.reduceLeDiff, Nat.reduceMul, Nat.reduceSub, Int.reduceBEq, Int.reduceBNe, Int.reduceToNat, Int.reduceLT, Int.reduceLE, Int.reduceGT, Int.reduceGE, Int.reduceAdd, Int.reduceSub, Int.reduceNeg, Int.reduceEq, Int.toNat_zero, Int.toNat_one, reduceIte, reduceCtorEq, ne_eq, decide_true, decide_false] | ((with_reducible refine Need.intro ?_ ?_); (first | trivial | omega | (simp; done) | (simp; omega)))))
    have hall := take_all (ge_of h1) hno
    have htk : l.take i = l := List.take_of_length_le (ge_of h1)
    rw [htk]
    refine RetW.auto0 false _ (by first | rfl | exact (List.append_nil _).symm) ?_ ?_
    · (simp (maxDischargeDepth := 6) [LTB, HLt_set, ltL_take, ltL_drop, ltL_rep, upd, eset, hH, hHk, lt_vi, lt_str, lt_vb, lt_cmd, lt1_cmd] <;> omega)
    (try simp only [wk, wk1, wk0, RB, limBytes, Nat.reduceBEq, Nat.reduceAdd, Nat.reduceEqDiff, Nat.reduceLT, Nat.reduceLeDiff, Nat.reduceMul, Nat.reduceSub, Int.reduceBEq, Int.reduceBNe, Int.reduceToNat, Int.reduceLT, Int.reduceLE, Int.reduceGT, Int.reduceGE, Int.reduceAdd, Int.reduceSub, Int.reduceNeg, Int.reduceEq, Int.toNat_zero, Int.toNat_one, reduceIte, reduceCtorEq, ne_eq, decide_true, decide_false])
    (try (rw [List.take_of_length_le]; rotate_left 1; (· first | (simp; done) | (simp; omega) | omega)))
    rw [putC_good h256 hall]
theorem alive27 (H : List Ob) : SCall Try.prog 25 [] H (fun r H' => r = .bool true ∧ H' = H) := by
  refine SCall.of_good fun hH => ?_
  have hHk := HLt.add hH
  refine SCall.of_code Tok Try.func25 rfl Try.call25 (n := 21) rfl (by simp) (rs := [.tmp 0]) rfl ?_
  refine EWn.to ?_
  refine EWn.of_c Tok mixed (own := false) keep25 tab25 (by kernel_rfl) ?_
  (repeat (first | simp -dsimp only [st_cmd, sz_cmd, RB, TB, keep25, tab25, ewOp, xop, xindexAddr, xindex, xslice, xconvert, xlen, drawStep, FreeW, SameW, ChangeW, limBytes, Nat.reduceBEq, Nat.reduceAdd, Nat.reduceEqDiff, Nat.reduceLT, Nat.reduceLeDiff, Nat.reduceMul, Nat.reduceSub, Int.reduceBEq, Int.reduceBNe, Int.reduceToNat, Int.reduceLT, Int.reduceLE, Int.reduceGT, Int.reduceGE, Int.reduceAdd, Int.reduceSub, Int.reduceNeg, Int.reduceEq, Int.toNat_zero, Int.toNat_one, reduceIte, reduceCtorEq, ne_eq, decide_true, decide_false] | ((with_reducible refine Need.intro ?_ ?_); (first | trivial | omega | (simp; done) | (simp; omega)))))
  refine SCall.arg (args' := [.slice ([Cmd.mk 9 0 0 0 []].map cmdV)]) ⟨.inr ⟨_, rfl, rfl⟩, trivial⟩ ?_
  (first | refine SCall.then (put _ _) ?_ | refine SCall.thenA (put _ _) (by repeat (first | exact trivial | exact .inl rfl | exact .inr ⟨_, rfl, rfl⟩ | refine ⟨?_, ?_⟩)) ?_ | refine CallE.intro _ (put _ _) ?_ | refine CallE.introA (put _ _) (by repeat (first | exact trivial | exact .inl rfl | exact .inr ⟨_, rfl, rfl⟩ | refine ⟨?_, ?_⟩)) ?_ | refine CallE.intro _ (fun _ => put _ _) ?_ | refine CallE.intro _ (fun _ => SCall.arg (by repeat (first | exact trivial | exact .inl rfl | exact .inr ⟨_, rfl, rfl⟩ | refine ⟨?_, ?_⟩)) (put _ _)) ?_)
  (repeat (first | simp -dsimp only [st_cmd, sz_cmd, show putC [Cmd.mk 9 0 0 0 []] = ([9, 0, 0, 0, 0, 0], 0) from by decide +kernel, RB, TB, keep25, tab25, ewOp, xop, xindexAddr, xindex, xslice, xconvert, xlen, drawStep, FreeW, SameW, ChangeW, limBytes, Nat.reduceBEq, Nat.reduceAdd, Nat.reduceEqDiff, Nat.reduceLT, Nat.reduceLeDiff, Nat.reduceMul, Nat.reduceSub, Int.reduceBEq, Int.reduceBNe, Int.reduceToNat, Int.reduceLT, Int.reduceLE, Int.reduceGT, Int.reduceGE, Int.reduceAdd, Int.reduceSub, Int.reduceNeg, Int.reduceEq, Int.toNat_zero, Int.toNat_one, reduceIte, reduceCtorEq, ne_eq, decide_true, decide_false] | ((with_reducible refine Need.intro ?_ ?_); (first | trivial | omega | (simp; done) | (simp; omega)))))
  refine SCall.mono (check _ (Cmd.mk 10 0 0 0 [])) ?_
  rintro r H1 ⟨rfl, rfl⟩
  (repeat (first | simp -dsimp only [st_cmd, sz_cmd, show checkC (Cmd.mk 10 0 0 0 []) = 12 from by decide +kernel, RB, TB, keep25, tab25, ewOp, xop, xindexAddr, xindex, xslice, xconvert, xlen, drawStep, FreeW, SameW, ChangeW, limBytes, Nat.reduceBEq, Nat.reduceAdd, Nat.reduceEqDiff, Nat.reduceLT, Nat.reduceLeDiff, Nat.reduceMul, Nat.reduceSub, Int.reduceBEq, Int.reduceBNe, Int.reduceToNat, Int.reduceLT, Int.reduceLE, Int.reduceGT, Int.reduceGE, Int.reduceAdd, Int.reduceSub, Int.reduceNeg, Int.reduceEq, Int.toNat_zero, Int.toNat_one, reduceIte, reduceCtorEq, ne_eq, decide_true, decide_false] | ((with_reducible refine Need.intro ?_ ?_); (first | trivial | omega | (simp; done) | (simp; omega)))))
  refine RetW.auto0 false _ (by first | rfl | exact (List.append_nil _).symm) ?_ ?_
  · (simp (maxDischargeDepth := 6) [LTB, HLt_set, ltL_take, ltL_drop, ltL_rep, upd, eset, hH, hHk, lt_vi, lt_str, lt_vb, lt_cmd, lt1_cmd] <;> omega)
  (try simp only [wk, wk1, wk0, RB, limBytes, Nat.reduceBEq, Nat.reduceAdd, Nat.reduceEqDiff, Nat.reduceLT, Nat.reduceLeDiff, Nat.reduceMul, Nat.reduceSub, Int.reduceBEq, Int.reduceBNe, Int.reduceToNat, Int.reduceLT, Int.reduceLE, Int.reduceGT, Int.reduceGE, Int.reduceAdd, Int.reduceSub, Int.reduceNeg, Int.reduceEq, Int.toNat_zero, Int.toNat_one, reduceIte, reduceCtorEq, ne_eq, decide_true, decide_false])
  (try (rw [List.take_of_length_le]; rotate_left 1; (· first | (simp; done) | (simp; omega) | omega)))
end Go.Proofs.Ytadhjfdmfdgppaa

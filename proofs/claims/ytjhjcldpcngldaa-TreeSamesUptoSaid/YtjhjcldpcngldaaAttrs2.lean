/- The walks of package attrs: place, all, Get, Put, Drop, Once, alike, Changes, Same. -/
import Derived.Test.YtjhjcldpcngldaaAttrs1
set_option linter.unusedSimpArgs false
set_option linter.unusedVariables false
set_option maxRecDepth 100000
namespace Go.Proofs.Ytjhjcldpcngldaa
open Go Go.EL
theorem indexFunc_attr (H : List Ob) (l : List (Attr)) (k : FuncId) (fi ca : List V) (p : Attr → Bool) (hf : ∀ x ∈ l, SCall Try.prog k (fi ++ attrV x :: ca) H (fun r H' => r = .bool (p x) ∧ H' = H)) (hlf : ltL H.length fi ∧ ltL H.length ca) : SCall Try.prog 155 [.slice (l.map attrV), .fn (.func k) fi ca] H (fun r H' => r = .int .i64 (ix p l) ∧ H' = H) := by
  obtain ⟨hl1, hl2⟩ := hlf
  refine SCall.sized 0 rfl fun hl => ?_
  rw [List.length_map, maxLen_eq] at hl
  refine SCall.of_good fun hH => ?_
  have hHk := HLt.add hH
  refine SCall.of_code Tok Try.func155 rfl Try.call155 (n := 19) rfl (by simp) (rs := [.tmp 4]) rfl ?_
  refine EWn.to ?_
  refine EWn.of_c Tok mixed (own := false) keep155 tab155 (by kernel_rfl) ?_
  (repeat (first | simp -dsimp only [st_run, sz_run, st1_run, cl_run, st_Str, sz_Str, st1_Str, cl_Str, st_c, sz_c, st1_c, cl_c, st_attr, sz_attr, st1_attr, cl_attr, RB, TB, keep155, tab155, ewOp, xop, xindexAddr, xindex, xslice, xconvert, xlen, drawStep, FreeW, StabW, isStab, SameW, ChangeW, limBytes, Nat.reduceBEq, Nat.reduceAdd, Nat.reduceEqDiff, Nat.reduceLT, Nat.reduceLeDiff, Nat.reduceMul, Nat.reduceSub, Int.reduceBEq, Int.reduceBNe, Int.reduceToNat, Int.reduceLT, Int.reduceLE, Int.reduceGT, Int.reduceGE, Int.reduceAdd, Int.reduceSub, Int.reduceNeg, Int.reduceEq, Int.toNat_zero, Int.toNat_one, reduceIte, reduceCtorEq, ne_eq, decide_true, decide_false] | ((with_reducible refine Need.intro ?_ ?_); (first | trivial | omega | (simp; done) | (simp; omega)))))
  refine EWn.loopE (ι := (Nat)) (fun (i : (Nat)) => i ≤ l.length ∧ ∀ x ∈ l.take i, p x = false) (fun (i : (Nat)) => l.length - i) (fun (i : (Nat)) => [(8, .int .i64 i)]) (fun (i : (Nat)) => H) (0) ?_ ?_ ?_ ?_ ?_
  · first | rfl | simp [upd, eset]
  · first | rfl | (simp; done) | exact (set_same (by assumption)).symm
  · rintro i hok; exact ⟨by first | (simp; done) | (simp; omega), by (simp (maxDischargeDepth := 6) [LTB, HLt_set, ltL_take, ltL_drop, ltL_rep, ltL_set, upd, eset, hH, hHk, hl1, hl2, lt_vi, lt_str, lt_vb, ltc_str, ltc_vi, lt_run, lt1_run, ltc_run, lt_Str, lt1_Str, ltc_Str, lt_c, lt1_c, ltc_c, lt_attr, lt1_attr, ltc_attr] <;> omega), by (simp (maxDischargeDepth := 6) [LTB, HLt_set, ltL_take, ltL_drop, ltL_rep, ltL_set, upd, eset, hH, hHk, hl1, hl2, lt_vi, lt_str, lt_vb, ltc_str, ltc_vi, lt_run, lt1_run, ltc_run, lt_Str, lt1_Str, ltc_Str, lt_c, lt1_c, ltc_c, lt_attr, lt1_attr, ltc_attr] <;> omega)⟩
  · simp
  rintro i ⟨hi, hno⟩
  refine EWn.of_c Tok mixed (own := false) keep155 tab155 (by kernel_rfl) ?_
  (repeat (first | simp -dsimp only [st_run, sz_run, st1_run, cl_run, st_Str, sz_Str, st1_Str, cl_Str, st_c, sz_c, st1_c, cl_c, st_attr, sz_attr, st1_attr, cl_attr, RB, TB, keep155, tab155, ewOp, xop, xindexAddr, xindex, xslice, xconvert, xlen, drawStep, FreeW, StabW, isStab, SameW, ChangeW, limBytes, Nat.reduceBEq, Nat.reduceAdd, Nat.reduceEqDiff, Nat.reduceLT, Nat.reduceLeDiff, Nat.reduceMul, Nat.reduceSub, Int.reduceBEq, Int.reduceBNe, Int.reduceToNat, Int.reduceLT, Int.reduceLE, Int.reduceGT, Int.reduceGE, Int.reduceAdd, Int.reduceSub, Int.reduceNeg, Int.reduceEq, Int.toNat_zero, Int.toNat_one, reduceIte, reduceCtorEq, ne_eq, decide_true, decide_false] | ((with_reducible refine Need.intro ?_ ?_); (first | trivial | omega | (simp; done) | (simp; omega)))))
  refine IfW.intro (fun h => ?_) (fun h => ?_)
  · have hlt := lt_of h
    (repeat (first | simp -dsimp only [st_run, sz_run, st1_run, cl_run, st_Str, sz_Str, st1_Str, cl_Str, st_c, sz_c, st1_c, cl_c, st_attr, sz_attr, st1_attr, cl_attr, h, at_map attrV l i hlt, attrV, RB, TB, keep155, tab155, ewOp, xop, xindexAddr, xindex, xslice, xconvert, xlen, drawStep, FreeW, StabW, isStab, SameW, ChangeW, limBytes, Nat.reduceBEq, Nat.reduceAdd, Nat.reduceEqDiff, Nat.reduceLT, Nat.reduceLeDiff, Nat.reduceMul, Nat.reduceSub, Int.reduceBEq, Int.reduceBNe, Int.reduceToNat, Int.reduceLT, Int.reduceLE, Int.reduceGT, Int.reduceGE, Int.reduceAdd, Int.reduceSub, Int.reduceNeg, Int.reduceEq, Int.toNat_zero, Int.toNat_one, reduceIte, reduceCtorEq, ne_eq, decide_true, decide_false] | ((with_reducible refine Need.intro ?_ ?_); (first | trivial | omega | (simp; done) | (simp; omega)))))
    refine SCall.then (hf l[i] (List.getElem_mem hlt)) ?_
    (repeat (first | simp -dsimp only [st_run, sz_run, st1_run, cl_run, st_Str, sz_Str, st1_Str, cl_Str, st_c, sz_c, st1_c, cl_c, st_attr, sz_attr, st1_attr, cl_attr, RB, TB, keep155, tab155, ewOp, xop, xindexAddr, xindex, xslice, xconvert, xlen, drawStep, FreeW, StabW, isStab, SameW, ChangeW, limBytes, Nat.reduceBEq, Nat.reduceAdd, Nat.reduceEqDiff, Nat.reduceLT, Nat.reduceLeDiff, Nat.reduceMul, Nat.reduceSub, Int.reduceBEq, Int.reduceBNe, Int.reduceToNat, Int.reduceLT, Int.reduceLE, Int.reduceGT, Int.reduceGE, Int.reduceAdd, Int.reduceSub, Int.reduceNeg, Int.reduceEq, Int.toNat_zero, Int.toNat_one, reduceIte, reduceCtorEq, ne_eq, decide_true, decide_false] | ((with_reducible refine Need.intro ?_ ?_); (first | trivial | omega | (simp; done) | (simp; omega)))))
    refine IfW.intro (fun hb => ?_) (fun hb => ?_)
    · (repeat (first | simp -dsimp only [st_run, sz_run, st1_run, cl_run, st_Str, sz_Str, st1_Str, cl_Str, st_c, sz_c, st1_c, cl_c, st_attr, sz_attr, st1_attr, cl_attr, hb, RB, TB, keep155, tab155, ewOp, xop, xindexAddr, xindex, xslice, xconvert, xlen, drawStep, FreeW, StabW, isStab, SameW, ChangeW, limBytes, Nat.reduceBEq, Nat.reduceAdd, Nat.reduceEqDiff, Nat.reduceLT, Nat.reduceLeDiff, Nat.reduceMul, Nat.reduceSub, Int.reduceBEq, Int.reduceBNe, Int.reduceToNat, Int.reduceLT, Int.reduceLE, Int.reduceGT, Int.reduceGE, Int.reduceAdd, Int.reduceSub, Int.reduceNeg, Int.reduceEq, Int.toNat_zero, Int.toNat_one, reduceIte, reduceCtorEq, ne_eq, decide_true, decide_false] | ((with_reducible refine Need.intro ?_ ?_); (first | trivial | omega | (simp; done) | (simp; omega)))))
      refine RetW.auto0 false _ (by first | rfl | exact (List.append_nil _).symm) ?_ ?_
      · (simp (maxDischargeDepth := 6) [LTB, HLt_set, ltL_take, ltL_drop, ltL_rep, ltL_set, upd, eset, hH, hHk, hl1, hl2, lt_vi, lt_str, lt_vb, ltc_str, ltc_vi, lt_run, lt1_run, ltc_run, lt_Str, lt1_Str, ltc_Str, lt_c, lt1_c, ltc_c, lt_attr, lt1_attr, ltc_attr] <;> omega)
      (try simp only [wk, wk1, wk0, RB, limBytes, Nat.reduceBEq, Nat.reduceAdd, Nat.reduceEqDiff, Nat.reduceLT, Nat.reduceLeDiff, Nat.reduceMul, Nat.reduceSub, Int.reduceBEq, Int.reduceBNe, Int.reduceToNat, Int.reduceLT, Int.reduceLE, Int.reduceGT, Int.reduceGE, Int.reduceAdd, Int.reduceSub, Int.reduceNeg, Int.reduceEq, Int.toNat_zero, Int.toNat_one, reduceIte, reduceCtorEq, ne_eq, decide_true, decide_false])
      (try (rw [List.take_of_length_le]; rotate_left 1; (· first | (simp; done) | (simp; omega) | omega)))
      rw [ix_hit hlt hb hno]
    · (repeat (first | simp -dsimp only [st_run, sz_run, st1_run, cl_run, st_Str, sz_Str, st1_Str, cl_Str, st_c, sz_c, st1_c, cl_c, st_attr, sz_attr, st1_attr, cl_attr, hb, RB, TB, keep155, tab155, ewOp, xop, xindexAddr, xindex, xslice, xconvert, xlen, drawStep, FreeW, StabW, isStab, SameW, ChangeW, limBytes, Nat.reduceBEq, Nat.reduceAdd, Nat.reduceEqDiff, Nat.reduceLT, Nat.reduceLeDiff, Nat.reduceMul, Nat.reduceSub, Int.reduceBEq, Int.reduceBNe, Int.reduceToNat, Int.reduceLT, Int.reduceLE, Int.reduceGT, Int.reduceGE, Int.reduceAdd, Int.reduceSub, Int.reduceNeg, Int.reduceEq, Int.toNat_zero, Int.toNat_one, reduceIte, reduceCtorEq, ne_eq, decide_true, decide_false] | ((with_reducible refine Need.intro ?_ ?_); (first | trivial | omega | (simp; done) | (simp; omega)))))
      rw [wrapI (by omega)]
      refine UpTo.here ⟨(i + 1), ?_, by first | omega | (simp only [List.length_append, List.length_cons, List.length_nil]; omega), by simp [upd, eset], ⟨_, by simp; try rfl⟩⟩
      exact ⟨hlt, take_step hlt hb hno⟩
  · (repeat (first | simp -dsimp only [st_run, sz_run, st1_run, cl_run, st_Str, sz_Str, st1_Str, cl_Str, st_c, sz_c, st1_c, cl_c, st_attr, sz_attr, st1_attr, cl_attr, h, RB, TB, keep155, tab155, ewOp, xop, xindexAddr, xindex, xslice, xconvert, xlen, drawStep, FreeW, StabW, isStab, SameW, ChangeW, limBytes, Nat.reduceBEq, Nat.reduceAdd, Nat.reduceEqDiff, Nat.reduceLT, Nat.reduceLeDiff, Nat.reduceMul, Nat.reduceSub, Int.reduceBEq, Int.reduceBNe, Int.reduceToNat, Int.reduceLT, Int.reduceLE, Int.reduceGT, Int.reduceGE, Int.reduceAdd, Int.reduceSub, Int.reduceNeg, Int.reduceEq, Int.toNat_zero, Int.toNat_one, reduceIte, reduceCtorEq, ne_eq, decide_true, decide_false] | ((with_reducible refine Need.intro ?_ ?_); (first | trivial | omega | (simp; done) | (simp; omega)))))
    refine RetW.auto0 false _ (by first | rfl | exact (List.append_nil _).symm) ?_ ?_
    · (simp (maxDischargeDepth := 6) [LTB, HLt_set, ltL_take, ltL_drop, ltL_rep, ltL_set, upd, eset, hH, hHk, hl1, hl2, lt_vi, lt_str, lt_vb, ltc_str, ltc_vi, lt_run, lt1_run, ltc_run, lt_Str, lt1_Str, ltc_Str, lt_c, lt1_c, ltc_c, lt_attr, lt1_attr, ltc_attr] <;> omega)
    (try simp only [wk, wk1, wk0, RB, limBytes, Nat.reduceBEq, Nat.reduceAdd, Nat.reduceEqDiff, Nat.reduceLT, Nat.reduceLeDiff, Nat.reduceMul, Nat.reduceSub, Int.reduceBEq, Int.reduceBNe, Int.reduceToNat, Int.reduceLT, Int.reduceLE, Int.reduceGT, Int.reduceGE, Int.reduceAdd, Int.reduceSub, Int.reduceNeg, Int.reduceEq, Int.toNat_zero, Int.toNat_one, reduceIte, reduceCtorEq, ne_eq, decide_true, decide_false])
    (try (rw [List.take_of_length_le]; rotate_left 1; (· first | (simp; done) | (simp; omega) | omega)))
    rw [ix_none (take_all (ge_of h) hno)]
theorem indexFunc_attr_vec (H : List Ob) (l : List (Attr)) (k : FuncId) (fi ca : List V) (p : Attr → Bool) (hf : ∀ x ∈ l, SCall Try.prog k (fi ++ attrV x :: ca) H (fun r H' => r = .bool (p x) ∧ H' = H)) (hlf : ltL H.length fi ∧ ltL H.length ca) (o ver n : Nat) (ho : H[o]? = some (.vec ver 4 (l.map attrV))) (hn : n = l.length) (hl : l.length ≤ 1000000000000) : SCall Try.prog 155 [.vec o ver 0 n, .fn (.func k) fi ca] H (fun r H' => r = .int .i64 (ix p l) ∧ H' = H) := by
  subst hn
  obtain ⟨hl1, hl2⟩ := hlf
  have holt := lt_of_get ho
  refine SCall.of_good fun hH => ?_
  have hHk := HLt.add hH
  refine SCall.of_code Tok Try.func155 rfl Try.call155 (n := 19) rfl (by simp) (rs := [.tmp 4]) rfl ?_
  refine EWn.to ?_
  refine EWn.of_c Tok mixed (own := false) keep155 tab155 (by kernel_rfl) ?_
  (repeat (first | simp -dsimp only [st_run, sz_run, st1_run, cl_run, st_Str, sz_Str, st1_Str, cl_Str, st_c, sz_c, st1_c, cl_c, st_attr, sz_attr, st1_attr, cl_attr, ho, RB, TB, keep155, tab155, ewOp, xop, xindexAddr, xindex, xslice, xconvert, xlen, drawStep, FreeW, StabW, isStab, SameW, ChangeW, limBytes, Nat.reduceBEq, Nat.reduceAdd, Nat.reduceEqDiff, Nat.reduceLT, Nat.reduceLeDiff, Nat.reduceMul, Nat.reduceSub, Int.reduceBEq, Int.reduceBNe, Int.reduceToNat, Int.reduceLT, Int.reduceLE, Int.reduceGT, Int.reduceGE, Int.reduceAdd, Int.reduceSub, Int.reduceNeg, Int.reduceEq, Int.toNat_zero, Int.toNat_one, reduceIte, reduceCtorEq, ne_eq, decide_true, decide_false] | ((with_reducible refine Need.intro ?_ ?_); (first | trivial | omega | (simp; done) | (simp; omega)))))
  refine EWn.loopE (ι := (Nat)) (fun (i : (Nat)) => i ≤ l.length ∧ ∀ x ∈ l.take i, p x = false) (fun (i : (Nat)) => l.length - i) (fun (i : (Nat)) => [(8, .int .i64 i)]) (fun (i : (Nat)) => H) (0) ?_ ?_ ?_ ?_ ?_
  · first | rfl | simp [upd, eset]
  · first | rfl | (simp; done) | exact (set_same (by assumption)).symm
  · rintro i hok; exact ⟨by first | (simp; done) | (simp; omega), by (simp (maxDischargeDepth := 6) [LTB, HLt_set, ltL_take, ltL_drop, ltL_rep, ltL_set, upd, eset, hH, hHk, hl1, hl2, holt, lt_vi, lt_str, lt_vb, ltc_str, ltc_vi, lt_run, lt1_run, ltc_run, lt_Str, lt1_Str, ltc_Str, lt_c, lt1_c, ltc_c, lt_attr, lt1_attr, ltc_attr] <;> omega), by (simp (maxDischargeDepth := 6) [LTB, HLt_set, ltL_take, ltL_drop, ltL_rep, ltL_set, upd, eset, hH, hHk, hl1, hl2, holt, lt_vi, lt_str, lt_vb, ltc_str, ltc_vi, lt_run, lt1_run, ltc_run, lt_Str, lt1_Str, ltc_Str, lt_c, lt1_c, ltc_c, lt_attr, lt1_attr, ltc_attr] <;> omega)⟩
  · simp
  rintro i ⟨hi, hno⟩
  refine EWn.of_c Tok mixed (own := false) keep155 tab155 (by kernel_rfl) ?_
  (repeat (first | simp -dsimp only [st_run, sz_run, st1_run, cl_run, st_Str, sz_Str, st1_Str, cl_Str, st_c, sz_c, st1_c, cl_c, st_attr, sz_attr, st1_attr, cl_attr, ho, RB, TB, keep155, tab155, ewOp, xop, xindexAddr, xindex, xslice, xconvert, xlen, drawStep, FreeW, StabW, isStab, SameW, ChangeW, limBytes, Nat.reduceBEq, Nat.reduceAdd, Nat.reduceEqDiff, Nat.reduceLT, Nat.reduceLeDiff, Nat.reduceMul, Nat.reduceSub, Int.reduceBEq, Int.reduceBNe, Int.reduceToNat, Int.reduceLT, Int.reduceLE, Int.reduceGT, Int.reduceGE, Int.reduceAdd, Int.reduceSub, Int.reduceNeg, Int.reduceEq, Int.toNat_zero, Int.toNat_one, reduceIte, reduceCtorEq, ne_eq, decide_true, decide_false] | ((with_reducible refine Need.intro ?_ ?_); (first | trivial | omega | (simp; done) | (simp; omega)))))
  refine IfW.intro (fun h => ?_) (fun h => ?_)
  · have hlt := lt_of h
    (repeat (first | simp -dsimp only [st_run, sz_run, st1_run, cl_run, st_Str, sz_Str, st1_Str, cl_Str, st_c, sz_c, st1_c, cl_c, st_attr, sz_attr, st1_attr, cl_attr, h, ho, at_map attrV l i hlt, attrV, RB, TB, keep155, tab155, ewOp, xop, xindexAddr, xindex, xslice, xconvert, xlen, drawStep, FreeW, StabW, isStab, SameW, ChangeW, limBytes, Nat.reduceBEq, Nat.reduceAdd, Nat.reduceEqDiff, Nat.reduceLT, Nat.reduceLeDiff, Nat.reduceMul, Nat.reduceSub, Int.reduceBEq, Int.reduceBNe, Int.reduceToNat, Int.reduceLT, Int.reduceLE, Int.reduceGT, Int.reduceGE, Int.reduceAdd, Int.reduceSub, Int.reduceNeg, Int.reduceEq, Int.toNat_zero, Int.toNat_one, reduceIte, reduceCtorEq, ne_eq, decide_true, decide_false] | ((with_reducible refine Need.intro ?_ ?_); (first | trivial | omega | (simp; done) | (simp; omega)))))
    refine SCall.then (hf l[i] (List.getElem_mem hlt)) ?_
    (repeat (first | simp -dsimp only [st_run, sz_run, st1_run, cl_run, st_Str, sz_Str, st1_Str, cl_Str, st_c, sz_c, st1_c, cl_c, st_attr, sz_attr, st1_attr, cl_attr, RB, TB, keep155, tab155, ewOp, xop, xindexAddr, xindex, xslice, xconvert, xlen, drawStep, FreeW, StabW, isStab, SameW, ChangeW, limBytes, Nat.reduceBEq, Nat.reduceAdd, Nat.reduceEqDiff, Nat.reduceLT, Nat.reduceLeDiff, Nat.reduceMul, Nat.reduceSub, Int.reduceBEq, Int.reduceBNe, Int.reduceToNat, Int.reduceLT, Int.reduceLE, Int.reduceGT, Int.reduceGE, Int.reduceAdd, Int.reduceSub, Int.reduceNeg, Int.reduceEq, Int.toNat_zero, Int.toNat_one, reduceIte, reduceCtorEq, ne_eq, decide_true, decide_false] | ((with_reducible refine Need.intro ?_ ?_); (first | trivial | omega | (simp; done) | (simp; omega)))))
    refine IfW.intro (fun hb => ?_) (fun hb => ?_)
    · (repeat (first | simp -dsimp only [st_run, sz_run, st1_run, cl_run, st_Str, sz_Str, st1_Str, cl_Str, st_c, sz_c, st1_c, cl_c, st_attr, sz_attr, st1_attr, cl_attr, hb, RB, TB, keep155, tab155, ewOp, xop, xindexAddr, xindex, xslice, xconvert, xlen, drawStep, FreeW, StabW, isStab, SameW, ChangeW, limBytes, Nat.reduceBEq, Nat.reduceAdd, Nat.reduceEqDiff, Nat.reduceLT, Nat.reduceLeDiff, Nat.reduceMul, Nat.reduceSub, Int.reduceBEq, Int.reduceBNe, Int.reduceToNat, Int.reduceLT, Int.reduceLE, Int.reduceGT, Int.reduceGE, Int.reduceAdd, Int.reduceSub, Int.reduceNeg, Int.reduceEq, Int.toNat_zero, Int.toNat_one, reduceIte, reduceCtorEq, ne_eq, decide_true, decide_false] | ((with_reducible refine Need.intro ?_ ?_); (first | trivial | omega | (simp; done) | (simp; omega)))))
      refine RetW.auto0 false _ (by first | rfl | exact (List.append_nil _).symm) ?_ ?_
      · (simp (maxDischargeDepth := 6) [LTB, HLt_set, ltL_take, ltL_drop, ltL_rep, ltL_set, upd, eset, hH, hHk, hl1, hl2, holt, lt_vi, lt_str, lt_vb, ltc_str, ltc_vi, lt_run, lt1_run, ltc_run, lt_Str, lt1_Str, ltc_Str, lt_c, lt1_c, ltc_c, lt_attr, lt1_attr, ltc_attr] <;> omega)
      (try simp only [wk, wk1, wk0, RB, limBytes, Nat.reduceBEq, Nat.reduceAdd, Nat.reduceEqDiff, Nat.reduceLT, Nat.reduceLeDiff, Nat.reduceMul, Nat.reduceSub, Int.reduceBEq, Int.reduceBNe, Int.reduceToNat, Int.reduceLT, Int.reduceLE, Int.reduceGT, Int.reduceGE, Int.reduceAdd, Int.reduceSub, Int.reduceNeg, Int.reduceEq, Int.toNat_zero, Int.toNat_one, reduceIte, reduceCtorEq, ne_eq, decide_true, decide_false])
      (try (rw [List.take_of_length_le]; rotate_left 1; (· first | (simp; done) | (simp; omega) | omega)))
      rw [ix_hit hlt hb hno]
    · (repeat (first | simp -dsimp only [st_run, sz_run, st1_run, cl_run, st_Str, sz_Str, st1_Str, cl_Str, st_c, sz_c, st1_c, cl_c, st_attr, sz_attr, st1_attr, cl_attr, hb, RB, TB, keep155, tab155, ewOp, xop, xindexAddr, xindex, xslice, xconvert, xlen, drawStep, FreeW, StabW, isStab, SameW, ChangeW, limBytes, Nat.reduceBEq, Nat.reduceAdd, Nat.reduceEqDiff, Nat.reduceLT, Nat.reduceLeDiff, Nat.reduceMul, Nat.reduceSub, Int.reduceBEq, Int.reduceBNe, Int.reduceToNat, Int.reduceLT, Int.reduceLE, Int.reduceGT, Int.reduceGE, Int.reduceAdd, Int.reduceSub, Int.reduceNeg, Int.reduceEq, Int.toNat_zero, Int.toNat_one, reduceIte, reduceCtorEq, ne_eq, decide_true, decide_false] | ((with_reducible refine Need.intro ?_ ?_); (first | trivial | omega | (simp; done) | (simp; omega)))))
      rw [wrapI (by omega)]
      refine UpTo.here ⟨(i + 1), ?_, by first | omega | (simp only [List.length_append, List.length_cons, List.length_nil]; omega), by simp [upd, eset], ⟨_, by simp; try rfl⟩⟩
      exact ⟨hlt, take_step hlt hb hno⟩
  · (repeat (first | simp -dsimp only [st_run, sz_run, st1_run, cl_run, st_Str, sz_Str, st1_Str, cl_Str, st_c, sz_c, st1_c, cl_c, st_attr, sz_attr, st1_attr, cl_attr, h, RB, TB, keep155, tab155, ewOp, xop, xindexAddr, xindex, xslice, xconvert, xlen, drawStep, FreeW, StabW, isStab, SameW, ChangeW, limBytes, Nat.reduceBEq, Nat.reduceAdd, Nat.reduceEqDiff, Nat.reduceLT, Nat.reduceLeDiff, Nat.reduceMul, Nat.reduceSub, Int.reduceBEq, Int.reduceBNe, Int.reduceToNat, Int.reduceLT, Int.reduceLE, Int.reduceGT, Int.reduceGE, Int.reduceAdd, Int.reduceSub, Int.reduceNeg, Int.reduceEq, Int.toNat_zero, Int.toNat_one, reduceIte, reduceCtorEq, ne_eq, decide_true, decide_false] | ((with_reducible refine Need.intro ?_ ?_); (first | trivial | omega | (simp; done) | (simp; omega)))))
    refine RetW.auto0 false _ (by first | rfl | exact (List.append_nil _).symm) ?_ ?_
    · (simp (maxDischargeDepth := 6) [LTB, HLt_set, ltL_take, ltL_drop, ltL_rep, ltL_set, upd, eset, hH, hHk, hl1, hl2, holt, lt_vi, lt_str, lt_vb, ltc_str, ltc_vi, lt_run, lt1_run, ltc_run, lt_Str, lt1_Str, ltc_Str, lt_c, lt1_c, ltc_c, lt_attr, lt1_attr, ltc_attr] <;> omega)
    (try simp only [wk, wk1, wk0, RB, limBytes, Nat.reduceBEq, Nat.reduceAdd, Nat.reduceEqDiff, Nat.reduceLT, Nat.reduceLeDiff, Nat.reduceMul, Nat.reduceSub, Int.reduceBEq, Int.reduceBNe, Int.reduceToNat, Int.reduceLT, Int.reduceLE, Int.reduceGT, Int.reduceGE, Int.reduceAdd, Int.reduceSub, Int.reduceNeg, Int.reduceEq, Int.toNat_zero, Int.toNat_one, reduceIte, reduceCtorEq, ne_eq, decide_true, decide_false])
    (try (rw [List.take_of_length_le]; rotate_left 1; (· first | (simp; done) | (simp; omega) | omega)))
    rw [ix_none (take_all (ge_of h) hno)]

theorem placeF (H : List Ob) (a : Attr) (o : Nat) (name : List UInt8) (ho : H[o]? = some (.var [.str name])) : SCall Try.prog 156 [attrV a, .ref o 0] H (fun r H' => r = .bool (a.name.text == name) ∧ H' = H) := by
  have holt := lt_of_get ho
  have hgl : ∀ L, (H ++ L)[o]? = some (.var [.str name]) := fun L => by rw [List.getElem?_append_left holt]; exact ho
  unfold attrV
  refine SCall.of_good fun hH => ?_
  have hHk := HLt.add hH
  refine SCall.of_code Tok Try.func156 rfl Try.call156 (n := 9) rfl (by simp) (rs := [.tmp 3]) rfl ?_
  refine EWn.to ?_
  refine EWn.of_c Tok mixed (own := false) keep156 tab156 (by kernel_rfl) ?_
  (repeat (first | simp -dsimp only [st_run, sz_run, st1_run, cl_run, st_Str, sz_Str, st1_Str, cl_Str, st_c, sz_c, st1_c, cl_c, st_attr, sz_attr, st1_attr, cl_attr, hgl, RB, TB, keep156, tab156, ewOp, xop, xindexAddr, xindex, xslice, xconvert, xlen, drawStep, FreeW, StabW, isStab, SameW, ChangeW, limBytes, Nat.reduceBEq, Nat.reduceAdd, Nat.reduceEqDiff, Nat.reduceLT, Nat.reduceLeDiff, Nat.reduceMul, Nat.reduceSub, Int.reduceBEq, Int.reduceBNe, Int.reduceToNat, Int.reduceLT, Int.reduceLE, Int.reduceGT, Int.reduceGE, Int.reduceAdd, Int.reduceSub, Int.reduceNeg, Int.reduceEq, Int.toNat_zero, Int.toNat_one, reduceIte, reduceCtorEq, ne_eq, decide_true, decide_false] | ((with_reducible refine Need.intro ?_ ?_); (first | trivial | omega | (simp; done) | (simp; omega)))))
  refine RetW.auto0 false _ (by first | rfl | exact (List.append_nil _).symm) ?_ ?_
  · (simp (maxDischargeDepth := 6) [LTB, HLt_set, ltL_take, ltL_drop, ltL_rep, ltL_set, upd, eset, hH, hHk, lt_vi, lt_str, lt_vb, ltc_str, ltc_vi, lt_run, lt1_run, ltc_run, lt_Str, lt1_Str, ltc_Str, lt_c, lt1_c, ltc_c, lt_attr, lt1_attr, ltc_attr] <;> omega)
  (try simp only [wk, wk1, wk0, RB, limBytes, Nat.reduceBEq, Nat.reduceAdd, Nat.reduceEqDiff, Nat.reduceLT, Nat.reduceLeDiff, Nat.reduceMul, Nat.reduceSub, Int.reduceBEq, Int.reduceBNe, Int.reduceToNat, Int.reduceLT, Int.reduceLE, Int.reduceGT, Int.reduceGE, Int.reduceAdd, Int.reduceSub, Int.reduceNeg, Int.reduceEq, Int.toNat_zero, Int.toNat_one, reduceIte, reduceCtorEq, ne_eq, decide_true, decide_false])
  (try (rw [List.take_of_length_le]; rotate_left 1; (· first | (simp; done) | (simp; omega) | omega)))
def placeA (l : List Attr) (name : List UInt8) : Int := ix (fun a => a.name.text == name) l
theorem aPlace (H : List Ob) (l : List Attr) (name : List UInt8) : SCall Try.prog 131 [.slice (l.map attrV), .str name] H (fun r H' => r = .int .i64 (placeA l name) ∧ H' = H) := by
  refine SCall.of_good fun hH => ?_
  have hHk := HLt.add hH
  refine SCall.of_code Tok Try.func131 rfl Try.call131 (n := 8) rfl (by simp) (rs := [.tmp 4]) rfl ?_
  refine EWn.to ?_
  refine EWn.of_c Tok mixed (own := false) keep131 tab131 (by kernel_rfl) ?_
  (repeat (first | simp -dsimp only [st_run, sz_run, st1_run, cl_run, st_Str, sz_Str, st1_Str, cl_Str, st_c, sz_c, st1_c, cl_c, st_attr, sz_attr, st1_attr, cl_attr, RB, TB, keep131, tab131, ewOp, xop, xindexAddr, xindex, xslice, xconvert, xlen, drawStep, FreeW, StabW, isStab, SameW, ChangeW, limBytes, Nat.reduceBEq, Nat.reduceAdd, Nat.reduceEqDiff, Nat.reduceLT, Nat.reduceLeDiff, Nat.reduceMul, Nat.reduceSub, Int.reduceBEq, Int.reduceBNe, Int.reduceToNat, Int.reduceLT, Int.reduceLE, Int.reduceGT, Int.reduceGE, Int.reduceAdd, Int.reduceSub, Int.reduceNeg, Int.reduceEq, Int.toNat_zero, Int.toNat_one, reduceIte, reduceCtorEq, ne_eq, decide_true, decide_false] | ((with_reducible refine Need.intro ?_ ?_); (first | trivial | omega | (simp; done) | (simp; omega)))))
  (first | refine SCall.then (indexFunc_attr _ l _ [] [.ref H.length 0] (fun a => a.name.text == name) (fun x _ => placeF _ x H.length name (by simp)) ⟨trivial, by simp [ltL, V.lt]⟩) ?_ | refine SCall.thenA (indexFunc_attr _ l _ [] [.ref H.length 0] (fun a => a.name.text == name) (fun x _ => placeF _ x H.length name (by simp)) ⟨trivial, by simp [ltL, V.lt]⟩) (by repeat (first | exact trivial | exact .inl (.inl rfl) | exact .inl (.inr ⟨_, rfl, rfl⟩) | exact .inl rfl | exact .inr ⟨_, rfl, rfl⟩ | refine .inr ⟨_, _, rfl, rfl, ?_⟩ | refine ⟨?_, ?_⟩)) ?_ | refine CallE.intro _ (indexFunc_attr _ l _ [] [.ref H.length 0] (fun a => a.name.text == name) (fun x _ => placeF _ x H.length name (by simp)) ⟨trivial, by simp [ltL, V.lt]⟩) ?_ | refine CallE.introA (indexFunc_attr _ l _ [] [.ref H.length 0] (fun a => a.name.text == name) (fun x _ => placeF _ x H.length name (by simp)) ⟨trivial, by simp [ltL, V.lt]⟩) (by repeat (first | exact trivial | exact .inl (.inl rfl) | exact .inl (.inr ⟨_, rfl, rfl⟩) | exact .inl rfl | exact .inr ⟨_, rfl, rfl⟩ | refine .inr ⟨_, _, rfl, rfl, ?_⟩ | refine ⟨?_, ?_⟩)) ?_ | refine CallE.intro _ (fun _ => indexFunc_attr _ l _ [] [.ref H.length 0] (fun a => a.name.text == name) (fun x _ => placeF _ x H.length name (by simp)) ⟨trivial, by simp [ltL, V.lt]⟩) ?_ | refine CallE.intro _ (fun _ => SCall.arg (by repeat (first | exact trivial | exact .inl (.inl rfl) | exact .inl (.inr ⟨_, rfl, rfl⟩) | exact .inl rfl | exact .inr ⟨_, rfl, rfl⟩ | refine .inr ⟨_, _, rfl, rfl, ?_⟩ | refine ⟨?_, ?_⟩)) (indexFunc_attr _ l _ [] [.ref H.length 0] (fun a => a.name.text == name) (fun x _ => placeF _ x H.length name (by simp)) ⟨trivial, by simp [ltL, V.lt]⟩)) ?_ | refine CallE2.intro _ _ (indexFunc_attr _ l _ [] [.ref H.length 0] (fun a => a.name.text == name) (fun x _ => placeF _ x H.length name (by simp)) ⟨trivial, by simp [ltL, V.lt]⟩) ?_ | refine CallE2.intro _ _ (SCall.arg (by repeat (first | exact trivial | exact .inl (.inl rfl) | exact .inl (.inr ⟨_, rfl, rfl⟩) | exact .inl rfl | exact .inr ⟨_, rfl, rfl⟩ | refine .inr ⟨_, _, rfl, rfl, ?_⟩ | refine ⟨?_, ?_⟩)) (indexFunc_attr _ l _ [] [.ref H.length 0] (fun a => a.name.text == name) (fun x _ => placeF _ x H.length name (by simp)) ⟨trivial, by simp [ltL, V.lt]⟩)) ?_)
  (repeat (first | simp -dsimp only [st_run, sz_run, st1_run, cl_run, st_Str, sz_Str, st1_Str, cl_Str, st_c, sz_c, st1_c, cl_c, st_attr, sz_attr, st1_attr, cl_attr, RB, TB, keep131, tab131, ewOp, xop, xindexAddr, xindex, xslice, xconvert, xlen, drawStep, FreeW, StabW, isStab, SameW, ChangeW, limBytes, Nat.reduceBEq, Nat.reduceAdd, Nat.reduceEqDiff, Nat.reduceLT, Nat.reduceLeDiff, Nat.reduceMul, Nat.reduceSub, Int.reduceBEq, Int.reduceBNe, Int.reduceToNat, Int.reduceLT, Int.reduceLE, Int.reduceGT, Int.reduceGE, Int.reduceAdd, Int.reduceSub, Int.reduceNeg, Int.reduceEq, Int.toNat_zero, Int.toNat_one, reduceIte, reduceCtorEq, ne_eq, decide_true, decide_false] | ((with_reducible refine Need.intro ?_ ?_); (first | trivial | omega | (simp; done) | (simp; omega)))))
  refine RetW.auto0 false _ (by first | rfl | exact (List.append_nil _).symm) ?_ ?_
  · (simp (maxDischargeDepth := 6) [LTB, HLt_set, ltL_take, ltL_drop, ltL_rep, ltL_set, upd, eset, hH, hHk, lt_vi, lt_str, lt_vb, ltc_str, ltc_vi, lt_run, lt1_run, ltc_run, lt_Str, lt1_Str, ltc_Str, lt_c, lt1_c, ltc_c, lt_attr, lt1_attr, ltc_attr] <;> omega)
  (try simp only [wk, wk1, wk0, RB, limBytes, Nat.reduceBEq, Nat.reduceAdd, Nat.reduceEqDiff, Nat.reduceLT, Nat.reduceLeDiff, Nat.reduceMul, Nat.reduceSub, Int.reduceBEq, Int.reduceBNe, Int.reduceToNat, Int.reduceLT, Int.reduceLE, Int.reduceGT, Int.reduceGE, Int.reduceAdd, Int.reduceSub, Int.reduceNeg, Int.reduceEq, Int.toNat_zero, Int.toNat_one, reduceIte, reduceCtorEq, ne_eq, decide_true, decide_false])
  (try (rw [List.take_of_length_le]; rotate_left 1; (· first | (simp; done) | (simp; omega) | omega)))
  rfl
theorem aPlaceB (H : List Ob) (l : List Attr) (name : List UInt8) (x : V) (hx : Bo H x (.slice (l.map attrV))) : SCall Try.prog 131 [x, .str name] H (fun r H' => r = .int .i64 (placeA l name) ∧ H' = H) := by
  refine SCall.borrow (args' := [.slice (l.map attrV), .str name]) ⟨hx, ⟨rfl, trivial⟩, trivial⟩ ?_
  refine (aPlace [] l name).mono ?_
  rintro r H' ⟨rfl, _⟩
  exact ⟨rfl, trivial⟩
def getA (l : List Attr) (name : List UInt8) : Str × Bool := match l.find? (fun a => a.name.text == name) with
  | some a => (fixS a.value, true)
  | none => (zeroS, false)
theorem place_find (l : List Attr) (name : List UInt8) : (placeA l name < 0 ∧ l.find? (fun a => a.name.text == name) = none) ∨ ∃ i : Nat, ∃ h : i < l.length, placeA l name = i ∧ l.find? (fun a => a.name.text == name) = some l[i] ∧ (l[i].name.text == name) = true := by
  unfold placeA
  by_cases hany : ∃ x ∈ l, (x.name.text == name) = true
  · right
    have hlt := List.findIdx_lt_length.2 hany
    refine ⟨l.findIdx (fun a => a.name.text == name), hlt, by unfold ix; rw [if_pos hlt], ?_, List.findIdx_getElem (p := fun a : Attr => a.name.text == name) (xs := l) (w := hlt)⟩
    rw [List.find?_eq_some_iff_getElem]
    refine ⟨List.findIdx_getElem (p := fun a : Attr => a.name.text == name) (xs := l) (w := hlt), _, hlt, rfl, fun j hj => ?_⟩
    have := List.not_of_lt_findIdx hj
    simpa using this
  · left
    refine ⟨by rw [ix_none (fun x hx => by cases h : x.name.text == name with | false => rfl | true => exact absurd ⟨x, hx, h⟩ hany)]; omega, ?_⟩
    rw [List.find?_eq_none]
    exact fun x hx h => hany ⟨x, hx, h⟩
def putA (l : List Attr) (a : Attr) : List Attr := if placeA l a.name.text < 0 then l ++ [a] else l.set (placeA l a.name.text).toNat a
theorem place_own (l : List Attr) (name : List UInt8) : placeA (l.map ownA) name = placeA l name := by
  unfold placeA ix
  rw [List.findIdx_map, List.length_map]
  rfl
end Go.Proofs.Ytjhjcldpcngldaa

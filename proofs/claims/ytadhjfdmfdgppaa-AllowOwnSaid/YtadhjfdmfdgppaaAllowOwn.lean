/- AllowOwn: the law returns true and the arguments read as they did. No further condition. -/
import Derived.Test.YtadhjfdmfdgppaaAllow1
import Derived.Test.YtadhjfdmfdgppaaRows
import Derived.ProofKit
import Derived.JoinedCond
set_option linter.unusedSimpArgs false
set_option linter.unusedVariables false
set_option maxRecDepth 100000
set_option maxHeartbeats 1000000
namespace Go.Proofs.Ytadhjfdmfdgppaa
open Go Go.EL

theorem own_none : ownKnob Try.prog.godebug = none := by kernel_rfl
theorem laid_out : laidOutB Try.prog = true := by kernel_rfl
theorem allowOwn (H : List Ob) (s : List UInt8) : SCall Try.prog 8 [.str s] H (fun r H' => r = .bool true) := by
  refine SCall.of_good fun hH => ?_
  have hHk := HLt.add hH
  refine SCall.of_code Tok Try.func8 rfl Try.call8 (n := 62) rfl (by simp) (rs := [.tmp 2]) rfl ?_
  refine EW.of_c Tok mixed (own := false) keep8 tab8 (by kernel_rfl) ?_
  (repeat (first | simp -dsimp only [RB, TB, keep8, tab8, ewOp, xop, xindexAddr, xindex, xslice, xconvert, xlen, drawStep, FreeW, SameW, ChangeW, limBytes, Nat.reduceAdd, Nat.reduceEqDiff, Nat.reduceLT, Nat.reduceLeDiff, Nat.reduceMul, Nat.reduceSub, Int.reduceBEq, Int.reduceBNe, Int.reduceToNat, Int.reduceLT, Int.reduceLE, Int.reduceGT, Int.reduceGE, Int.reduceAdd, Int.reduceSub, Int.reduceNeg, Int.reduceEq, Int.toNat_zero, Int.toNat_one, reduceIte, reduceCtorEq, ne_eq, decide_true, decide_false] | ((with_reducible refine Need.intro ?_ ?_); (first | trivial | omega | (simp; done) | (simp; omega)))))
  (first | refine SCall.then (alive16 _) ?_ | refine SCall.thenA (alive16 _) (by repeat (first | exact trivial | exact .inl rfl | exact .inr ⟨_, rfl, rfl⟩ | refine ⟨?_, ?_⟩)) ?_ | refine CallE.intro _ (alive16 _) ?_ | refine CallE.introA (alive16 _) (by repeat (first | exact trivial | exact .inl rfl | exact .inr ⟨_, rfl, rfl⟩ | refine ⟨?_, ?_⟩)) ?_)
  (repeat (first | simp -dsimp only [RB, TB, keep8, tab8, ewOp, xop, xindexAddr, xindex, xslice, xconvert, xlen, drawStep, FreeW, SameW, ChangeW, limBytes, Nat.reduceAdd, Nat.reduceEqDiff, Nat.reduceLT, Nat.reduceLeDiff, Nat.reduceMul, Nat.reduceSub, Int.reduceBEq, Int.reduceBNe, Int.reduceToNat, Int.reduceLT, Int.reduceLE, Int.reduceGT, Int.reduceGE, Int.reduceAdd, Int.reduceSub, Int.reduceNeg, Int.reduceEq, Int.toNat_zero, Int.toNat_one, reduceIte, reduceCtorEq, ne_eq, decide_true, decide_false] | ((with_reducible refine Need.intro ?_ ?_); (first | trivial | omega | (simp; done) | (simp; omega)))))
  (first | refine SCall.then (tags _) ?_ | refine SCall.thenA (tags _) (by repeat (first | exact trivial | exact .inl rfl | exact .inr ⟨_, rfl, rfl⟩ | refine ⟨?_, ?_⟩)) ?_ | refine CallE.intro _ (tags _) ?_ | refine CallE.introA (tags _) (by repeat (first | exact trivial | exact .inl rfl | exact .inr ⟨_, rfl, rfl⟩ | refine ⟨?_, ?_⟩)) ?_)
  (repeat (first | simp -dsimp only [RB, TB, keep8, tab8, ewOp, xop, xindexAddr, xindex, xslice, xconvert, xlen, drawStep, FreeW, SameW, ChangeW, limBytes, Nat.reduceAdd, Nat.reduceEqDiff, Nat.reduceLT, Nat.reduceLeDiff, Nat.reduceMul, Nat.reduceSub, Int.reduceBEq, Int.reduceBNe, Int.reduceToNat, Int.reduceLT, Int.reduceLE, Int.reduceGT, Int.reduceGE, Int.reduceAdd, Int.reduceSub, Int.reduceNeg, Int.reduceEq, Int.toNat_zero, Int.toNat_one, reduceIte, reduceCtorEq, ne_eq, decide_true, decide_false] | ((with_reducible refine Need.intro ?_ ?_); (first | trivial | omega | (simp; done) | (simp; omega)))))
  refine SCall.mono (common _) ?_
  rintro r H1 ⟨L, hL, ht, rfl, rfl⟩
  (repeat (first | simp -dsimp only [List.length_append, RB, TB, keep8, tab8, ewOp, xop, xindexAddr, xindex, xslice, xconvert, xlen, drawStep, FreeW, SameW, ChangeW, limBytes, Nat.reduceAdd, Nat.reduceEqDiff, Nat.reduceLT, Nat.reduceLeDiff, Nat.reduceMul, Nat.reduceSub, Int.reduceBEq, Int.reduceBNe, Int.reduceToNat, Int.reduceLT, Int.reduceLE, Int.reduceGT, Int.reduceGE, Int.reduceAdd, Int.reduceSub, Int.reduceNeg, Int.reduceEq, Int.toNat_zero, Int.toNat_one, reduceIte, reduceCtorEq, ne_eq, decide_true, decide_false] | ((with_reducible refine Need.intro ?_ ?_); (first | trivial | omega | (simp; done) | (simp; omega)))))
  have hT : tagsL.length = 17 := rfl
  have hP : (plainL ++ addrL).length = 7 := rfl
  generalize tagsL = A at *
  generalize plainL ++ addrL = C at *
  refine EW.loopE (ι := (Nat) × (List (List UInt8))) (fun (x_ : (Nat) × (List (List UInt8))) => match x_ with | (i, A) => i ≤ 17 ∧ A.length = 17) (fun (x_ : (Nat) × (List (List UInt8))) => match x_ with | (i, A) => 17 - i) (fun (x_ : (Nat) × (List (List UInt8))) => match x_ with | (i, A) => [(6, .int .i64 i)]) (fun (x_ : (Nat) × (List (List UInt8))) => match x_ with | (i, A) => H ++ [.vec 1 1 (A.map V.str), .vec 1 1 (L.map V.str), .vec 1 1 (C.map V.str)]) (0, A) ?_ ?_ ?_ ?_ ?_
  · first | rfl | simp [upd, eset]
  · first | rfl | (simp; done) | exact (set_same (by assumption)).symm
  · rintro ⟨i, A⟩ hok; exact ⟨by simp, by (simp (maxDischargeDepth := 6) [LTB, HLt_set, ltL_take, ltL_drop, ltL_rep, upd, eset, *, lt_vi, lt_str, lt_vb] <;> omega), by (simp (maxDischargeDepth := 6) [LTB, HLt_set, ltL_take, ltL_drop, ltL_rep, upd, eset, *, lt_vi, lt_str, lt_vb] <;> omega)⟩
  · exact ⟨by omega, hT⟩
  rintro ⟨i, A1⟩ ⟨hi, hA⟩
  refine EW.of_c Tok mixed (own := false) keep8 tab8 (by kernel_rfl) ?_
  (repeat (first | simp -dsimp only [RB, TB, keep8, tab8, ewOp, xop, xindexAddr, xindex, xslice, xconvert, xlen, drawStep, FreeW, SameW, ChangeW, limBytes, Nat.reduceAdd, Nat.reduceEqDiff, Nat.reduceLT, Nat.reduceLeDiff, Nat.reduceMul, Nat.reduceSub, Int.reduceBEq, Int.reduceBNe, Int.reduceToNat, Int.reduceLT, Int.reduceLE, Int.reduceGT, Int.reduceGE, Int.reduceAdd, Int.reduceSub, Int.reduceNeg, Int.reduceEq, Int.toNat_zero, Int.toNat_one, reduceIte, reduceCtorEq, ne_eq, decide_true, decide_false] | ((with_reducible refine Need.intro ?_ ?_); (first | trivial | omega | (simp; done) | (simp; omega)))))
  refine IfW.intro (fun h => ?_) (fun h => ?_)
  · have hlt : i < 17 := by have := of_decide_eq_true h; omega
    (repeat (first | simp -dsimp only [h, at_map V.str A1 i (by omega), RB, TB, keep8, tab8, ewOp, xop, xindexAddr, xindex, xslice, xconvert, xlen, drawStep, FreeW, SameW, ChangeW, limBytes, Nat.reduceAdd, Nat.reduceEqDiff, Nat.reduceLT, Nat.reduceLeDiff, Nat.reduceMul, Nat.reduceSub, Int.reduceBEq, Int.reduceBNe, Int.reduceToNat, Int.reduceLT, Int.reduceLE, Int.reduceGT, Int.reduceGE, Int.reduceAdd, Int.reduceSub, Int.reduceNeg, Int.reduceEq, Int.toNat_zero, Int.toNat_one, reduceIte, reduceCtorEq, ne_eq, decide_true, decide_false] | ((with_reducible refine Need.intro ?_ ?_); (first | trivial | omega | (simp; done) | (simp; omega)))))
    rw [wrapI (by omega)]
    refine UpTo.here ⟨(i + 1, A1.set i s), ?_, by first | omega | (simp only [List.length_append, List.length_cons, List.length_nil]; omega), by simp [upd, eset], ⟨_, by simp; try rfl⟩⟩
    exact ⟨by omega, by simp [hA]⟩
  (repeat (first | simp -dsimp only [h, RB, TB, keep8, tab8, ewOp, xop, xindexAddr, xindex, xslice, xconvert, xlen, drawStep, FreeW, SameW, ChangeW, limBytes, Nat.reduceAdd, Nat.reduceEqDiff, Nat.reduceLT, Nat.reduceLeDiff, Nat.reduceMul, Nat.reduceSub, Int.reduceBEq, Int.reduceBNe, Int.reduceToNat, Int.reduceLT, Int.reduceLE, Int.reduceGT, Int.reduceGE, Int.reduceAdd, Int.reduceSub, Int.reduceNeg, Int.reduceEq, Int.toNat_zero, Int.toNat_one, reduceIte, reduceCtorEq, ne_eq, decide_true, decide_false] | ((with_reducible refine Need.intro ?_ ?_); (first | trivial | omega | (simp; done) | (simp; omega)))))
  clear h hi
  refine EW.loopE (ι := (Nat) × (List (List UInt8))) (fun (x_ : (Nat) × (List (List UInt8))) => match x_ with | (i, L) => i ≤ 15 ∧ L.length = 17) (fun (x_ : (Nat) × (List (List UInt8))) => match x_ with | (i, L) => 15 - i) (fun (x_ : (Nat) × (List (List UInt8))) => match x_ with | (i, L) => [(7, .int .i64 i)]) (fun (x_ : (Nat) × (List (List UInt8))) => match x_ with | (i, L) => H ++ [.vec 1 1 (A1.map V.str), .vec 1 1 (L.map V.str), .vec 1 1 (C.map V.str)]) (0, L) ?_ ?_ ?_ ?_ ?_
  · first | rfl | simp [upd, eset]
  · first | rfl | (simp; done) | exact (set_same (by assumption)).symm
  · rintro ⟨i, L⟩ hok; exact ⟨by simp, by (simp (maxDischargeDepth := 6) [LTB, HLt_set, ltL_take, ltL_drop, ltL_rep, upd, eset, *, lt_vi, lt_str, lt_vb] <;> omega), by (simp (maxDischargeDepth := 6) [LTB, HLt_set, ltL_take, ltL_drop, ltL_rep, upd, eset, *, lt_vi, lt_str, lt_vb] <;> omega)⟩
  · exact ⟨by omega, hL⟩
  rintro ⟨i, L1⟩ ⟨hi, hL1⟩
  refine EW.of_c Tok mixed (own := false) keep8 tab8 (by kernel_rfl) ?_
  (repeat (first | simp -dsimp only [RB, TB, keep8, tab8, ewOp, xop, xindexAddr, xindex, xslice, xconvert, xlen, drawStep, FreeW, SameW, ChangeW, limBytes, Nat.reduceAdd, Nat.reduceEqDiff, Nat.reduceLT, Nat.reduceLeDiff, Nat.reduceMul, Nat.reduceSub, Int.reduceBEq, Int.reduceBNe, Int.reduceToNat, Int.reduceLT, Int.reduceLE, Int.reduceGT, Int.reduceGE, Int.reduceAdd, Int.reduceSub, Int.reduceNeg, Int.reduceEq, Int.toNat_zero, Int.toNat_one, reduceIte, reduceCtorEq, ne_eq, decide_true, decide_false] | ((with_reducible refine Need.intro ?_ ?_); (first | trivial | omega | (simp; done) | (simp; omega)))))
  refine IfW.intro (fun h => ?_) (fun h => ?_)
  · have hlt : i < 15 := by have := of_decide_eq_true h; omega
    (repeat (first | simp -dsimp only [h, at_map V.str L1 i (by omega), RB, TB, keep8, tab8, ewOp, xop, xindexAddr, xindex, xslice, xconvert, xlen, drawStep, FreeW, SameW, ChangeW, limBytes, Nat.reduceAdd, Nat.reduceEqDiff, Nat.reduceLT, Nat.reduceLeDiff, Nat.reduceMul, Nat.reduceSub, Int.reduceBEq, Int.reduceBNe, Int.reduceToNat, Int.reduceLT, Int.reduceLE, Int.reduceGT, Int.reduceGE, Int.reduceAdd, Int.reduceSub, Int.reduceNeg, Int.reduceEq, Int.toNat_zero, Int.toNat_one, reduceIte, reduceCtorEq, ne_eq, decide_true, decide_false] | ((with_reducible refine Need.intro ?_ ?_); (first | trivial | omega | (simp; done) | (simp; omega)))))
    rw [wrapI (by omega)]
    refine UpTo.here ⟨(i + 1, L1.set i s), ?_, by first | omega | (simp only [List.length_append, List.length_cons, List.length_nil]; omega), by simp [upd, eset], ⟨_, by simp; try rfl⟩⟩
    exact ⟨by omega, by simp [hL1]⟩
  (repeat (first | simp -dsimp only [h, RB, TB, keep8, tab8, ewOp, xop, xindexAddr, xindex, xslice, xconvert, xlen, drawStep, FreeW, SameW, ChangeW, limBytes, Nat.reduceAdd, Nat.reduceEqDiff, Nat.reduceLT, Nat.reduceLeDiff, Nat.reduceMul, Nat.reduceSub, Int.reduceBEq, Int.reduceBNe, Int.reduceToNat, Int.reduceLT, Int.reduceLE, Int.reduceGT, Int.reduceGE, Int.reduceAdd, Int.reduceSub, Int.reduceNeg, Int.reduceEq, Int.toNat_zero, Int.toNat_one, reduceIte, reduceCtorEq, ne_eq, decide_true, decide_false] | ((with_reducible refine Need.intro ?_ ?_); (first | trivial | omega | (simp; done) | (simp; omega)))))
  clear h hi
  refine EW.loopE (ι := (Nat) × (List (List UInt8))) (fun (x_ : (Nat) × (List (List UInt8))) => match x_ with | (i, C) => i ≤ 7 ∧ C.length = 7) (fun (x_ : (Nat) × (List (List UInt8))) => match x_ with | (i, C) => 7 - i) (fun (x_ : (Nat) × (List (List UInt8))) => match x_ with | (i, C) => [(8, .int .i64 i)]) (fun (x_ : (Nat) × (List (List UInt8))) => match x_ with | (i, C) => H ++ [.vec 1 1 (A1.map V.str), .vec 1 1 (L1.map V.str), .vec 1 1 (C.map V.str)]) (0, C) ?_ ?_ ?_ ?_ ?_
  · first | rfl | simp [upd, eset]
  · first | rfl | (simp; done) | exact (set_same (by assumption)).symm
  · rintro ⟨i, C⟩ hok; exact ⟨by simp, by (simp (maxDischargeDepth := 6) [LTB, HLt_set, ltL_take, ltL_drop, ltL_rep, upd, eset, *, lt_vi, lt_str, lt_vb] <;> omega), by (simp (maxDischargeDepth := 6) [LTB, HLt_set, ltL_take, ltL_drop, ltL_rep, upd, eset, *, lt_vi, lt_str, lt_vb] <;> omega)⟩
  · exact ⟨by omega, hP⟩
  rintro ⟨i, C1⟩ ⟨hi, hC⟩
  refine EW.of_c Tok mixed (own := false) keep8 tab8 (by kernel_rfl) ?_
  (repeat (first | simp -dsimp only [RB, TB, keep8, tab8, ewOp, xop, xindexAddr, xindex, xslice, xconvert, xlen, drawStep, FreeW, SameW, ChangeW, limBytes, Nat.reduceAdd, Nat.reduceEqDiff, Nat.reduceLT, Nat.reduceLeDiff, Nat.reduceMul, Nat.reduceSub, Int.reduceBEq, Int.reduceBNe, Int.reduceToNat, Int.reduceLT, Int.reduceLE, Int.reduceGT, Int.reduceGE, Int.reduceAdd, Int.reduceSub, Int.reduceNeg, Int.reduceEq, Int.toNat_zero, Int.toNat_one, reduceIte, reduceCtorEq, ne_eq, decide_true, decide_false] | ((with_reducible refine Need.intro ?_ ?_); (first | trivial | omega | (simp; done) | (simp; omega)))))
  refine IfW.intro (fun h => ?_) (fun h => ?_)
  · have hlt : i < 7 := by have := of_decide_eq_true h; omega
    (repeat (first | simp -dsimp only [h, at_map V.str C1 i (by omega), RB, TB, keep8, tab8, ewOp, xop, xindexAddr, xindex, xslice, xconvert, xlen, drawStep, FreeW, SameW, ChangeW, limBytes, Nat.reduceAdd, Nat.reduceEqDiff, Nat.reduceLT, Nat.reduceLeDiff, Nat.reduceMul, Nat.reduceSub, Int.reduceBEq, Int.reduceBNe, Int.reduceToNat, Int.reduceLT, Int.reduceLE, Int.reduceGT, Int.reduceGE, Int.reduceAdd, Int.reduceSub, Int.reduceNeg, Int.reduceEq, Int.toNat_zero, Int.toNat_one, reduceIte, reduceCtorEq, ne_eq, decide_true, decide_false] | ((with_reducible refine Need.intro ?_ ?_); (first | trivial | omega | (simp; done) | (simp; omega)))))
    rw [wrapI (by omega)]
    refine UpTo.here ⟨(i + 1, C1.set i s), ?_, by first | omega | (simp only [List.length_append, List.length_cons, List.length_nil]; omega), by simp [upd, eset], ⟨_, by simp; try rfl⟩⟩
    exact ⟨by omega, by simp [hC]⟩
  (repeat (first | simp -dsimp only [h, RB, TB, keep8, tab8, ewOp, xop, xindexAddr, xindex, xslice, xconvert, xlen, drawStep, FreeW, SameW, ChangeW, limBytes, Nat.reduceAdd, Nat.reduceEqDiff, Nat.reduceLT, Nat.reduceLeDiff, Nat.reduceMul, Nat.reduceSub, Int.reduceBEq, Int.reduceBNe, Int.reduceToNat, Int.reduceLT, Int.reduceLE, Int.reduceGT, Int.reduceGE, Int.reduceAdd, Int.reduceSub, Int.reduceNeg, Int.reduceEq, Int.toNat_zero, Int.toNat_one, reduceIte, reduceCtorEq, ne_eq, decide_true, decide_false] | ((with_reducible refine Need.intro ?_ ?_); (first | trivial | omega | (simp; done) | (simp; omega)))))
  (first | refine SCall.then (tag _ _) ?_ | refine SCall.thenA (tag _ _) (by repeat (first | exact trivial | exact .inl rfl | exact .inr ⟨_, rfl, rfl⟩ | refine ⟨?_, ?_⟩)) ?_ | refine CallE.intro _ (tag _ _) ?_ | refine CallE.introA (tag _ _) (by repeat (first | exact trivial | exact .inl rfl | exact .inr ⟨_, rfl, rfl⟩ | refine ⟨?_, ?_⟩)) ?_)
  (repeat (first | simp -dsimp only [show decide ([100, 105, 118] ∈ Go.Proofs.Ytadhjfdmfdgppaa.tagsL) = true from by decide +kernel, RB, TB, keep8, tab8, ewOp, xop, xindexAddr, xindex, xslice, xconvert, xlen, drawStep, FreeW, SameW, ChangeW, limBytes, Nat.reduceAdd, Nat.reduceEqDiff, Nat.reduceLT, Nat.reduceLeDiff, Nat.reduceMul, Nat.reduceSub, Int.reduceBEq, Int.reduceBNe, Int.reduceToNat, Int.reduceLT, Int.reduceLE, Int.reduceGT, Int.reduceGE, Int.reduceAdd, Int.reduceSub, Int.reduceNeg, Int.reduceEq, Int.toNat_zero, Int.toNat_one, reduceIte, reduceCtorEq, ne_eq, decide_true, decide_false] | ((with_reducible refine Need.intro ?_ ?_); (first | trivial | omega | (simp; done) | (simp; omega)))))
  (first | refine SCall.then (tags _) ?_ | refine SCall.thenA (tags _) (by repeat (first | exact trivial | exact .inl rfl | exact .inr ⟨_, rfl, rfl⟩ | refine ⟨?_, ?_⟩)) ?_ | refine CallE.intro _ (tags _) ?_ | refine CallE.introA (tags _) (by repeat (first | exact trivial | exact .inl rfl | exact .inr ⟨_, rfl, rfl⟩ | refine ⟨?_, ?_⟩)) ?_)
  (repeat (first | simp -dsimp only [RB, TB, keep8, tab8, ewOp, xop, xindexAddr, xindex, xslice, xconvert, xlen, drawStep, FreeW, SameW, ChangeW, limBytes, Nat.reduceAdd, Nat.reduceEqDiff, Nat.reduceLT, Nat.reduceLeDiff, Nat.reduceMul, Nat.reduceSub, Int.reduceBEq, Int.reduceBNe, Int.reduceToNat, Int.reduceLT, Int.reduceLE, Int.reduceGT, Int.reduceGE, Int.reduceAdd, Int.reduceSub, Int.reduceNeg, Int.reduceEq, Int.toNat_zero, Int.toNat_one, reduceIte, reduceCtorEq, ne_eq, decide_true, decide_false] | ((with_reducible refine Need.intro ?_ ?_); (first | trivial | omega | (simp; done) | (simp; omega)))))
  (first | refine SCall.then (tags _) ?_ | refine SCall.thenA (tags _) (by repeat (first | exact trivial | exact .inl rfl | exact .inr ⟨_, rfl, rfl⟩ | refine ⟨?_, ?_⟩)) ?_ | refine CallE.intro _ (tags _) ?_ | refine CallE.introA (tags _) (by repeat (first | exact trivial | exact .inl rfl | exact .inr ⟨_, rfl, rfl⟩ | refine ⟨?_, ?_⟩)) ?_)
  (repeat (first | simp -dsimp only [RB, TB, keep8, tab8, ewOp, xop, xindexAddr, xindex, xslice, xconvert, xlen, drawStep, FreeW, SameW, ChangeW, limBytes, Nat.reduceAdd, Nat.reduceEqDiff, Nat.reduceLT, Nat.reduceLeDiff, Nat.reduceMul, Nat.reduceSub, Int.reduceBEq, Int.reduceBNe, Int.reduceToNat, Int.reduceLT, Int.reduceLE, Int.reduceGT, Int.reduceGE, Int.reduceAdd, Int.reduceSub, Int.reduceNeg, Int.reduceEq, Int.toNat_zero, Int.toNat_one, reduceIte, reduceCtorEq, ne_eq, decide_true, decide_false] | ((with_reducible refine Need.intro ?_ ?_); (first | trivial | omega | (simp; done) | (simp; omega)))))
  have e0 : (Go.Proofs.Ytadhjfdmfdgppaa.tagsL.map V.str).getD 0 .dead = .str [100, 105, 118] := rfl
  (repeat (first | simp -dsimp only [e0, RB, TB, keep8, tab8, ewOp, xop, xindexAddr, xindex, xslice, xconvert, xlen, drawStep, FreeW, SameW, ChangeW, limBytes, Nat.reduceAdd, Nat.reduceEqDiff, Nat.reduceLT, Nat.reduceLeDiff, Nat.reduceMul, Nat.reduceSub, Int.reduceBEq, Int.reduceBNe, Int.reduceToNat, Int.reduceLT, Int.reduceLE, Int.reduceGT, Int.reduceGE, Int.reduceAdd, Int.reduceSub, Int.reduceNeg, Int.reduceEq, Int.toNat_zero, Int.toNat_one, reduceIte, reduceCtorEq, ne_eq, decide_true, decide_false] | ((with_reducible refine Need.intro ?_ ?_); (first | trivial | omega | (simp; done) | (simp; omega)))))
  (first | refine SCall.then (attr _ _) ?_ | refine SCall.thenA (attr _ _) (by repeat (first | exact trivial | exact .inl rfl | exact .inr ⟨_, rfl, rfl⟩ | refine ⟨?_, ?_⟩)) ?_ | refine CallE.intro _ (attr _ _) ?_ | refine CallE.introA (attr _ _) (by repeat (first | exact trivial | exact .inl rfl | exact .inr ⟨_, rfl, rfl⟩ | refine ⟨?_, ?_⟩)) ?_)
  (repeat (first | simp -dsimp only [show decide ([100, 105, 118] ∈ plainL) = false from by decide +kernel, RB, TB, keep8, tab8, ewOp, xop, xindexAddr, xindex, xslice, xconvert, xlen, drawStep, FreeW, SameW, ChangeW, limBytes, Nat.reduceAdd, Nat.reduceEqDiff, Nat.reduceLT, Nat.reduceLeDiff, Nat.reduceMul, Nat.reduceSub, Int.reduceBEq, Int.reduceBNe, Int.reduceToNat, Int.reduceLT, Int.reduceLE, Int.reduceGT, Int.reduceGE, Int.reduceAdd, Int.reduceSub, Int.reduceNeg, Int.reduceEq, Int.toNat_zero, Int.toNat_one, reduceIte, reduceCtorEq, ne_eq, decide_true, decide_false] | ((with_reducible refine Need.intro ?_ ?_); (first | trivial | omega | (simp; done) | (simp; omega)))))
  refine RetW.auto0 false _ (by first | rfl | exact (List.append_nil _).symm) ?_ ?_
  · (simp (maxDischargeDepth := 6) [LTB, HLt_set, ltL_take, ltL_drop, ltL_rep, upd, eset, *, lt_vi, lt_str, lt_vb] <;> omega)
  (try simp only [wk, wk1, wk0, RB, limBytes, Nat.reduceAdd, Nat.reduceEqDiff, Nat.reduceLT, Nat.reduceLeDiff, Nat.reduceMul, Nat.reduceSub, Int.reduceBEq, Int.reduceBNe, Int.reduceToNat, Int.reduceLT, Int.reduceLE, Int.reduceGT, Int.reduceGE, Int.reduceAdd, Int.reduceSub, Int.reduceNeg, Int.reduceEq, Int.toNat_zero, Int.toNat_one, reduceIte, reduceCtorEq, ne_eq, decide_true, decide_false])
  (try (rw [List.take_of_length_le]; rotate_left 1; (· first | (simp; done) | (simp; omega) | omega)))
open Go.ChangeShapes Go.WideShapes Go.ChangeAt Go.RowKit in
theorem allowOwn_lifted (os : Os) (started : os.Started) (H : Type) (enc : TypeId × Value → H) :
    ReturnsInHanded {} Try.checked os 8 .any (Rows.allowOwnSpec.pre6 enc Try.prog Try.f8 Rows.allowOwnRow.domain false) (Rows.allowOwnSpec.post enc Try.prog Try.f8 false true false false) := by
  refine returnsInHanded_of_change (C := Try.checked) own_none started (by kernel_rfl) Try.func8
    (ChangeSpec.witness6 (enc := enc) (C := Try.checked) false ⟨#[], #[.string ⟨#[]⟩], []⟩ 8 (by kernel_rfl) (by kernel_rfl) (by kernel_rfl) (by kernel_rfl)) ?_
  intro W base args ds gs before hval0 hW hcnd _
  have hval : ∀ (j : Nat) t v, Try.f8.params[j]? = some t → args[j]? = some v → Value.okWide Try.prog W .any base t v := hval0
  obtain ⟨p0_, q0_, hA, _⟩ := id hW
  have hA0 : DataW.TrodAll enc Try.prog W 0 (fun _ => true) true Try.f8.params.toList args.toList ds p0_ := hA
  rw [Try.params8] at hA0 hval
  obtain ⟨v0, d0, rfl, rfl, h0⟩ := trodAll_one hA0
  obtain ⟨s, hp_s, hz_s, hv_s⟩ := (Dec.str Try.underlying9).value h0 (fun _ => okAgg_leaf (by simp) (ok_str Try.underlying9 (hval 0 9 v0 rfl rfl)))
  exact row_contract (P := Try.prog) (s := Rows.allowOwnSpec) (vs := [.str s]) laid_out (by kernel_rfl) rfl Try.call8 rfl Try.underlying4 hW ⟨rfl, rfl, rfl⟩ ⟨hv_s, trivial⟩ (allowOwn [] s)
theorem allowOwn_holds : Rows.AllowOwnSaid :=
  OpenClaim.holds_of_wide 8 Try.f8 rfl rfl rfl rfl rfl rfl rfl ⟨rfl, rfl, rfl, rfl, rfl⟩ rfl rfl rfl rfl rfl (by kernel_rfl) Try.func8 (by kernel_rfl)
    (of_decide_eq_true (by kernel_rfl)) (by unfold Func.isWrapper; first | (rw [if_neg (by decide +kernel)]; exact ⟨rfl, rfl⟩) | (rw [if_pos (by decide +kernel)]; kernel_rfl))
    (fun os started H enc _ => allowOwn_lifted os started H enc)
end Go.Proofs.Ytadhjfdmfdgppaa

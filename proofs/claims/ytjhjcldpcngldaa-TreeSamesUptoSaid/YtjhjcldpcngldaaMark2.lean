/- The walks of package mark: Worst, Cut, Cat. -/
import Derived.Test.YtjhjcldpcngldaaMark1
set_option linter.unusedSimpArgs false
set_option linter.unusedVariables false
set_option maxRecDepth 100000
namespace Go.Proofs.Ytjhjcldpcngldaa
open Go Go.EL
def worstS (s : Str) : Int := ((fixS s).runs.map Prod.snd).foldl max 0
theorem mWorst (H : List Ob) (s : Str) (hs : okS s) : SCall Try.prog 104 [strV s] H (fun r H' => r = .int .i64 (worstS s) ∧ H' = H) := by
  have hf := okS_fix hs
  obtain ⟨text, runs⟩ := s
  unfold strV
  refine SCall.of_good fun hH => ?_
  have hHk := HLt.add hH
  refine SCall.of_code Tok Try.func104 rfl Try.call104 (n := 20) rfl (by simp) (rs := [.tmp 2]) rfl ?_
  refine EWn.to ?_
  refine EWn.of_c Tok mixed (own := false) keep104 tab104 (by kernel_rfl) ?_
  (repeat (first | simp -dsimp only [st_run, sz_run, st1_run, cl_run, st_Str, sz_Str, st1_Str, cl_Str, st_c, sz_c, st1_c, cl_c, RB, TB, keep104, tab104, ewOp, xop, xindexAddr, xindex, xslice, xconvert, xlen, drawStep, FreeW, StabW, isStab, SameW, ChangeW, limBytes, Nat.reduceBEq, Nat.reduceAdd, Nat.reduceEqDiff, Nat.reduceLT, Nat.reduceLeDiff, Nat.reduceMul, Nat.reduceSub, Int.reduceBEq, Int.reduceBNe, Int.reduceToNat, Int.reduceLT, Int.reduceLE, Int.reduceGT, Int.reduceGE, Int.reduceAdd, Int.reduceSub, Int.reduceNeg, Int.reduceEq, Int.toNat_zero, Int.toNat_one, reduceIte, reduceCtorEq, ne_eq, decide_true, decide_false] | ((with_reducible refine Need.intro ?_ ?_); (first | trivial | omega | (simp; done) | (simp; omega)))))
  (first | refine SCall.then (mFix _ ⟨text, runs⟩ hs) ?_ | refine SCall.thenA (mFix _ ⟨text, runs⟩ hs) (by repeat (first | exact trivial | exact .inl (.inl rfl) | exact .inl (.inr ⟨_, rfl, rfl⟩) | exact .inl rfl | exact .inr ⟨_, rfl, rfl⟩ | refine .inr ⟨_, _, rfl, rfl, ?_⟩ | refine ⟨?_, ?_⟩)) ?_ | refine CallE.intro _ (mFix _ ⟨text, runs⟩ hs) ?_ | refine CallE.introA (mFix _ ⟨text, runs⟩ hs) (by repeat (first | exact trivial | exact .inl (.inl rfl) | exact .inl (.inr ⟨_, rfl, rfl⟩) | exact .inl rfl | exact .inr ⟨_, rfl, rfl⟩ | refine .inr ⟨_, _, rfl, rfl, ?_⟩ | refine ⟨?_, ?_⟩)) ?_ | refine CallE.intro _ (fun _ => mFix _ ⟨text, runs⟩ hs) ?_ | refine CallE.intro _ (fun _ => SCall.arg (by repeat (first | exact trivial | exact .inl (.inl rfl) | exact .inl (.inr ⟨_, rfl, rfl⟩) | exact .inl rfl | exact .inr ⟨_, rfl, rfl⟩ | refine .inr ⟨_, _, rfl, rfl, ?_⟩ | refine ⟨?_, ?_⟩)) (mFix _ ⟨text, runs⟩ hs)) ?_ | refine CallE2.intro _ _ (mFix _ ⟨text, runs⟩ hs) ?_ | refine CallE2.intro _ _ (SCall.arg (by repeat (first | exact trivial | exact .inl (.inl rfl) | exact .inl (.inr ⟨_, rfl, rfl⟩) | exact .inl rfl | exact .inr ⟨_, rfl, rfl⟩ | refine .inr ⟨_, _, rfl, rfl, ?_⟩ | refine ⟨?_, ?_⟩)) (mFix _ ⟨text, runs⟩ hs)) ?_)
  (repeat (first | simp -dsimp only [st_run, sz_run, st1_run, cl_run, st_Str, sz_Str, st1_Str, cl_Str, st_c, sz_c, st1_c, cl_c, strV, RB, TB, keep104, tab104, ewOp, xop, xindexAddr, xindex, xslice, xconvert, xlen, drawStep, FreeW, StabW, isStab, SameW, ChangeW, limBytes, Nat.reduceBEq, Nat.reduceAdd, Nat.reduceEqDiff, Nat.reduceLT, Nat.reduceLeDiff, Nat.reduceMul, Nat.reduceSub, Int.reduceBEq, Int.reduceBNe, Int.reduceToNat, Int.reduceLT, Int.reduceLE, Int.reduceGT, Int.reduceGE, Int.reduceAdd, Int.reduceSub, Int.reduceNeg, Int.reduceEq, Int.toNat_zero, Int.toNat_one, reduceIte, reduceCtorEq, ne_eq, decide_true, decide_false] | ((with_reducible refine Need.intro ?_ ?_); (first | trivial | omega | (simp; done) | (simp; omega)))))
  unfold worstS
  generalize fixS ⟨text, runs⟩ = f at *
  obtain ⟨ft, l⟩ := f
  have hl := hf.2
  simp only at hl ⊢
  refine EWn.loopE (ι := (Nat)) (fun (i : (Nat)) => i ≤ l.length) (fun (i : (Nat)) => l.length - i) (fun (i : (Nat)) => [(3, .int .i64 (((l.take i).map Prod.snd).foldl max 0)), (10, .int .i64 i)]) (fun (i : (Nat)) => H ++ [.var [.str text, .slice (runs.map runV)]]) (0) ?_ ?_ ?_ ?_ ?_
  · first | rfl | simp [upd, eset]
  · first | rfl | (simp; done) | exact (set_same (by assumption)).symm
  · rintro i hok; exact ⟨by first | (simp; done) | (simp; omega), by (simp (maxDischargeDepth := 6) [LTB, HLt_set, ltL_take, ltL_drop, ltL_rep, ltL_set, upd, eset, hH, hHk, lt_vi, lt_str, lt_vb, ltc_str, ltc_vi, lt_run, lt1_run, ltc_run, lt_Str, lt1_Str, ltc_Str, lt_c, lt1_c, ltc_c] <;> omega), by (simp (maxDischargeDepth := 6) [LTB, HLt_set, ltL_take, ltL_drop, ltL_rep, ltL_set, upd, eset, hH, hHk, lt_vi, lt_str, lt_vb, ltc_str, ltc_vi, lt_run, lt1_run, ltc_run, lt_Str, lt1_Str, ltc_Str, lt_c, lt1_c, ltc_c] <;> omega)⟩
  · omega
  rintro i hi
  refine EWn.of_c Tok mixed (own := false) keep104 tab104 (by kernel_rfl) ?_
  (repeat (first | simp -dsimp only [st_run, sz_run, st1_run, cl_run, st_Str, sz_Str, st1_Str, cl_Str, st_c, sz_c, st1_c, cl_c, RB, TB, keep104, tab104, ewOp, xop, xindexAddr, xindex, xslice, xconvert, xlen, drawStep, FreeW, StabW, isStab, SameW, ChangeW, limBytes, Nat.reduceBEq, Nat.reduceAdd, Nat.reduceEqDiff, Nat.reduceLT, Nat.reduceLeDiff, Nat.reduceMul, Nat.reduceSub, Int.reduceBEq, Int.reduceBNe, Int.reduceToNat, Int.reduceLT, Int.reduceLE, Int.reduceGT, Int.reduceGE, Int.reduceAdd, Int.reduceSub, Int.reduceNeg, Int.reduceEq, Int.toNat_zero, Int.toNat_one, reduceIte, reduceCtorEq, ne_eq, decide_true, decide_false] | ((with_reducible refine Need.intro ?_ ?_); (first | trivial | omega | (simp; done) | (simp; omega)))))
  refine IfW.intro (fun h => ?_) (fun h => ?_)
  · have hlt := lt_of h
    (repeat (first | simp -dsimp only [st_run, sz_run, st1_run, cl_run, st_Str, sz_Str, st1_Str, cl_Str, st_c, sz_c, st1_c, cl_c, h, at_map runV l i hlt, runV, RB, TB, keep104, tab104, ewOp, xop, xindexAddr, xindex, xslice, xconvert, xlen, drawStep, FreeW, StabW, isStab, SameW, ChangeW, limBytes, Nat.reduceBEq, Nat.reduceAdd, Nat.reduceEqDiff, Nat.reduceLT, Nat.reduceLeDiff, Nat.reduceMul, Nat.reduceSub, Int.reduceBEq, Int.reduceBNe, Int.reduceToNat, Int.reduceLT, Int.reduceLE, Int.reduceGT, Int.reduceGE, Int.reduceAdd, Int.reduceSub, Int.reduceNeg, Int.reduceEq, Int.toNat_zero, Int.toNat_one, reduceIte, reduceCtorEq, ne_eq, decide_true, decide_false] | ((with_reducible refine Need.intro ?_ ?_); (first | trivial | omega | (simp; done) | (simp; omega)))))
    rw [wrapI (by omega)]
    have hsucc : ((l.take (i + 1)).map Prod.snd).foldl max 0 = max (((l.take i).map Prod.snd).foldl max 0) l[i].2 := by
      rw [List.take_succ_eq_append_getElem hlt, List.map_append, List.foldl_append]; rfl
    refine UpTo.here ⟨i + 1, hlt, by simp only; omega, by simp only [hsucc]; simp [upd, eset], ⟨_, by simp; rfl⟩⟩
  · (repeat (first | simp -dsimp only [st_run, sz_run, st1_run, cl_run, st_Str, sz_Str, st1_Str, cl_Str, st_c, sz_c, st1_c, cl_c, h, RB, TB, keep104, tab104, ewOp, xop, xindexAddr, xindex, xslice, xconvert, xlen, drawStep, FreeW, StabW, isStab, SameW, ChangeW, limBytes, Nat.reduceBEq, Nat.reduceAdd, Nat.reduceEqDiff, Nat.reduceLT, Nat.reduceLeDiff, Nat.reduceMul, Nat.reduceSub, Int.reduceBEq, Int.reduceBNe, Int.reduceToNat, Int.reduceLT, Int.reduceLE, Int.reduceGT, Int.reduceGE, Int.reduceAdd, Int.reduceSub, Int.reduceNeg, Int.reduceEq, Int.toNat_zero, Int.toNat_one, reduceIte, reduceCtorEq, ne_eq, decide_true, decide_false] | ((with_reducible refine Need.intro ?_ ?_); (first | trivial | omega | (simp; done) | (simp; omega)))))
    have hi2 : i = l.length := Nat.le_antisymm hi (ge_of h)
    subst hi2
    rw [List.take_length]
    refine RetW.auto0 false _ (by first | rfl | exact (List.append_nil _).symm) ?_ ?_
    · (simp (maxDischargeDepth := 6) [LTB, HLt_set, ltL_take, ltL_drop, ltL_rep, ltL_set, upd, eset, hH, hHk, lt_vi, lt_str, lt_vb, ltc_str, ltc_vi, lt_run, lt1_run, ltc_run, lt_Str, lt1_Str, ltc_Str, lt_c, lt1_c, ltc_c] <;> omega)
    (try simp only [wk, wk1, wk0, RB, limBytes, Nat.reduceBEq, Nat.reduceAdd, Nat.reduceEqDiff, Nat.reduceLT, Nat.reduceLeDiff, Nat.reduceMul, Nat.reduceSub, Int.reduceBEq, Int.reduceBNe, Int.reduceToNat, Int.reduceLT, Int.reduceLE, Int.reduceGT, Int.reduceGE, Int.reduceAdd, Int.reduceSub, Int.reduceNeg, Int.reduceEq, Int.toNat_zero, Int.toNat_one, reduceIte, reduceCtorEq, ne_eq, decide_true, decide_false])
    (try (rw [List.take_of_length_le]; rotate_left 1; (· first | (simp; done) | (simp; omega) | omega)))
/-- some of it -/
def cutS (s : Str) (f t : Nat) : Str := if t ≤ f then ⟨[], []⟩ else ⟨(s.text.take t).drop f, rle (((orig s).take t).drop f)⟩
def clip (n : Nat) (a : Int) : Nat := (min (max a 0) n).toNat
theorem seg_step {A B : List Int} {len f t : Nat} {o : Int} : ((A ++ List.replicate len o ++ B).take (min (A.length + len) t)).drop f = ((A ++ List.replicate len o ++ B).take (min A.length t)).drop f ++ List.replicate (min (A.length + len) t - max A.length f) o := by
  by_cases h : t ≤ A.length
  · rw [Nat.min_eq_right h, Nat.min_eq_right (by omega), show t - max A.length f = 0 by omega]
    simp
  · rw [Nat.min_eq_left (show A.length ≤ t by omega)]
    have e1 : (A ++ List.replicate len o ++ B).take (min (A.length + len) t) = A ++ List.replicate (min len (t - A.length)) o := by
      rw [List.append_assoc, show min (A.length + len) t = A.length + min len (t - A.length) by omega, List.take_append, List.take_of_length_le (by omega), Nat.add_sub_cancel_left, List.take_append, List.take_replicate]
      rw [List.length_replicate, show min len (t - A.length) - len = 0 by omega, List.take_zero, List.append_nil, show min (min len (t - A.length)) len = min len (t - A.length) by omega]
    have e2 : (A ++ List.replicate len o ++ B).take A.length = A := by rw [List.append_assoc, List.take_left]
    rw [e1, e2, List.drop_append, List.drop_replicate]
    congr 2
    omega
theorem putR_nat (l : List (Int × Int)) (n o : Int) : putR l n o = putR l (n.toNat : Nat) o := by
  by_cases h : n < 1
  · rw [putR_zero _ _ _ h, putR_zero _ _ _ (by omega)]
  · rw [Int.toNat_of_nonneg (by omega)]
theorem mCut (H : List Ob) (s : Str) (a b : Int) (hs : okS s) : SCall Try.prog 103 [strV s, .int .i64 a, .int .i64 b] H (fun r H' => r = strV (cutS s (clip s.text.length a) (clip s.text.length b)) ∧ H' = H) := by
  have hO := orig_len s
  have hfr : (fixS s).runs = rle (orig s) := rfl
  have hf := okS_fix hs
  obtain ⟨text, runs⟩ := s
  simp only at hO ⊢
  have hn := hs.1
  simp only at hn
  unfold strV
  refine SCall.of_good fun hH => ?_
  have hHk := HLt.add hH
  refine SCall.of_code Tok Try.func103 rfl Try.call103 (n := 67) rfl (by simp) (rs := [.cell 6 59]) rfl ?_
  refine EWn.to ?_
  refine EWn.of_c Tok mixed (own := false) keep103 tab103 (by kernel_rfl) ?_
  (repeat (first | simp -dsimp only [st_run, sz_run, st1_run, cl_run, st_Str, sz_Str, st1_Str, cl_Str, st_c, sz_c, st1_c, cl_c, RB, TB, keep103, tab103, ewOp, xop, xindexAddr, xindex, xslice, xconvert, xlen, drawStep, FreeW, StabW, isStab, SameW, ChangeW, limBytes, Nat.reduceBEq, Nat.reduceAdd, Nat.reduceEqDiff, Nat.reduceLT, Nat.reduceLeDiff, Nat.reduceMul, Nat.reduceSub, Int.reduceBEq, Int.reduceBNe, Int.reduceToNat, Int.reduceLT, Int.reduceLE, Int.reduceGT, Int.reduceGE, Int.reduceAdd, Int.reduceSub, Int.reduceNeg, Int.reduceEq, Int.toNat_zero, Int.toNat_one, reduceIte, reduceCtorEq, ne_eq, decide_true, decide_false] | ((with_reducible refine Need.intro ?_ ?_); (first | trivial | omega | (simp; done) | (simp; omega)))))
  obtain ⟨f, hfe⟩ : ∃ f : Nat, f = clip text.length a := ⟨_, rfl⟩
  obtain ⟨t, hte⟩ : ∃ t : Nat, t = clip text.length b := ⟨_, rfl⟩
  have hfi : min (max a 0) (text.length : Int) = f := by unfold clip at hfe; omega
  have hti : min (max b 0) (text.length : Int) = t := by unfold clip at hte; omega
  rw [← hfe, ← hte]
  have hfn : f ≤ text.length := by omega
  have htn : t ≤ text.length := by omega
  rw [hfi, hti]
  refine IfW.intro (fun h => ?_) (fun h => ?_)
  · have h1 := of_decide_eq_true h
    (repeat (first | simp -dsimp only [st_run, sz_run, st1_run, cl_run, st_Str, sz_Str, st1_Str, cl_Str, st_c, sz_c, st1_c, cl_c, h, RB, TB, keep103, tab103, ewOp, xop, xindexAddr, xindex, xslice, xconvert, xlen, drawStep, FreeW, StabW, isStab, SameW, ChangeW, limBytes, Nat.reduceBEq, Nat.reduceAdd, Nat.reduceEqDiff, Nat.reduceLT, Nat.reduceLeDiff, Nat.reduceMul, Nat.reduceSub, Int.reduceBEq, Int.reduceBNe, Int.reduceToNat, Int.reduceLT, Int.reduceLE, Int.reduceGT, Int.reduceGE, Int.reduceAdd, Int.reduceSub, Int.reduceNeg, Int.reduceEq, Int.toNat_zero, Int.toNat_one, reduceIte, reduceCtorEq, ne_eq, decide_true, decide_false] | ((with_reducible refine Need.intro ?_ ?_); (first | trivial | omega | (simp; done) | (simp; omega)))))
    refine RetW.auto0 false _ (by first | rfl | exact (List.append_nil _).symm) ?_ ?_
    · (simp (maxDischargeDepth := 6) [LTB, HLt_set, ltL_take, ltL_drop, ltL_rep, ltL_set, upd, eset, hH, hHk, lt_vi, lt_str, lt_vb, ltc_str, ltc_vi, lt_run, lt1_run, ltc_run, lt_Str, lt1_Str, ltc_Str, lt_c, lt1_c, ltc_c] <;> omega)
    (try simp only [wk, wk1, wk0, RB, limBytes, Nat.reduceBEq, Nat.reduceAdd, Nat.reduceEqDiff, Nat.reduceLT, Nat.reduceLeDiff, Nat.reduceMul, Nat.reduceSub, Int.reduceBEq, Int.reduceBNe, Int.reduceToNat, Int.reduceLT, Int.reduceLE, Int.reduceGT, Int.reduceGE, Int.reduceAdd, Int.reduceSub, Int.reduceNeg, Int.reduceEq, Int.toNat_zero, Int.toNat_one, reduceIte, reduceCtorEq, ne_eq, decide_true, decide_false])
    (try (rw [List.take_of_length_le]; rotate_left 1; (· first | (simp; done) | (simp; omega) | omega)))
    simp [cutS, show t ≤ f by omega]
  · have h1 := of_decide_eq_false h
    (repeat (first | simp -dsimp only [st_run, sz_run, st1_run, cl_run, st_Str, sz_Str, st1_Str, cl_Str, st_c, sz_c, st1_c, cl_c, h, RB, TB, keep103, tab103, ewOp, xop, xindexAddr, xindex, xslice, xconvert, xlen, drawStep, FreeW, StabW, isStab, SameW, ChangeW, limBytes, Nat.reduceBEq, Nat.reduceAdd, Nat.reduceEqDiff, Nat.reduceLT, Nat.reduceLeDiff, Nat.reduceMul, Nat.reduceSub, Int.reduceBEq, Int.reduceBNe, Int.reduceToNat, Int.reduceLT, Int.reduceLE, Int.reduceGT, Int.reduceGE, Int.reduceAdd, Int.reduceSub, Int.reduceNeg, Int.reduceEq, Int.toNat_zero, Int.toNat_one, reduceIte, reduceCtorEq, ne_eq, decide_true, decide_false] | ((with_reducible refine Need.intro ?_ ?_); (first | trivial | omega | (simp; done) | (simp; omega)))))
    (first | refine SCall.then (mFix _ ⟨text, runs⟩ hs) ?_ | refine SCall.thenA (mFix _ ⟨text, runs⟩ hs) (by repeat (first | exact trivial | exact .inl (.inl rfl) | exact .inl (.inr ⟨_, rfl, rfl⟩) | exact .inl rfl | exact .inr ⟨_, rfl, rfl⟩ | refine .inr ⟨_, _, rfl, rfl, ?_⟩ | refine ⟨?_, ?_⟩)) ?_ | refine CallE.intro _ (mFix _ ⟨text, runs⟩ hs) ?_ | refine CallE.introA (mFix _ ⟨text, runs⟩ hs) (by repeat (first | exact trivial | exact .inl (.inl rfl) | exact .inl (.inr ⟨_, rfl, rfl⟩) | exact .inl rfl | exact .inr ⟨_, rfl, rfl⟩ | refine .inr ⟨_, _, rfl, rfl, ?_⟩ | refine ⟨?_, ?_⟩)) ?_ | refine CallE.intro _ (fun _ => mFix _ ⟨text, runs⟩ hs) ?_ | refine CallE.intro _ (fun _ => SCall.arg (by repeat (first | exact trivial | exact .inl (.inl rfl) | exact .inl (.inr ⟨_, rfl, rfl⟩) | exact .inl rfl | exact .inr ⟨_, rfl, rfl⟩ | refine .inr ⟨_, _, rfl, rfl, ?_⟩ | refine ⟨?_, ?_⟩)) (mFix _ ⟨text, runs⟩ hs)) ?_ | refine CallE2.intro _ _ (mFix _ ⟨text, runs⟩ hs) ?_ | refine CallE2.intro _ _ (SCall.arg (by repeat (first | exact trivial | exact .inl (.inl rfl) | exact .inl (.inr ⟨_, rfl, rfl⟩) | exact .inl rfl | exact .inr ⟨_, rfl, rfl⟩ | refine .inr ⟨_, _, rfl, rfl, ?_⟩ | refine ⟨?_, ?_⟩)) (mFix _ ⟨text, runs⟩ hs)) ?_)
    (repeat (first | simp -dsimp only [st_run, sz_run, st1_run, cl_run, st_Str, sz_Str, st1_Str, cl_Str, st_c, sz_c, st1_c, cl_c, strV, RB, TB, keep103, tab103, ewOp, xop, xindexAddr, xindex, xslice, xconvert, xlen, drawStep, FreeW, StabW, isStab, SameW, ChangeW, limBytes, Nat.reduceBEq, Nat.reduceAdd, Nat.reduceEqDiff, Nat.reduceLT, Nat.reduceLeDiff, Nat.reduceMul, Nat.reduceSub, Int.reduceBEq, Int.reduceBNe, Int.reduceToNat, Int.reduceLT, Int.reduceLE, Int.reduceGT, Int.reduceGE, Int.reduceAdd, Int.reduceSub, Int.reduceNeg, Int.reduceEq, Int.toNat_zero, Int.toNat_one, reduceIte, reduceCtorEq, ne_eq, decide_true, decide_false] | ((with_reducible refine Need.intro ?_ ?_); (first | trivial | omega | (simp; done) | (simp; omega)))))
    obtain ⟨hf1, hf2⟩ := hf
    simp only [hfr] at hf2
    have hun := (unrle_rle_pos (orig ⟨text, runs⟩)).2
    have huo := unrle_rle (orig ⟨text, runs⟩)
    rw [hfr]
    have hcut : cutS ⟨text, runs⟩ f t = ⟨(text.take t).drop f, rle (((orig ⟨text, runs⟩).take t).drop f)⟩ := by rw [cutS, if_neg (by omega)]
    rw [hcut]
    generalize orig ⟨text, runs⟩ = O at *
    generalize rle O = l at *
    obtain ⟨seg, hseg⟩ : ∃ g : Nat → List Int, g = fun i => (O.take (min (unrle (l.take i)).length t)).drop f := ⟨_, rfl⟩
    have hlen : ∀ i, (unrle (l.take i)).length ≤ O.length := fun i => by
      rw [← huo]
      conv => rhs; rw [← List.take_append_drop i l]
      unfold unrle
      rw [List.flatMap_append, List.length_append]
      omega
    have hsl : ∀ i, (seg i).length ≤ text.length := fun i => by rw [hseg]; simp; omega
    refine EWn.ghost (Gho.adoptCell (H.length + 2) 1 2 (by simp only [RB, hget]; rfl) rfl (by simp)) ?_
    simp only [RB, limBytes, Nat.reduceBEq, Nat.reduceAdd, Nat.reduceEqDiff, Nat.reduceLT, Nat.reduceLeDiff, Nat.reduceMul, Nat.reduceSub, Int.reduceBEq, Int.reduceBNe, Int.reduceToNat, Int.reduceLT, Int.reduceLE, Int.reduceGT, Int.reduceGE, Int.reduceAdd, Int.reduceSub, Int.reduceNeg, Int.reduceEq, Int.toNat_zero, Int.toNat_one, reduceIte, reduceCtorEq, ne_eq, decide_true, decide_false]
    have hs0 : seg 0 = [] := by rw [hseg]; simp [unrle]
    refine EWn.loopE (ι := (Nat) × (Nat)) (fun (x_ : (Nat) × (Nat)) => match x_ with | (i, ver) => i ≤ l.length) (fun (x_ : (Nat) × (Nat)) => match x_ with | (i, ver) => l.length - i) (fun (x_ : (Nat) × (Nat)) => match x_ with | (i, ver) => [(9, .int .i64 ((unrle (l.take i)).length : Nat)), (39, .int .i64 i)]) (fun (x_ : (Nat) × (Nat)) => match x_ with | (i, ver) => H ++ [.var [.str text, .slice (runs.map runV)], .var [.str [], .fslice []], .var [.str ((text.take t).drop f), .vec (H.length + 3) ver 0 (rle (seg i)).length], .vec ver 2 ((rle (seg i)).map runV)]) (0, 1) ?_ ?_ ?_ ?_ ?_
    · first | rfl | (simp [upd, eset]; done) | (simp [upd, eset, hs0, unrle, rle]; done)
    · simp [hs0, unrle, rle]
    · rintro ⟨i, ver⟩ hok; exact ⟨by first | (simp; done) | (simp; omega), by (simp (maxDischargeDepth := 6) [LTB, HLt_set, ltL_take, ltL_drop, ltL_rep, ltL_set, upd, eset, hH, hHk, lt_vi, lt_str, lt_vb, ltc_str, ltc_vi, lt_run, lt1_run, ltc_run, lt_Str, lt1_Str, ltc_Str, lt_c, lt1_c, ltc_c] <;> omega), by (simp (maxDischargeDepth := 6) [LTB, HLt_set, ltL_take, ltL_drop, ltL_rep, ltL_set, upd, eset, hH, hHk, lt_vi, lt_str, lt_vb, ltc_str, ltc_vi, lt_run, lt1_run, ltc_run, lt_Str, lt1_Str, ltc_Str, lt_c, lt1_c, ltc_c] <;> omega)⟩
    · omega
    rintro ⟨i, ver⟩ hi
    refine EWn.of_c Tok mixed (own := false) keep103 tab103 (by kernel_rfl) ?_
    (repeat (first | simp -dsimp only [st_run, sz_run, st1_run, cl_run, st_Str, sz_Str, st1_Str, cl_Str, st_c, sz_c, st1_c, cl_c, RB, TB, keep103, tab103, ewOp, xop, xindexAddr, xindex, xslice, xconvert, xlen, drawStep, FreeW, StabW, isStab, SameW, ChangeW, limBytes, Nat.reduceBEq, Nat.reduceAdd, Nat.reduceEqDiff, Nat.reduceLT, Nat.reduceLeDiff, Nat.reduceMul, Nat.reduceSub, Int.reduceBEq, Int.reduceBNe, Int.reduceToNat, Int.reduceLT, Int.reduceLE, Int.reduceGT, Int.reduceGE, Int.reduceAdd, Int.reduceSub, Int.reduceNeg, Int.reduceEq, Int.toNat_zero, Int.toNat_one, reduceIte, reduceCtorEq, ne_eq, decide_true, decide_false] | ((with_reducible refine Need.intro ?_ ?_); (first | trivial | omega | (simp; done) | (simp; omega)))))
    refine IfW.intro (fun h2 => ?_) (fun h2 => ?_)
    · have hlt := lt_of h2
      have hp1 := hun l[i] (List.getElem_mem hlt)
      have hA1 := hlen (i + 1)
      have hS := hsl i
      have e1 : unrle (l.take (i + 1)) = unrle (l.take i) ++ List.replicate l[i].1.toNat l[i].2 := by
        rw [List.take_succ_eq_append_getElem hlt]
        unfold unrle
        rw [List.flatMap_append, List.flatMap_cons, List.flatMap_nil, List.append_nil]
      have e2 : O = unrle (l.take i) ++ List.replicate l[i].1.toNat l[i].2 ++ unrle (l.drop (i + 1)) := by
        have h3 : unrle l = unrle (l.take (i + 1)) ++ unrle (l.drop (i + 1)) := by
          conv => lhs; rw [← List.take_append_drop (i + 1) l]
          unfold unrle
          rw [List.flatMap_append]
        rw [huo, e1] at h3
        exact h3
      have hat1 : (unrle (l.take (i + 1))).length = (unrle (l.take i)).length + l[i].1.toNat := by rw [e1]; simp
      have hsucc : seg (i + 1) = seg i ++ List.replicate (min ((unrle (l.take i)).length + l[i].1.toNat) t - max (unrle (l.take i)).length f) l[i].2 := by
        simp only [hseg, hat1]
        rw [e2]
        exact seg_step
      have hrl := rle_len (seg i)
      have hrb : ∀ p ∈ rle (seg i), 0 ≤ p.1 ∧ p.1 ≤ 1000000000000 := fun p hp => by have := rle_bound hp; omega
      (repeat (first | simp -dsimp only [st_run, sz_run, st1_run, cl_run, st_Str, sz_Str, st1_Str, cl_Str, st_c, sz_c, st1_c, cl_c, h2, at_map runV l i hlt, runV, RB, TB, keep103, tab103, ewOp, xop, xindexAddr, xindex, xslice, xconvert, xlen, drawStep, FreeW, StabW, isStab, SameW, ChangeW, limBytes, Nat.reduceBEq, Nat.reduceAdd, Nat.reduceEqDiff, Nat.reduceLT, Nat.reduceLeDiff, Nat.reduceMul, Nat.reduceSub, Int.reduceBEq, Int.reduceBNe, Int.reduceToNat, Int.reduceLT, Int.reduceLE, Int.reduceGT, Int.reduceGE, Int.reduceAdd, Int.reduceSub, Int.reduceNeg, Int.reduceEq, Int.toNat_zero, Int.toNat_one, reduceIte, reduceCtorEq, ne_eq, decide_true, decide_false] | ((with_reducible refine Need.intro ?_ ?_); (first | trivial | omega | (simp; done) | (simp; omega)))))
      rw [wrapI (x := ((unrle (l.take i)).length : Int) + l[i].1) (by omega), wrapI (by omega)]
      (first | refine SCall.then (mput _ (rle (seg i)) (min (((unrle (l.take i)).length : Int) + l[i].1) t - max ((unrle (l.take i)).length : Int) f) l[i].2 (H.length + 3) ver (by simp only [RB, hget]) (by omega) hrb (by omega)) ?_ | refine SCall.thenA (mput _ (rle (seg i)) (min (((unrle (l.take i)).length : Int) + l[i].1) t - max ((unrle (l.take i)).length : Int) f) l[i].2 (H.length + 3) ver (by simp only [RB, hget]) (by omega) hrb (by omega)) (by repeat (first | exact trivial | exact .inl (.inl rfl) | exact .inl (.inr ⟨_, rfl, rfl⟩) | exact .inl rfl | exact .inr ⟨_, rfl, rfl⟩ | refine .inr ⟨_, _, rfl, rfl, ?_⟩ | refine ⟨?_, ?_⟩)) ?_ | refine CallE.intro _ (mput _ (rle (seg i)) (min (((unrle (l.take i)).length : Int) + l[i].1) t - max ((unrle (l.take i)).length : Int) f) l[i].2 (H.length + 3) ver (by simp only [RB, hget]) (by omega) hrb (by omega)) ?_ | refine CallE.introA (mput _ (rle (seg i)) (min (((unrle (l.take i)).length : Int) + l[i].1) t - max ((unrle (l.take i)).length : Int) f) l[i].2 (H.length + 3) ver (by simp only [RB, hget]) (by omega) hrb (by omega)) (by repeat (first | exact trivial | exact .inl (.inl rfl) | exact .inl (.inr ⟨_, rfl, rfl⟩) | exact .inl rfl | exact .inr ⟨_, rfl, rfl⟩ | refine .inr ⟨_, _, rfl, rfl, ?_⟩ | refine ⟨?_, ?_⟩)) ?_ | refine CallE.intro _ (fun _ => mput _ (rle (seg i)) (min (((unrle (l.take i)).length : Int) + l[i].1) t - max ((unrle (l.take i)).length : Int) f) l[i].2 (H.length + 3) ver (by simp only [RB, hget]) (by omega) hrb (by omega)) ?_ | refine CallE.intro _ (fun _ => SCall.arg (by repeat (first | exact trivial | exact .inl (.inl rfl) | exact .inl (.inr ⟨_, rfl, rfl⟩) | exact .inl rfl | exact .inr ⟨_, rfl, rfl⟩ | refine .inr ⟨_, _, rfl, rfl, ?_⟩ | refine ⟨?_, ?_⟩)) (mput _ (rle (seg i)) (min (((unrle (l.take i)).length : Int) + l[i].1) t - max ((unrle (l.take i)).length : Int) f) l[i].2 (H.length + 3) ver (by simp only [RB, hget]) (by omega) hrb (by omega))) ?_ | refine CallE2.intro _ _ (mput _ (rle (seg i)) (min (((unrle (l.take i)).length : Int) + l[i].1) t - max ((unrle (l.take i)).length : Int) f) l[i].2 (H.length + 3) ver (by simp only [RB, hget]) (by omega) hrb (by omega)) ?_ | refine CallE2.intro _ _ (SCall.arg (by repeat (first | exact trivial | exact .inl (.inl rfl) | exact .inl (.inr ⟨_, rfl, rfl⟩) | exact .inl rfl | exact .inr ⟨_, rfl, rfl⟩ | refine .inr ⟨_, _, rfl, rfl, ?_⟩ | refine ⟨?_, ?_⟩)) (mput _ (rle (seg i)) (min (((unrle (l.take i)).length : Int) + l[i].1) t - max ((unrle (l.take i)).length : Int) f) l[i].2 (H.length + 3) ver (by simp only [RB, hget]) (by omega) hrb (by omega))) ?_)
      (repeat (first | simp -dsimp only [st_run, sz_run, st1_run, cl_run, st_Str, sz_Str, st1_Str, cl_Str, st_c, sz_c, st1_c, cl_c, RB, TB, keep103, tab103, ewOp, xop, xindexAddr, xindex, xslice, xconvert, xlen, drawStep, FreeW, StabW, isStab, SameW, ChangeW, limBytes, Nat.reduceBEq, Nat.reduceAdd, Nat.reduceEqDiff, Nat.reduceLT, Nat.reduceLeDiff, Nat.reduceMul, Nat.reduceSub, Int.reduceBEq, Int.reduceBNe, Int.reduceToNat, Int.reduceLT, Int.reduceLE, Int.reduceGT, Int.reduceGE, Int.reduceAdd, Int.reduceSub, Int.reduceNeg, Int.reduceEq, Int.toNat_zero, Int.toNat_one, reduceIte, reduceCtorEq, ne_eq, decide_true, decide_false] | ((with_reducible refine Need.intro ?_ ?_); (first | trivial | omega | (simp; done) | (simp; omega)))))
      generalize grewR (rle (seg i)) (min (((unrle (l.take i)).length : Int) + l[i].1) t - max ((unrle (l.take i)).length : Int) f) l[i].2 = gr
      have hput : putR (rle (seg i)) (min (((unrle (l.take i)).length : Int) + l[i].1) t - max ((unrle (l.take i)).length : Int) f) l[i].2 = rle (seg (i + 1)) := by
        rw [putR_nat, hsucc, rle_append]
        congr 2
        omega
      rw [hput, wrapI (by omega), wrapI (by omega)]
      refine UpTo.here ⟨(i + 1, ver + gr), hlt, by simp only; omega, ?_, ⟨_, by simp; rfl⟩⟩
      simp [upd, eset, hat1]
      omega
    · (repeat (first | simp -dsimp only [st_run, sz_run, st1_run, cl_run, st_Str, sz_Str, st1_Str, cl_Str, st_c, sz_c, st1_c, cl_c, h2, RB, TB, keep103, tab103, ewOp, xop, xindexAddr, xindex, xslice, xconvert, xlen, drawStep, FreeW, StabW, isStab, SameW, ChangeW, limBytes, Nat.reduceBEq, Nat.reduceAdd, Nat.reduceEqDiff, Nat.reduceLT, Nat.reduceLeDiff, Nat.reduceMul, Nat.reduceSub, Int.reduceBEq, Int.reduceBNe, Int.reduceToNat, Int.reduceLT, Int.reduceLE, Int.reduceGT, Int.reduceGE, Int.reduceAdd, Int.reduceSub, Int.reduceNeg, Int.reduceEq, Int.toNat_zero, Int.toNat_one, reduceIte, reduceCtorEq, ne_eq, decide_true, decide_false] | ((with_reducible refine Need.intro ?_ ?_); (first | trivial | omega | (simp; done) | (simp; omega)))))
      have hi2 : i = l.length := Nat.le_antisymm hi (ge_of h2)
      subst hi2
      have hsf : seg l.length = (O.take t).drop f := by
        rw [hseg]
        simp only [List.take_length, huo]
        rw [Nat.min_eq_right (by omega)]
      rw [hsf]
      refine RetW.auto0 false _ (by first | rfl | exact (List.append_nil _).symm) ?_ ?_
      · (simp (maxDischargeDepth := 6) [LTB, HLt_set, ltL_take, ltL_drop, ltL_rep, ltL_set, upd, eset, hH, hHk, lt_vi, lt_str, lt_vb, ltc_str, ltc_vi, lt_run, lt1_run, ltc_run, lt_Str, lt1_Str, ltc_Str, lt_c, lt1_c, ltc_c] <;> omega)
      (try simp only [wk, wk1, wk0, RB, limBytes, Nat.reduceBEq, Nat.reduceAdd, Nat.reduceEqDiff, Nat.reduceLT, Nat.reduceLeDiff, Nat.reduceMul, Nat.reduceSub, Int.reduceBEq, Int.reduceBNe, Int.reduceToNat, Int.reduceLT, Int.reduceLE, Int.reduceGT, Int.reduceGE, Int.reduceAdd, Int.reduceSub, Int.reduceNeg, Int.reduceEq, Int.toNat_zero, Int.toNat_one, reduceIte, reduceCtorEq, ne_eq, decide_true, decide_false])
      (try (rw [List.take_of_length_le]; rotate_left 1; (· first | (simp; done) | (simp; omega) | omega)))
      simp
theorem fm_take {α β : Type} (g : α → List β) (l : List α) (i : Nat) : ((l.take i).flatMap g).length ≤ (l.flatMap g).length := by
  conv => rhs; rw [← List.take_append_drop i l]
  rw [List.flatMap_append, List.length_append]
  omega
theorem fm_orig : ∀ l : List Str, (l.flatMap orig).length = (l.flatMap Str.text).length
  | [] => rfl
  | s :: l => by simp only [List.flatMap_cons, List.length_append, orig_len, fm_orig l]
/-- one behind the other -/
def catS (l : List Str) : Str := ⟨l.flatMap Str.text, rle (l.flatMap orig)⟩
theorem mCat (H : List Ob) (l : List Str) (hl : ∀ s ∈ l, okS s) (hs : (l.flatMap Str.text).length ≤ 1000000000) (hll : l.length ≤ 1000000000) : SCall Try.prog 48 [.slice (l.map strV)] H (fun r H' => r = strV (catS l) ∧ H' = H) := by
  refine SCall.of_good fun hH => ?_
  have hHk := HLt.add hH
  refine SCall.of_code Tok Try.func48 rfl Try.call48 (n := 41) rfl (by simp) (rs := [.cell 2 59]) rfl ?_
  refine EWn.to ?_
  refine EWn.of_c Tok mixed (own := false) keep48 tab48 (by kernel_rfl) ?_
  (repeat (first | simp -dsimp only [st_run, sz_run, st1_run, cl_run, st_Str, sz_Str, st1_Str, cl_Str, st_c, sz_c, st1_c, cl_c, RB, TB, keep48, tab48, ewOp, xop, xindexAddr, xindex, xslice, xconvert, xlen, drawStep, FreeW, StabW, isStab, SameW, ChangeW, limBytes, Nat.reduceBEq, Nat.reduceAdd, Nat.reduceEqDiff, Nat.reduceLT, Nat.reduceLeDiff, Nat.reduceMul, Nat.reduceSub, Int.reduceBEq, Int.reduceBNe, Int.reduceToNat, Int.reduceLT, Int.reduceLE, Int.reduceGT, Int.reduceGE, Int.reduceAdd, Int.reduceSub, Int.reduceNeg, Int.reduceEq, Int.toNat_zero, Int.toNat_one, reduceIte, reduceCtorEq, ne_eq, decide_true, decide_false] | ((with_reducible refine Need.intro ?_ ?_); (first | trivial | omega | (simp; done) | (simp; omega)))))
  refine EWn.ghost (Gho.adoptCell (H.length + 1) 1 2 (by simp only [RB, hget]; rfl) rfl (by simp)) ?_
  simp only [RB, limBytes, Nat.reduceBEq, Nat.reduceAdd, Nat.reduceEqDiff, Nat.reduceLT, Nat.reduceLeDiff, Nat.reduceMul, Nat.reduceSub, Int.reduceBEq, Int.reduceBNe, Int.reduceToNat, Int.reduceLT, Int.reduceLE, Int.reduceGT, Int.reduceGE, Int.reduceAdd, Int.reduceSub, Int.reduceNeg, Int.reduceEq, Int.toNat_zero, Int.toNat_one, reduceIte, reduceCtorEq, ne_eq, decide_true, decide_false]
  refine EWn.ghost (Gho.adopt 4 1 rfl) ?_
  simp only [RB, limBytes, Nat.reduceBEq, Nat.reduceAdd, Nat.reduceEqDiff, Nat.reduceLT, Nat.reduceLeDiff, Nat.reduceMul, Nat.reduceSub, Int.reduceBEq, Int.reduceBNe, Int.reduceToNat, Int.reduceLT, Int.reduceLE, Int.reduceGT, Int.reduceGE, Int.reduceAdd, Int.reduceSub, Int.reduceNeg, Int.reduceEq, Int.toNat_zero, Int.toNat_one, reduceIte, reduceCtorEq, ne_eq, decide_true, decide_false]
  refine EWn.loopE (ι := (Nat) × (Nat) × (Nat)) (fun (x_ : (Nat) × (Nat) × (Nat)) => match x_ with | (i, v1, v2) => i ≤ l.length) (fun (x_ : (Nat) × (Nat) × (Nat)) => match x_ with | (i, v1, v2) => l.length - i) (fun (x_ : (Nat) × (Nat) × (Nat)) => match x_ with | (i, v1, v2) => [(4, .vec (H.length + 3) v2 0 ((l.take i).flatMap Str.text).length), (11, .int .i64 i)]) (fun (x_ : (Nat) × (Nat) × (Nat)) => match x_ with | (i, v1, v2) => H ++ [.var [.str [], .fslice []], .var [.str [], .vec (H.length + 2) v1 0 (rle ((l.take i).flatMap orig)).length], .vec v1 2 ((rle ((l.take i).flatMap orig)).map runV), .vec v2 1 (((l.take i).flatMap Str.text).map vb)]) (0, 1, 1) ?_ ?_ ?_ ?_ ?_
  · first | rfl | (simp [upd, eset]; done) | (simp [upd, eset, rle]; done)
  · simp [rle]
  · rintro ⟨i, v1, v2⟩ hok; exact ⟨by first | (simp; done) | (simp; omega), by (simp (maxDischargeDepth := 6) [LTB, HLt_set, ltL_take, ltL_drop, ltL_rep, ltL_set, upd, eset, hH, hHk, lt_vi, lt_str, lt_vb, ltc_str, ltc_vi, lt_run, lt1_run, ltc_run, lt_Str, lt1_Str, ltc_Str, lt_c, lt1_c, ltc_c] <;> omega), by (simp (maxDischargeDepth := 6) [LTB, HLt_set, ltL_take, ltL_drop, ltL_rep, ltL_set, upd, eset, hH, hHk, lt_vi, lt_str, lt_vb, ltc_str, ltc_vi, lt_run, lt1_run, ltc_run, lt_Str, lt1_Str, ltc_Str, lt_c, lt1_c, ltc_c] <;> omega)⟩
  · omega
  rintro ⟨i, v1, v2⟩ hi
  refine EWn.of_c Tok mixed (own := false) keep48 tab48 (by kernel_rfl) ?_
  (repeat (first | simp -dsimp only [st_run, sz_run, st1_run, cl_run, st_Str, sz_Str, st1_Str, cl_Str, st_c, sz_c, st1_c, cl_c, RB, TB, keep48, tab48, ewOp, xop, xindexAddr, xindex, xslice, xconvert, xlen, drawStep, FreeW, StabW, isStab, SameW, ChangeW, limBytes, Nat.reduceBEq, Nat.reduceAdd, Nat.reduceEqDiff, Nat.reduceLT, Nat.reduceLeDiff, Nat.reduceMul, Nat.reduceSub, Int.reduceBEq, Int.reduceBNe, Int.reduceToNat, Int.reduceLT, Int.reduceLE, Int.reduceGT, Int.reduceGE, Int.reduceAdd, Int.reduceSub, Int.reduceNeg, Int.reduceEq, Int.toNat_zero, Int.toNat_one, reduceIte, reduceCtorEq, ne_eq, decide_true, decide_false] | ((with_reducible refine Need.intro ?_ ?_); (first | trivial | omega | (simp; done) | (simp; omega)))))
  refine IfW.intro (fun h => ?_) (fun h => ?_)
  · have hlt := lt_of h
    have ht1 : (l.take (i + 1)).flatMap Str.text = (l.take i).flatMap Str.text ++ l[i].text := by
      rw [List.take_succ_eq_append_getElem hlt, List.flatMap_append, List.flatMap_cons, List.flatMap_nil, List.append_nil]
    have ho1 : (l.take (i + 1)).flatMap orig = (l.take i).flatMap orig ++ orig l[i] := by
      rw [List.take_succ_eq_append_getElem hlt, List.flatMap_append, List.flatMap_cons, List.flatMap_nil, List.append_nil]
    have hb1 := fm_take Str.text l (i + 1)
    have hoo := fm_orig (l.take i)
    rw [ht1, List.length_append] at hb1
    have hok := hl l[i] (List.getElem_mem hlt)
    generalize (l.take i).flatMap Str.text = tx at *
    generalize (l.take i).flatMap orig = og at *
    have hn1 : (tx.length + l[i].text.length) * 1 ≤ 140737488355328 := by omega
    (repeat (first | simp -dsimp only [st_run, sz_run, st1_run, cl_run, st_Str, sz_Str, st1_Str, cl_Str, st_c, sz_c, st1_c, cl_c, h, at_map strV l i hlt, strV, hn1, RB, TB, keep48, tab48, ewOp, xop, xindexAddr, xindex, xslice, xconvert, xlen, drawStep, FreeW, StabW, isStab, SameW, ChangeW, limBytes, Nat.reduceBEq, Nat.reduceAdd, Nat.reduceEqDiff, Nat.reduceLT, Nat.reduceLeDiff, Nat.reduceMul, Nat.reduceSub, Int.reduceBEq, Int.reduceBNe, Int.reduceToNat, Int.reduceLT, Int.reduceLE, Int.reduceGT, Int.reduceGE, Int.reduceAdd, Int.reduceSub, Int.reduceNeg, Int.reduceEq, Int.toNat_zero, Int.toNat_one, reduceIte, reduceCtorEq, ne_eq, decide_true, decide_false] | ((with_reducible refine Need.intro ?_ ?_); (first | trivial | omega | (simp; done) | (simp; omega)))))
    have hO := orig_len l[i]
    have hrf : (fixS l[i]).runs = rle (orig l[i]) := rfl
    have hun := (unrle_rle_pos (orig l[i])).2
    have huo := unrle_rle (orig l[i])
    have hrll := rle_len (orig l[i])
    (first | refine SCall.then (mFix _ l[i] hok) ?_ | refine SCall.thenA (mFix _ l[i] hok) (by repeat (first | exact trivial | exact .inl (.inl rfl) | exact .inl (.inr ⟨_, rfl, rfl⟩) | exact .inl rfl | exact .inr ⟨_, rfl, rfl⟩ | refine .inr ⟨_, _, rfl, rfl, ?_⟩ | refine ⟨?_, ?_⟩)) ?_ | refine CallE.intro _ (mFix _ l[i] hok) ?_ | refine CallE.introA (mFix _ l[i] hok) (by repeat (first | exact trivial | exact .inl (.inl rfl) | exact .inl (.inr ⟨_, rfl, rfl⟩) | exact .inl rfl | exact .inr ⟨_, rfl, rfl⟩ | refine .inr ⟨_, _, rfl, rfl, ?_⟩ | refine ⟨?_, ?_⟩)) ?_ | refine CallE.intro _ (fun _ => mFix _ l[i] hok) ?_ | refine CallE.intro _ (fun _ => SCall.arg (by repeat (first | exact trivial | exact .inl (.inl rfl) | exact .inl (.inr ⟨_, rfl, rfl⟩) | exact .inl rfl | exact .inr ⟨_, rfl, rfl⟩ | refine .inr ⟨_, _, rfl, rfl, ?_⟩ | refine ⟨?_, ?_⟩)) (mFix _ l[i] hok)) ?_ | refine CallE2.intro _ _ (mFix _ l[i] hok) ?_ | refine CallE2.intro _ _ (SCall.arg (by repeat (first | exact trivial | exact .inl (.inl rfl) | exact .inl (.inr ⟨_, rfl, rfl⟩) | exact .inl rfl | exact .inr ⟨_, rfl, rfl⟩ | refine .inr ⟨_, _, rfl, rfl, ?_⟩ | refine ⟨?_, ?_⟩)) (mFix _ l[i] hok)) ?_)
    (repeat (first | simp -dsimp only [st_run, sz_run, st1_run, cl_run, st_Str, sz_Str, st1_Str, cl_Str, st_c, sz_c, st1_c, cl_c, strV, RB, TB, keep48, tab48, ewOp, xop, xindexAddr, xindex, xslice, xconvert, xlen, drawStep, FreeW, StabW, isStab, SameW, ChangeW, limBytes, Nat.reduceBEq, Nat.reduceAdd, Nat.reduceEqDiff, Nat.reduceLT, Nat.reduceLeDiff, Nat.reduceMul, Nat.reduceSub, Int.reduceBEq, Int.reduceBNe, Int.reduceToNat, Int.reduceLT, Int.reduceLE, Int.reduceGT, Int.reduceGE, Int.reduceAdd, Int.reduceSub, Int.reduceNeg, Int.reduceEq, Int.toNat_zero, Int.toNat_one, reduceIte, reduceCtorEq, ne_eq, decide_true, decide_false] | ((with_reducible refine Need.intro ?_ ?_); (first | trivial | omega | (simp; done) | (simp; omega)))))
    rw [hrf]
    generalize orig l[i] = O at *
    generalize rle O = rs at *
    refine EWn.loopE (ι := (Nat) × (Nat)) (fun (x_ : (Nat) × (Nat)) => match x_ with | (k, w1) => k ≤ rs.length) (fun (x_ : (Nat) × (Nat)) => match x_ with | (k, w1) => rs.length - k) (fun (x_ : (Nat) × (Nat)) => match x_ with | (k, w1) => [(23, .int .i64 k)]) (fun (x_ : (Nat) × (Nat)) => match x_ with | (k, w1) => H ++ [.var [.str [], .fslice []], .var [.str [], .vec (H.length + 2) w1 0 (rle (og ++ unrle (rs.take k))).length], .vec w1 2 ((rle (og ++ unrle (rs.take k))).map runV), .vec (v2 + 1) 1 ((tx ++ l[i].text).map vb), .var [.str l[i].text, .slice (l[i].runs.map runV)]]) (0, v1) ?_ ?_ ?_ ?_ ?_
    · first | rfl | (simp [upd, eset]; done) | (simp [upd, eset, unrle]; done)
    · simp [unrle]
    · rintro ⟨k, w1⟩ hok; exact ⟨by first | (simp; done) | (simp; omega), by (simp (maxDischargeDepth := 6) [LTB, HLt_set, ltL_take, ltL_drop, ltL_rep, ltL_set, upd, eset, hH, hHk, lt_vi, lt_str, lt_vb, ltc_str, ltc_vi, lt_run, lt1_run, ltc_run, lt_Str, lt1_Str, ltc_Str, lt_c, lt1_c, ltc_c] <;> omega), by (simp (maxDischargeDepth := 6) [LTB, HLt_set, ltL_take, ltL_drop, ltL_rep, ltL_set, upd, eset, hH, hHk, lt_vi, lt_str, lt_vb, ltc_str, ltc_vi, lt_run, lt1_run, ltc_run, lt_Str, lt1_Str, ltc_Str, lt_c, lt1_c, ltc_c] <;> omega)⟩
    · omega
    rintro ⟨k, w1⟩ hk
    refine EWn.of_c Tok mixed (own := false) keep48 tab48 (by kernel_rfl) ?_
    (repeat (first | simp -dsimp only [st_run, sz_run, st1_run, cl_run, st_Str, sz_Str, st1_Str, cl_Str, st_c, sz_c, st1_c, cl_c, RB, TB, keep48, tab48, ewOp, xop, xindexAddr, xindex, xslice, xconvert, xlen, drawStep, FreeW, StabW, isStab, SameW, ChangeW, limBytes, Nat.reduceBEq, Nat.reduceAdd, Nat.reduceEqDiff, Nat.reduceLT, Nat.reduceLeDiff, Nat.reduceMul, Nat.reduceSub, Int.reduceBEq, Int.reduceBNe, Int.reduceToNat, Int.reduceLT, Int.reduceLE, Int.reduceGT, Int.reduceGE, Int.reduceAdd, Int.reduceSub, Int.reduceNeg, Int.reduceEq, Int.toNat_zero, Int.toNat_one, reduceIte, reduceCtorEq, ne_eq, decide_true, decide_false] | ((with_reducible refine Need.intro ?_ ?_); (first | trivial | omega | (simp; done) | (simp; omega)))))
    refine IfW.intro (fun h3 => ?_) (fun h3 => ?_)
    · have hkt := lt_of h3
      have e1 : unrle (rs.take (k + 1)) = unrle (rs.take k) ++ List.replicate rs[k].1.toNat rs[k].2 := by
        rw [List.take_succ_eq_append_getElem hkt]
        unfold unrle
        rw [List.flatMap_append, List.flatMap_cons, List.flatMap_nil, List.append_nil]
      have hp1 := hun rs[k] (List.getElem_mem hkt)
      have hm1 := mem_le_sum (List.getElem_mem hkt)
      have hle := fm_take (fun p : Int × Int => List.replicate p.1.toNat p.2) rs k
      have hle : (unrle (rs.take k)).length ≤ (unrle rs).length := hle
      rw [huo] at hm1 hle
      have hX : (og ++ unrle (rs.take k)).length ≤ 1000000000000 := by rw [List.length_append]; omega
      have hsucc : rle (og ++ unrle (rs.take (k + 1))) = putR (rle (og ++ unrle (rs.take k))) rs[k].1 rs[k].2 := by
        rw [putR_nat, e1, ← List.append_assoc, rle_append]
      generalize og ++ unrle (rs.take k) = X at *
      have hrl := rle_len X
      have hrb : ∀ p ∈ rle X, 0 ≤ p.1 ∧ p.1 ≤ 1000000000000 := fun p hp => by have := rle_bound hp; omega
      (repeat (first | simp -dsimp only [st_run, sz_run, st1_run, cl_run, st_Str, sz_Str, st1_Str, cl_Str, st_c, sz_c, st1_c, cl_c, h3, at_map runV rs k hkt, runV, RB, TB, keep48, tab48, ewOp, xop, xindexAddr, xindex, xslice, xconvert, xlen, drawStep, FreeW, StabW, isStab, SameW, ChangeW, limBytes, Nat.reduceBEq, Nat.reduceAdd, Nat.reduceEqDiff, Nat.reduceLT, Nat.reduceLeDiff, Nat.reduceMul, Nat.reduceSub, Int.reduceBEq, Int.reduceBNe, Int.reduceToNat, Int.reduceLT, Int.reduceLE, Int.reduceGT, Int.reduceGE, Int.reduceAdd, Int.reduceSub, Int.reduceNeg, Int.reduceEq, Int.toNat_zero, Int.toNat_one, reduceIte, reduceCtorEq, ne_eq, decide_true, decide_false] | ((with_reducible refine Need.intro ?_ ?_); (first | trivial | omega | (simp; done) | (simp; omega)))))
      (first | refine SCall.then (mput _ (rle X) rs[k].1 rs[k].2 (H.length + 2) w1 (by simp only [RB, hget]) (by omega) hrb (by omega)) ?_ | refine SCall.thenA (mput _ (rle X) rs[k].1 rs[k].2 (H.length + 2) w1 (by simp only [RB, hget]) (by omega) hrb (by omega)) (by repeat (first | exact trivial | exact .inl (.inl rfl) | exact .inl (.inr ⟨_, rfl, rfl⟩) | exact .inl rfl | exact .inr ⟨_, rfl, rfl⟩ | refine .inr ⟨_, _, rfl, rfl, ?_⟩ | refine ⟨?_, ?_⟩)) ?_ | refine CallE.intro _ (mput _ (rle X) rs[k].1 rs[k].2 (H.length + 2) w1 (by simp only [RB, hget]) (by omega) hrb (by omega)) ?_ | refine CallE.introA (mput _ (rle X) rs[k].1 rs[k].2 (H.length + 2) w1 (by simp only [RB, hget]) (by omega) hrb (by omega)) (by repeat (first | exact trivial | exact .inl (.inl rfl) | exact .inl (.inr ⟨_, rfl, rfl⟩) | exact .inl rfl | exact .inr ⟨_, rfl, rfl⟩ | refine .inr ⟨_, _, rfl, rfl, ?_⟩ | refine ⟨?_, ?_⟩)) ?_ | refine CallE.intro _ (fun _ => mput _ (rle X) rs[k].1 rs[k].2 (H.length + 2) w1 (by simp only [RB, hget]) (by omega) hrb (by omega)) ?_ | refine CallE.intro _ (fun _ => SCall.arg (by repeat (first | exact trivial | exact .inl (.inl rfl) | exact .inl (.inr ⟨_, rfl, rfl⟩) | exact .inl rfl | exact .inr ⟨_, rfl, rfl⟩ | refine .inr ⟨_, _, rfl, rfl, ?_⟩ | refine ⟨?_, ?_⟩)) (mput _ (rle X) rs[k].1 rs[k].2 (H.length + 2) w1 (by simp only [RB, hget]) (by omega) hrb (by omega))) ?_ | refine CallE2.intro _ _ (mput _ (rle X) rs[k].1 rs[k].2 (H.length + 2) w1 (by simp only [RB, hget]) (by omega) hrb (by omega)) ?_ | refine CallE2.intro _ _ (SCall.arg (by repeat (first | exact trivial | exact .inl (.inl rfl) | exact .inl (.inr ⟨_, rfl, rfl⟩) | exact .inl rfl | exact .inr ⟨_, rfl, rfl⟩ | refine .inr ⟨_, _, rfl, rfl, ?_⟩ | refine ⟨?_, ?_⟩)) (mput _ (rle X) rs[k].1 rs[k].2 (H.length + 2) w1 (by simp only [RB, hget]) (by omega) hrb (by omega))) ?_)
      (repeat (first | simp -dsimp only [st_run, sz_run, st1_run, cl_run, st_Str, sz_Str, st1_Str, cl_Str, st_c, sz_c, st1_c, cl_c, RB, TB, keep48, tab48, ewOp, xop, xindexAddr, xindex, xslice, xconvert, xlen, drawStep, FreeW, StabW, isStab, SameW, ChangeW, limBytes, Nat.reduceBEq, Nat.reduceAdd, Nat.reduceEqDiff, Nat.reduceLT, Nat.reduceLeDiff, Nat.reduceMul, Nat.reduceSub, Int.reduceBEq, Int.reduceBNe, Int.reduceToNat, Int.reduceLT, Int.reduceLE, Int.reduceGT, Int.reduceGE, Int.reduceAdd, Int.reduceSub, Int.reduceNeg, Int.reduceEq, Int.toNat_zero, Int.toNat_one, reduceIte, reduceCtorEq, ne_eq, decide_true, decide_false] | ((with_reducible refine Need.intro ?_ ?_); (first | trivial | omega | (simp; done) | (simp; omega)))))
      rw [← hsucc, wrapI (by omega)]
      generalize grewR (rle X) rs[k].1 rs[k].2 = gr
      refine UpTo.here ⟨(k + 1, w1 + gr), hkt, by simp only; omega, by simp [upd, eset], ⟨_, by simp; rfl⟩⟩
    · (repeat (first | simp -dsimp only [st_run, sz_run, st1_run, cl_run, st_Str, sz_Str, st1_Str, cl_Str, st_c, sz_c, st1_c, cl_c, h3, RB, TB, keep48, tab48, ewOp, xop, xindexAddr, xindex, xslice, xconvert, xlen, drawStep, FreeW, StabW, isStab, SameW, ChangeW, limBytes, Nat.reduceBEq, Nat.reduceAdd, Nat.reduceEqDiff, Nat.reduceLT, Nat.reduceLeDiff, Nat.reduceMul, Nat.reduceSub, Int.reduceBEq, Int.reduceBNe, Int.reduceToNat, Int.reduceLT, Int.reduceLE, Int.reduceGT, Int.reduceGE, Int.reduceAdd, Int.reduceSub, Int.reduceNeg, Int.reduceEq, Int.toNat_zero, Int.toNat_one, reduceIte, reduceCtorEq, ne_eq, decide_true, decide_false] | ((with_reducible refine Need.intro ?_ ?_); (first | trivial | omega | (simp; done) | (simp; omega)))))
      have hk2 : k = rs.length := Nat.le_antisymm hk (ge_of h3)
      subst hk2
      rw [List.take_length, huo, ← ho1, ← ht1]
      rw [wrapI (by omega)]
      refine UpTo.here ⟨(i + 1, w1, v2 + 1), hlt, by simp only; omega, by simp [upd, eset, ht1], ⟨_, by simp; rfl⟩⟩
  · have hi2 : i = l.length := Nat.le_antisymm hi (ge_of h)
    subst hi2
    rw [List.take_length]
    have hbl : (l.flatMap Str.text).length ≤ 9223372036854775807 := by omega
    (repeat (first | simp -dsimp only [st_run, sz_run, st1_run, cl_run, st_Str, sz_Str, st1_Str, cl_Str, st_c, sz_c, st1_c, cl_c, h, List.take_length, hbl, RB, TB, keep48, tab48, ewOp, xop, xindexAddr, xindex, xslice, xconvert, xlen, drawStep, FreeW, StabW, isStab, SameW, ChangeW, limBytes, Nat.reduceBEq, Nat.reduceAdd, Nat.reduceEqDiff, Nat.reduceLT, Nat.reduceLeDiff, Nat.reduceMul, Nat.reduceSub, Int.reduceBEq, Int.reduceBNe, Int.reduceToNat, Int.reduceLT, Int.reduceLE, Int.reduceGT, Int.reduceGE, Int.reduceAdd, Int.reduceSub, Int.reduceNeg, Int.reduceEq, Int.toNat_zero, Int.toNat_one, reduceIte, reduceCtorEq, ne_eq, decide_true, decide_false] | ((with_reducible refine Need.intro ?_ ?_); (first | trivial | omega | (simp; done) | (simp; omega)))))
    refine RetW.auto0 false _ (by first | rfl | exact (List.append_nil _).symm) ?_ ?_
    · (simp (maxDischargeDepth := 6) [LTB, HLt_set, ltL_take, ltL_drop, ltL_rep, ltL_set, upd, eset, hH, hHk, lt_vi, lt_str, lt_vb, ltc_str, ltc_vi, lt_run, lt1_run, ltc_run, lt_Str, lt1_Str, ltc_Str, lt_c, lt1_c, ltc_c] <;> omega)
    (try simp only [wk, wk1, wk0, RB, limBytes, Nat.reduceBEq, Nat.reduceAdd, Nat.reduceEqDiff, Nat.reduceLT, Nat.reduceLeDiff, Nat.reduceMul, Nat.reduceSub, Int.reduceBEq, Int.reduceBNe, Int.reduceToNat, Int.reduceLT, Int.reduceLE, Int.reduceGT, Int.reduceGE, Int.reduceAdd, Int.reduceSub, Int.reduceNeg, Int.reduceEq, Int.toNat_zero, Int.toNat_one, reduceIte, reduceCtorEq, ne_eq, decide_true, decide_false])
    (try (rw [List.take_of_length_le]; rotate_left 1; (· first | (simp; done) | (simp; omega) | omega)))
    simp [catS, strV]
end Go.Proofs.Ytjhjcldpcngldaa

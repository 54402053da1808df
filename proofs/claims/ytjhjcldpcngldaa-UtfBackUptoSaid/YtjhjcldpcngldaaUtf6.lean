/- The walks of the references: Valid, Rune; Str, Is. -/
import Derived.Test.YtjhjcldpcngldaaUtf5
set_option linter.unusedSimpArgs false
set_option linter.unusedVariables false
set_option maxRecDepth 100000
namespace Go.Proofs.Ytjhjcldpcngldaa
open Go Go.EL
theorem wlks_okmap : ∀ (k i j : Nat) (t : List UInt8), t.length ≤ k → (wlks i t).map Wlk.ok = (wlks j t).map Wlk.ok
  | _, i, j, [], _ => by rw [wlks, wlks]
  | 0, i, j, c :: t, h => by simp at h
  | k + 1, i, j, c :: t, h => by
    have hn := next_pos (t := c :: t) (by simp)
    rw [wlks, wlks, List.map_cons, List.map_cons, wlks_okmap k (i + (nextU (c :: t)).1) (j + (nextU (c :: t)).1) _ (by rw [List.length_drop]; simp only [List.length_cons] at *; omega)]
theorem validU_map (t : List UInt8) (i : Nat) : validU t = ((wlks i t).map Wlk.ok).all id := by
  rw [wlks_okmap _ i 0 t (Nat.le_refl _)]
  unfold validU
  rw [List.all_map]
  rfl
theorem validU_cons {t : List UInt8} (h : 0 < t.length) : validU t = (((nextU t).2 && t[0] != 0) && validU (t.drop (nextU t).1)) := by
  rw [validU_map t 0, wlks_cons 0 h, List.map_cons, List.all_cons, ← validU_map]
  rfl
theorem fsts_map (t : List UInt8) (o : Int) : fsts (t.map fun c => (c, o)) = t := by
  unfold fsts
  rw [List.map_map]
  have : (Prod.fst ∘ fun c : UInt8 => (c, o)) = id := rfl
  rw [this, List.map_id]
theorem rValid (H : List Ob) (t : List UInt8) (hs : t.length ≤ 1000000000) : SCall Try.prog 64 [.str t] H (fun r H' => r = .bool (validU t) ∧ H' = H) := by
  refine SCall.of_good fun hH => ?_
  have hHk := HLt.add hH
  refine SCall.of_code Tok Try.func64 rfl Try.call64 (n := 28) rfl (by simp) (rs := [.tmp 2]) rfl ?_
  refine EWn.to ?_
  refine EWn.of_c Tok mixed (own := false) keep64 tab64 (by kernel_rfl) ?_
  (repeat (first | simp -dsimp only [st_run, sz_run, st1_run, cl_run, st_Str, sz_Str, st1_Str, cl_Str, st_c, sz_c, st1_c, cl_c, st_wlk, sz_wlk, st1_wlk, cl_wlk, RB, TB, keep64, tab64, ewOp, xop, xindexAddr, xindex, xslice, xconvert, xlen, drawStep, FreeW, SameW, ChangeW, limBytes, Nat.reduceBEq, Nat.reduceAdd, Nat.reduceEqDiff, Nat.reduceLT, Nat.reduceLeDiff, Nat.reduceMul, Nat.reduceSub, Int.reduceBEq, Int.reduceBNe, Int.reduceToNat, Int.reduceLT, Int.reduceLE, Int.reduceGT, Int.reduceGE, Int.reduceAdd, Int.reduceSub, Int.reduceNeg, Int.reduceEq, Int.toNat_zero, Int.toNat_one, reduceIte, reduceCtorEq, ne_eq, decide_true, decide_false] | ((with_reducible refine Need.intro ?_ ?_); (first | trivial | omega | (simp; done) | (simp; omega)))))
  (first | refine SCall.then (rAll _ t 0 hs) ?_ | refine SCall.thenA (rAll _ t 0 hs) (by repeat (first | exact trivial | exact .inl (.inl rfl) | exact .inl (.inr ⟨_, rfl, rfl⟩) | exact .inl rfl | exact .inr ⟨_, rfl, rfl⟩ | refine .inr ⟨_, _, rfl, rfl, ?_⟩ | refine ⟨?_, ?_⟩)) ?_ | refine CallE.intro _ (rAll _ t 0 hs) ?_ | refine CallE.introA (rAll _ t 0 hs) (by repeat (first | exact trivial | exact .inl (.inl rfl) | exact .inl (.inr ⟨_, rfl, rfl⟩) | exact .inl rfl | exact .inr ⟨_, rfl, rfl⟩ | refine .inr ⟨_, _, rfl, rfl, ?_⟩ | refine ⟨?_, ?_⟩)) ?_ | refine CallE.intro _ (fun _ => rAll _ t 0 hs) ?_ | refine CallE.intro _ (fun _ => SCall.arg (by repeat (first | exact trivial | exact .inl (.inl rfl) | exact .inl (.inr ⟨_, rfl, rfl⟩) | exact .inl rfl | exact .inr ⟨_, rfl, rfl⟩ | refine .inr ⟨_, _, rfl, rfl, ?_⟩ | refine ⟨?_, ?_⟩)) (rAll _ t 0 hs)) ?_ | refine CallE2.intro _ _ (rAll _ t 0 hs) ?_ | refine CallE2.intro _ _ (SCall.arg (by repeat (first | exact trivial | exact .inl (.inl rfl) | exact .inl (.inr ⟨_, rfl, rfl⟩) | exact .inl rfl | exact .inr ⟨_, rfl, rfl⟩ | refine .inr ⟨_, _, rfl, rfl, ?_⟩ | refine ⟨?_, ?_⟩)) (rAll _ t 0 hs)) ?_)
  (repeat (first | simp -dsimp only [st_run, sz_run, st1_run, cl_run, st_Str, sz_Str, st1_Str, cl_Str, st_c, sz_c, st1_c, cl_c, st_wlk, sz_wlk, st1_wlk, cl_wlk, RB, TB, keep64, tab64, ewOp, xop, xindexAddr, xindex, xslice, xconvert, xlen, drawStep, FreeW, SameW, ChangeW, limBytes, Nat.reduceBEq, Nat.reduceAdd, Nat.reduceEqDiff, Nat.reduceLT, Nat.reduceLeDiff, Nat.reduceMul, Nat.reduceSub, Int.reduceBEq, Int.reduceBNe, Int.reduceToNat, Int.reduceLT, Int.reduceLE, Int.reduceGT, Int.reduceGE, Int.reduceAdd, Int.reduceSub, Int.reduceNeg, Int.reduceEq, Int.toNat_zero, Int.toNat_one, reduceIte, reduceCtorEq, ne_eq, decide_true, decide_false] | ((with_reducible refine Need.intro ?_ ?_); (first | trivial | omega | (simp; done) | (simp; omega)))))
  refine EWn.loopE (ι := (Nat)) (fun (i : (Nat)) => i ≤ t.length ∧ validU (t.drop i) = validU t) (fun (i : (Nat)) => t.length - i) (fun (i : (Nat)) => [(3, .slice (((t.drop i).map fun c => (c, near 0)).map cV))]) (fun (i : (Nat)) => H) (0) ?_ ?_ ?_ ?_ ?_
  · first | rfl | simp [upd, eset]
  · first | rfl | (simp; done) | exact (set_same (by assumption)).symm
  · rintro i hok; exact ⟨by first | (simp; done) | (simp; omega), by (simp (maxDischargeDepth := 6) [LTB, HLt_set, ltL_take, ltL_drop, ltL_rep, ltL_set, upd, eset, hH, hHk, lt_vi, lt_str, lt_vb, ltc_str, ltc_vi, lt_run, lt1_run, ltc_run, lt_Str, lt1_Str, ltc_Str, lt_c, lt1_c, ltc_c, lt_wlk, lt1_wlk, ltc_wlk] <;> omega), by (simp (maxDischargeDepth := 6) [LTB, HLt_set, ltL_take, ltL_drop, ltL_rep, ltL_set, upd, eset, hH, hHk, lt_vi, lt_str, lt_vb, ltc_str, ltc_vi, lt_run, lt1_run, ltc_run, lt_Str, lt1_Str, ltc_Str, lt_c, lt1_c, ltc_c, lt_wlk, lt1_wlk, ltc_wlk] <;> omega)⟩
  · simp
  rintro i ⟨hi, hv⟩
  refine EWn.of_c Tok mixed (own := false) keep64 tab64 (by kernel_rfl) ?_
  (repeat (first | simp -dsimp only [st_run, sz_run, st1_run, cl_run, st_Str, sz_Str, st1_Str, cl_Str, st_c, sz_c, st1_c, cl_c, st_wlk, sz_wlk, st1_wlk, cl_wlk, RB, TB, keep64, tab64, ewOp, xop, xindexAddr, xindex, xslice, xconvert, xlen, drawStep, FreeW, SameW, ChangeW, limBytes, Nat.reduceBEq, Nat.reduceAdd, Nat.reduceEqDiff, Nat.reduceLT, Nat.reduceLeDiff, Nat.reduceMul, Nat.reduceSub, Int.reduceBEq, Int.reduceBNe, Int.reduceToNat, Int.reduceLT, Int.reduceLE, Int.reduceGT, Int.reduceGE, Int.reduceAdd, Int.reduceSub, Int.reduceNeg, Int.reduceEq, Int.toNat_zero, Int.toNat_one, reduceIte, reduceCtorEq, ne_eq, decide_true, decide_false] | ((with_reducible refine Need.intro ?_ ?_); (first | trivial | omega | (simp; done) | (simp; omega)))))
  refine IfW.intro (fun h => ?_) (fun h => ?_)
  · have hlt : 0 < (t.drop i).length := by rw [List.length_drop]; have := of_decide_eq_true h; simp at this; omega
    have hvc := validU_cons hlt
    have hlm : 0 < ((t.drop i).map fun c => (c, near 0)).length := by rw [List.length_map]; exact hlt
    have hnp := next_posC (l := (t.drop i).map fun c => (c, near 0)) hlm
    rw [fsts_map, List.length_map, List.length_drop] at hnp
    have hfe := fsts_map (t.drop i) (near 0)
    have hat : (V.at (((t.drop i).map fun c => (c, near 0)).map cV) 0) = cV ((t.drop i)[0], near 0) := by rw [at_map cV _ 0 hlm]; simp
    (repeat (first | simp -dsimp only [st_run, sz_run, st1_run, cl_run, st_Str, sz_Str, st1_Str, cl_Str, st_c, sz_c, st1_c, cl_c, st_wlk, sz_wlk, st1_wlk, cl_wlk, h, RB, TB, keep64, tab64, ewOp, xop, xindexAddr, xindex, xslice, xconvert, xlen, drawStep, FreeW, SameW, ChangeW, limBytes, Nat.reduceBEq, Nat.reduceAdd, Nat.reduceEqDiff, Nat.reduceLT, Nat.reduceLeDiff, Nat.reduceMul, Nat.reduceSub, Int.reduceBEq, Int.reduceBNe, Int.reduceToNat, Int.reduceLT, Int.reduceLE, Int.reduceGT, Int.reduceGE, Int.reduceAdd, Int.reduceSub, Int.reduceNeg, Int.reduceEq, Int.toNat_zero, Int.toNat_one, reduceIte, reduceCtorEq, ne_eq, decide_true, decide_false] | ((with_reducible refine Need.intro ?_ ?_); (first | trivial | omega | (simp; done) | (simp; omega)))))
    (first | refine SCall.then (rNext _ ((t.drop i).map fun c => (c, near 0))) ?_ | refine SCall.thenA (rNext _ ((t.drop i).map fun c => (c, near 0))) (by repeat (first | exact trivial | exact .inl (.inl rfl) | exact .inl (.inr ⟨_, rfl, rfl⟩) | exact .inl rfl | exact .inr ⟨_, rfl, rfl⟩ | refine .inr ⟨_, _, rfl, rfl, ?_⟩ | refine ⟨?_, ?_⟩)) ?_ | refine CallE.intro _ (rNext _ ((t.drop i).map fun c => (c, near 0))) ?_ | refine CallE.introA (rNext _ ((t.drop i).map fun c => (c, near 0))) (by repeat (first | exact trivial | exact .inl (.inl rfl) | exact .inl (.inr ⟨_, rfl, rfl⟩) | exact .inl rfl | exact .inr ⟨_, rfl, rfl⟩ | refine .inr ⟨_, _, rfl, rfl, ?_⟩ | refine ⟨?_, ?_⟩)) ?_ | refine CallE.intro _ (fun _ => rNext _ ((t.drop i).map fun c => (c, near 0))) ?_ | refine CallE.intro _ (fun _ => SCall.arg (by repeat (first | exact trivial | exact .inl (.inl rfl) | exact .inl (.inr ⟨_, rfl, rfl⟩) | exact .inl rfl | exact .inr ⟨_, rfl, rfl⟩ | refine .inr ⟨_, _, rfl, rfl, ?_⟩ | refine ⟨?_, ?_⟩)) (rNext _ ((t.drop i).map fun c => (c, near 0)))) ?_ | refine CallE2.intro _ _ (rNext _ ((t.drop i).map fun c => (c, near 0))) ?_ | refine CallE2.intro _ _ (SCall.arg (by repeat (first | exact trivial | exact .inl (.inl rfl) | exact .inl (.inr ⟨_, rfl, rfl⟩) | exact .inl rfl | exact .inr ⟨_, rfl, rfl⟩ | refine .inr ⟨_, _, rfl, rfl, ?_⟩ | refine ⟨?_, ?_⟩)) (rNext _ ((t.drop i).map fun c => (c, near 0)))) ?_)
    (repeat (first | simp -dsimp only [st_run, sz_run, st1_run, cl_run, st_Str, sz_Str, st1_Str, cl_Str, st_c, sz_c, st1_c, cl_c, st_wlk, sz_wlk, st1_wlk, cl_wlk, hfe, RB, TB, keep64, tab64, ewOp, xop, xindexAddr, xindex, xslice, xconvert, xlen, drawStep, FreeW, SameW, ChangeW, limBytes, Nat.reduceBEq, Nat.reduceAdd, Nat.reduceEqDiff, Nat.reduceLT, Nat.reduceLeDiff, Nat.reduceMul, Nat.reduceSub, Int.reduceBEq, Int.reduceBNe, Int.reduceToNat, Int.reduceLT, Int.reduceLE, Int.reduceGT, Int.reduceGE, Int.reduceAdd, Int.reduceSub, Int.reduceNeg, Int.reduceEq, Int.toNat_zero, Int.toNat_one, reduceIte, reduceCtorEq, ne_eq, decide_true, decide_false] | ((with_reducible refine Need.intro ?_ ?_); (first | trivial | omega | (simp; done) | (simp; omega)))))
    generalize nextU (t.drop i) = nx at *
    obtain ⟨n, ok⟩ := nx
    simp only at hvc hnp ⊢
    cases ok with
    | false =>
      (repeat (first | simp -dsimp only [st_run, sz_run, st1_run, cl_run, st_Str, sz_Str, st1_Str, cl_Str, st_c, sz_c, st1_c, cl_c, st_wlk, sz_wlk, st1_wlk, cl_wlk, RB, TB, keep64, tab64, ewOp, xop, xindexAddr, xindex, xslice, xconvert, xlen, drawStep, FreeW, SameW, ChangeW, limBytes, Nat.reduceBEq, Nat.reduceAdd, Nat.reduceEqDiff, Nat.reduceLT, Nat.reduceLeDiff, Nat.reduceMul, Nat.reduceSub, Int.reduceBEq, Int.reduceBNe, Int.reduceToNat, Int.reduceLT, Int.reduceLE, Int.reduceGT, Int.reduceGE, Int.reduceAdd, Int.reduceSub, Int.reduceNeg, Int.reduceEq, Int.toNat_zero, Int.toNat_one, reduceIte, reduceCtorEq, ne_eq, decide_true, decide_false] | ((with_reducible refine Need.intro ?_ ?_); (first | trivial | omega | (simp; done) | (simp; omega)))))
      refine RetW.auto0 false _ (by first | rfl | exact (List.append_nil _).symm) ?_ ?_
      · (simp (maxDischargeDepth := 6) [LTB, HLt_set, ltL_take, ltL_drop, ltL_rep, ltL_set, upd, eset, hH, hHk, lt_vi, lt_str, lt_vb, ltc_str, ltc_vi, lt_run, lt1_run, ltc_run, lt_Str, lt1_Str, ltc_Str, lt_c, lt1_c, ltc_c, lt_wlk, lt1_wlk, ltc_wlk] <;> omega)
      (try simp only [wk, wk1, wk0, RB, limBytes, Nat.reduceBEq, Nat.reduceAdd, Nat.reduceEqDiff, Nat.reduceLT, Nat.reduceLeDiff, Nat.reduceMul, Nat.reduceSub, Int.reduceBEq, Int.reduceBNe, Int.reduceToNat, Int.reduceLT, Int.reduceLE, Int.reduceGT, Int.reduceGE, Int.reduceAdd, Int.reduceSub, Int.reduceNeg, Int.reduceEq, Int.toNat_zero, Int.toNat_one, reduceIte, reduceCtorEq, ne_eq, decide_true, decide_false])
      (try (rw [List.take_of_length_le]; rotate_left 1; (· first | (simp; done) | (simp; omega) | omega)))
      rw [← hv, hvc]
      rfl
    | true =>
      (repeat (first | simp -dsimp only [st_run, sz_run, st1_run, cl_run, st_Str, sz_Str, st1_Str, cl_Str, st_c, sz_c, st1_c, cl_c, st_wlk, sz_wlk, st1_wlk, cl_wlk, hat, cV, vb, RB, TB, keep64, tab64, ewOp, xop, xindexAddr, xindex, xslice, xconvert, xlen, drawStep, FreeW, SameW, ChangeW, limBytes, Nat.reduceBEq, Nat.reduceAdd, Nat.reduceEqDiff, Nat.reduceLT, Nat.reduceLeDiff, Nat.reduceMul, Nat.reduceSub, Int.reduceBEq, Int.reduceBNe, Int.reduceToNat, Int.reduceLT, Int.reduceLE, Int.reduceGT, Int.reduceGE, Int.reduceAdd, Int.reduceSub, Int.reduceNeg, Int.reduceEq, Int.toNat_zero, Int.toNat_one, reduceIte, reduceCtorEq, ne_eq, decide_true, decide_false] | ((with_reducible refine Need.intro ?_ ?_); (first | trivial | omega | (simp; done) | (simp; omega)))))
      refine IfW.intro (fun h0 => ?_) (fun h0 => ?_)
      · rw [u8_zero] at h0
        (repeat (first | simp -dsimp only [st_run, sz_run, st1_run, cl_run, st_Str, sz_Str, st1_Str, cl_Str, st_c, sz_c, st1_c, cl_c, st_wlk, sz_wlk, st1_wlk, cl_wlk, h0, RB, TB, keep64, tab64, ewOp, xop, xindexAddr, xindex, xslice, xconvert, xlen, drawStep, FreeW, SameW, ChangeW, limBytes, Nat.reduceBEq, Nat.reduceAdd, Nat.reduceEqDiff, Nat.reduceLT, Nat.reduceLeDiff, Nat.reduceMul, Nat.reduceSub, Int.reduceBEq, Int.reduceBNe, Int.reduceToNat, Int.reduceLT, Int.reduceLE, Int.reduceGT, Int.reduceGE, Int.reduceAdd, Int.reduceSub, Int.reduceNeg, Int.reduceEq, Int.toNat_zero, Int.toNat_one, reduceIte, reduceCtorEq, ne_eq, decide_true, decide_false] | ((with_reducible refine Need.intro ?_ ?_); (first | trivial | omega | (simp; done) | (simp; omega)))))
        refine RetW.auto0 false _ (by first | rfl | exact (List.append_nil _).symm) ?_ ?_
        · (simp (maxDischargeDepth := 6) [LTB, HLt_set, ltL_take, ltL_drop, ltL_rep, ltL_set, upd, eset, hH, hHk, lt_vi, lt_str, lt_vb, ltc_str, ltc_vi, lt_run, lt1_run, ltc_run, lt_Str, lt1_Str, ltc_Str, lt_c, lt1_c, ltc_c, lt_wlk, lt1_wlk, ltc_wlk] <;> omega)
        (try simp only [wk, wk1, wk0, RB, limBytes, Nat.reduceBEq, Nat.reduceAdd, Nat.reduceEqDiff, Nat.reduceLT, Nat.reduceLeDiff, Nat.reduceMul, Nat.reduceSub, Int.reduceBEq, Int.reduceBNe, Int.reduceToNat, Int.reduceLT, Int.reduceLE, Int.reduceGT, Int.reduceGE, Int.reduceAdd, Int.reduceSub, Int.reduceNeg, Int.reduceEq, Int.toNat_zero, Int.toNat_one, reduceIte, reduceCtorEq, ne_eq, decide_true, decide_false])
        (try (rw [List.take_of_length_le]; rotate_left 1; (· first | (simp; done) | (simp; omega) | omega)))
        rw [← hv, hvc, show ((t.drop i)[0] != 0) = false from by simp at h0; simp [h0]]
        rfl
      · rw [u8_zero] at h0
        (repeat (first | simp -dsimp only [st_run, sz_run, st1_run, cl_run, st_Str, sz_Str, st1_Str, cl_Str, st_c, sz_c, st1_c, cl_c, st_wlk, sz_wlk, st1_wlk, cl_wlk, h0, RB, TB, keep64, tab64, ewOp, xop, xindexAddr, xindex, xslice, xconvert, xlen, drawStep, FreeW, SameW, ChangeW, limBytes, Nat.reduceBEq, Nat.reduceAdd, Nat.reduceEqDiff, Nat.reduceLT, Nat.reduceLeDiff, Nat.reduceMul, Nat.reduceSub, Int.reduceBEq, Int.reduceBNe, Int.reduceToNat, Int.reduceLT, Int.reduceLE, Int.reduceGT, Int.reduceGE, Int.reduceAdd, Int.reduceSub, Int.reduceNeg, Int.reduceEq, Int.toNat_zero, Int.toNat_one, reduceIte, reduceCtorEq, ne_eq, decide_true, decide_false] | ((with_reducible refine Need.intro ?_ ?_); (first | trivial | omega | (simp; done) | (simp; omega)))))
        rw [show ((t.drop i)[0] != 0) = true from by simp at h0; simp [h0], Bool.true_and, Bool.true_and, List.drop_drop] at hvc
        refine UpTo.here ⟨i + n, ⟨by omega, by rw [← hvc]; exact hv⟩, by simp only; omega, ?_, ⟨_, by simp; rfl⟩⟩
        simp [upd, eset]
        rw [List.take_of_length_le (by simp), List.drop_drop]
  · (repeat (first | simp -dsimp only [st_run, sz_run, st1_run, cl_run, st_Str, sz_Str, st1_Str, cl_Str, st_c, sz_c, st1_c, cl_c, st_wlk, sz_wlk, st1_wlk, cl_wlk, h, RB, TB, keep64, tab64, ewOp, xop, xindexAddr, xindex, xslice, xconvert, xlen, drawStep, FreeW, SameW, ChangeW, limBytes, Nat.reduceBEq, Nat.reduceAdd, Nat.reduceEqDiff, Nat.reduceLT, Nat.reduceLeDiff, Nat.reduceMul, Nat.reduceSub, Int.reduceBEq, Int.reduceBNe, Int.reduceToNat, Int.reduceLT, Int.reduceLE, Int.reduceGT, Int.reduceGE, Int.reduceAdd, Int.reduceSub, Int.reduceNeg, Int.reduceEq, Int.toNat_zero, Int.toNat_one, reduceIte, reduceCtorEq, ne_eq, decide_true, decide_false] | ((with_reducible refine Need.intro ?_ ?_); (first | trivial | omega | (simp; done) | (simp; omega)))))
    have h1 := of_decide_eq_false h
    simp at h1
    have hi2 : i = t.length := by omega
    subst hi2
    refine RetW.auto0 false _ (by first | rfl | exact (List.append_nil _).symm) ?_ ?_
    · (simp (maxDischargeDepth := 6) [LTB, HLt_set, ltL_take, ltL_drop, ltL_rep, ltL_set, upd, eset, hH, hHk, lt_vi, lt_str, lt_vb, ltc_str, ltc_vi, lt_run, lt1_run, ltc_run, lt_Str, lt1_Str, ltc_Str, lt_c, lt1_c, ltc_c, lt_wlk, lt1_wlk, ltc_wlk] <;> omega)
    (try simp only [wk, wk1, wk0, RB, limBytes, Nat.reduceBEq, Nat.reduceAdd, Nat.reduceEqDiff, Nat.reduceLT, Nat.reduceLeDiff, Nat.reduceMul, Nat.reduceSub, Int.reduceBEq, Int.reduceBNe, Int.reduceToNat, Int.reduceLT, Int.reduceLE, Int.reduceGT, Int.reduceGE, Int.reduceAdd, Int.reduceSub, Int.reduceNeg, Int.reduceEq, Int.toNat_zero, Int.toNat_one, reduceIte, reduceCtorEq, ne_eq, decide_true, decide_false])
    (try (rw [List.take_of_length_le]; rotate_left 1; (· first | (simp; done) | (simp; omega) | omega)))
    rw [← hv, List.drop_length, show validU [] = true from by unfold validU; rw [wlks]; rfl]
theorem rem_nat (m k : Nat) : ((m : Int)).tmod (k : Int) = ((m % k : Nat) : Int) := by
  rw [Int.tmod_eq_emod_of_nonneg (by omega)]; rfl
theorem quo_nat (m k : Nat) : ((m : Int)).tdiv (k : Int) = ((m / k : Nat) : Int) := by
  rw [Int.tdiv_eq_ediv_of_nonneg (by omega)]; rfl
/-- the bytes behind, the first k of them from the end -/
def tailR (m : Nat) : Nat → List V
  | 0 => []
  | k + 1 => .int .u8 (moreN m (6 * k)) :: tailR m k
def tailW (m k : Nat) : V := if k ≤ 1 then .fslice (tailR m k) else .slice (tailR m k)
def firstR (k : Nat) : Int := if k ≤ 1 then 32 else if k = 2 then 16 else 8
def lowR (k : Nat) : Nat := if k = 0 then 128 else if k = 1 then 128 else if k = 2 then 2048 else 65536
theorem tailR_ok (m : Nat) : ∀ k, (tailR m k).length = k ∧ AllBytes (tailR m k) ∧ (∀ x ∈ tailR m k, x.storable) ∧ Sized 1 (tailR m k) ∧ ∀ n, ltL n (tailR m k)
  | 0 => ⟨rfl, by simp [tailR, AllBytes], by simp [tailR], by simp [tailR, Sized], fun _ => trivial⟩
  | k + 1 => by
    obtain ⟨h1, h2, h3, h4, h5⟩ := tailR_ok m k
    refine ⟨by simp [tailR, h1], ?_, ?_, ?_, fun n => ⟨trivial, h5 n⟩⟩
    · intro x hx
      rcases List.mem_cons.1 hx with rfl | hx
      · exact ⟨_, rfl⟩
      · exact h2 x hx
    · intro x hx
      rcases List.mem_cons.1 hx with rfl | hx
      · trivial
      · exact h3 x hx
    · intro x hx
      rcases List.mem_cons.1 hx with rfl | hx
      · rfl
      · exact h4 x hx
theorem lt_tailW (n m k : Nat) : V.lt n (tailW m k) := by
  unfold tailW
  split <;> exact (tailR_ok m k).2.2.2.2 n
set_option maxHeartbeats 2000000 in
theorem rRune (H : List Ob) (n : Int) : SCall Try.prog 66 [.int .i64 n] H (fun r H' => r = .str (runeN n) ∧ H' = H) := by
  refine SCall.of_good fun hH => ?_
  have hHk := HLt.add hH
  refine SCall.of_code Tok Try.func66 rfl Try.call66 (n := 57) rfl (by simp) (rs := [.tmp 2]) rfl ?_
  refine EWn.to ?_
  refine EWn.cutE Tok mixed (own := false) (κ := (Nat)) keep66 tab66 [(), ()] (fun (m : (Nat)) => 128 ≤ m ∧ m ≤ 1114111 ∧ runeN n = runeM m) (fun (m : (Nat)) => [(0, .int .i64 m)]) (fun (m : (Nat)) => H) (by simp only [headC]; rfl) (by simp only [tailC]; rfl) (by kernel_rfl) (by kernel_rfl) ?_ ?_ ?_
  · rintro m hok; exact ⟨by first | (simp; done) | (simp; omega), by (simp (maxDischargeDepth := 6) [LTB, HLt_set, ltL_take, ltL_drop, ltL_rep, ltL_set, upd, eset, hH, hHk, lt_vi, lt_str, lt_vb, ltc_str, ltc_vi, lt_run, lt1_run, ltc_run, lt_Str, lt1_Str, ltc_Str, lt_c, lt1_c, ltc_c, lt_wlk, lt1_wlk, ltc_wlk, lt_tailW] <;> omega), by (simp (maxDischargeDepth := 6) [LTB, HLt_set, ltL_take, ltL_drop, ltL_rep, ltL_set, upd, eset, hH, hHk, lt_vi, lt_str, lt_vb, ltc_str, ltc_vi, lt_run, lt1_run, ltc_run, lt_Str, lt1_Str, ltc_Str, lt_c, lt1_c, ltc_c, lt_wlk, lt1_wlk, ltc_wlk, lt_tailW] <;> omega)⟩
  · (repeat (first | simp -dsimp only [st_run, sz_run, st1_run, cl_run, st_Str, sz_Str, st1_Str, cl_Str, st_c, sz_c, st1_c, cl_c, st_wlk, sz_wlk, st1_wlk, cl_wlk, RB, TB, keep66, tab66, ewOp, xop, xindexAddr, xindex, xslice, xconvert, xlen, drawStep, FreeW, SameW, ChangeW, limBytes, Nat.reduceBEq, Nat.reduceAdd, Nat.reduceEqDiff, Nat.reduceLT, Nat.reduceLeDiff, Nat.reduceMul, Nat.reduceSub, Int.reduceBEq, Int.reduceBNe, Int.reduceToNat, Int.reduceLT, Int.reduceLE, Int.reduceGT, Int.reduceGE, Int.reduceAdd, Int.reduceSub, Int.reduceNeg, Int.reduceEq, Int.toNat_zero, Int.toNat_one, reduceIte, reduceCtorEq, ne_eq, decide_true, decide_false] | ((with_reducible refine Need.intro ?_ ?_); (first | trivial | omega | (simp; done) | (simp; omega)))))
    refine IfW.intro (fun h1 => ?_) (fun h1 => ?_)
    · (repeat (first | simp -dsimp only [st_run, sz_run, st1_run, cl_run, st_Str, sz_Str, st1_Str, cl_Str, st_c, sz_c, st1_c, cl_c, st_wlk, sz_wlk, st1_wlk, cl_wlk, h1, RB, TB, keep66, tab66, ewOp, xop, xindexAddr, xindex, xslice, xconvert, xlen, drawStep, FreeW, SameW, ChangeW, limBytes, Nat.reduceBEq, Nat.reduceAdd, Nat.reduceEqDiff, Nat.reduceLT, Nat.reduceLeDiff, Nat.reduceMul, Nat.reduceSub, Int.reduceBEq, Int.reduceBNe, Int.reduceToNat, Int.reduceLT, Int.reduceLE, Int.reduceGT, Int.reduceGE, Int.reduceAdd, Int.reduceSub, Int.reduceNeg, Int.reduceEq, Int.toNat_zero, Int.toNat_one, reduceIte, reduceCtorEq, ne_eq, decide_true, decide_false] | ((with_reducible refine Need.intro ?_ ?_); (first | trivial | omega | (simp; done) | (simp; omega)))))
      refine RetW.auto0 false _ (by first | rfl | exact (List.append_nil _).symm) ?_ ?_
      · (simp (maxDischargeDepth := 6) [LTB, HLt_set, ltL_take, ltL_drop, ltL_rep, ltL_set, upd, eset, hH, hHk, lt_vi, lt_str, lt_vb, ltc_str, ltc_vi, lt_run, lt1_run, ltc_run, lt_Str, lt1_Str, ltc_Str, lt_c, lt1_c, ltc_c, lt_wlk, lt1_wlk, ltc_wlk, lt_tailW] <;> omega)
      (try simp only [wk, wk1, wk0, RB, limBytes, Nat.reduceBEq, Nat.reduceAdd, Nat.reduceEqDiff, Nat.reduceLT, Nat.reduceLeDiff, Nat.reduceMul, Nat.reduceSub, Int.reduceBEq, Int.reduceBNe, Int.reduceToNat, Int.reduceLT, Int.reduceLE, Int.reduceGT, Int.reduceGE, Int.reduceAdd, Int.reduceSub, Int.reduceNeg, Int.reduceEq, Int.toNat_zero, Int.toNat_one, reduceIte, reduceCtorEq, ne_eq, decide_true, decide_false])
      (try (rw [List.take_of_length_le]; rotate_left 1; (· first | (simp; done) | (simp; omega) | omega)))
      rw [runeN, if_pos (.inl (of_decide_eq_true h1))]
    have k1 := of_decide_eq_false h1
    (repeat (first | simp -dsimp only [st_run, sz_run, st1_run, cl_run, st_Str, sz_Str, st1_Str, cl_Str, st_c, sz_c, st1_c, cl_c, st_wlk, sz_wlk, st1_wlk, cl_wlk, h1, RB, TB, keep66, tab66, ewOp, xop, xindexAddr, xindex, xslice, xconvert, xlen, drawStep, FreeW, SameW, ChangeW, limBytes, Nat.reduceBEq, Nat.reduceAdd, Nat.reduceEqDiff, Nat.reduceLT, Nat.reduceLeDiff, Nat.reduceMul, Nat.reduceSub, Int.reduceBEq, Int.reduceBNe, Int.reduceToNat, Int.reduceLT, Int.reduceLE, Int.reduceGT, Int.reduceGE, Int.reduceAdd, Int.reduceSub, Int.reduceNeg, Int.reduceEq, Int.toNat_zero, Int.toNat_one, reduceIte, reduceCtorEq, ne_eq, decide_true, decide_false] | ((with_reducible refine Need.intro ?_ ?_); (first | trivial | omega | (simp; done) | (simp; omega)))))
    refine IfW.intro (fun h2 => ?_) (fun h2 => ?_)
    · (repeat (first | simp -dsimp only [st_run, sz_run, st1_run, cl_run, st_Str, sz_Str, st1_Str, cl_Str, st_c, sz_c, st1_c, cl_c, st_wlk, sz_wlk, st1_wlk, cl_wlk, h2, RB, TB, keep66, tab66, ewOp, xop, xindexAddr, xindex, xslice, xconvert, xlen, drawStep, FreeW, SameW, ChangeW, limBytes, Nat.reduceBEq, Nat.reduceAdd, Nat.reduceEqDiff, Nat.reduceLT, Nat.reduceLeDiff, Nat.reduceMul, Nat.reduceSub, Int.reduceBEq, Int.reduceBNe, Int.reduceToNat, Int.reduceLT, Int.reduceLE, Int.reduceGT, Int.reduceGE, Int.reduceAdd, Int.reduceSub, Int.reduceNeg, Int.reduceEq, Int.toNat_zero, Int.toNat_one, reduceIte, reduceCtorEq, ne_eq, decide_true, decide_false] | ((with_reducible refine Need.intro ?_ ?_); (first | trivial | omega | (simp; done) | (simp; omega)))))
      refine RetW.auto0 false _ (by first | rfl | exact (List.append_nil _).symm) ?_ ?_
      · (simp (maxDischargeDepth := 6) [LTB, HLt_set, ltL_take, ltL_drop, ltL_rep, ltL_set, upd, eset, hH, hHk, lt_vi, lt_str, lt_vb, ltc_str, ltc_vi, lt_run, lt1_run, ltc_run, lt_Str, lt1_Str, ltc_Str, lt_c, lt1_c, ltc_c, lt_wlk, lt1_wlk, ltc_wlk, lt_tailW] <;> omega)
      (try simp only [wk, wk1, wk0, RB, limBytes, Nat.reduceBEq, Nat.reduceAdd, Nat.reduceEqDiff, Nat.reduceLT, Nat.reduceLeDiff, Nat.reduceMul, Nat.reduceSub, Int.reduceBEq, Int.reduceBNe, Int.reduceToNat, Int.reduceLT, Int.reduceLE, Int.reduceGT, Int.reduceGE, Int.reduceAdd, Int.reduceSub, Int.reduceNeg, Int.reduceEq, Int.toNat_zero, Int.toNat_one, reduceIte, reduceCtorEq, ne_eq, decide_true, decide_false])
      (try (rw [List.take_of_length_le]; rotate_left 1; (· first | (simp; done) | (simp; omega) | omega)))
      rw [runeN, if_pos (.inr (.inl (of_decide_eq_true h2)))]
    have k2 := of_decide_eq_false h2
    (repeat (first | simp -dsimp only [st_run, sz_run, st1_run, cl_run, st_Str, sz_Str, st1_Str, cl_Str, st_c, sz_c, st1_c, cl_c, st_wlk, sz_wlk, st1_wlk, cl_wlk, h2, RB, TB, keep66, tab66, ewOp, xop, xindexAddr, xindex, xslice, xconvert, xlen, drawStep, FreeW, SameW, ChangeW, limBytes, Nat.reduceBEq, Nat.reduceAdd, Nat.reduceEqDiff, Nat.reduceLT, Nat.reduceLeDiff, Nat.reduceMul, Nat.reduceSub, Int.reduceBEq, Int.reduceBNe, Int.reduceToNat, Int.reduceLT, Int.reduceLE, Int.reduceGT, Int.reduceGE, Int.reduceAdd, Int.reduceSub, Int.reduceNeg, Int.reduceEq, Int.toNat_zero, Int.toNat_one, reduceIte, reduceCtorEq, ne_eq, decide_true, decide_false] | ((with_reducible refine Need.intro ?_ ?_); (first | trivial | omega | (simp; done) | (simp; omega)))))
    by_cases hs : 55296 ≤ n ∧ n ≤ 57343
    · (repeat (first | simp -dsimp only [st_run, sz_run, st1_run, cl_run, st_Str, sz_Str, st1_Str, cl_Str, st_c, sz_c, st1_c, cl_c, st_wlk, sz_wlk, st1_wlk, cl_wlk, show decide (n ≥ 55296) = true from decide_eq_true hs.1, show decide (n < 57344) = true from decide_eq_true (by omega), RB, TB, keep66, tab66, ewOp, xop, xindexAddr, xindex, xslice, xconvert, xlen, drawStep, FreeW, SameW, ChangeW, limBytes, Nat.reduceBEq, Nat.reduceAdd, Nat.reduceEqDiff, Nat.reduceLT, Nat.reduceLeDiff, Nat.reduceMul, Nat.reduceSub, Int.reduceBEq, Int.reduceBNe, Int.reduceToNat, Int.reduceLT, Int.reduceLE, Int.reduceGT, Int.reduceGE, Int.reduceAdd, Int.reduceSub, Int.reduceNeg, Int.reduceEq, Int.toNat_zero, Int.toNat_one, reduceIte, reduceCtorEq, ne_eq, decide_true, decide_false] | ((with_reducible refine Need.intro ?_ ?_); (first | trivial | omega | (simp; done) | (simp; omega)))))
      refine RetW.auto0 false _ (by first | rfl | exact (List.append_nil _).symm) ?_ ?_
      · (simp (maxDischargeDepth := 6) [LTB, HLt_set, ltL_take, ltL_drop, ltL_rep, ltL_set, upd, eset, hH, hHk, lt_vi, lt_str, lt_vb, ltc_str, ltc_vi, lt_run, lt1_run, ltc_run, lt_Str, lt1_Str, ltc_Str, lt_c, lt1_c, ltc_c, lt_wlk, lt1_wlk, ltc_wlk, lt_tailW] <;> omega)
      (try simp only [wk, wk1, wk0, RB, limBytes, Nat.reduceBEq, Nat.reduceAdd, Nat.reduceEqDiff, Nat.reduceLT, Nat.reduceLeDiff, Nat.reduceMul, Nat.reduceSub, Int.reduceBEq, Int.reduceBNe, Int.reduceToNat, Int.reduceLT, Int.reduceLE, Int.reduceGT, Int.reduceGE, Int.reduceAdd, Int.reduceSub, Int.reduceNeg, Int.reduceEq, Int.toNat_zero, Int.toNat_one, reduceIte, reduceCtorEq, ne_eq, decide_true, decide_false])
      (try (rw [List.take_of_length_le]; rotate_left 1; (· first | (simp; done) | (simp; omega) | omega)))
      rw [runeN, if_pos (.inr (.inr hs))]
    have hrn : runeN n = runeM n.toNat := by rw [runeN, if_neg (by unfold badR; omega)]
    obtain ⟨m, rfl⟩ : ∃ m : Nat, n = m := ⟨n.toNat, by omega⟩
    rw [Int.toNat_natCast] at hrn
    by_cases h4 : m < 128
    · by_cases h3 : (m : Int) ≥ 55296
      · omega
      (repeat (first | simp -dsimp only [st_run, sz_run, st1_run, cl_run, st_Str, sz_Str, st1_Str, cl_Str, st_c, sz_c, st1_c, cl_c, st_wlk, sz_wlk, st1_wlk, cl_wlk, show decide ((m : Int) ≥ 55296) = false from decide_eq_false h3, show decide ((m : Int) < 128) = true from decide_eq_true (by omega), allb_cons, allb_nil, toByte_int, List.map_cons, List.map_nil, RB, TB, keep66, tab66, ewOp, xop, xindexAddr, xindex, xslice, xconvert, xlen, drawStep, FreeW, SameW, ChangeW, limBytes, Nat.reduceBEq, Nat.reduceAdd, Nat.reduceEqDiff, Nat.reduceLT, Nat.reduceLeDiff, Nat.reduceMul, Nat.reduceSub, Int.reduceBEq, Int.reduceBNe, Int.reduceToNat, Int.reduceLT, Int.reduceLE, Int.reduceGT, Int.reduceGE, Int.reduceAdd, Int.reduceSub, Int.reduceNeg, Int.reduceEq, Int.toNat_zero, Int.toNat_one, reduceIte, reduceCtorEq, ne_eq, decide_true, decide_false] | ((with_reducible refine Need.intro ?_ ?_); (first | trivial | omega | (simp; done) | (simp; omega)))))
      refine RetW.auto0 false _ (by first | rfl | exact (List.append_nil _).symm) ?_ ?_
      · (simp (maxDischargeDepth := 6) [LTB, HLt_set, ltL_take, ltL_drop, ltL_rep, ltL_set, upd, eset, hH, hHk, lt_vi, lt_str, lt_vb, ltc_str, ltc_vi, lt_run, lt1_run, ltc_run, lt_Str, lt1_Str, ltc_Str, lt_c, lt1_c, ltc_c, lt_wlk, lt1_wlk, ltc_wlk, lt_tailW] <;> omega)
      (try simp only [wk, wk1, wk0, RB, limBytes, Nat.reduceBEq, Nat.reduceAdd, Nat.reduceEqDiff, Nat.reduceLT, Nat.reduceLeDiff, Nat.reduceMul, Nat.reduceSub, Int.reduceBEq, Int.reduceBNe, Int.reduceToNat, Int.reduceLT, Int.reduceLE, Int.reduceGT, Int.reduceGE, Int.reduceAdd, Int.reduceSub, Int.reduceNeg, Int.reduceEq, Int.toNat_zero, Int.toNat_one, reduceIte, reduceCtorEq, ne_eq, decide_true, decide_false])
      (try (rw [List.take_of_length_le]; rotate_left 1; (· first | (simp; done) | (simp; omega) | omega)))
      rw [hrn, wrap8 (by omega), runeM, if_pos (by omega)]
      rfl
    by_cases h3 : (m : Int) ≥ 55296
    · (repeat (first | simp -dsimp only [st_run, sz_run, st1_run, cl_run, st_Str, sz_Str, st1_Str, cl_Str, st_c, sz_c, st1_c, cl_c, st_wlk, sz_wlk, st1_wlk, cl_wlk, decide_eq_true h3, show decide ((m : Int) < 57344) = false from decide_eq_false (by omega), show decide ((m : Int) < 128) = false from decide_eq_false (by omega), RB, TB, keep66, tab66, ewOp, xop, xindexAddr, xindex, xslice, xconvert, xlen, drawStep, FreeW, SameW, ChangeW, limBytes, Nat.reduceBEq, Nat.reduceAdd, Nat.reduceEqDiff, Nat.reduceLT, Nat.reduceLeDiff, Nat.reduceMul, Nat.reduceSub, Int.reduceBEq, Int.reduceBNe, Int.reduceToNat, Int.reduceLT, Int.reduceLE, Int.reduceGT, Int.reduceGE, Int.reduceAdd, Int.reduceSub, Int.reduceNeg, Int.reduceEq, Int.toNat_zero, Int.toNat_one, reduceIte, reduceCtorEq, ne_eq, decide_true, decide_false] | ((with_reducible refine Need.intro ?_ ?_); (first | trivial | omega | (simp; done) | (simp; omega)))))
      exact UpTo.step (Gho.restr [0]) (UpTo.here ⟨m, ⟨by omega, by omega, hrn⟩, by simp [restr, eget], [], by simp⟩)
    · (repeat (first | simp -dsimp only [st_run, sz_run, st1_run, cl_run, st_Str, sz_Str, st1_Str, cl_Str, st_c, sz_c, st1_c, cl_c, st_wlk, sz_wlk, st1_wlk, cl_wlk, show decide ((m : Int) ≥ 55296) = false from decide_eq_false h3, show decide ((m : Int) < 128) = false from decide_eq_false (by omega), RB, TB, keep66, tab66, ewOp, xop, xindexAddr, xindex, xslice, xconvert, xlen, drawStep, FreeW, SameW, ChangeW, limBytes, Nat.reduceBEq, Nat.reduceAdd, Nat.reduceEqDiff, Nat.reduceLT, Nat.reduceLeDiff, Nat.reduceMul, Nat.reduceSub, Int.reduceBEq, Int.reduceBNe, Int.reduceToNat, Int.reduceLT, Int.reduceLE, Int.reduceGT, Int.reduceGE, Int.reduceAdd, Int.reduceSub, Int.reduceNeg, Int.reduceEq, Int.toNat_zero, Int.toNat_one, reduceIte, reduceCtorEq, ne_eq, decide_true, decide_false] | ((with_reducible refine Need.intro ?_ ?_); (first | trivial | omega | (simp; done) | (simp; omega)))))
      exact UpTo.step (Gho.restr [0]) (UpTo.here ⟨m, ⟨by omega, by omega, hrn⟩, by simp [restr, eget], [], by simp⟩)
  rintro m ⟨hm1, hm2, hm⟩
  rw [hm]
  refine EWn.of_c Tok mixed (own := false) keep66 tab66 (by kernel_rfl) ?_
  (repeat (first | simp -dsimp only [st_run, sz_run, st1_run, cl_run, st_Str, sz_Str, st1_Str, cl_Str, st_c, sz_c, st1_c, cl_c, st_wlk, sz_wlk, st1_wlk, cl_wlk, RB, TB, keep66, tab66, ewOp, xop, xindexAddr, xindex, xslice, xconvert, xlen, drawStep, FreeW, SameW, ChangeW, limBytes, Nat.reduceBEq, Nat.reduceAdd, Nat.reduceEqDiff, Nat.reduceLT, Nat.reduceLeDiff, Nat.reduceMul, Nat.reduceSub, Int.reduceBEq, Int.reduceBNe, Int.reduceToNat, Int.reduceLT, Int.reduceLE, Int.reduceGT, Int.reduceGE, Int.reduceAdd, Int.reduceSub, Int.reduceNeg, Int.reduceEq, Int.toNat_zero, Int.toNat_one, reduceIte, reduceCtorEq, ne_eq, decide_true, decide_false] | ((with_reducible refine Need.intro ?_ ?_); (first | trivial | omega | (simp; done) | (simp; omega)))))
  refine EWn.loopE (ι := (Nat)) (fun (k : (Nat)) => k ≤ 3 ∧ lowR k ≤ m) (fun (k : (Nat)) => 3 - k) (fun (k : (Nat)) => [(0, .int .i64 ((m / 64 ^ k : Nat) : Int)), (3, tailW m k), (4, .int .i64 (firstR k))]) (fun (k : (Nat)) => H) (0) ?_ ?_ ?_ ?_ ?_
  · first | rfl | (simp [upd, eset]; done) | (simp [upd, eset, tailW, firstR, tailR]; done)
  · simp [tailW, firstR, tailR]
  · rintro k hok; exact ⟨by first | (simp; done) | (simp; omega), by (simp (maxDischargeDepth := 6) [LTB, HLt_set, ltL_take, ltL_drop, ltL_rep, ltL_set, upd, eset, hH, hHk, lt_vi, lt_str, lt_vb, ltc_str, ltc_vi, lt_run, lt1_run, ltc_run, lt_Str, lt1_Str, ltc_Str, lt_c, lt1_c, ltc_c, lt_wlk, lt1_wlk, ltc_wlk, lt_tailW] <;> omega), by (simp (maxDischargeDepth := 6) [LTB, HLt_set, ltL_take, ltL_drop, ltL_rep, ltL_set, upd, eset, hH, hHk, lt_vi, lt_str, lt_vb, ltc_str, ltc_vi, lt_run, lt1_run, ltc_run, lt_Str, lt1_Str, ltc_Str, lt_c, lt1_c, ltc_c, lt_wlk, lt1_wlk, ltc_wlk, lt_tailW] <;> omega)⟩
  · exact ⟨by omega, hm1⟩
  rintro k ⟨hk, hlo⟩
  have e0 : (m : Int).tmod 64 = ((m % 64 : Nat) : Int) := rem_nat m 64
  have e1 : ((m / 64 : Nat) : Int).tmod 64 = ((m / 64 % 64 : Nat) : Int) := rem_nat (m / 64) 64
  have e2 : ((m / 4096 : Nat) : Int).tmod 64 = ((m / 4096 % 64 : Nat) : Int) := rem_nat (m / 4096) 64
  have q0 : (m : Int).tdiv 64 = ((m / 64 : Nat) : Int) := quo_nat m 64
  have q1 : ((m / 64 : Nat) : Int).tdiv 64 = ((m / 4096 : Nat) : Int) := by rw [show (64 : Int) = ((64 : Nat) : Int) from rfl, quo_nat, Nat.div_div_eq_div_mul]
  have q2 : ((m / 4096 : Nat) : Int).tdiv 64 = ((m / 262144 : Nat) : Int) := by rw [show (64 : Int) = ((64 : Nat) : Int) from rfl, quo_nat, Nat.div_div_eq_div_mul]
  have m0 : (128 : Int) + ((m % 64 : Nat) : Int) = (moreN m 0 : Nat) := by unfold moreN; omega
  have m1 : (128 : Int) + ((m / 64 % 64 : Nat) : Int) = (moreN m 6 : Nat) := by unfold moreN; omega
  have m2 : (128 : Int) + ((m / 4096 % 64 : Nat) : Int) = (moreN m 12 : Nat) := by unfold moreN; omega
  have b0 : moreN m 0 < 192 := by unfold moreN; omega
  have b1 : moreN m 6 < 192 := by unfold moreN; omega
  have b2 : moreN m 12 < 192 := by unfold moreN; omega
  have w0 : IntKind.u8.wrap (IntKind.i64.wrap ((128 : Int) + ((m % 64 : Nat) : Int))) = (moreN m 0 : Nat) := by rw [m0, wrapI (by omega), wrap8 (by omega)]
  have w1 : IntKind.u8.wrap (IntKind.i64.wrap ((128 : Int) + ((m / 64 % 64 : Nat) : Int))) = (moreN m 6 : Nat) := by rw [m1, wrapI (by omega), wrap8 (by omega)]
  have w2 : IntKind.u8.wrap (IntKind.i64.wrap ((128 : Int) + ((m / 4096 % 64 : Nat) : Int))) = (moreN m 12 : Nat) := by rw [m2, wrapI (by omega), wrap8 (by omega)]
  have v0 : IntKind.i64.wrap ((m / 64 : Nat) : Int) = (m / 64 : Nat) := wrapI (by omega)
  have v1 : IntKind.i64.wrap ((m / 4096 : Nat) : Int) = (m / 4096 : Nat) := wrapI (by omega)
  have v2 : IntKind.i64.wrap ((m / 262144 : Nat) : Int) = (m / 262144 : Nat) := wrapI (by omega)
  have t32 : Int.tdiv 32 2 = 16 := by decide
  have t16 : Int.tdiv 16 2 = 8 := by decide
  obtain rfl | rfl | rfl | rfl : k = 0 ∨ k = 1 ∨ k = 2 ∨ k = 3 := by omega
  · refine EWn.of_c Tok mixed (own := false) keep66 tab66 (by kernel_rfl) ?_
    (repeat (first | simp -dsimp only [st_run, sz_run, st1_run, cl_run, st_Str, sz_Str, st1_Str, cl_Str, st_c, sz_c, st1_c, cl_c, st_wlk, sz_wlk, st1_wlk, cl_wlk, show tailW m 0 = .fslice [] from rfl, show firstR 0 = 32 from rfl, Nat.pow_zero, Nat.div_one, RB, TB, keep66, tab66, ewOp, xop, xindexAddr, xindex, xslice, xconvert, xlen, drawStep, FreeW, SameW, ChangeW, limBytes, Nat.reduceBEq, Nat.reduceAdd, Nat.reduceEqDiff, Nat.reduceLT, Nat.reduceLeDiff, Nat.reduceMul, Nat.reduceSub, Int.reduceBEq, Int.reduceBNe, Int.reduceToNat, Int.reduceLT, Int.reduceLE, Int.reduceGT, Int.reduceGE, Int.reduceAdd, Int.reduceSub, Int.reduceNeg, Int.reduceEq, Int.toNat_zero, Int.toNat_one, reduceIte, reduceCtorEq, ne_eq, decide_true, decide_false] | ((with_reducible refine Need.intro ?_ ?_); (first | trivial | omega | (simp; done) | (simp; omega)))))
    (repeat (first | simp -dsimp only [st_run, sz_run, st1_run, cl_run, st_Str, sz_Str, st1_Str, cl_Str, st_c, sz_c, st1_c, cl_c, st_wlk, sz_wlk, st1_wlk, cl_wlk, show decide ((m : Int) ≥ 32) = true from decide_eq_true (by omega), e0, q0, w0, v0, t32, RB, TB, keep66, tab66, ewOp, xop, xindexAddr, xindex, xslice, xconvert, xlen, drawStep, FreeW, SameW, ChangeW, limBytes, Nat.reduceBEq, Nat.reduceAdd, Nat.reduceEqDiff, Nat.reduceLT, Nat.reduceLeDiff, Nat.reduceMul, Nat.reduceSub, Int.reduceBEq, Int.reduceBNe, Int.reduceToNat, Int.reduceLT, Int.reduceLE, Int.reduceGT, Int.reduceGE, Int.reduceAdd, Int.reduceSub, Int.reduceNeg, Int.reduceEq, Int.toNat_zero, Int.toNat_one, reduceIte, reduceCtorEq, ne_eq, decide_true, decide_false] | ((with_reducible refine Need.intro ?_ ?_); (first | trivial | omega | (simp; done) | (simp; omega)))))
    refine UpTo.here ⟨1, ⟨by omega, hm1⟩, by decide, by simp [upd, eset, tailW, firstR, tailR], [], by simp⟩
  · refine EWn.of_c Tok mixed (own := false) keep66 tab66 (by kernel_rfl) ?_
    (repeat (first | simp -dsimp only [st_run, sz_run, st1_run, cl_run, st_Str, sz_Str, st1_Str, cl_Str, st_c, sz_c, st1_c, cl_c, st_wlk, sz_wlk, st1_wlk, cl_wlk, show tailW m 1 = .fslice [.int .u8 (moreN m 0)] from rfl, show firstR 1 = 32 from rfl, Nat.pow_one, RB, TB, keep66, tab66, ewOp, xop, xindexAddr, xindex, xslice, xconvert, xlen, drawStep, FreeW, SameW, ChangeW, limBytes, Nat.reduceBEq, Nat.reduceAdd, Nat.reduceEqDiff, Nat.reduceLT, Nat.reduceLeDiff, Nat.reduceMul, Nat.reduceSub, Int.reduceBEq, Int.reduceBNe, Int.reduceToNat, Int.reduceLT, Int.reduceLE, Int.reduceGT, Int.reduceGE, Int.reduceAdd, Int.reduceSub, Int.reduceNeg, Int.reduceEq, Int.toNat_zero, Int.toNat_one, reduceIte, reduceCtorEq, ne_eq, decide_true, decide_false] | ((with_reducible refine Need.intro ?_ ?_); (first | trivial | omega | (simp; done) | (simp; omega)))))
    refine IfW.intro (fun h => ?_) (fun h => ?_)
    · have h' := of_decide_eq_true h
      (repeat (first | simp -dsimp only [st_run, sz_run, st1_run, cl_run, st_Str, sz_Str, st1_Str, cl_Str, st_c, sz_c, st1_c, cl_c, st_wlk, sz_wlk, st1_wlk, cl_wlk, h, e1, q1, w1, v1, t32, show IntKind.i64.wrap 16 = 16 from rfl, RB, TB, keep66, tab66, ewOp, xop, xindexAddr, xindex, xslice, xconvert, xlen, drawStep, FreeW, SameW, ChangeW, limBytes, Nat.reduceBEq, Nat.reduceAdd, Nat.reduceEqDiff, Nat.reduceLT, Nat.reduceLeDiff, Nat.reduceMul, Nat.reduceSub, Int.reduceBEq, Int.reduceBNe, Int.reduceToNat, Int.reduceLT, Int.reduceLE, Int.reduceGT, Int.reduceGE, Int.reduceAdd, Int.reduceSub, Int.reduceNeg, Int.reduceEq, Int.toNat_zero, Int.toNat_one, reduceIte, reduceCtorEq, ne_eq, decide_true, decide_false] | ((with_reducible refine Need.intro ?_ ?_); (first | trivial | omega | (simp; done) | (simp; omega)))))
      refine UpTo.step (Gho.frz 3 (by rfl) (by rw [hget0]; rfl) (by rfl)) (UpTo.step (Gho.restr [0, 3, 4]) (UpTo.here ⟨2, ⟨by omega, show 2048 ≤ m by omega⟩, by decide, by simp [restr, eget, upd, eset, tailW, firstR, tailR], [.gone], by simp⟩))
    · have h' := of_decide_eq_false h
      have z : IntKind.i64.wrap ((192 : Int) + ((m / 64 : Nat) : Int)) = (192 + m / 64 : Nat) := by rw [wrapI (by omega)]; omega
      have z2 : IntKind.u8.wrap ((192 + m / 64 : Nat) : Int) = (192 + m / 64 : Nat) := wrap8 (by omega)
      (repeat (first | simp -dsimp only [st_run, sz_run, st1_run, cl_run, st_Str, sz_Str, st1_Str, cl_Str, st_c, sz_c, st1_c, cl_c, st_wlk, sz_wlk, st1_wlk, cl_wlk, h, z, z2, allb_cons, allb_nil, toByte_int, List.map_cons, List.map_nil, RB, TB, keep66, tab66, ewOp, xop, xindexAddr, xindex, xslice, xconvert, xlen, drawStep, FreeW, SameW, ChangeW, limBytes, Nat.reduceBEq, Nat.reduceAdd, Nat.reduceEqDiff, Nat.reduceLT, Nat.reduceLeDiff, Nat.reduceMul, Nat.reduceSub, Int.reduceBEq, Int.reduceBNe, Int.reduceToNat, Int.reduceLT, Int.reduceLE, Int.reduceGT, Int.reduceGE, Int.reduceAdd, Int.reduceSub, Int.reduceNeg, Int.reduceEq, Int.toNat_zero, Int.toNat_one, reduceIte, reduceCtorEq, ne_eq, decide_true, decide_false] | ((with_reducible refine Need.intro ?_ ?_); (first | trivial | omega | (simp; done) | (simp; omega)))))
      refine RetW.auto0 false _ (by first | rfl | exact (List.append_nil _).symm) ?_ ?_
      · (simp (maxDischargeDepth := 6) [LTB, HLt_set, ltL_take, ltL_drop, ltL_rep, ltL_set, upd, eset, hH, hHk, lt_vi, lt_str, lt_vb, ltc_str, ltc_vi, lt_run, lt1_run, ltc_run, lt_Str, lt1_Str, ltc_Str, lt_c, lt1_c, ltc_c, lt_wlk, lt1_wlk, ltc_wlk, lt_tailW] <;> omega)
      (try simp only [wk, wk1, wk0, RB, limBytes, Nat.reduceBEq, Nat.reduceAdd, Nat.reduceEqDiff, Nat.reduceLT, Nat.reduceLeDiff, Nat.reduceMul, Nat.reduceSub, Int.reduceBEq, Int.reduceBNe, Int.reduceToNat, Int.reduceLT, Int.reduceLE, Int.reduceGT, Int.reduceGE, Int.reduceAdd, Int.reduceSub, Int.reduceNeg, Int.reduceEq, Int.toNat_zero, Int.toNat_one, reduceIte, reduceCtorEq, ne_eq, decide_true, decide_false])
      (try (rw [List.take_of_length_le]; rotate_left 1; (· first | (simp; done) | (simp; omega) | omega)))
      rw [runeM, if_neg (by omega), if_pos (by omega)]
      rfl
  · have hd : m / 64 ^ 2 = m / 4096 := rfl
    refine EWn.of_c Tok mixed (own := false) keep66 tab66 (by kernel_rfl) ?_
    (repeat (first | simp -dsimp only [st_run, sz_run, st1_run, cl_run, st_Str, sz_Str, st1_Str, cl_Str, st_c, sz_c, st1_c, cl_c, st_wlk, sz_wlk, st1_wlk, cl_wlk, show tailW m 2 = .slice [.int .u8 (moreN m 6), .int .u8 (moreN m 0)] from rfl, show firstR 2 = 16 from rfl, hd, RB, TB, keep66, tab66, ewOp, xop, xindexAddr, xindex, xslice, xconvert, xlen, drawStep, FreeW, SameW, ChangeW, limBytes, Nat.reduceBEq, Nat.reduceAdd, Nat.reduceEqDiff, Nat.reduceLT, Nat.reduceLeDiff, Nat.reduceMul, Nat.reduceSub, Int.reduceBEq, Int.reduceBNe, Int.reduceToNat, Int.reduceLT, Int.reduceLE, Int.reduceGT, Int.reduceGE, Int.reduceAdd, Int.reduceSub, Int.reduceNeg, Int.reduceEq, Int.toNat_zero, Int.toNat_one, reduceIte, reduceCtorEq, ne_eq, decide_true, decide_false] | ((with_reducible refine Need.intro ?_ ?_); (first | trivial | omega | (simp; done) | (simp; omega)))))
    refine IfW.intro (fun h => ?_) (fun h => ?_)
    · have h' := of_decide_eq_true h
      (repeat (first | simp -dsimp only [st_run, sz_run, st1_run, cl_run, st_Str, sz_Str, st1_Str, cl_Str, st_c, sz_c, st1_c, cl_c, st_wlk, sz_wlk, st1_wlk, cl_wlk, h, e2, q2, w2, v2, t16, show IntKind.i64.wrap 8 = 8 from rfl, RB, TB, keep66, tab66, ewOp, xop, xindexAddr, xindex, xslice, xconvert, xlen, drawStep, FreeW, SameW, ChangeW, limBytes, Nat.reduceBEq, Nat.reduceAdd, Nat.reduceEqDiff, Nat.reduceLT, Nat.reduceLeDiff, Nat.reduceMul, Nat.reduceSub, Int.reduceBEq, Int.reduceBNe, Int.reduceToNat, Int.reduceLT, Int.reduceLE, Int.reduceGT, Int.reduceGE, Int.reduceAdd, Int.reduceSub, Int.reduceNeg, Int.reduceEq, Int.toNat_zero, Int.toNat_one, reduceIte, reduceCtorEq, ne_eq, decide_true, decide_false] | ((with_reducible refine Need.intro ?_ ?_); (first | trivial | omega | (simp; done) | (simp; omega)))))
      refine UpTo.step (Gho.frz 3 (by rfl) (by rw [hget0]; rfl) (by rfl)) (UpTo.step (Gho.restr [0, 3, 4]) (UpTo.here ⟨3, ⟨by omega, show 65536 ≤ m by omega⟩, by decide, by simp [restr, eget, upd, eset, tailW, firstR, tailR], [.gone], by simp⟩))
    · have h' := of_decide_eq_false h
      have z : IntKind.i64.wrap ((224 : Int) + ((m / 4096 : Nat) : Int)) = (224 + m / 4096 : Nat) := by rw [wrapI (by omega)]; omega
      have z2 : IntKind.u8.wrap ((224 + m / 4096 : Nat) : Int) = (224 + m / 4096 : Nat) := wrap8 (by omega)
      have h2048 : 2048 ≤ m := hlo
      (repeat (first | simp -dsimp only [st_run, sz_run, st1_run, cl_run, st_Str, sz_Str, st1_Str, cl_Str, st_c, sz_c, st1_c, cl_c, st_wlk, sz_wlk, st1_wlk, cl_wlk, h, z, z2, allb_cons, allb_nil, toByte_int, List.map_cons, List.map_nil, RB, TB, keep66, tab66, ewOp, xop, xindexAddr, xindex, xslice, xconvert, xlen, drawStep, FreeW, SameW, ChangeW, limBytes, Nat.reduceBEq, Nat.reduceAdd, Nat.reduceEqDiff, Nat.reduceLT, Nat.reduceLeDiff, Nat.reduceMul, Nat.reduceSub, Int.reduceBEq, Int.reduceBNe, Int.reduceToNat, Int.reduceLT, Int.reduceLE, Int.reduceGT, Int.reduceGE, Int.reduceAdd, Int.reduceSub, Int.reduceNeg, Int.reduceEq, Int.toNat_zero, Int.toNat_one, reduceIte, reduceCtorEq, ne_eq, decide_true, decide_false] | ((with_reducible refine Need.intro ?_ ?_); (first | trivial | omega | (simp; done) | (simp; omega)))))
      refine RetW.auto0 false _ (by first | rfl | exact (List.append_nil _).symm) ?_ ?_
      · (simp (maxDischargeDepth := 6) [LTB, HLt_set, ltL_take, ltL_drop, ltL_rep, ltL_set, upd, eset, hH, hHk, lt_vi, lt_str, lt_vb, ltc_str, ltc_vi, lt_run, lt1_run, ltc_run, lt_Str, lt1_Str, ltc_Str, lt_c, lt1_c, ltc_c, lt_wlk, lt1_wlk, ltc_wlk, lt_tailW] <;> omega)
      (try simp only [wk, wk1, wk0, RB, limBytes, Nat.reduceBEq, Nat.reduceAdd, Nat.reduceEqDiff, Nat.reduceLT, Nat.reduceLeDiff, Nat.reduceMul, Nat.reduceSub, Int.reduceBEq, Int.reduceBNe, Int.reduceToNat, Int.reduceLT, Int.reduceLE, Int.reduceGT, Int.reduceGE, Int.reduceAdd, Int.reduceSub, Int.reduceNeg, Int.reduceEq, Int.toNat_zero, Int.toNat_one, reduceIte, reduceCtorEq, ne_eq, decide_true, decide_false])
      (try (rw [List.take_of_length_le]; rotate_left 1; (· first | (simp; done) | (simp; omega) | omega)))
      rw [runeM, if_neg (by omega), if_neg (by omega), if_pos (by omega)]
      rfl
  · have hd : m / 64 ^ 3 = m / 262144 := rfl
    refine EWn.of_c Tok mixed (own := false) keep66 tab66 (by kernel_rfl) ?_
    (repeat (first | simp -dsimp only [st_run, sz_run, st1_run, cl_run, st_Str, sz_Str, st1_Str, cl_Str, st_c, sz_c, st1_c, cl_c, st_wlk, sz_wlk, st1_wlk, cl_wlk, show tailW m 3 = .slice [.int .u8 (moreN m 12), .int .u8 (moreN m 6), .int .u8 (moreN m 0)] from rfl, show firstR 3 = 8 from rfl, hd, RB, TB, keep66, tab66, ewOp, xop, xindexAddr, xindex, xslice, xconvert, xlen, drawStep, FreeW, SameW, ChangeW, limBytes, Nat.reduceBEq, Nat.reduceAdd, Nat.reduceEqDiff, Nat.reduceLT, Nat.reduceLeDiff, Nat.reduceMul, Nat.reduceSub, Int.reduceBEq, Int.reduceBNe, Int.reduceToNat, Int.reduceLT, Int.reduceLE, Int.reduceGT, Int.reduceGE, Int.reduceAdd, Int.reduceSub, Int.reduceNeg, Int.reduceEq, Int.toNat_zero, Int.toNat_one, reduceIte, reduceCtorEq, ne_eq, decide_true, decide_false] | ((with_reducible refine Need.intro ?_ ?_); (first | trivial | omega | (simp; done) | (simp; omega)))))
    have z : IntKind.i64.wrap ((240 : Int) + ((m / 262144 : Nat) : Int)) = (240 + m / 262144 : Nat) := by rw [wrapI (by omega)]; omega
    have z2 : IntKind.u8.wrap ((240 + m / 262144 : Nat) : Int) = (240 + m / 262144 : Nat) := wrap8 (by omega)
    have h65 : 65536 ≤ m := hlo
    (repeat (first | simp -dsimp only [st_run, sz_run, st1_run, cl_run, st_Str, sz_Str, st1_Str, cl_Str, st_c, sz_c, st1_c, cl_c, st_wlk, sz_wlk, st1_wlk, cl_wlk, show decide (((m / 262144 : Nat) : Int) ≥ 8) = false from decide_eq_false (by omega), z, z2, allb_cons, allb_nil, toByte_int, List.map_cons, List.map_nil, RB, TB, keep66, tab66, ewOp, xop, xindexAddr, xindex, xslice, xconvert, xlen, drawStep, FreeW, SameW, ChangeW, limBytes, Nat.reduceBEq, Nat.reduceAdd, Nat.reduceEqDiff, Nat.reduceLT, Nat.reduceLeDiff, Nat.reduceMul, Nat.reduceSub, Int.reduceBEq, Int.reduceBNe, Int.reduceToNat, Int.reduceLT, Int.reduceLE, Int.reduceGT, Int.reduceGE, Int.reduceAdd, Int.reduceSub, Int.reduceNeg, Int.reduceEq, Int.toNat_zero, Int.toNat_one, reduceIte, reduceCtorEq, ne_eq, decide_true, decide_false] | ((with_reducible refine Need.intro ?_ ?_); (first | trivial | omega | (simp; done) | (simp; omega)))))
    refine RetW.auto0 false _ (by first | rfl | exact (List.append_nil _).symm) ?_ ?_
    · (simp (maxDischargeDepth := 6) [LTB, HLt_set, ltL_take, ltL_drop, ltL_rep, ltL_set, upd, eset, hH, hHk, lt_vi, lt_str, lt_vb, ltc_str, ltc_vi, lt_run, lt1_run, ltc_run, lt_Str, lt1_Str, ltc_Str, lt_c, lt1_c, ltc_c, lt_wlk, lt1_wlk, ltc_wlk, lt_tailW] <;> omega)
    (try simp only [wk, wk1, wk0, RB, limBytes, Nat.reduceBEq, Nat.reduceAdd, Nat.reduceEqDiff, Nat.reduceLT, Nat.reduceLeDiff, Nat.reduceMul, Nat.reduceSub, Int.reduceBEq, Int.reduceBNe, Int.reduceToNat, Int.reduceLT, Int.reduceLE, Int.reduceGT, Int.reduceGE, Int.reduceAdd, Int.reduceSub, Int.reduceNeg, Int.reduceEq, Int.toNat_zero, Int.toNat_one, reduceIte, reduceCtorEq, ne_eq, decide_true, decide_false])
    (try (rw [List.take_of_length_le]; rotate_left 1; (· first | (simp; done) | (simp; omega) | omega)))
    rw [runeM, if_neg (by omega), if_neg (by omega), if_neg (by omega)]
    rfl
def bytesW (l : List (UInt8 × Int)) (i : Nat) : List UInt8 := fsts (l.take i) ++ List.replicate (l.length - i) 0
theorem bytesW_len (l : List (UInt8 × Int)) {i : Nat} (h : i ≤ l.length) : (bytesW l i).length = l.length := by simp [bytesW, fsts]; omega
theorem bytesW_0 (l : List (UInt8 × Int)) : (bytesW l 0).map vb = List.replicate l.length (.int .u8 0) := by simp [bytesW, fsts, vb]
theorem bytesW_set (l : List (UInt8 × Int)) {i : Nat} (h : i < l.length) : ((bytesW l i).map vb).set i (vb l[i].1) = (bytesW l (i + 1)).map vb := by
  have hl : (fsts (l.take i)).length = i := by simp [fsts]; omega
  have e : fsts (l.take (i + 1)) = fsts (l.take i) ++ [l[i].1] := by unfold fsts; rw [List.take_succ_eq_append_getElem h, List.map_append]; rfl
  unfold bytesW
  rw [e, ← List.map_set, List.set_append_right _ _ (by omega), hl, Nat.sub_self, show l.length - i = (l.length - (i + 1)) + 1 by omega, List.replicate_succ, List.set_cons_zero, List.append_assoc]
  rfl
theorem rle_last {l : List Int} (h : l ≠ []) : ∃ ys k o, rle l = ys ++ [(k, o)] := by
  rcases List.eq_nil_or_concat (rle l) with h0 | ⟨ys, ⟨k, o⟩, h0⟩
  · have := unrle_rle l
    rw [h0] at this
    exact absurd this.symm h
  · exact ⟨ys, k, o, by rw [h0, List.concat_eq_append]⟩
theorem putR_same (ys : List (Int × Int)) (k o : Int) : putR (ys ++ [(k, o)]) 1 o = ys ++ [(k + 1, o)] := by simp [putR]
theorem putR_other (ys : List (Int × Int)) (k o o' : Int) (h : o ≠ o') : putR (ys ++ [(k, o)]) 1 o' = ys ++ [(k, o)] ++ [(1, o')] := by simp [putR, h]
/-- a labelled text of bytes -/
def strR (l : List (UInt8 × Int)) : Str := ⟨l.map Prod.fst, rle (l.map Prod.snd)⟩
set_option maxHeartbeats 1000000 in
theorem rStr (H : List Ob) (l : List (UInt8 × Int)) (hs : l.length ≤ 1000000000) : SCall Try.prog 96 [.slice (l.map cV)] H (fun r H' => r = strV (strR l) ∧ H' = H) := by
  refine SCall.of_good fun hH => ?_
  have hHk := HLt.add hH
  refine SCall.of_code Tok Try.func96 rfl Try.call96 (n := 71) rfl (by simp) (rs := [.cell 2 59]) rfl ?_
  refine EWn.to ?_
  refine EWn.of_c Tok mixed (own := false) keep96 tab96 (by kernel_rfl) ?_
  (repeat (first | simp -dsimp only [st_run, sz_run, st1_run, cl_run, st_Str, sz_Str, st1_Str, cl_Str, st_c, sz_c, st1_c, cl_c, st_wlk, sz_wlk, st1_wlk, cl_wlk, RB, TB, keep96, tab96, ewOp, xop, xindexAddr, xindex, xslice, xconvert, xlen, drawStep, FreeW, SameW, ChangeW, limBytes, Nat.reduceBEq, Nat.reduceAdd, Nat.reduceEqDiff, Nat.reduceLT, Nat.reduceLeDiff, Nat.reduceMul, Nat.reduceSub, Int.reduceBEq, Int.reduceBNe, Int.reduceToNat, Int.reduceLT, Int.reduceLE, Int.reduceGT, Int.reduceGE, Int.reduceAdd, Int.reduceSub, Int.reduceNeg, Int.reduceEq, Int.toNat_zero, Int.toNat_one, reduceIte, reduceCtorEq, ne_eq, decide_true, decide_false] | ((with_reducible refine Need.intro ?_ ?_); (first | trivial | omega | (simp; done) | (simp; omega)))))
  refine EWn.ghost (Gho.adoptCell (H.length + 1) 1 2 (by simp only [RB, hget]; rfl) rfl (by simp)) ?_
  simp only [RB, limBytes, Nat.reduceBEq, Nat.reduceAdd, Nat.reduceEqDiff, Nat.reduceLT, Nat.reduceLeDiff, Nat.reduceMul, Nat.reduceSub, Int.reduceBEq, Int.reduceBNe, Int.reduceToNat, Int.reduceLT, Int.reduceLE, Int.reduceGT, Int.reduceGE, Int.reduceAdd, Int.reduceSub, Int.reduceNeg, Int.reduceEq, Int.toNat_zero, Int.toNat_one, reduceIte, reduceCtorEq, ne_eq, decide_true, decide_false]
  refine EWn.loopE (ι := (Nat) × (Nat)) (fun (x_ : (Nat) × (Nat)) => match x_ with | (i, ver) => i ≤ l.length) (fun (x_ : (Nat) × (Nat)) => match x_ with | (i, ver) => l.length - i) (fun (x_ : (Nat) × (Nat)) => match x_ with | (i, ver) => [(5, .int .i64 i)]) (fun (x_ : (Nat) × (Nat)) => match x_ with | (i, ver) => H ++ [.var [.str [], .fslice []], .var [.str [], .vec (H.length + 3) ver 0 (rle ((l.take i).map Prod.snd)).length], .vec 1 1 ((bytesW l i).map vb), .vec ver 2 ((rle ((l.take i).map Prod.snd)).map runV)]) (0, 1) ?_ ?_ ?_ ?_ ?_
  · first | rfl | (simp [upd, eset]; done) | (simp [upd, eset, bytesW_0, rle]; done)
  · simp [bytesW_0, rle]
  · rintro ⟨i, ver⟩ hok; exact ⟨by first | (simp; done) | (simp; omega), by (simp (maxDischargeDepth := 6) [LTB, HLt_set, ltL_take, ltL_drop, ltL_rep, ltL_set, upd, eset, hH, hHk, lt_vi, lt_str, lt_vb, ltc_str, ltc_vi, lt_run, lt1_run, ltc_run, lt_Str, lt1_Str, ltc_Str, lt_c, lt1_c, ltc_c, lt_wlk, lt1_wlk, ltc_wlk, lt_tailW] <;> omega), by (simp (maxDischargeDepth := 6) [LTB, HLt_set, ltL_take, ltL_drop, ltL_rep, ltL_set, upd, eset, hH, hHk, lt_vi, lt_str, lt_vb, ltc_str, ltc_vi, lt_run, lt1_run, ltc_run, lt_Str, lt1_Str, ltc_Str, lt_c, lt1_c, ltc_c, lt_wlk, lt1_wlk, ltc_wlk, lt_tailW] <;> omega)⟩
  · omega
  rintro ⟨i, ver⟩ hi
  have hbl := bytesW_len l hi
  refine EWn.of_c Tok mixed (own := false) keep96 tab96 (by kernel_rfl) ?_
  (repeat (first | simp -dsimp only [st_run, sz_run, st1_run, cl_run, st_Str, sz_Str, st1_Str, cl_Str, st_c, sz_c, st1_c, cl_c, st_wlk, sz_wlk, st1_wlk, cl_wlk, RB, TB, keep96, tab96, ewOp, xop, xindexAddr, xindex, xslice, xconvert, xlen, drawStep, FreeW, SameW, ChangeW, limBytes, Nat.reduceBEq, Nat.reduceAdd, Nat.reduceEqDiff, Nat.reduceLT, Nat.reduceLeDiff, Nat.reduceMul, Nat.reduceSub, Int.reduceBEq, Int.reduceBNe, Int.reduceToNat, Int.reduceLT, Int.reduceLE, Int.reduceGT, Int.reduceGE, Int.reduceAdd, Int.reduceSub, Int.reduceNeg, Int.reduceEq, Int.toNat_zero, Int.toNat_one, reduceIte, reduceCtorEq, ne_eq, decide_true, decide_false] | ((with_reducible refine Need.intro ?_ ?_); (first | trivial | omega | (simp; done) | (simp; omega)))))
  refine IfW.intro (fun h => ?_) (fun h => ?_)
  · have hlt := lt_of h
    have hset : ((bytesW l i).map vb).set i (.int .u8 (l[i].1.toNat : Int)) = (bytesW l (i + 1)).map vb := bytesW_set l hlt
    have hib : i < (bytesW l i).length := by omega
    have hrl := rle_len ((l.take i).map Prod.snd)
    have hml : ((l.take i).map Prod.snd).length ≤ i := by simp; omega
    have hrb : ∀ p ∈ rle ((l.take i).map Prod.snd), 0 ≤ p.1 ∧ p.1 ≤ 1000000000000 := fun p hp => by have := rle_bound hp; omega
    have hsucc : rle ((l.take (i + 1)).map Prod.snd) = putR (rle ((l.take i).map Prod.snd)) 1 l[i].2 := by
      rw [List.take_succ_eq_append_getElem hlt, List.map_append, List.map_cons, List.map_nil, rle_snoc]
    (repeat (first | simp -dsimp only [st_run, sz_run, st1_run, cl_run, st_Str, sz_Str, st1_Str, cl_Str, st_c, sz_c, st1_c, cl_c, st_wlk, sz_wlk, st1_wlk, cl_wlk, h, hbl, at_map cV l i hlt, cV, vb, at_map vb (bytesW l i) i hib, hset, RB, TB, keep96, tab96, ewOp, xop, xindexAddr, xindex, xslice, xconvert, xlen, drawStep, FreeW, SameW, ChangeW, limBytes, Nat.reduceBEq, Nat.reduceAdd, Nat.reduceEqDiff, Nat.reduceLT, Nat.reduceLeDiff, Nat.reduceMul, Nat.reduceSub, Int.reduceBEq, Int.reduceBNe, Int.reduceToNat, Int.reduceLT, Int.reduceLE, Int.reduceGT, Int.reduceGE, Int.reduceAdd, Int.reduceSub, Int.reduceNeg, Int.reduceEq, Int.toNat_zero, Int.toNat_one, reduceIte, reduceCtorEq, ne_eq, decide_true, decide_false] | ((with_reducible refine Need.intro ?_ ?_); (first | trivial | omega | (simp; done) | (simp; omega)))))
    rw [wrapI (x := ((rle ((l.take i).map Prod.snd)).length : Int) - 1) (by omega)]
    by_cases h0 : (l.take i).map Prod.snd = []
    · have hr0 : rle ((l.take i).map Prod.snd) = [] := by rw [h0]; rfl
      rw [hr0] at hsucc hrl ⊢
      (repeat (first | simp -dsimp only [st_run, sz_run, st1_run, cl_run, st_Str, sz_Str, st1_Str, cl_Str, st_c, sz_c, st1_c, cl_c, st_wlk, sz_wlk, st1_wlk, cl_wlk, show decide (((0 : Nat) : Int) - 1 ≥ 0) = false from by decide, at_map cV l i hlt, cV, RB, TB, keep96, tab96, ewOp, xop, xindexAddr, xindex, xslice, xconvert, xlen, drawStep, FreeW, SameW, ChangeW, limBytes, Nat.reduceBEq, Nat.reduceAdd, Nat.reduceEqDiff, Nat.reduceLT, Nat.reduceLeDiff, Nat.reduceMul, Nat.reduceSub, Int.reduceBEq, Int.reduceBNe, Int.reduceToNat, Int.reduceLT, Int.reduceLE, Int.reduceGT, Int.reduceGE, Int.reduceAdd, Int.reduceSub, Int.reduceNeg, Int.reduceEq, Int.toNat_zero, Int.toNat_one, reduceIte, reduceCtorEq, ne_eq, decide_true, decide_false] | ((with_reducible refine Need.intro ?_ ?_); (first | trivial | omega | (simp; done) | (simp; omega)))))
      rw [wrapI (by omega)]
      refine UpTo.here ⟨(i + 1, ver + 1), hlt, by simp only; omega, by simp [upd, eset], ⟨[], by simp only [hsucc]; simp [putR, runV]⟩⟩
    · obtain ⟨ys, k, o, hys⟩ := rle_last h0
      rw [hys] at hsucc hrl hrb ⊢
      have hk := hrb (k, o) (by simp)
      simp only at hk
      have hidx : ys.length < (ys ++ [(k, o)]).length := by simp
      have e0 : (((ys ++ [(k, o)]).length : Nat) : Int) - 1 = (ys.length : Int) := by simp
      have hat := at_map runV (ys ++ [(k, o)]) ys.length hidx
      have hel : (ys ++ [(k, o)])[ys.length] = (k, o) := by simp
      rw [e0]
      generalize hL : ys ++ [(k, o)] = L at *
      (repeat (first | simp -dsimp only [st_run, sz_run, st1_run, cl_run, st_Str, sz_Str, st1_Str, cl_Str, st_c, sz_c, st1_c, cl_c, st_wlk, sz_wlk, st1_wlk, cl_wlk, show decide ((ys.length : Int) ≥ 0) = true from by simp, hat, hel, runV, at_map cV l i hlt, cV, RB, TB, keep96, tab96, ewOp, xop, xindexAddr, xindex, xslice, xconvert, xlen, drawStep, FreeW, SameW, ChangeW, limBytes, Nat.reduceBEq, Nat.reduceAdd, Nat.reduceEqDiff, Nat.reduceLT, Nat.reduceLeDiff, Nat.reduceMul, Nat.reduceSub, Int.reduceBEq, Int.reduceBNe, Int.reduceToNat, Int.reduceLT, Int.reduceLE, Int.reduceGT, Int.reduceGE, Int.reduceAdd, Int.reduceSub, Int.reduceNeg, Int.reduceEq, Int.toNat_zero, Int.toNat_one, reduceIte, reduceCtorEq, ne_eq, decide_true, decide_false] | ((with_reducible refine Need.intro ?_ ?_); (first | trivial | omega | (simp; done) | (simp; omega)))))
      refine IfW.intro (fun h2 => ?_) (fun h2 => ?_)
      · have h2' : o = l[i].2 := by simpa using h2
        (repeat (first | simp -dsimp only [st_run, sz_run, st1_run, cl_run, st_Str, sz_Str, st1_Str, cl_Str, st_c, sz_c, st1_c, cl_c, st_wlk, sz_wlk, st1_wlk, cl_wlk, h2, hat, hel, runV, at_map cV l i hlt, cV, RB, TB, keep96, tab96, ewOp, xop, xindexAddr, xindex, xslice, xconvert, xlen, drawStep, FreeW, SameW, ChangeW, limBytes, Nat.reduceBEq, Nat.reduceAdd, Nat.reduceEqDiff, Nat.reduceLT, Nat.reduceLeDiff, Nat.reduceMul, Nat.reduceSub, Int.reduceBEq, Int.reduceBNe, Int.reduceToNat, Int.reduceLT, Int.reduceLE, Int.reduceGT, Int.reduceGE, Int.reduceAdd, Int.reduceSub, Int.reduceNeg, Int.reduceEq, Int.toNat_zero, Int.toNat_one, reduceIte, reduceCtorEq, ne_eq, decide_true, decide_false] | ((with_reducible refine Need.intro ?_ ?_); (first | trivial | omega | (simp; done) | (simp; omega)))))
        rw [wrapI (x := k + 1) (by omega), wrapI (by omega)]
        have hset2 : (L.map runV).set ys.length (V.agg [V.int .i64 (k + 1), V.int .i64 o]) = (ys ++ [(k + 1, l[i].2)]).map runV := by
          rw [← hL, List.map_append, List.set_append_right _ _ (by simp)]
          simp [runV, h2']
        rw [← hL, ← h2', putR_same] at hsucc
        rw [hset2]
        refine UpTo.here ⟨(i + 1, ver), hlt, by simp only; omega, by simp [upd, eset], ⟨[], by simp only [hsucc]; rw [← hL]; simp [h2']⟩⟩
      · have h2' : o ≠ l[i].2 := by simpa using h2
        (repeat (first | simp -dsimp only [st_run, sz_run, st1_run, cl_run, st_Str, sz_Str, st1_Str, cl_Str, st_c, sz_c, st1_c, cl_c, st_wlk, sz_wlk, st1_wlk, cl_wlk, h2, hat, hel, runV, at_map cV l i hlt, cV, RB, TB, keep96, tab96, ewOp, xop, xindexAddr, xindex, xslice, xconvert, xlen, drawStep, FreeW, SameW, ChangeW, limBytes, Nat.reduceBEq, Nat.reduceAdd, Nat.reduceEqDiff, Nat.reduceLT, Nat.reduceLeDiff, Nat.reduceMul, Nat.reduceSub, Int.reduceBEq, Int.reduceBNe, Int.reduceToNat, Int.reduceLT, Int.reduceLE, Int.reduceGT, Int.reduceGE, Int.reduceAdd, Int.reduceSub, Int.reduceNeg, Int.reduceEq, Int.toNat_zero, Int.toNat_one, reduceIte, reduceCtorEq, ne_eq, decide_true, decide_false] | ((with_reducible refine Need.intro ?_ ?_); (first | trivial | omega | (simp; done) | (simp; omega)))))
        rw [wrapI (by omega)]
        rw [← hL, putR_other _ _ _ _ h2'] at hsucc
        refine UpTo.here ⟨(i + 1, ver + 1), hlt, by simp only; omega, by simp [upd, eset], ⟨[], by simp only [hsucc]; rw [← hL]; simp [runV]⟩⟩
  · (repeat (first | simp -dsimp only [st_run, sz_run, st1_run, cl_run, st_Str, sz_Str, st1_Str, cl_Str, st_c, sz_c, st1_c, cl_c, st_wlk, sz_wlk, st1_wlk, cl_wlk, h, RB, TB, keep96, tab96, ewOp, xop, xindexAddr, xindex, xslice, xconvert, xlen, drawStep, FreeW, SameW, ChangeW, limBytes, Nat.reduceBEq, Nat.reduceAdd, Nat.reduceEqDiff, Nat.reduceLT, Nat.reduceLeDiff, Nat.reduceMul, Nat.reduceSub, Int.reduceBEq, Int.reduceBNe, Int.reduceToNat, Int.reduceLT, Int.reduceLE, Int.reduceGT, Int.reduceGE, Int.reduceAdd, Int.reduceSub, Int.reduceNeg, Int.reduceEq, Int.toNat_zero, Int.toNat_one, reduceIte, reduceCtorEq, ne_eq, decide_true, decide_false] | ((with_reducible refine Need.intro ?_ ?_); (first | trivial | omega | (simp; done) | (simp; omega)))))
    have hi2 : i = l.length := Nat.le_antisymm hi (ge_of h)
    subst hi2
    (repeat (first | simp -dsimp only [st_run, sz_run, st1_run, cl_run, st_Str, sz_Str, st1_Str, cl_Str, st_c, sz_c, st1_c, cl_c, st_wlk, sz_wlk, st1_wlk, cl_wlk, AllBytes_vb, toByte_vb, hbl, List.take_length, RB, TB, keep96, tab96, ewOp, xop, xindexAddr, xindex, xslice, xconvert, xlen, drawStep, FreeW, SameW, ChangeW, limBytes, Nat.reduceBEq, Nat.reduceAdd, Nat.reduceEqDiff, Nat.reduceLT, Nat.reduceLeDiff, Nat.reduceMul, Nat.reduceSub, Int.reduceBEq, Int.reduceBNe, Int.reduceToNat, Int.reduceLT, Int.reduceLE, Int.reduceGT, Int.reduceGE, Int.reduceAdd, Int.reduceSub, Int.reduceNeg, Int.reduceEq, Int.toNat_zero, Int.toNat_one, reduceIte, reduceCtorEq, ne_eq, decide_true, decide_false] | ((with_reducible refine Need.intro ?_ ?_); (first | trivial | omega | (simp; done) | (simp; omega)))))
    refine RetW.auto0 false _ (by first | rfl | exact (List.append_nil _).symm) ?_ ?_
    · (simp (maxDischargeDepth := 6) [LTB, HLt_set, ltL_take, ltL_drop, ltL_rep, ltL_set, upd, eset, hH, hHk, lt_vi, lt_str, lt_vb, ltc_str, ltc_vi, lt_run, lt1_run, ltc_run, lt_Str, lt1_Str, ltc_Str, lt_c, lt1_c, ltc_c, lt_wlk, lt1_wlk, ltc_wlk, lt_tailW] <;> omega)
    (try simp only [wk, wk1, wk0, RB, limBytes, Nat.reduceBEq, Nat.reduceAdd, Nat.reduceEqDiff, Nat.reduceLT, Nat.reduceLeDiff, Nat.reduceMul, Nat.reduceSub, Int.reduceBEq, Int.reduceBNe, Int.reduceToNat, Int.reduceLT, Int.reduceLE, Int.reduceGT, Int.reduceGE, Int.reduceAdd, Int.reduceSub, Int.reduceNeg, Int.reduceEq, Int.toNat_zero, Int.toNat_one, reduceIte, reduceCtorEq, ne_eq, decide_true, decide_false])
    (try (rw [List.take_of_length_le]; rotate_left 1; (· first | (simp; done) | (simp; omega) | omega)))
    rw [if_pos (by omega), List.take_length]
    simp [strV, strR, bytesW, fsts]
theorem rIs (H : List Ob) (s : Str) (l : List (UInt8 × Int)) (hs : l.length ≤ 1000000000) : SCall Try.prog 43 [strV s, .slice (l.map cV)] H (fun r H' => r = .bool (decide (s = strR l)) ∧ H' = H) := by
  have hxl : (strR l).runs.length ≤ 1000000000 := by have := rle_len (l.map Prod.snd); simp only [strR]; simp at this; omega
  obtain ⟨st, sr⟩ := s
  unfold strV
  refine SCall.of_good fun hH => ?_
  have hHk := HLt.add hH
  refine SCall.of_code Tok Try.func43 rfl Try.call43 (n := 41) rfl (by simp) (rs := [.tmp 4]) rfl ?_
  refine EWn.to ?_
  refine EWn.of_c Tok mixed (own := false) keep43 tab43 (by kernel_rfl) ?_
  (repeat (first | simp -dsimp only [st_run, sz_run, st1_run, cl_run, st_Str, sz_Str, st1_Str, cl_Str, st_c, sz_c, st1_c, cl_c, st_wlk, sz_wlk, st1_wlk, cl_wlk, RB, TB, keep43, tab43, ewOp, xop, xindexAddr, xindex, xslice, xconvert, xlen, drawStep, FreeW, SameW, ChangeW, limBytes, Nat.reduceBEq, Nat.reduceAdd, Nat.reduceEqDiff, Nat.reduceLT, Nat.reduceLeDiff, Nat.reduceMul, Nat.reduceSub, Int.reduceBEq, Int.reduceBNe, Int.reduceToNat, Int.reduceLT, Int.reduceLE, Int.reduceGT, Int.reduceGE, Int.reduceAdd, Int.reduceSub, Int.reduceNeg, Int.reduceEq, Int.toNat_zero, Int.toNat_one, reduceIte, reduceCtorEq, ne_eq, decide_true, decide_false] | ((with_reducible refine Need.intro ?_ ?_); (first | trivial | omega | (simp; done) | (simp; omega)))))
  (first | refine SCall.then (rStr _ l hs) ?_ | refine SCall.thenA (rStr _ l hs) (by repeat (first | exact trivial | exact .inl (.inl rfl) | exact .inl (.inr ⟨_, rfl, rfl⟩) | exact .inl rfl | exact .inr ⟨_, rfl, rfl⟩ | refine .inr ⟨_, _, rfl, rfl, ?_⟩ | refine ⟨?_, ?_⟩)) ?_ | refine CallE.intro _ (rStr _ l hs) ?_ | refine CallE.introA (rStr _ l hs) (by repeat (first | exact trivial | exact .inl (.inl rfl) | exact .inl (.inr ⟨_, rfl, rfl⟩) | exact .inl rfl | exact .inr ⟨_, rfl, rfl⟩ | refine .inr ⟨_, _, rfl, rfl, ?_⟩ | refine ⟨?_, ?_⟩)) ?_ | refine CallE.intro _ (fun _ => rStr _ l hs) ?_ | refine CallE.intro _ (fun _ => SCall.arg (by repeat (first | exact trivial | exact .inl (.inl rfl) | exact .inl (.inr ⟨_, rfl, rfl⟩) | exact .inl rfl | exact .inr ⟨_, rfl, rfl⟩ | refine .inr ⟨_, _, rfl, rfl, ?_⟩ | refine ⟨?_, ?_⟩)) (rStr _ l hs)) ?_ | refine CallE2.intro _ _ (rStr _ l hs) ?_ | refine CallE2.intro _ _ (SCall.arg (by repeat (first | exact trivial | exact .inl (.inl rfl) | exact .inl (.inr ⟨_, rfl, rfl⟩) | exact .inl rfl | exact .inr ⟨_, rfl, rfl⟩ | refine .inr ⟨_, _, rfl, rfl, ?_⟩ | refine ⟨?_, ?_⟩)) (rStr _ l hs)) ?_)
  (repeat (first | simp -dsimp only [st_run, sz_run, st1_run, cl_run, st_Str, sz_Str, st1_Str, cl_Str, st_c, sz_c, st1_c, cl_c, st_wlk, sz_wlk, st1_wlk, cl_wlk, strV, RB, TB, keep43, tab43, ewOp, xop, xindexAddr, xindex, xslice, xconvert, xlen, drawStep, FreeW, SameW, ChangeW, limBytes, Nat.reduceBEq, Nat.reduceAdd, Nat.reduceEqDiff, Nat.reduceLT, Nat.reduceLeDiff, Nat.reduceMul, Nat.reduceSub, Int.reduceBEq, Int.reduceBNe, Int.reduceToNat, Int.reduceLT, Int.reduceLE, Int.reduceGT, Int.reduceGE, Int.reduceAdd, Int.reduceSub, Int.reduceNeg, Int.reduceEq, Int.toNat_zero, Int.toNat_one, reduceIte, reduceCtorEq, ne_eq, decide_true, decide_false] | ((with_reducible refine Need.intro ?_ ?_); (first | trivial | omega | (simp; done) | (simp; omega)))))
  generalize strR l = x at *
  obtain ⟨xt, xr⟩ := x
  simp only at hxl ⊢
  refine IfW.intro (fun h => ?_) (fun h => ?_)
  rotate_left
  · (repeat (first | simp -dsimp only [st_run, sz_run, st1_run, cl_run, st_Str, sz_Str, st1_Str, cl_Str, st_c, sz_c, st1_c, cl_c, st_wlk, sz_wlk, st1_wlk, cl_wlk, h, RB, TB, keep43, tab43, ewOp, xop, xindexAddr, xindex, xslice, xconvert, xlen, drawStep, FreeW, SameW, ChangeW, limBytes, Nat.reduceBEq, Nat.reduceAdd, Nat.reduceEqDiff, Nat.reduceLT, Nat.reduceLeDiff, Nat.reduceMul, Nat.reduceSub, Int.reduceBEq, Int.reduceBNe, Int.reduceToNat, Int.reduceLT, Int.reduceLE, Int.reduceGT, Int.reduceGE, Int.reduceAdd, Int.reduceSub, Int.reduceNeg, Int.reduceEq, Int.toNat_zero, Int.toNat_one, reduceIte, reduceCtorEq, ne_eq, decide_true, decide_false] | ((with_reducible refine Need.intro ?_ ?_); (first | trivial | omega | (simp; done) | (simp; omega)))))
    refine RetW.auto0 false _ (by first | rfl | exact (List.append_nil _).symm) ?_ ?_
    · (simp (maxDischargeDepth := 6) [LTB, HLt_set, ltL_take, ltL_drop, ltL_rep, ltL_set, upd, eset, hH, hHk, lt_vi, lt_str, lt_vb, ltc_str, ltc_vi, lt_run, lt1_run, ltc_run, lt_Str, lt1_Str, ltc_Str, lt_c, lt1_c, ltc_c, lt_wlk, lt1_wlk, ltc_wlk, lt_tailW] <;> omega)
    (try simp only [wk, wk1, wk0, RB, limBytes, Nat.reduceBEq, Nat.reduceAdd, Nat.reduceEqDiff, Nat.reduceLT, Nat.reduceLeDiff, Nat.reduceMul, Nat.reduceSub, Int.reduceBEq, Int.reduceBNe, Int.reduceToNat, Int.reduceLT, Int.reduceLE, Int.reduceGT, Int.reduceGE, Int.reduceAdd, Int.reduceSub, Int.reduceNeg, Int.reduceEq, Int.toNat_zero, Int.toNat_one, reduceIte, reduceCtorEq, ne_eq, decide_true, decide_false])
    (try (rw [List.take_of_length_le]; rotate_left 1; (· first | (simp; done) | (simp; omega) | omega)))
    have : st ≠ xt := by simpa using h
    simp [this]
  · have ht : st = xt := by simpa using h
    subst ht
    (repeat (first | simp -dsimp only [st_run, sz_run, st1_run, cl_run, st_Str, sz_Str, st1_Str, cl_Str, st_c, sz_c, st1_c, cl_c, st_wlk, sz_wlk, st1_wlk, cl_wlk, h, RB, TB, keep43, tab43, ewOp, xop, xindexAddr, xindex, xslice, xconvert, xlen, drawStep, FreeW, SameW, ChangeW, limBytes, Nat.reduceBEq, Nat.reduceAdd, Nat.reduceEqDiff, Nat.reduceLT, Nat.reduceLeDiff, Nat.reduceMul, Nat.reduceSub, Int.reduceBEq, Int.reduceBNe, Int.reduceToNat, Int.reduceLT, Int.reduceLE, Int.reduceGT, Int.reduceGE, Int.reduceAdd, Int.reduceSub, Int.reduceNeg, Int.reduceEq, Int.toNat_zero, Int.toNat_one, reduceIte, reduceCtorEq, ne_eq, decide_true, decide_false] | ((with_reducible refine Need.intro ?_ ?_); (first | trivial | omega | (simp; done) | (simp; omega)))))
    refine IfW.intro (fun h2 => ?_) (fun h2 => ?_)
    rotate_left
    · (repeat (first | simp -dsimp only [st_run, sz_run, st1_run, cl_run, st_Str, sz_Str, st1_Str, cl_Str, st_c, sz_c, st1_c, cl_c, st_wlk, sz_wlk, st1_wlk, cl_wlk, h2, RB, TB, keep43, tab43, ewOp, xop, xindexAddr, xindex, xslice, xconvert, xlen, drawStep, FreeW, SameW, ChangeW, limBytes, Nat.reduceBEq, Nat.reduceAdd, Nat.reduceEqDiff, Nat.reduceLT, Nat.reduceLeDiff, Nat.reduceMul, Nat.reduceSub, Int.reduceBEq, Int.reduceBNe, Int.reduceToNat, Int.reduceLT, Int.reduceLE, Int.reduceGT, Int.reduceGE, Int.reduceAdd, Int.reduceSub, Int.reduceNeg, Int.reduceEq, Int.toNat_zero, Int.toNat_one, reduceIte, reduceCtorEq, ne_eq, decide_true, decide_false] | ((with_reducible refine Need.intro ?_ ?_); (first | trivial | omega | (simp; done) | (simp; omega)))))
      refine RetW.auto0 false _ (by first | rfl | exact (List.append_nil _).symm) ?_ ?_
      · (simp (maxDischargeDepth := 6) [LTB, HLt_set, ltL_take, ltL_drop, ltL_rep, ltL_set, upd, eset, hH, hHk, lt_vi, lt_str, lt_vb, ltc_str, ltc_vi, lt_run, lt1_run, ltc_run, lt_Str, lt1_Str, ltc_Str, lt_c, lt1_c, ltc_c, lt_wlk, lt1_wlk, ltc_wlk, lt_tailW] <;> omega)
      (try simp only [wk, wk1, wk0, RB, limBytes, Nat.reduceBEq, Nat.reduceAdd, Nat.reduceEqDiff, Nat.reduceLT, Nat.reduceLeDiff, Nat.reduceMul, Nat.reduceSub, Int.reduceBEq, Int.reduceBNe, Int.reduceToNat, Int.reduceLT, Int.reduceLE, Int.reduceGT, Int.reduceGE, Int.reduceAdd, Int.reduceSub, Int.reduceNeg, Int.reduceEq, Int.toNat_zero, Int.toNat_one, reduceIte, reduceCtorEq, ne_eq, decide_true, decide_false])
      (try (rw [List.take_of_length_le]; rotate_left 1; (· first | (simp; done) | (simp; omega) | omega)))
      have : sr ≠ xr := by rintro rfl; simp at h2
      simp [this]
    have hlen : sr.length = xr.length := by simp at h2; omega
    (repeat (first | simp -dsimp only [st_run, sz_run, st1_run, cl_run, st_Str, sz_Str, st1_Str, cl_Str, st_c, sz_c, st1_c, cl_c, st_wlk, sz_wlk, st1_wlk, cl_wlk, h2, RB, TB, keep43, tab43, ewOp, xop, xindexAddr, xindex, xslice, xconvert, xlen, drawStep, FreeW, SameW, ChangeW, limBytes, Nat.reduceBEq, Nat.reduceAdd, Nat.reduceEqDiff, Nat.reduceLT, Nat.reduceLeDiff, Nat.reduceMul, Nat.reduceSub, Int.reduceBEq, Int.reduceBNe, Int.reduceToNat, Int.reduceLT, Int.reduceLE, Int.reduceGT, Int.reduceGE, Int.reduceAdd, Int.reduceSub, Int.reduceNeg, Int.reduceEq, Int.toNat_zero, Int.toNat_one, reduceIte, reduceCtorEq, ne_eq, decide_true, decide_false] | ((with_reducible refine Need.intro ?_ ?_); (first | trivial | omega | (simp; done) | (simp; omega)))))
    refine EWn.loopE (ι := (Nat)) (fun (i : (Nat)) => i ≤ xr.length ∧ sr.take i = xr.take i) (fun (i : (Nat)) => xr.length - i) (fun (i : (Nat)) => [(6, .int .i64 i)]) (fun (i : (Nat)) => H ++ [.var [.str st, .slice (sr.map runV)], .var [.str st, .slice (xr.map runV)]]) (0) ?_ ?_ ?_ ?_ ?_
    · first | rfl | simp [upd, eset]
    · first | rfl | (simp; done) | exact (set_same (by assumption)).symm
    · rintro i hok; exact ⟨by first | (simp; done) | (simp; omega), by (simp (maxDischargeDepth := 6) [LTB, HLt_set, ltL_take, ltL_drop, ltL_rep, ltL_set, upd, eset, hH, hHk, lt_vi, lt_str, lt_vb, ltc_str, ltc_vi, lt_run, lt1_run, ltc_run, lt_Str, lt1_Str, ltc_Str, lt_c, lt1_c, ltc_c, lt_wlk, lt1_wlk, ltc_wlk, lt_tailW] <;> omega), by (simp (maxDischargeDepth := 6) [LTB, HLt_set, ltL_take, ltL_drop, ltL_rep, ltL_set, upd, eset, hH, hHk, lt_vi, lt_str, lt_vb, ltc_str, ltc_vi, lt_run, lt1_run, ltc_run, lt_Str, lt1_Str, ltc_Str, lt_c, lt1_c, ltc_c, lt_wlk, lt1_wlk, ltc_wlk, lt_tailW] <;> omega)⟩
    · simp
    rintro i ⟨hi, hno⟩
    refine EWn.of_c Tok mixed (own := false) keep43 tab43 (by kernel_rfl) ?_
    (repeat (first | simp -dsimp only [st_run, sz_run, st1_run, cl_run, st_Str, sz_Str, st1_Str, cl_Str, st_c, sz_c, st1_c, cl_c, st_wlk, sz_wlk, st1_wlk, cl_wlk, RB, TB, keep43, tab43, ewOp, xop, xindexAddr, xindex, xslice, xconvert, xlen, drawStep, FreeW, SameW, ChangeW, limBytes, Nat.reduceBEq, Nat.reduceAdd, Nat.reduceEqDiff, Nat.reduceLT, Nat.reduceLeDiff, Nat.reduceMul, Nat.reduceSub, Int.reduceBEq, Int.reduceBNe, Int.reduceToNat, Int.reduceLT, Int.reduceLE, Int.reduceGT, Int.reduceGE, Int.reduceAdd, Int.reduceSub, Int.reduceNeg, Int.reduceEq, Int.toNat_zero, Int.toNat_one, reduceIte, reduceCtorEq, ne_eq, decide_true, decide_false] | ((with_reducible refine Need.intro ?_ ?_); (first | trivial | omega | (simp; done) | (simp; omega)))))
    refine IfW.intro (fun h1 => ?_) (fun h1 => ?_)
    · have hlt := lt_of h1
      have hlt' : i < sr.length := by omega
      (repeat (first | simp -dsimp only [st_run, sz_run, st1_run, cl_run, st_Str, sz_Str, st1_Str, cl_Str, st_c, sz_c, st1_c, cl_c, st_wlk, sz_wlk, st1_wlk, cl_wlk, h1, at_map runV sr i hlt', at_map runV xr i hlt, runV, RB, TB, keep43, tab43, ewOp, xop, xindexAddr, xindex, xslice, xconvert, xlen, drawStep, FreeW, SameW, ChangeW, limBytes, Nat.reduceBEq, Nat.reduceAdd, Nat.reduceEqDiff, Nat.reduceLT, Nat.reduceLeDiff, Nat.reduceMul, Nat.reduceSub, Int.reduceBEq, Int.reduceBNe, Int.reduceToNat, Int.reduceLT, Int.reduceLE, Int.reduceGT, Int.reduceGE, Int.reduceAdd, Int.reduceSub, Int.reduceNeg, Int.reduceEq, Int.toNat_zero, Int.toNat_one, reduceIte, reduceCtorEq, ne_eq, decide_true, decide_false] | ((with_reducible refine Need.intro ?_ ?_); (first | trivial | omega | (simp; done) | (simp; omega)))))
      refine IfW.intro (fun hb => ?_) (fun hb => ?_)
      · (repeat (first | simp -dsimp only [st_run, sz_run, st1_run, cl_run, st_Str, sz_Str, st1_Str, cl_Str, st_c, sz_c, st1_c, cl_c, st_wlk, sz_wlk, st1_wlk, cl_wlk, hb, RB, TB, keep43, tab43, ewOp, xop, xindexAddr, xindex, xslice, xconvert, xlen, drawStep, FreeW, SameW, ChangeW, limBytes, Nat.reduceBEq, Nat.reduceAdd, Nat.reduceEqDiff, Nat.reduceLT, Nat.reduceLeDiff, Nat.reduceMul, Nat.reduceSub, Int.reduceBEq, Int.reduceBNe, Int.reduceToNat, Int.reduceLT, Int.reduceLE, Int.reduceGT, Int.reduceGE, Int.reduceAdd, Int.reduceSub, Int.reduceNeg, Int.reduceEq, Int.toNat_zero, Int.toNat_one, reduceIte, reduceCtorEq, ne_eq, decide_true, decide_false] | ((with_reducible refine Need.intro ?_ ?_); (first | trivial | omega | (simp; done) | (simp; omega)))))
        rw [wrapI (by omega)]
        have hb : sr[i] = xr[i] := by simp at hb; exact Prod.ext hb.1 hb.2
        refine UpTo.here ⟨(i + 1), ?_, by first | omega | (simp only [List.length_append, List.length_cons, List.length_nil]; omega), by simp [upd, eset], ⟨_, by simp; try rfl⟩⟩
        exact ⟨hlt, by rw [List.take_succ_eq_append_getElem hlt, List.take_succ_eq_append_getElem hlt', hno, hb]⟩
      · (repeat (first | simp -dsimp only [st_run, sz_run, st1_run, cl_run, st_Str, sz_Str, st1_Str, cl_Str, st_c, sz_c, st1_c, cl_c, st_wlk, sz_wlk, st1_wlk, cl_wlk, hb, RB, TB, keep43, tab43, ewOp, xop, xindexAddr, xindex, xslice, xconvert, xlen, drawStep, FreeW, SameW, ChangeW, limBytes, Nat.reduceBEq, Nat.reduceAdd, Nat.reduceEqDiff, Nat.reduceLT, Nat.reduceLeDiff, Nat.reduceMul, Nat.reduceSub, Int.reduceBEq, Int.reduceBNe, Int.reduceToNat, Int.reduceLT, Int.reduceLE, Int.reduceGT, Int.reduceGE, Int.reduceAdd, Int.reduceSub, Int.reduceNeg, Int.reduceEq, Int.toNat_zero, Int.toNat_one, reduceIte, reduceCtorEq, ne_eq, decide_true, decide_false] | ((with_reducible refine Need.intro ?_ ?_); (first | trivial | omega | (simp; done) | (simp; omega)))))
        refine RetW.auto0 false _ (by first | rfl | exact (List.append_nil _).symm) ?_ ?_
        · (simp (maxDischargeDepth := 6) [LTB, HLt_set, ltL_take, ltL_drop, ltL_rep, ltL_set, upd, eset, hH, hHk, lt_vi, lt_str, lt_vb, ltc_str, ltc_vi, lt_run, lt1_run, ltc_run, lt_Str, lt1_Str, ltc_Str, lt_c, lt1_c, ltc_c, lt_wlk, lt1_wlk, ltc_wlk, lt_tailW] <;> omega)
        (try simp only [wk, wk1, wk0, RB, limBytes, Nat.reduceBEq, Nat.reduceAdd, Nat.reduceEqDiff, Nat.reduceLT, Nat.reduceLeDiff, Nat.reduceMul, Nat.reduceSub, Int.reduceBEq, Int.reduceBNe, Int.reduceToNat, Int.reduceLT, Int.reduceLE, Int.reduceGT, Int.reduceGE, Int.reduceAdd, Int.reduceSub, Int.reduceNeg, Int.reduceEq, Int.toNat_zero, Int.toNat_one, reduceIte, reduceCtorEq, ne_eq, decide_true, decide_false])
        (try (rw [List.take_of_length_le]; rotate_left 1; (· first | (simp; done) | (simp; omega) | omega)))
        have : sr ≠ xr := by rintro rfl; simp at hb
        simp [this]
    · (repeat (first | simp -dsimp only [st_run, sz_run, st1_run, cl_run, st_Str, sz_Str, st1_Str, cl_Str, st_c, sz_c, st1_c, cl_c, st_wlk, sz_wlk, st1_wlk, cl_wlk, h1, RB, TB, keep43, tab43, ewOp, xop, xindexAddr, xindex, xslice, xconvert, xlen, drawStep, FreeW, SameW, ChangeW, limBytes, Nat.reduceBEq, Nat.reduceAdd, Nat.reduceEqDiff, Nat.reduceLT, Nat.reduceLeDiff, Nat.reduceMul, Nat.reduceSub, Int.reduceBEq, Int.reduceBNe, Int.reduceToNat, Int.reduceLT, Int.reduceLE, Int.reduceGT, Int.reduceGE, Int.reduceAdd, Int.reduceSub, Int.reduceNeg, Int.reduceEq, Int.toNat_zero, Int.toNat_one, reduceIte, reduceCtorEq, ne_eq, decide_true, decide_false] | ((with_reducible refine Need.intro ?_ ?_); (first | trivial | omega | (simp; done) | (simp; omega)))))
      have hge := ge_of h1
      rw [List.take_of_length_le hge, List.take_of_length_le (by omega)] at hno
      refine RetW.auto0 false _ (by first | rfl | exact (List.append_nil _).symm) ?_ ?_
      · (simp (maxDischargeDepth := 6) [LTB, HLt_set, ltL_take, ltL_drop, ltL_rep, ltL_set, upd, eset, hH, hHk, lt_vi, lt_str, lt_vb, ltc_str, ltc_vi, lt_run, lt1_run, ltc_run, lt_Str, lt1_Str, ltc_Str, lt_c, lt1_c, ltc_c, lt_wlk, lt1_wlk, ltc_wlk, lt_tailW] <;> omega)
      (try simp only [wk, wk1, wk0, RB, limBytes, Nat.reduceBEq, Nat.reduceAdd, Nat.reduceEqDiff, Nat.reduceLT, Nat.reduceLeDiff, Nat.reduceMul, Nat.reduceSub, Int.reduceBEq, Int.reduceBNe, Int.reduceToNat, Int.reduceLT, Int.reduceLE, Int.reduceGT, Int.reduceGE, Int.reduceAdd, Int.reduceSub, Int.reduceNeg, Int.reduceEq, Int.toNat_zero, Int.toNat_one, reduceIte, reduceCtorEq, ne_eq, decide_true, decide_false])
      (try (rw [List.take_of_length_le]; rotate_left 1; (· first | (simp; done) | (simp; omega) | omega)))
      simp [hno]
end Go.Proofs.Ytjhjcldpcngldaa

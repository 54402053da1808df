/- The walks of the law of trees: told, count, small. -/
import Derived.Test.YtjhjcldpcngldaaTree5
import Derived.Test.YtjhjcldpcngldaaTree3
set_option linter.unusedSimpArgs false
set_option linter.unusedVariables false
set_option maxRecDepth 100000
namespace Go.Proofs.Ytjhjcldpcngldaa
open Go Go.EL
def lettersF (l : List (Tree × Int)) : List (UInt8 × Int) := l.flatMap fun a => ofS a.1.text
theorem lettersF_app (a b : List (Tree × Int)) : lettersF (a ++ b) = lettersF a ++ lettersF b := by simp [lettersF]
theorem letters_words : ∀ l : List (Tree × Int), (lettersF l).length = ((wordsF l).flatMap Str.text).length
  | [] => rfl
  | a :: l => by
    have := letters_words l
    simp only [lettersF, wordsF, List.flatMap_cons, List.length_append, List.map_cons, ofS_len] at this ⊢
    omega
theorem letters_len (l : List Tree) (d : Int) : (lettersF (visL l d)).length ≤ szTs l := by
  rw [letters_words]
  exact Nat.le_trans (words_flat _) (words_szL l d)
theorem depF_max : ∀ (l : List (Tree × Int)) (m : Int), 0 ≤ m → depF l m = max m (depF l 0)
  | [], m, h => by simp [depF]; omega
  | a :: l, m, h => by
    simp only [depF]
    split
    · rw [depF_max l (max m a.2) (by omega), depF_max l (max 0 a.2) (by omega)]; omega
    · exact depF_max l m h
theorem depF_pos : ∀ (l : List (Tree × Int)) (m : Int), 0 ≤ m → 0 ≤ depF l m
  | [], m, h => h
  | a :: l, m, h => by
    simp only [depF]
    split
    · exact depF_pos l _ (by omega)
    · exact depF_pos l m h
mutual
theorem depK_le : ∀ (t : Tree) (d m : Int), m ≤ 1000000000 → 0 ≤ d → d + szT t ≤ 1000000000 → depF (visK t d) m ≤ 1000000000
  | .mk tag attrs kids text, d, m, h1, h2, h3 => by
    rw [visK]
    rw [szT] at h3
    exact depL_le kids (d + 1) m h1 (by omega) (by omega)
theorem depL_le : ∀ (l : List Tree) (d m : Int), m ≤ 1000000000 → 0 ≤ d → d + szTs l ≤ 1000000000 → depF (visL l d) m ≤ 1000000000
  | [], d, m, h1, h2, h3 => by simp only [visL, depF]; exact h1
  | t :: l, d, m, h1, h2, h3 => by
    rw [szTs] at h3
    simp only [visL, depF, depF_append]
    refine depL_le l d _ (depK_le t d _ ?_ h2 (by omega)) h2 (by omega)
    split <;> omega
end
set_option maxHeartbeats 4000000 in
theorem toldW : ∀ (n : Nat) (l : List Tree) (d : Int), szTs l ≤ n → szTs l ≤ 300000000 → 0 ≤ d → d + szTs l ≤ 1000000000 → ∀ H : List Ob, SCall Try.prog 38 [.slice (l.map treeV), .int .i64 d] H (fun r H' => r = .tuple [.int .i64 (visL l d).length, .int .i64 (depF (visL l d) 0), .slice ((lettersF (visL l d)).map cV), .slice ((tagsF (visL l d)).map V.str)] ∧ H' = H) := by
  intro n
  induction n with
  | zero =>
    intro l d h _ _ _ H
    have h0 : l = [] := List.eq_nil_of_length_eq_zero (by have := sz_len l; omega)
    subst h0
    refine SCall.of_good fun hH => ?_
    have hHk := HLt.add hH
    refine SCall.of_code Tok Try.func38 rfl Try.call38 (n := 79) rfl (by simp) (rs := [.tmp 4, .tmp 5, .tmp 6, .tmp 7]) rfl ?_
    refine EWn.to ?_
    refine EWn.of_c Tok mixed (own := false) keep38 tab38 (by kernel_rfl) ?_
    (repeat (first | simp -dsimp only [st_run, sz_run, st1_run, cl_run, st_Str, sz_Str, st1_Str, cl_Str, st_c, sz_c, st1_c, cl_c, st_attr, sz_attr, st1_attr, cl_attr, st_tree, sz_tree, st1_tree, cl_tree, RB, TB, keep38, tab38, ewOp, xop, xindexAddr, xindex, xslice, xconvert, xlen, drawStep, FreeW, StabW, isStab, SameW, ChangeW, limBytes, Nat.reduceBEq, Nat.reduceAdd, Nat.reduceEqDiff, Nat.reduceLT, Nat.reduceLeDiff, Nat.reduceMul, Nat.reduceSub, Int.reduceBEq, Int.reduceBNe, Int.reduceToNat, Int.reduceLT, Int.reduceLE, Int.reduceGT, Int.reduceGE, Int.reduceAdd, Int.reduceSub, Int.reduceNeg, Int.reduceEq, Int.toNat_zero, Int.toNat_one, reduceIte, reduceCtorEq, ne_eq, decide_true, decide_false] | ((with_reducible refine Need.intro ?_ ?_); (first | trivial | omega | (simp; done) | (simp; omega)))))
    refine EWn.rounds 1 ?_
    show EWn _ _ _ _ _ _ _
    refine EWn.of_c Tok mixed (own := false) keep38 tab38 (by kernel_rfl) ?_
    (repeat (first | simp -dsimp only [st_run, sz_run, st1_run, cl_run, st_Str, sz_Str, st1_Str, cl_Str, st_c, sz_c, st1_c, cl_c, st_attr, sz_attr, st1_attr, cl_attr, st_tree, sz_tree, st1_tree, cl_tree, RB, TB, keep38, tab38, ewOp, xop, xindexAddr, xindex, xslice, xconvert, xlen, drawStep, FreeW, StabW, isStab, SameW, ChangeW, limBytes, Nat.reduceBEq, Nat.reduceAdd, Nat.reduceEqDiff, Nat.reduceLT, Nat.reduceLeDiff, Nat.reduceMul, Nat.reduceSub, Int.reduceBEq, Int.reduceBNe, Int.reduceToNat, Int.reduceLT, Int.reduceLE, Int.reduceGT, Int.reduceGE, Int.reduceAdd, Int.reduceSub, Int.reduceNeg, Int.reduceEq, Int.toNat_zero, Int.toNat_one, reduceIte, reduceCtorEq, ne_eq, decide_true, decide_false] | ((with_reducible refine Need.intro ?_ ?_); (first | trivial | omega | (simp; done) | (simp; omega)))))
    refine RetW.auto0 false _ (by first | rfl | exact (List.append_nil _).symm) ?_ ?_
    · (simp (maxDischargeDepth := 6) [LTB, HLt_set, ltL_take, ltL_drop, ltL_rep, ltL_set, upd, eset, hH, hHk, lt_vi, lt_str, lt_vb, ltc_str, ltc_vi, lt_run, lt1_run, ltc_run, lt_Str, lt1_Str, ltc_Str, lt_c, lt1_c, ltc_c, lt_attr, lt1_attr, ltc_attr, lt_tree, lt1_tree, ltc_tree] <;> omega)
    (try simp only [wk, wk1, wk0, RB, limBytes, Nat.reduceBEq, Nat.reduceAdd, Nat.reduceEqDiff, Nat.reduceLT, Nat.reduceLeDiff, Nat.reduceMul, Nat.reduceSub, Int.reduceBEq, Int.reduceBNe, Int.reduceToNat, Int.reduceLT, Int.reduceLE, Int.reduceGT, Int.reduceGE, Int.reduceAdd, Int.reduceSub, Int.reduceNeg, Int.reduceEq, Int.toNat_zero, Int.toNat_one, reduceIte, reduceCtorEq, ne_eq, decide_true, decide_false])
    (try (rw [List.take_of_length_le]; rotate_left 1; (· first | (simp; done) | (simp; omega) | omega)))
    simp [visL, depF, lettersF, tagsF]
  | succ n ih =>
    intro l d hn hb hd hdb H
    have hll := sz_len l
    refine SCall.of_good fun hH => ?_
    have hHk := HLt.add hH
    refine SCall.of_code Tok Try.func38 rfl Try.call38 (n := 79) rfl (by simp) (rs := [.tmp 4, .tmp 5, .tmp 6, .tmp 7]) rfl ?_
    refine EWn.to ?_
    refine EWn.of_c Tok mixed (own := false) keep38 tab38 (by kernel_rfl) ?_
    (repeat (first | simp -dsimp only [st_run, sz_run, st1_run, cl_run, st_Str, sz_Str, st1_Str, cl_Str, st_c, sz_c, st1_c, cl_c, st_attr, sz_attr, st1_attr, cl_attr, st_tree, sz_tree, st1_tree, cl_tree, RB, TB, keep38, tab38, ewOp, xop, xindexAddr, xindex, xslice, xconvert, xlen, drawStep, FreeW, StabW, isStab, SameW, ChangeW, limBytes, Nat.reduceBEq, Nat.reduceAdd, Nat.reduceEqDiff, Nat.reduceLT, Nat.reduceLeDiff, Nat.reduceMul, Nat.reduceSub, Int.reduceBEq, Int.reduceBNe, Int.reduceToNat, Int.reduceLT, Int.reduceLE, Int.reduceGT, Int.reduceGE, Int.reduceAdd, Int.reduceSub, Int.reduceNeg, Int.reduceEq, Int.toNat_zero, Int.toNat_one, reduceIte, reduceCtorEq, ne_eq, decide_true, decide_false] | ((with_reducible refine Need.intro ?_ ?_); (first | trivial | omega | (simp; done) | (simp; omega)))))
    refine EWn.ghost (Gho.adopt 11 1 rfl) ?_
    simp only [RB, limBytes, Nat.reduceBEq, Nat.reduceAdd, Nat.reduceEqDiff, Nat.reduceLT, Nat.reduceLeDiff, Nat.reduceMul, Nat.reduceSub, Int.reduceBEq, Int.reduceBNe, Int.reduceToNat, Int.reduceLT, Int.reduceLE, Int.reduceGT, Int.reduceGE, Int.reduceAdd, Int.reduceSub, Int.reduceNeg, Int.reduceEq, Int.toNat_zero, Int.toNat_one, reduceIte, reduceCtorEq, ne_eq, decide_true, decide_false]
    refine EWn.ghost (Gho.weakEnv (env' := [(0, .slice (l.map treeV)), (1, .int .i64 d), (8, .int .i64 0), (9, .int .i64 0), (10, .slice []), (11, .vec H.length 1 0 0), (12, .int .i64 0)]) (by simp only [EnvG, All2]; refine ⟨⟨trivial, .inr ?_⟩, ⟨trivial, .inr ?_⟩, ⟨trivial, .inr ?_⟩, ⟨trivial, .inr ?_⟩, ⟨trivial, .inr ?_⟩, ⟨trivial, .inr ?_⟩, ⟨trivial, .inr ?_⟩, trivial⟩; all_goals first | exact .inl (.inl (.inl rfl)) | exact .inl (.inl (.inr ⟨_, rfl, rfl⟩)))) ?_
    refine EWn.loopE (ι := (Nat) × (Nat)) (fun (x_ : (Nat) × (Nat)) => match x_ with | (i, ver) => i ≤ l.length) (fun (x_ : (Nat) × (Nat)) => match x_ with | (i, ver) => l.length - i) (fun (x_ : (Nat) × (Nat)) => match x_ with | (i, ver) => [(8, .int .i64 (visL (l.take i) d).length), (9, .int .i64 (depF (visL (l.take i) d) 0)), (10, .slice ((lettersF (visL (l.take i) d)).map cV)), (11, .vec H.length ver 0 (tagsF (visL (l.take i) d)).length), (12, .int .i64 i)]) (fun (x_ : (Nat) × (Nat)) => match x_ with | (i, ver) => H ++ [.vec ver 1 ((tagsF (visL (l.take i) d)).map V.str)]) (0, 1) ?_ ?_ ?_ ?_ ?_
    · first | rfl | (simp [upd, eset]; done) | (simp [upd, eset, visL, depF, lettersF, tagsF]; done)
    · simp [visL, depF, lettersF, tagsF]
    · rintro ⟨i, ver⟩ hok; exact ⟨by first | (simp; done) | (simp; omega), by (simp (maxDischargeDepth := 6) [LTB, HLt_set, ltL_take, ltL_drop, ltL_rep, ltL_set, upd, eset, hH, hHk, lt_vi, lt_str, lt_vb, ltc_str, ltc_vi, lt_run, lt1_run, ltc_run, lt_Str, lt1_Str, ltc_Str, lt_c, lt1_c, ltc_c, lt_attr, lt1_attr, ltc_attr, lt_tree, lt1_tree, ltc_tree] <;> omega), by (simp (maxDischargeDepth := 6) [LTB, HLt_set, ltL_take, ltL_drop, ltL_rep, ltL_set, upd, eset, hH, hHk, lt_vi, lt_str, lt_vb, ltc_str, ltc_vi, lt_run, lt1_run, ltc_run, lt_Str, lt1_Str, ltc_Str, lt_c, lt1_c, ltc_c, lt_attr, lt1_attr, ltc_attr, lt_tree, lt1_tree, ltc_tree] <;> omega)⟩
    · omega
    rintro ⟨i, ver⟩ hi
    have hbt := szTs_take l i
    have b1 := visL_len (l.take i) d
    have b2 := letters_len (l.take i) d
    have b3 := depL_le (l.take i) d 0 (by omega) hd (by omega)
    have b4 := depF_pos (visL (l.take i) d) 0 (Int.le_refl _)
    have b5 := tagsF_len (visL (l.take i) d)
    refine EWn.of_c Tok mixed (own := false) keep38 tab38 (by kernel_rfl) ?_
    (repeat (first | simp -dsimp only [st_run, sz_run, st1_run, cl_run, st_Str, sz_Str, st1_Str, cl_Str, st_c, sz_c, st1_c, cl_c, st_attr, sz_attr, st1_attr, cl_attr, st_tree, sz_tree, st1_tree, cl_tree, RB, TB, keep38, tab38, ewOp, xop, xindexAddr, xindex, xslice, xconvert, xlen, drawStep, FreeW, StabW, isStab, SameW, ChangeW, limBytes, Nat.reduceBEq, Nat.reduceAdd, Nat.reduceEqDiff, Nat.reduceLT, Nat.reduceLeDiff, Nat.reduceMul, Nat.reduceSub, Int.reduceBEq, Int.reduceBNe, Int.reduceToNat, Int.reduceLT, Int.reduceLE, Int.reduceGT, Int.reduceGE, Int.reduceAdd, Int.reduceSub, Int.reduceNeg, Int.reduceEq, Int.toNat_zero, Int.toNat_one, reduceIte, reduceCtorEq, ne_eq, decide_true, decide_false] | ((with_reducible refine Need.intro ?_ ?_); (first | trivial | omega | (simp; done) | (simp; omega)))))
    refine IfW.intro (fun h => ?_) (fun h => ?_)
    · have hlt := lt_of h
      have hsucc := visL_succ hlt d
      have hsz := szT_eq l[i]
      have hszl := szTs_mem (List.getElem_mem hlt)
      have hok2 : okS l[i].text := okS_sz' (by omega)
      have c1 := visL_len l[i].kids (d + 1)
      have c2 := letters_len l[i].kids (d + 1)
      have c5 := tagsF_len (visL l[i].kids (d + 1))
      have c4 := depF_pos (visL l[i].kids (d + 1)) 0 (Int.le_refl _)
      have hte := treeV_eq l[i]
      have hie := isE_beq l[i]
      have htl : (ofS l[i].text).length ≤ szT l[i] := by
        rw [ofS_len]; unfold szS' at hsz; omega
      have hsz2 : szTs (l.take i) + szT l[i] ≤ szTs l := by
        have := szTs_take l (i + 1)
        rw [List.take_succ_eq_append_getElem hlt, szTs_append] at this
        simp only [szTs] at this
        omega
      unfold szS' at hsz
      (repeat (first | simp -dsimp only [st_run, sz_run, st1_run, cl_run, st_Str, sz_Str, st1_Str, cl_Str, st_c, sz_c, st1_c, cl_c, st_attr, sz_attr, st1_attr, cl_attr, st_tree, sz_tree, st1_tree, cl_tree, h, at_map treeV l i hlt, hte, RB, TB, keep38, tab38, ewOp, xop, xindexAddr, xindex, xslice, xconvert, xlen, drawStep, FreeW, StabW, isStab, SameW, ChangeW, limBytes, Nat.reduceBEq, Nat.reduceAdd, Nat.reduceEqDiff, Nat.reduceLT, Nat.reduceLeDiff, Nat.reduceMul, Nat.reduceSub, Int.reduceBEq, Int.reduceBNe, Int.reduceToNat, Int.reduceLT, Int.reduceLE, Int.reduceGT, Int.reduceGE, Int.reduceAdd, Int.reduceSub, Int.reduceNeg, Int.reduceEq, Int.toNat_zero, Int.toNat_one, reduceIte, reduceCtorEq, ne_eq, decide_true, decide_false] | ((with_reducible refine Need.intro ?_ ?_); (first | trivial | omega | (simp; done) | (simp; omega)))))
      rw [wrapI (by omega)]
      (first | refine SCall.then (ih l[i].kids (d + 1) (by omega) (by omega) (by omega) (by omega) _) ?_ | refine SCall.thenA (ih l[i].kids (d + 1) (by omega) (by omega) (by omega) (by omega) _) (by repeat (first | exact trivial | exact .inl (.inl rfl) | exact .inl (.inr ⟨_, rfl, rfl⟩) | exact .inl rfl | exact .inr ⟨_, rfl, rfl⟩ | refine .inr ⟨_, _, rfl, rfl, ?_⟩ | refine ⟨?_, ?_⟩)) ?_ | refine CallE.intro _ (ih l[i].kids (d + 1) (by omega) (by omega) (by omega) (by omega) _) ?_ | refine CallE.introA (ih l[i].kids (d + 1) (by omega) (by omega) (by omega) (by omega) _) (by repeat (first | exact trivial | exact .inl (.inl rfl) | exact .inl (.inr ⟨_, rfl, rfl⟩) | exact .inl rfl | exact .inr ⟨_, rfl, rfl⟩ | refine .inr ⟨_, _, rfl, rfl, ?_⟩ | refine ⟨?_, ?_⟩)) ?_ | refine CallE.intro _ (fun _ => ih l[i].kids (d + 1) (by omega) (by omega) (by omega) (by omega) _) ?_ | refine CallE.intro _ (fun _ => SCall.arg (by repeat (first | exact trivial | exact .inl (.inl rfl) | exact .inl (.inr ⟨_, rfl, rfl⟩) | exact .inl rfl | exact .inr ⟨_, rfl, rfl⟩ | refine .inr ⟨_, _, rfl, rfl, ?_⟩ | refine ⟨?_, ?_⟩)) (ih l[i].kids (d + 1) (by omega) (by omega) (by omega) (by omega) _)) ?_ | refine CallE2.intro _ _ (ih l[i].kids (d + 1) (by omega) (by omega) (by omega) (by omega) _) ?_ | refine CallE2.intro _ _ (SCall.arg (by repeat (first | exact trivial | exact .inl (.inl rfl) | exact .inl (.inr ⟨_, rfl, rfl⟩) | exact .inl rfl | exact .inr ⟨_, rfl, rfl⟩ | refine .inr ⟨_, _, rfl, rfl, ?_⟩ | refine ⟨?_, ?_⟩)) (ih l[i].kids (d + 1) (by omega) (by omega) (by omega) (by omega) _)) ?_)
      (repeat (first | simp -dsimp only [st_run, sz_run, st1_run, cl_run, st_Str, sz_Str, st1_Str, cl_Str, st_c, sz_c, st1_c, cl_c, st_attr, sz_attr, st1_attr, cl_attr, st_tree, sz_tree, st1_tree, cl_tree, at_map treeV l i hlt, hte, RB, TB, keep38, tab38, ewOp, xop, xindexAddr, xindex, xslice, xconvert, xlen, drawStep, FreeW, StabW, isStab, SameW, ChangeW, limBytes, Nat.reduceBEq, Nat.reduceAdd, Nat.reduceEqDiff, Nat.reduceLT, Nat.reduceLeDiff, Nat.reduceMul, Nat.reduceSub, Int.reduceBEq, Int.reduceBNe, Int.reduceToNat, Int.reduceLT, Int.reduceLE, Int.reduceGT, Int.reduceGE, Int.reduceAdd, Int.reduceSub, Int.reduceNeg, Int.reduceEq, Int.toNat_zero, Int.toNat_one, reduceIte, reduceCtorEq, ne_eq, decide_true, decide_false] | ((with_reducible refine Need.intro ?_ ?_); (first | trivial | omega | (simp; done) | (simp; omega)))))
      rw [wrapI (x := ((visL (l.take i) d).length : Int) + 1) (by omega), wrapI (x := ((visL (l.take i) d).length : Int) + 1 + _) (by omega)]
      (first | refine SCall.then (rOf _ l[i].text hok2) ?_ | refine SCall.thenA (rOf _ l[i].text hok2) (by repeat (first | exact trivial | exact .inl (.inl rfl) | exact .inl (.inr ⟨_, rfl, rfl⟩) | exact .inl rfl | exact .inr ⟨_, rfl, rfl⟩ | refine .inr ⟨_, _, rfl, rfl, ?_⟩ | refine ⟨?_, ?_⟩)) ?_ | refine CallE.intro _ (rOf _ l[i].text hok2) ?_ | refine CallE.introA (rOf _ l[i].text hok2) (by repeat (first | exact trivial | exact .inl (.inl rfl) | exact .inl (.inr ⟨_, rfl, rfl⟩) | exact .inl rfl | exact .inr ⟨_, rfl, rfl⟩ | refine .inr ⟨_, _, rfl, rfl, ?_⟩ | refine ⟨?_, ?_⟩)) ?_ | refine CallE.intro _ (fun _ => rOf _ l[i].text hok2) ?_ | refine CallE.intro _ (fun _ => SCall.arg (by repeat (first | exact trivial | exact .inl (.inl rfl) | exact .inl (.inr ⟨_, rfl, rfl⟩) | exact .inl rfl | exact .inr ⟨_, rfl, rfl⟩ | refine .inr ⟨_, _, rfl, rfl, ?_⟩ | refine ⟨?_, ?_⟩)) (rOf _ l[i].text hok2)) ?_ | refine CallE2.intro _ _ (rOf _ l[i].text hok2) ?_ | refine CallE2.intro _ _ (SCall.arg (by repeat (first | exact trivial | exact .inl (.inl rfl) | exact .inl (.inr ⟨_, rfl, rfl⟩) | exact .inl rfl | exact .inr ⟨_, rfl, rfl⟩ | refine .inr ⟨_, _, rfl, rfl, ?_⟩ | refine ⟨?_, ?_⟩)) (rOf _ l[i].text hok2)) ?_)
      (repeat (first | simp -dsimp only [st_run, sz_run, st1_run, cl_run, st_Str, sz_Str, st1_Str, cl_Str, st_c, sz_c, st1_c, cl_c, st_attr, sz_attr, st1_attr, cl_attr, st_tree, sz_tree, st1_tree, cl_tree, RB, TB, keep38, tab38, ewOp, xop, xindexAddr, xindex, xslice, xconvert, xlen, drawStep, FreeW, StabW, isStab, SameW, ChangeW, limBytes, Nat.reduceBEq, Nat.reduceAdd, Nat.reduceEqDiff, Nat.reduceLT, Nat.reduceLeDiff, Nat.reduceMul, Nat.reduceSub, Int.reduceBEq, Int.reduceBNe, Int.reduceToNat, Int.reduceLT, Int.reduceLE, Int.reduceGT, Int.reduceGE, Int.reduceAdd, Int.reduceSub, Int.reduceNeg, Int.reduceEq, Int.toNat_zero, Int.toNat_one, reduceIte, reduceCtorEq, ne_eq, decide_true, decide_false] | ((with_reducible refine Need.intro ?_ ?_); (first | trivial | omega | (simp; done) | (simp; omega)))))
      (first | refine SCall.then (rCat _ (lettersF (visL (l.take i) d)) (ofS l[i].text) (by omega)) ?_ | refine SCall.thenA (rCat _ (lettersF (visL (l.take i) d)) (ofS l[i].text) (by omega)) (by repeat (first | exact trivial | exact .inl (.inl rfl) | exact .inl (.inr ⟨_, rfl, rfl⟩) | exact .inl rfl | exact .inr ⟨_, rfl, rfl⟩ | refine .inr ⟨_, _, rfl, rfl, ?_⟩ | refine ⟨?_, ?_⟩)) ?_ | refine CallE.intro _ (rCat _ (lettersF (visL (l.take i) d)) (ofS l[i].text) (by omega)) ?_ | refine CallE.introA (rCat _ (lettersF (visL (l.take i) d)) (ofS l[i].text) (by omega)) (by repeat (first | exact trivial | exact .inl (.inl rfl) | exact .inl (.inr ⟨_, rfl, rfl⟩) | exact .inl rfl | exact .inr ⟨_, rfl, rfl⟩ | refine .inr ⟨_, _, rfl, rfl, ?_⟩ | refine ⟨?_, ?_⟩)) ?_ | refine CallE.intro _ (fun _ => rCat _ (lettersF (visL (l.take i) d)) (ofS l[i].text) (by omega)) ?_ | refine CallE.intro _ (fun _ => SCall.arg (by repeat (first | exact trivial | exact .inl (.inl rfl) | exact .inl (.inr ⟨_, rfl, rfl⟩) | exact .inl rfl | exact .inr ⟨_, rfl, rfl⟩ | refine .inr ⟨_, _, rfl, rfl, ?_⟩ | refine ⟨?_, ?_⟩)) (rCat _ (lettersF (visL (l.take i) d)) (ofS l[i].text) (by omega))) ?_ | refine CallE2.intro _ _ (rCat _ (lettersF (visL (l.take i) d)) (ofS l[i].text) (by omega)) ?_ | refine CallE2.intro _ _ (SCall.arg (by repeat (first | exact trivial | exact .inl (.inl rfl) | exact .inl (.inr ⟨_, rfl, rfl⟩) | exact .inl rfl | exact .inr ⟨_, rfl, rfl⟩ | refine .inr ⟨_, _, rfl, rfl, ?_⟩ | refine ⟨?_, ?_⟩)) (rCat _ (lettersF (visL (l.take i) d)) (ofS l[i].text) (by omega))) ?_)
      (repeat (first | simp -dsimp only [st_run, sz_run, st1_run, cl_run, st_Str, sz_Str, st1_Str, cl_Str, st_c, sz_c, st1_c, cl_c, st_attr, sz_attr, st1_attr, cl_attr, st_tree, sz_tree, st1_tree, cl_tree, RB, TB, keep38, tab38, ewOp, xop, xindexAddr, xindex, xslice, xconvert, xlen, drawStep, FreeW, StabW, isStab, SameW, ChangeW, limBytes, Nat.reduceBEq, Nat.reduceAdd, Nat.reduceEqDiff, Nat.reduceLT, Nat.reduceLeDiff, Nat.reduceMul, Nat.reduceSub, Int.reduceBEq, Int.reduceBNe, Int.reduceToNat, Int.reduceLT, Int.reduceLE, Int.reduceGT, Int.reduceGE, Int.reduceAdd, Int.reduceSub, Int.reduceNeg, Int.reduceEq, Int.toNat_zero, Int.toNat_one, reduceIte, reduceCtorEq, ne_eq, decide_true, decide_false] | ((with_reducible refine Need.intro ?_ ?_); (first | trivial | omega | (simp; done) | (simp; omega)))))
      (first | refine SCall.then (rCat _ (lettersF (visL (l.take i) d) ++ ofS l[i].text) (lettersF (visL l[i].kids (d + 1))) (by rw [List.length_append]; omega)) ?_ | refine SCall.thenA (rCat _ (lettersF (visL (l.take i) d) ++ ofS l[i].text) (lettersF (visL l[i].kids (d + 1))) (by rw [List.length_append]; omega)) (by repeat (first | exact trivial | exact .inl (.inl rfl) | exact .inl (.inr ⟨_, rfl, rfl⟩) | exact .inl rfl | exact .inr ⟨_, rfl, rfl⟩ | refine .inr ⟨_, _, rfl, rfl, ?_⟩ | refine ⟨?_, ?_⟩)) ?_ | refine CallE.intro _ (rCat _ (lettersF (visL (l.take i) d) ++ ofS l[i].text) (lettersF (visL l[i].kids (d + 1))) (by rw [List.length_append]; omega)) ?_ | refine CallE.introA (rCat _ (lettersF (visL (l.take i) d) ++ ofS l[i].text) (lettersF (visL l[i].kids (d + 1))) (by rw [List.length_append]; omega)) (by repeat (first | exact trivial | exact .inl (.inl rfl) | exact .inl (.inr ⟨_, rfl, rfl⟩) | exact .inl rfl | exact .inr ⟨_, rfl, rfl⟩ | refine .inr ⟨_, _, rfl, rfl, ?_⟩ | refine ⟨?_, ?_⟩)) ?_ | refine CallE.intro _ (fun _ => rCat _ (lettersF (visL (l.take i) d) ++ ofS l[i].text) (lettersF (visL l[i].kids (d + 1))) (by rw [List.length_append]; omega)) ?_ | refine CallE.intro _ (fun _ => SCall.arg (by repeat (first | exact trivial | exact .inl (.inl rfl) | exact .inl (.inr ⟨_, rfl, rfl⟩) | exact .inl rfl | exact .inr ⟨_, rfl, rfl⟩ | refine .inr ⟨_, _, rfl, rfl, ?_⟩ | refine ⟨?_, ?_⟩)) (rCat _ (lettersF (visL (l.take i) d) ++ ofS l[i].text) (lettersF (visL l[i].kids (d + 1))) (by rw [List.length_append]; omega))) ?_ | refine CallE2.intro _ _ (rCat _ (lettersF (visL (l.take i) d) ++ ofS l[i].text) (lettersF (visL l[i].kids (d + 1))) (by rw [List.length_append]; omega)) ?_ | refine CallE2.intro _ _ (SCall.arg (by repeat (first | exact trivial | exact .inl (.inl rfl) | exact .inl (.inr ⟨_, rfl, rfl⟩) | exact .inl rfl | exact .inr ⟨_, rfl, rfl⟩ | refine .inr ⟨_, _, rfl, rfl, ?_⟩ | refine ⟨?_, ?_⟩)) (rCat _ (lettersF (visL (l.take i) d) ++ ofS l[i].text) (lettersF (visL l[i].kids (d + 1))) (by rw [List.length_append]; omega))) ?_)
      (repeat (first | simp -dsimp only [st_run, sz_run, st1_run, cl_run, st_Str, sz_Str, st1_Str, cl_Str, st_c, sz_c, st1_c, cl_c, st_attr, sz_attr, st1_attr, cl_attr, st_tree, sz_tree, st1_tree, cl_tree, at_map treeV l i hlt, hte, RB, TB, keep38, tab38, ewOp, xop, xindexAddr, xindex, xslice, xconvert, xlen, drawStep, FreeW, StabW, isStab, SameW, ChangeW, limBytes, Nat.reduceBEq, Nat.reduceAdd, Nat.reduceEqDiff, Nat.reduceLT, Nat.reduceLeDiff, Nat.reduceMul, Nat.reduceSub, Int.reduceBEq, Int.reduceBNe, Int.reduceToNat, Int.reduceLT, Int.reduceLE, Int.reduceGT, Int.reduceGE, Int.reduceAdd, Int.reduceSub, Int.reduceNeg, Int.reduceEq, Int.toNat_zero, Int.toNat_one, reduceIte, reduceCtorEq, ne_eq, decide_true, decide_false] | ((with_reducible refine Need.intro ?_ ?_); (first | trivial | omega | (simp; done) | (simp; omega)))))
      have d1 : visL (l.take i) d ++ (l[i], d) :: visL l[i].kids (d + 1) = visL (l.take i) d ++ ([(l[i], d)] ++ visL l[i].kids (d + 1)) := by simp
      rw [d1] at hsucc
      have f1 : lettersF (visL (l.take (i + 1)) d) = lettersF (visL (l.take i) d) ++ ofS l[i].text ++ lettersF (visL l[i].kids (d + 1)) := by
        rw [hsucc, lettersF_app, lettersF_app]; simp [lettersF]
      have f2 : ((visL (l.take (i + 1)) d).length : Int) = (visL (l.take i) d).length + 1 + (visL l[i].kids (d + 1)).length := by
        rw [hsucc]; simp; omega
      have f3 : depF (visL (l.take (i + 1)) d) 0 = max (if l[i].isE then max (depF (visL (l.take i) d) 0) d else depF (visL (l.take i) d) 0) (depF (visL l[i].kids (d + 1)) 0) := by
        rw [hsucc, depF_append, depF_append]
        simp only [depF]
        rw [depF_max _ _ (by split <;> omega)]
      have f4 : tagsF (visL (l.take (i + 1)) d) = tagsF (visL (l.take i) d) ++ ((if l[i].isE then [l[i].tag.text] else []) ++ tagsF (visL l[i].kids (d + 1))) := by
        rw [hsucc, tagsF_app, tagsF_app]
        congr 2
        cases h : l[i].isE <;> simp [tagsF, h]
      refine IfW.intro (fun he => ?_) (fun he => ?_)
      · have hE : l[i].isE = false := by rw [he] at hie; simpa using hie.symm
        rw [hE] at f3 f4
        (repeat (first | simp -dsimp only [st_run, sz_run, st1_run, cl_run, st_Str, sz_Str, st1_Str, cl_Str, st_c, sz_c, st1_c, cl_c, st_attr, sz_attr, st1_attr, cl_attr, st_tree, sz_tree, st1_tree, cl_tree, he, RB, TB, keep38, tab38, ewOp, xop, xindexAddr, xindex, xslice, xconvert, xlen, drawStep, FreeW, StabW, isStab, SameW, ChangeW, limBytes, Nat.reduceBEq, Nat.reduceAdd, Nat.reduceEqDiff, Nat.reduceLT, Nat.reduceLeDiff, Nat.reduceMul, Nat.reduceSub, Int.reduceBEq, Int.reduceBNe, Int.reduceToNat, Int.reduceLT, Int.reduceLE, Int.reduceGT, Int.reduceGE, Int.reduceAdd, Int.reduceSub, Int.reduceNeg, Int.reduceEq, Int.toNat_zero, Int.toNat_one, reduceIte, reduceCtorEq, ne_eq, decide_true, decide_false] | ((with_reducible refine Need.intro ?_ ?_); (first | trivial | omega | (simp; done) | (simp; omega)))))
        rw [wrapI (by omega)]
        have f3' : depF (visL (l.take (i + 1)) d) 0 = max (depF (visL (l.take i) d) 0) (depF (visL l[i].kids (d + 1)) 0) := by rw [f3]; rfl
        refine UpTo.here ⟨(i + 1, ver + 1), hlt, by simp only; omega, by simp only [f1, f2, f3', f4]; simp [upd, eset], ⟨[], by simp only [f4]; simp⟩⟩
      · have hE : l[i].isE = true := by rw [he] at hie; simpa using hie.symm
        rw [hE] at f3 f4
        (repeat (first | simp -dsimp only [st_run, sz_run, st1_run, cl_run, st_Str, sz_Str, st1_Str, cl_Str, st_c, sz_c, st1_c, cl_c, st_attr, sz_attr, st1_attr, cl_attr, st_tree, sz_tree, st1_tree, cl_tree, he, at_map treeV l i hlt, hte, RB, TB, keep38, tab38, ewOp, xop, xindexAddr, xindex, xslice, xconvert, xlen, drawStep, FreeW, StabW, isStab, SameW, ChangeW, limBytes, Nat.reduceBEq, Nat.reduceAdd, Nat.reduceEqDiff, Nat.reduceLT, Nat.reduceLeDiff, Nat.reduceMul, Nat.reduceSub, Int.reduceBEq, Int.reduceBNe, Int.reduceToNat, Int.reduceLT, Int.reduceLE, Int.reduceGT, Int.reduceGE, Int.reduceAdd, Int.reduceSub, Int.reduceNeg, Int.reduceEq, Int.toNat_zero, Int.toNat_one, reduceIte, reduceCtorEq, ne_eq, decide_true, decide_false] | ((with_reducible refine Need.intro ?_ ?_); (first | trivial | omega | (simp; done) | (simp; omega)))))
        rw [wrapI (by omega)]
        have f3' : depF (visL (l.take (i + 1)) d) 0 = max (max (depF (visL (l.take i) d) 0) (depF (visL l[i].kids (d + 1)) 0)) d := by rw [f3, if_pos rfl]; omega
        refine UpTo.here ⟨(i + 1, ver + 2), hlt, by simp only; omega, by simp only [f1, f2, f3', f4]; simp [upd, eset]; omega, ⟨[], by simp only [f4]; simp⟩⟩
    · (repeat (first | simp -dsimp only [st_run, sz_run, st1_run, cl_run, st_Str, sz_Str, st1_Str, cl_Str, st_c, sz_c, st1_c, cl_c, st_attr, sz_attr, st1_attr, cl_attr, st_tree, sz_tree, st1_tree, cl_tree, h, RB, TB, keep38, tab38, ewOp, xop, xindexAddr, xindex, xslice, xconvert, xlen, drawStep, FreeW, StabW, isStab, SameW, ChangeW, limBytes, Nat.reduceBEq, Nat.reduceAdd, Nat.reduceEqDiff, Nat.reduceLT, Nat.reduceLeDiff, Nat.reduceMul, Nat.reduceSub, Int.reduceBEq, Int.reduceBNe, Int.reduceToNat, Int.reduceLT, Int.reduceLE, Int.reduceGT, Int.reduceGE, Int.reduceAdd, Int.reduceSub, Int.reduceNeg, Int.reduceEq, Int.toNat_zero, Int.toNat_one, reduceIte, reduceCtorEq, ne_eq, decide_true, decide_false] | ((with_reducible refine Need.intro ?_ ?_); (first | trivial | omega | (simp; done) | (simp; omega)))))
      have hi2 : i = l.length := Nat.le_antisymm hi (ge_of h)
      subst hi2
      rw [List.take_length]
      refine RetW.auto0 false _ (by first | rfl | exact (List.append_nil _).symm) ?_ ?_
      · (simp (maxDischargeDepth := 6) [LTB, HLt_set, ltL_take, ltL_drop, ltL_rep, ltL_set, upd, eset, hH, hHk, lt_vi, lt_str, lt_vb, ltc_str, ltc_vi, lt_run, lt1_run, ltc_run, lt_Str, lt1_Str, ltc_Str, lt_c, lt1_c, ltc_c, lt_attr, lt1_attr, ltc_attr, lt_tree, lt1_tree, ltc_tree] <;> omega)
      (try simp only [wk, wk1, wk0, RB, limBytes, Nat.reduceBEq, Nat.reduceAdd, Nat.reduceEqDiff, Nat.reduceLT, Nat.reduceLeDiff, Nat.reduceMul, Nat.reduceSub, Int.reduceBEq, Int.reduceBNe, Int.reduceToNat, Int.reduceLT, Int.reduceLE, Int.reduceGT, Int.reduceGE, Int.reduceAdd, Int.reduceSub, Int.reduceNeg, Int.reduceEq, Int.toNat_zero, Int.toNat_one, reduceIte, reduceCtorEq, ne_eq, decide_true, decide_false])
      (try (rw [List.take_of_length_le]; rotate_left 1; (· first | (simp; done) | (simp; omega) | omega)))
theorem countW : ∀ (n : Nat) (l : List Tree), szTs l ≤ n → szTs l ≤ 300000000 → ∀ H : List Ob, SCall Try.prog 90 [.slice (l.map treeV)] H (fun r H' => (∃ k : Int, r = .int .i64 k) ∧ H' = H) := by
  intro n
  induction n with
  | zero =>
    intro l h _ H
    have h0 : l = [] := List.eq_nil_of_length_eq_zero (by have := sz_len l; omega)
    subst h0
    refine SCall.of_good fun hH => ?_
    have hHk := HLt.add hH
    refine SCall.of_code Tok Try.func90 rfl Try.call90 (n := 26) rfl (by simp) (rs := [.tmp 2]) rfl ?_
    refine EWn.to ?_
    refine EWn.of_c Tok mixed (own := false) keep90 tab90 (by kernel_rfl) ?_
    (repeat (first | simp -dsimp only [st_run, sz_run, st1_run, cl_run, st_Str, sz_Str, st1_Str, cl_Str, st_c, sz_c, st1_c, cl_c, st_attr, sz_attr, st1_attr, cl_attr, st_tree, sz_tree, st1_tree, cl_tree, RB, TB, keep90, tab90, ewOp, xop, xindexAddr, xindex, xslice, xconvert, xlen, drawStep, FreeW, StabW, isStab, SameW, ChangeW, limBytes, Nat.reduceBEq, Nat.reduceAdd, Nat.reduceEqDiff, Nat.reduceLT, Nat.reduceLeDiff, Nat.reduceMul, Nat.reduceSub, Int.reduceBEq, Int.reduceBNe, Int.reduceToNat, Int.reduceLT, Int.reduceLE, Int.reduceGT, Int.reduceGE, Int.reduceAdd, Int.reduceSub, Int.reduceNeg, Int.reduceEq, Int.toNat_zero, Int.toNat_one, reduceIte, reduceCtorEq, ne_eq, decide_true, decide_false] | ((with_reducible refine Need.intro ?_ ?_); (first | trivial | omega | (simp; done) | (simp; omega)))))
    refine EWn.rounds 1 ?_
    show EWn _ _ _ _ _ _ _
    refine EWn.of_c Tok mixed (own := false) keep90 tab90 (by kernel_rfl) ?_
    (repeat (first | simp -dsimp only [st_run, sz_run, st1_run, cl_run, st_Str, sz_Str, st1_Str, cl_Str, st_c, sz_c, st1_c, cl_c, st_attr, sz_attr, st1_attr, cl_attr, st_tree, sz_tree, st1_tree, cl_tree, RB, TB, keep90, tab90, ewOp, xop, xindexAddr, xindex, xslice, xconvert, xlen, drawStep, FreeW, StabW, isStab, SameW, ChangeW, limBytes, Nat.reduceBEq, Nat.reduceAdd, Nat.reduceEqDiff, Nat.reduceLT, Nat.reduceLeDiff, Nat.reduceMul, Nat.reduceSub, Int.reduceBEq, Int.reduceBNe, Int.reduceToNat, Int.reduceLT, Int.reduceLE, Int.reduceGT, Int.reduceGE, Int.reduceAdd, Int.reduceSub, Int.reduceNeg, Int.reduceEq, Int.toNat_zero, Int.toNat_one, reduceIte, reduceCtorEq, ne_eq, decide_true, decide_false] | ((with_reducible refine Need.intro ?_ ?_); (first | trivial | omega | (simp; done) | (simp; omega)))))
    refine RetW.auto0 false _ (by first | rfl | exact (List.append_nil _).symm) ?_ ?_
    · (simp (maxDischargeDepth := 6) [LTB, HLt_set, ltL_take, ltL_drop, ltL_rep, ltL_set, upd, eset, hH, hHk, lt_vi, lt_str, lt_vb, ltc_str, ltc_vi, lt_run, lt1_run, ltc_run, lt_Str, lt1_Str, ltc_Str, lt_c, lt1_c, ltc_c, lt_attr, lt1_attr, ltc_attr, lt_tree, lt1_tree, ltc_tree] <;> omega)
    (try simp only [wk, wk1, wk0, RB, limBytes, Nat.reduceBEq, Nat.reduceAdd, Nat.reduceEqDiff, Nat.reduceLT, Nat.reduceLeDiff, Nat.reduceMul, Nat.reduceSub, Int.reduceBEq, Int.reduceBNe, Int.reduceToNat, Int.reduceLT, Int.reduceLE, Int.reduceGT, Int.reduceGE, Int.reduceAdd, Int.reduceSub, Int.reduceNeg, Int.reduceEq, Int.toNat_zero, Int.toNat_one, reduceIte, reduceCtorEq, ne_eq, decide_true, decide_false])
    (try (rw [List.take_of_length_le]; rotate_left 1; (· first | (simp; done) | (simp; omega) | omega)))
    exact ⟨_, rfl⟩
  | succ n ih =>
    intro l hn hb H
    have hll := sz_len l
    refine SCall.of_good fun hH => ?_
    have hHk := HLt.add hH
    refine SCall.of_code Tok Try.func90 rfl Try.call90 (n := 26) rfl (by simp) (rs := [.tmp 2]) rfl ?_
    refine EWn.to ?_
    refine EWn.of_c Tok mixed (own := false) keep90 tab90 (by kernel_rfl) ?_
    (repeat (first | simp -dsimp only [st_run, sz_run, st1_run, cl_run, st_Str, sz_Str, st1_Str, cl_Str, st_c, sz_c, st1_c, cl_c, st_attr, sz_attr, st1_attr, cl_attr, st_tree, sz_tree, st1_tree, cl_tree, RB, TB, keep90, tab90, ewOp, xop, xindexAddr, xindex, xslice, xconvert, xlen, drawStep, FreeW, StabW, isStab, SameW, ChangeW, limBytes, Nat.reduceBEq, Nat.reduceAdd, Nat.reduceEqDiff, Nat.reduceLT, Nat.reduceLeDiff, Nat.reduceMul, Nat.reduceSub, Int.reduceBEq, Int.reduceBNe, Int.reduceToNat, Int.reduceLT, Int.reduceLE, Int.reduceGT, Int.reduceGE, Int.reduceAdd, Int.reduceSub, Int.reduceNeg, Int.reduceEq, Int.toNat_zero, Int.toNat_one, reduceIte, reduceCtorEq, ne_eq, decide_true, decide_false] | ((with_reducible refine Need.intro ?_ ?_); (first | trivial | omega | (simp; done) | (simp; omega)))))
    refine EWn.loopE (ι := (Nat) × (Int)) (fun (x_ : (Nat) × (Int)) => match x_ with | (i, k) => i ≤ l.length) (fun (x_ : (Nat) × (Int)) => match x_ with | (i, k) => l.length - i) (fun (x_ : (Nat) × (Int)) => match x_ with | (i, k) => [(3, .int .i64 k), (4, .int .i64 i)]) (fun (x_ : (Nat) × (Int)) => match x_ with | (i, k) => H) (0, (l.length : Int)) ?_ ?_ ?_ ?_ ?_
    · first | rfl | simp [upd, eset]
    · first | rfl | (simp; done) | exact (set_same (by assumption)).symm
    · rintro ⟨i, k⟩ hok; exact ⟨by first | (simp; done) | (simp; omega), by (simp (maxDischargeDepth := 6) [LTB, HLt_set, ltL_take, ltL_drop, ltL_rep, ltL_set, upd, eset, hH, hHk, lt_vi, lt_str, lt_vb, ltc_str, ltc_vi, lt_run, lt1_run, ltc_run, lt_Str, lt1_Str, ltc_Str, lt_c, lt1_c, ltc_c, lt_attr, lt1_attr, ltc_attr, lt_tree, lt1_tree, ltc_tree] <;> omega), by (simp (maxDischargeDepth := 6) [LTB, HLt_set, ltL_take, ltL_drop, ltL_rep, ltL_set, upd, eset, hH, hHk, lt_vi, lt_str, lt_vb, ltc_str, ltc_vi, lt_run, lt1_run, ltc_run, lt_Str, lt1_Str, ltc_Str, lt_c, lt1_c, ltc_c, lt_attr, lt1_attr, ltc_attr, lt_tree, lt1_tree, ltc_tree] <;> omega)⟩
    · omega
    rintro ⟨i, k⟩ hi
    refine EWn.of_c Tok mixed (own := false) keep90 tab90 (by kernel_rfl) ?_
    (repeat (first | simp -dsimp only [st_run, sz_run, st1_run, cl_run, st_Str, sz_Str, st1_Str, cl_Str, st_c, sz_c, st1_c, cl_c, st_attr, sz_attr, st1_attr, cl_attr, st_tree, sz_tree, st1_tree, cl_tree, RB, TB, keep90, tab90, ewOp, xop, xindexAddr, xindex, xslice, xconvert, xlen, drawStep, FreeW, StabW, isStab, SameW, ChangeW, limBytes, Nat.reduceBEq, Nat.reduceAdd, Nat.reduceEqDiff, Nat.reduceLT, Nat.reduceLeDiff, Nat.reduceMul, Nat.reduceSub, Int.reduceBEq, Int.reduceBNe, Int.reduceToNat, Int.reduceLT, Int.reduceLE, Int.reduceGT, Int.reduceGE, Int.reduceAdd, Int.reduceSub, Int.reduceNeg, Int.reduceEq, Int.toNat_zero, Int.toNat_one, reduceIte, reduceCtorEq, ne_eq, decide_true, decide_false] | ((with_reducible refine Need.intro ?_ ?_); (first | trivial | omega | (simp; done) | (simp; omega)))))
    refine IfW.intro (fun h => ?_) (fun h => ?_)
    · have hlt := lt_of h
      have hsz := szT_eq l[i]
      have hszl := szTs_mem (List.getElem_mem hlt)
      have hte := treeV_eq l[i]
      unfold szS' at hsz
      (repeat (first | simp -dsimp only [st_run, sz_run, st1_run, cl_run, st_Str, sz_Str, st1_Str, cl_Str, st_c, sz_c, st1_c, cl_c, st_attr, sz_attr, st1_attr, cl_attr, st_tree, sz_tree, st1_tree, cl_tree, h, RB, TB, keep90, tab90, ewOp, xop, xindexAddr, xindex, xslice, xconvert, xlen, drawStep, FreeW, StabW, isStab, SameW, ChangeW, limBytes, Nat.reduceBEq, Nat.reduceAdd, Nat.reduceEqDiff, Nat.reduceLT, Nat.reduceLeDiff, Nat.reduceMul, Nat.reduceSub, Int.reduceBEq, Int.reduceBNe, Int.reduceToNat, Int.reduceLT, Int.reduceLE, Int.reduceGT, Int.reduceGE, Int.reduceAdd, Int.reduceSub, Int.reduceNeg, Int.reduceEq, Int.toNat_zero, Int.toNat_one, reduceIte, reduceCtorEq, ne_eq, decide_true, decide_false] | ((with_reducible refine Need.intro ?_ ?_); (first | trivial | omega | (simp; done) | (simp; omega)))))
      refine IfW.intro (fun h2 => ?_) (fun h2 => ?_)
      · (repeat (first | simp -dsimp only [st_run, sz_run, st1_run, cl_run, st_Str, sz_Str, st1_Str, cl_Str, st_c, sz_c, st1_c, cl_c, st_attr, sz_attr, st1_attr, cl_attr, st_tree, sz_tree, st1_tree, cl_tree, h2, h, at_map treeV l i hlt, hte, RB, TB, keep90, tab90, ewOp, xop, xindexAddr, xindex, xslice, xconvert, xlen, drawStep, FreeW, StabW, isStab, SameW, ChangeW, limBytes, Nat.reduceBEq, Nat.reduceAdd, Nat.reduceEqDiff, Nat.reduceLT, Nat.reduceLeDiff, Nat.reduceMul, Nat.reduceSub, Int.reduceBEq, Int.reduceBNe, Int.reduceToNat, Int.reduceLT, Int.reduceLE, Int.reduceGT, Int.reduceGE, Int.reduceAdd, Int.reduceSub, Int.reduceNeg, Int.reduceEq, Int.toNat_zero, Int.toNat_one, reduceIte, reduceCtorEq, ne_eq, decide_true, decide_false] | ((with_reducible refine Need.intro ?_ ?_); (first | trivial | omega | (simp; done) | (simp; omega)))))
        refine SCall.mono (ih l[i].kids (by omega) (by omega) _) ?_
        rintro _ _ ⟨⟨c, rfl⟩, rfl⟩
        (repeat (first | simp -dsimp only [st_run, sz_run, st1_run, cl_run, st_Str, sz_Str, st1_Str, cl_Str, st_c, sz_c, st1_c, cl_c, st_attr, sz_attr, st1_attr, cl_attr, st_tree, sz_tree, st1_tree, cl_tree, RB, TB, keep90, tab90, ewOp, xop, xindexAddr, xindex, xslice, xconvert, xlen, drawStep, FreeW, StabW, isStab, SameW, ChangeW, limBytes, Nat.reduceBEq, Nat.reduceAdd, Nat.reduceEqDiff, Nat.reduceLT, Nat.reduceLeDiff, Nat.reduceMul, Nat.reduceSub, Int.reduceBEq, Int.reduceBNe, Int.reduceToNat, Int.reduceLT, Int.reduceLE, Int.reduceGT, Int.reduceGE, Int.reduceAdd, Int.reduceSub, Int.reduceNeg, Int.reduceEq, Int.toNat_zero, Int.toNat_one, reduceIte, reduceCtorEq, ne_eq, decide_true, decide_false] | ((with_reducible refine Need.intro ?_ ?_); (first | trivial | omega | (simp; done) | (simp; omega)))))
        rw [wrapI (x := (i : Int) + 1) (by omega)]
        refine UpTo.here ⟨(i + 1, IntKind.i64.wrap (k + c)), ?_, by first | omega | (simp only [List.length_append, List.length_cons, List.length_nil]; omega), by simp [upd, eset], ⟨_, by simp; try rfl⟩⟩
        exact hlt
      · (repeat (first | simp -dsimp only [st_run, sz_run, st1_run, cl_run, st_Str, sz_Str, st1_Str, cl_Str, st_c, sz_c, st1_c, cl_c, st_attr, sz_attr, st1_attr, cl_attr, st_tree, sz_tree, st1_tree, cl_tree, h2, RB, TB, keep90, tab90, ewOp, xop, xindexAddr, xindex, xslice, xconvert, xlen, drawStep, FreeW, StabW, isStab, SameW, ChangeW, limBytes, Nat.reduceBEq, Nat.reduceAdd, Nat.reduceEqDiff, Nat.reduceLT, Nat.reduceLeDiff, Nat.reduceMul, Nat.reduceSub, Int.reduceBEq, Int.reduceBNe, Int.reduceToNat, Int.reduceLT, Int.reduceLE, Int.reduceGT, Int.reduceGE, Int.reduceAdd, Int.reduceSub, Int.reduceNeg, Int.reduceEq, Int.toNat_zero, Int.toNat_one, reduceIte, reduceCtorEq, ne_eq, decide_true, decide_false] | ((with_reducible refine Need.intro ?_ ?_); (first | trivial | omega | (simp; done) | (simp; omega)))))
        refine RetW.auto0 false _ (by first | rfl | exact (List.append_nil _).symm) ?_ ?_
        · (simp (maxDischargeDepth := 6) [LTB, HLt_set, ltL_take, ltL_drop, ltL_rep, ltL_set, upd, eset, hH, hHk, lt_vi, lt_str, lt_vb, ltc_str, ltc_vi, lt_run, lt1_run, ltc_run, lt_Str, lt1_Str, ltc_Str, lt_c, lt1_c, ltc_c, lt_attr, lt1_attr, ltc_attr, lt_tree, lt1_tree, ltc_tree] <;> omega)
        (try simp only [wk, wk1, wk0, RB, limBytes, Nat.reduceBEq, Nat.reduceAdd, Nat.reduceEqDiff, Nat.reduceLT, Nat.reduceLeDiff, Nat.reduceMul, Nat.reduceSub, Int.reduceBEq, Int.reduceBNe, Int.reduceToNat, Int.reduceLT, Int.reduceLE, Int.reduceGT, Int.reduceGE, Int.reduceAdd, Int.reduceSub, Int.reduceNeg, Int.reduceEq, Int.toNat_zero, Int.toNat_one, reduceIte, reduceCtorEq, ne_eq, decide_true, decide_false])
        (try (rw [List.take_of_length_le]; rotate_left 1; (· first | (simp; done) | (simp; omega) | omega)))
        exact ⟨_, rfl⟩
    · (repeat (first | simp -dsimp only [st_run, sz_run, st1_run, cl_run, st_Str, sz_Str, st1_Str, cl_Str, st_c, sz_c, st1_c, cl_c, st_attr, sz_attr, st1_attr, cl_attr, st_tree, sz_tree, st1_tree, cl_tree, h, RB, TB, keep90, tab90, ewOp, xop, xindexAddr, xindex, xslice, xconvert, xlen, drawStep, FreeW, StabW, isStab, SameW, ChangeW, limBytes, Nat.reduceBEq, Nat.reduceAdd, Nat.reduceEqDiff, Nat.reduceLT, Nat.reduceLeDiff, Nat.reduceMul, Nat.reduceSub, Int.reduceBEq, Int.reduceBNe, Int.reduceToNat, Int.reduceLT, Int.reduceLE, Int.reduceGT, Int.reduceGE, Int.reduceAdd, Int.reduceSub, Int.reduceNeg, Int.reduceEq, Int.toNat_zero, Int.toNat_one, reduceIte, reduceCtorEq, ne_eq, decide_true, decide_false] | ((with_reducible refine Need.intro ?_ ?_); (first | trivial | omega | (simp; done) | (simp; omega)))))
      refine RetW.auto0 false _ (by first | rfl | exact (List.append_nil _).symm) ?_ ?_
      · (simp (maxDischargeDepth := 6) [LTB, HLt_set, ltL_take, ltL_drop, ltL_rep, ltL_set, upd, eset, hH, hHk, lt_vi, lt_str, lt_vb, ltc_str, ltc_vi, lt_run, lt1_run, ltc_run, lt_Str, lt1_Str, ltc_Str, lt_c, lt1_c, ltc_c, lt_attr, lt1_attr, ltc_attr, lt_tree, lt1_tree, ltc_tree] <;> omega)
      (try simp only [wk, wk1, wk0, RB, limBytes, Nat.reduceBEq, Nat.reduceAdd, Nat.reduceEqDiff, Nat.reduceLT, Nat.reduceLeDiff, Nat.reduceMul, Nat.reduceSub, Int.reduceBEq, Int.reduceBNe, Int.reduceToNat, Int.reduceLT, Int.reduceLE, Int.reduceGT, Int.reduceGE, Int.reduceAdd, Int.reduceSub, Int.reduceNeg, Int.reduceEq, Int.toNat_zero, Int.toNat_one, reduceIte, reduceCtorEq, ne_eq, decide_true, decide_false])
      (try (rw [List.take_of_length_le]; rotate_left 1; (· first | (simp; done) | (simp; omega) | omega)))
      exact ⟨_, rfl⟩
theorem smallW (H : List Ob) (l : List Tree) (hb : szTs l ≤ 300000000) : SCall Try.prog 36 [.slice (l.map treeV)] H (fun r H' => (∃ b : Bool, r = .bool b) ∧ H' = H) := by
  refine SCall.of_good fun hH => ?_
  have hHk := HLt.add hH
  refine SCall.of_code Tok Try.func36 rfl Try.call36 (n := 6) rfl (by simp) (rs := [.tmp 2]) rfl ?_
  refine EWn.to ?_
  refine EWn.of_c Tok mixed (own := false) keep36 tab36 (by kernel_rfl) ?_
  (repeat (first | simp -dsimp only [st_run, sz_run, st1_run, cl_run, st_Str, sz_Str, st1_Str, cl_Str, st_c, sz_c, st1_c, cl_c, st_attr, sz_attr, st1_attr, cl_attr, st_tree, sz_tree, st1_tree, cl_tree, RB, TB, keep36, tab36, ewOp, xop, xindexAddr, xindex, xslice, xconvert, xlen, drawStep, FreeW, StabW, isStab, SameW, ChangeW, limBytes, Nat.reduceBEq, Nat.reduceAdd, Nat.reduceEqDiff, Nat.reduceLT, Nat.reduceLeDiff, Nat.reduceMul, Nat.reduceSub, Int.reduceBEq, Int.reduceBNe, Int.reduceToNat, Int.reduceLT, Int.reduceLE, Int.reduceGT, Int.reduceGE, Int.reduceAdd, Int.reduceSub, Int.reduceNeg, Int.reduceEq, Int.toNat_zero, Int.toNat_one, reduceIte, reduceCtorEq, ne_eq, decide_true, decide_false] | ((with_reducible refine Need.intro ?_ ?_); (first | trivial | omega | (simp; done) | (simp; omega)))))
  refine SCall.mono (countW _ l (Nat.le_refl _) hb _) ?_
  rintro _ _ ⟨⟨c, rfl⟩, rfl⟩
  (repeat (first | simp -dsimp only [st_run, sz_run, st1_run, cl_run, st_Str, sz_Str, st1_Str, cl_Str, st_c, sz_c, st1_c, cl_c, st_attr, sz_attr, st1_attr, cl_attr, st_tree, sz_tree, st1_tree, cl_tree, RB, TB, keep36, tab36, ewOp, xop, xindexAddr, xindex, xslice, xconvert, xlen, drawStep, FreeW, StabW, isStab, SameW, ChangeW, limBytes, Nat.reduceBEq, Nat.reduceAdd, Nat.reduceEqDiff, Nat.reduceLT, Nat.reduceLeDiff, Nat.reduceMul, Nat.reduceSub, Int.reduceBEq, Int.reduceBNe, Int.reduceToNat, Int.reduceLT, Int.reduceLE, Int.reduceGT, Int.reduceGE, Int.reduceAdd, Int.reduceSub, Int.reduceNeg, Int.reduceEq, Int.toNat_zero, Int.toNat_one, reduceIte, reduceCtorEq, ne_eq, decide_true, decide_false] | ((with_reducible refine Need.intro ?_ ?_); (first | trivial | omega | (simp; done) | (simp; omega)))))
  refine RetW.auto0 false _ (by first | rfl | exact (List.append_nil _).symm) ?_ ?_
  · (simp (maxDischargeDepth := 6) [LTB, HLt_set, ltL_take, ltL_drop, ltL_rep, ltL_set, upd, eset, hH, hHk, lt_vi, lt_str, lt_vb, ltc_str, ltc_vi, lt_run, lt1_run, ltc_run, lt_Str, lt1_Str, ltc_Str, lt_c, lt1_c, ltc_c, lt_attr, lt1_attr, ltc_attr, lt_tree, lt1_tree, ltc_tree] <;> omega)
  (try simp only [wk, wk1, wk0, RB, limBytes, Nat.reduceBEq, Nat.reduceAdd, Nat.reduceEqDiff, Nat.reduceLT, Nat.reduceLeDiff, Nat.reduceMul, Nat.reduceSub, Int.reduceBEq, Int.reduceBNe, Int.reduceToNat, Int.reduceLT, Int.reduceLE, Int.reduceGT, Int.reduceGE, Int.reduceAdd, Int.reduceSub, Int.reduceNeg, Int.reduceEq, Int.toNat_zero, Int.toNat_one, reduceIte, reduceCtorEq, ne_eq, decide_true, decide_false])
  (try (rw [List.take_of_length_le]; rotate_left 1; (· first | (simp; done) | (simp; omega) | omega)))
  exact ⟨_, rfl⟩
end Go.Proofs.Ytjhjcldpcngldaa

/- The walks of package outline: Lines; the law's example. -/
import Derived.Test.YtjhjcldpcngldaaOutline2
set_option linter.unusedSimpArgs false
set_option linter.unusedVariables false
set_option maxRecDepth 100000
namespace Go.Proofs.Ytjhjcldpcngldaa
open Go Go.EL
theorem wds_of {α : Type} {f : α → V} (h : ∀ x, wdV (f x) = f x) (l : List α) : wdVs (l.map f) = l.map f := by
  rw [wdVs_map, List.map_map]
  exact List.map_congr_left fun x _ => h x
theorem wd_run (r : Int × Int) : wdV (runV r) = runV r := by simp only [runV, wdV, wdVs]
theorem wds_run (l : List (Int × Int)) : wdVs (l.map runV) = l.map runV := wds_of wd_run l
theorem wd_attr (a : Attr) : wdV (attrV a) = attrV a := by simp only [attrV, wdV, wdVs, wds_run]
theorem wds_attr (l : List Attr) : wdVs (l.map attrV) = l.map attrV := wds_of wd_attr l
mutual
theorem wd_tree : ∀ t : Tree, wdV (treeV t) = treeV t
  | .mk tag attrs kids text => by
    rw [treeV]
    simp only [wdV, wdVs, wds_run, wds_attr, wds_tree0 kids]
theorem wds_tree0 : ∀ l : List Tree, wdVs (treeVs l) = treeVs l
  | [] => by simp only [treeVs, wdVs]
  | t :: l => by simp only [treeVs, wdVs, wd_tree t, wds_tree0 l]
end
theorem wds_tree (l : List Tree) : wdVs (l.map treeV) = l.map treeV := wds_of wd_tree l
/-! what is merged is no longer -/
def mtS (t : Tree) : Nat := szS' t.tag + (t.attrs.map szA').sum + szTs t.kids + 2 * t.text.text.length + 2
def mtL (l : List Tree) : Nat := (l.map mtS).sum
theorem mtL_app (a b : List Tree) : mtL (a ++ b) = mtL a + mtL b := by simp [mtL]
theorem szS_fix (s : Str) : szS' (fixS s) ≤ 2 * szS' s := by
  have := fix_runs s
  have e : (fixS s).text = s.text := rfl
  unfold szS'
  rw [e]; omega
theorem szA_own (a : Attr) : szA' (ownA a) ≤ 2 * szA' a := by
  have h1 := szS_fix a.name
  have h2 := szS_fix a.value
  unfold szA' ownA
  simp only
  omega
theorem once_sz : ∀ (l acc : List Attr), ((onceA l acc).map szA').sum ≤ (acc.map szA').sum + 2 * (l.map szA').sum
  | [], acc => by simp [onceA]
  | a :: l, acc => by
    have h1 := szA_own a
    simp only [onceA, List.map_cons, List.sum_cons]
    split
    · have := once_sz l (acc ++ [ownA a])
      simp only [List.map_append, List.map_cons, List.map_nil, List.sum_append, List.sum_cons, List.sum_nil] at this
      omega
    · have := once_sz l acc
      omega
theorem step_sz (acc : List Tree) (t : Tree) (ks : List Tree) (hk : szTs ks ≤ 2 * szTs t.kids) : mtL (stepM acc t ks) ≤ mtL acc + 2 * szT t := by
  have hsz := szT_eq t
  have h1 := szS_fix t.tag
  have h2 := once_sz t.attrs []
  have h3 : 1 ≤ szS' t.tag := by unfold szS'; omega
  have h4 : t.text.text.length + 1 ≤ szS' t.text := by unfold szS'; omega
  have z : szS' zeroS = 1 := rfl
  simp only [List.map_nil, List.sum_nil, Nat.zero_add] at h2
  unfold stepM
  split
  · rw [mtL_app]
    have e : mtL [Tree.mk (fixS t.tag) (onceA t.attrs []) ks zeroS] = szS' (fixS t.tag) + ((onceA t.attrs []).map szA').sum + szTs ks + 2 * 0 + 2 := by simp [mtL, mtS, Tree.tag, Tree.attrs, Tree.kids, Tree.text, zeroS]
    omega
  · split
    · omega
    · have e : mtL [Tree.mk zeroS [] [] (fixS t.text)] = 1 + 2 * t.text.text.length + 2 := by simp [mtL, mtS, Tree.tag, Tree.attrs, Tree.kids, Tree.text, fixS, z, szTs]
      split
      · omega
      · rename_i u hl
        obtain ⟨ys, rfl⟩ := List.getLast?_eq_some_iff.1 hl
        split
        · rw [mtL_app]; omega
        · rw [List.dropLast_concat, mtL_app, mtL_app]
          have e1 : mtL [Tree.mk u.tag u.attrs u.kids (catS [u.text, t.text])] = mtL [u] + 2 * t.text.text.length := by simp [mtL, mtS, Tree.tag, Tree.attrs, Tree.kids, Tree.text, catS]; omega
          omega
theorem sz_mt : ∀ l : List Tree, (∀ u ∈ l, u.text.runs.length ≤ u.text.text.length) → szTs l ≤ mtL l
  | [], _ => by simp [szTs]
  | t :: l, h => by
    have h1 := sz_mt l fun u hu => h u (by simp [hu])
    have h2 := h t (by simp)
    have h3 := szT_eq t
    have h4 : szS' t.text = t.text.text.length + t.text.runs.length + 1 := rfl
    have h5 : mtL (t :: l) = mtS t + mtL l := by simp [mtL]
    have h6 : mtS t = szS' t.tag + (t.attrs.map szA').sum + szTs t.kids + 2 * t.text.text.length + 2 := rfl
    simp only [szTs]
    omega
theorem merge_inv (l : List Tree) : invM (szTs l) (mergeT l) ∧ (mergeT l).length ≤ l.length := by
  have := mergeF_inv l l.length (Nat.le_refl _)
  rw [List.take_length] at this
  exact this
mutual
theorem mergeK_sz : ∀ t : Tree, szTs (mergeK t) ≤ 2 * szTs t.kids
  | .mk tag attrs kids text => by
    have h1 := mergeF_sz kids []
    have h2 := merge_inv kids
    have h3 := sz_mt _ h2.1.1
    rw [mergeK]
    show szTs (mergeT kids) ≤ 2 * szTs kids
    have h4 : mtL (mergeF kids []) ≤ mtL [] + 2 * szTs kids := h1
    have h5 : mtL ([] : List Tree) = 0 := rfl
    have h6 : mtL (mergeT kids) = mtL (mergeF kids []) := rfl
    omega
theorem mergeF_sz : ∀ (l acc : List Tree), mtL (mergeF l acc) ≤ mtL acc + 2 * szTs l
  | [], acc => by simp only [mergeF, szTs]; omega
  | t :: l, acc => by
    have h1 := mergeF_sz l (stepM acc t (mergeK t))
    have h2 := step_sz acc t (mergeK t) (mergeK_sz t)
    simp only [mergeF, szTs]
    omega
end
theorem merge_sz (l : List Tree) : szTs (mergeT l) ≤ 2 * szTs l := by
  have h := mergeK_sz (.mk zeroS [] l zeroS)
  rw [mergeK_eq] at h
  exact h
theorem oLinesT (H : List Ob) (l : List Tree) (hb : szTs l ≤ 10000000) : SCall Try.prog 71 [.slice (l.map treeV)] H (fun r H' => r = .slice ((linesF (mergeT l) []).map V.str) ∧ H' = H) := by
  have hm := merge_sz l
  refine SCall.of_good fun hH => ?_
  have hHk := HLt.add hH
  refine SCall.of_code Tok Try.func71 rfl Try.call71 (n := 6) rfl (by simp) (rs := [.tmp 2]) rfl ?_
  refine EWn.to ?_
  refine EWn.of_c Tok mixed (own := false) keep71 tab71 (by kernel_rfl) ?_
  (repeat (first | simp -dsimp only [st_run, sz_run, st1_run, cl_run, st_Str, sz_Str, st1_Str, cl_Str, st_c, sz_c, st1_c, cl_c, st_attr, sz_attr, st1_attr, cl_attr, st_tree, sz_tree, st1_tree, cl_tree, RB, TB, keep71, tab71, ewOp, xop, xindexAddr, xindex, xslice, xconvert, xlen, drawStep, FreeW, SameW, ChangeW, limBytes, Nat.reduceBEq, Nat.reduceAdd, Nat.reduceEqDiff, Nat.reduceLT, Nat.reduceLeDiff, Nat.reduceMul, Nat.reduceSub, Int.reduceBEq, Int.reduceBNe, Int.reduceToNat, Int.reduceLT, Int.reduceLE, Int.reduceGT, Int.reduceGE, Int.reduceAdd, Int.reduceSub, Int.reduceNeg, Int.reduceEq, Int.toNat_zero, Int.toNat_one, reduceIte, reduceCtorEq, ne_eq, decide_true, decide_false] | ((with_reducible refine Need.intro ?_ ?_); (first | trivial | omega | (simp; done) | (simp; omega)))))
  (first | refine SCall.then (tMerge _ l (Nat.le_refl _) (by omega) _) ?_ | refine SCall.thenA (tMerge _ l (Nat.le_refl _) (by omega) _) (by repeat (first | exact trivial | exact .inl (.inl rfl) | exact .inl (.inr ⟨_, rfl, rfl⟩) | exact .inl rfl | exact .inr ⟨_, rfl, rfl⟩ | refine .inr ⟨_, _, rfl, rfl, ?_⟩ | refine ⟨?_, ?_⟩)) ?_ | refine CallE.intro _ (tMerge _ l (Nat.le_refl _) (by omega) _) ?_ | refine CallE.introA (tMerge _ l (Nat.le_refl _) (by omega) _) (by repeat (first | exact trivial | exact .inl (.inl rfl) | exact .inl (.inr ⟨_, rfl, rfl⟩) | exact .inl rfl | exact .inr ⟨_, rfl, rfl⟩ | refine .inr ⟨_, _, rfl, rfl, ?_⟩ | refine ⟨?_, ?_⟩)) ?_ | refine CallE.intro _ (fun _ => tMerge _ l (Nat.le_refl _) (by omega) _) ?_ | refine CallE.intro _ (fun _ => SCall.arg (by repeat (first | exact trivial | exact .inl (.inl rfl) | exact .inl (.inr ⟨_, rfl, rfl⟩) | exact .inl rfl | exact .inr ⟨_, rfl, rfl⟩ | refine .inr ⟨_, _, rfl, rfl, ?_⟩ | refine ⟨?_, ?_⟩)) (tMerge _ l (Nat.le_refl _) (by omega) _)) ?_ | refine CallE2.intro _ _ (tMerge _ l (Nat.le_refl _) (by omega) _) ?_ | refine CallE2.intro _ _ (SCall.arg (by repeat (first | exact trivial | exact .inl (.inl rfl) | exact .inl (.inr ⟨_, rfl, rfl⟩) | exact .inl rfl | exact .inr ⟨_, rfl, rfl⟩ | refine .inr ⟨_, _, rfl, rfl, ?_⟩ | refine ⟨?_, ?_⟩)) (tMerge _ l (Nat.le_refl _) (by omega) _)) ?_)
  (repeat (first | simp -dsimp only [st_run, sz_run, st1_run, cl_run, st_Str, sz_Str, st1_Str, cl_Str, st_c, sz_c, st1_c, cl_c, st_attr, sz_attr, st1_attr, cl_attr, st_tree, sz_tree, st1_tree, cl_tree, RB, TB, keep71, tab71, ewOp, xop, xindexAddr, xindex, xslice, xconvert, xlen, drawStep, FreeW, SameW, ChangeW, limBytes, Nat.reduceBEq, Nat.reduceAdd, Nat.reduceEqDiff, Nat.reduceLT, Nat.reduceLeDiff, Nat.reduceMul, Nat.reduceSub, Int.reduceBEq, Int.reduceBNe, Int.reduceToNat, Int.reduceLT, Int.reduceLE, Int.reduceGT, Int.reduceGE, Int.reduceAdd, Int.reduceSub, Int.reduceNeg, Int.reduceEq, Int.toNat_zero, Int.toNat_one, reduceIte, reduceCtorEq, ne_eq, decide_true, decide_false] | ((with_reducible refine Need.intro ?_ ?_); (first | trivial | omega | (simp; done) | (simp; omega)))))
  (first | refine SCall.then (oLines _ (mergeT l) [] (Nat.le_refl _) (by omega) (by simp; omega) _) ?_ | refine SCall.thenA (oLines _ (mergeT l) [] (Nat.le_refl _) (by omega) (by simp; omega) _) (by repeat (first | exact trivial | exact .inl (.inl rfl) | exact .inl (.inr ⟨_, rfl, rfl⟩) | exact .inl rfl | exact .inr ⟨_, rfl, rfl⟩ | refine .inr ⟨_, _, rfl, rfl, ?_⟩ | refine ⟨?_, ?_⟩)) ?_ | refine CallE.intro _ (oLines _ (mergeT l) [] (Nat.le_refl _) (by omega) (by simp; omega) _) ?_ | refine CallE.introA (oLines _ (mergeT l) [] (Nat.le_refl _) (by omega) (by simp; omega) _) (by repeat (first | exact trivial | exact .inl (.inl rfl) | exact .inl (.inr ⟨_, rfl, rfl⟩) | exact .inl rfl | exact .inr ⟨_, rfl, rfl⟩ | refine .inr ⟨_, _, rfl, rfl, ?_⟩ | refine ⟨?_, ?_⟩)) ?_ | refine CallE.intro _ (fun _ => oLines _ (mergeT l) [] (Nat.le_refl _) (by omega) (by simp; omega) _) ?_ | refine CallE.intro _ (fun _ => SCall.arg (by repeat (first | exact trivial | exact .inl (.inl rfl) | exact .inl (.inr ⟨_, rfl, rfl⟩) | exact .inl rfl | exact .inr ⟨_, rfl, rfl⟩ | refine .inr ⟨_, _, rfl, rfl, ?_⟩ | refine ⟨?_, ?_⟩)) (oLines _ (mergeT l) [] (Nat.le_refl _) (by omega) (by simp; omega) _)) ?_ | refine CallE2.intro _ _ (oLines _ (mergeT l) [] (Nat.le_refl _) (by omega) (by simp; omega) _) ?_ | refine CallE2.intro _ _ (SCall.arg (by repeat (first | exact trivial | exact .inl (.inl rfl) | exact .inl (.inr ⟨_, rfl, rfl⟩) | exact .inl rfl | exact .inr ⟨_, rfl, rfl⟩ | refine .inr ⟨_, _, rfl, rfl, ?_⟩ | refine ⟨?_, ?_⟩)) (oLines _ (mergeT l) [] (Nat.le_refl _) (by omega) (by simp; omega) _)) ?_)
  (repeat (first | simp -dsimp only [st_run, sz_run, st1_run, cl_run, st_Str, sz_Str, st1_Str, cl_Str, st_c, sz_c, st1_c, cl_c, st_attr, sz_attr, st1_attr, cl_attr, st_tree, sz_tree, st1_tree, cl_tree, RB, TB, keep71, tab71, ewOp, xop, xindexAddr, xindex, xslice, xconvert, xlen, drawStep, FreeW, SameW, ChangeW, limBytes, Nat.reduceBEq, Nat.reduceAdd, Nat.reduceEqDiff, Nat.reduceLT, Nat.reduceLeDiff, Nat.reduceMul, Nat.reduceSub, Int.reduceBEq, Int.reduceBNe, Int.reduceToNat, Int.reduceLT, Int.reduceLE, Int.reduceGT, Int.reduceGE, Int.reduceAdd, Int.reduceSub, Int.reduceNeg, Int.reduceEq, Int.toNat_zero, Int.toNat_one, reduceIte, reduceCtorEq, ne_eq, decide_true, decide_false] | ((with_reducible refine Need.intro ?_ ?_); (first | trivial | omega | (simp; done) | (simp; omega)))))
  refine RetW.auto0 false _ (by first | rfl | exact (List.append_nil _).symm) ?_ ?_
  · (simp (maxDischargeDepth := 6) [LTB, HLt_set, ltL_take, ltL_drop, ltL_rep, ltL_set, upd, eset, hH, hHk, lt_vi, lt_str, lt_vb, ltc_str, ltc_vi, lt_run, lt1_run, ltc_run, lt_Str, lt1_Str, ltc_Str, lt_c, lt1_c, ltc_c, lt_attr, lt1_attr, ltc_attr, lt_tree, lt1_tree, ltc_tree] <;> omega)
  (try simp only [wk, wk1, wk0, RB, limBytes, Nat.reduceBEq, Nat.reduceAdd, Nat.reduceEqDiff, Nat.reduceLT, Nat.reduceLeDiff, Nat.reduceMul, Nat.reduceSub, Int.reduceBEq, Int.reduceBNe, Int.reduceToNat, Int.reduceLT, Int.reduceLE, Int.reduceGT, Int.reduceGE, Int.reduceAdd, Int.reduceSub, Int.reduceNeg, Int.reduceEq, Int.toNat_zero, Int.toNat_one, reduceIte, reduceCtorEq, ne_eq, decide_true, decide_false])
  (try (rw [List.take_of_length_le]; rotate_left 1; (· first | (simp; done) | (simp; omega) | omega)))
def exT : List Tree := [.mk ⟨[112], rle (List.replicate 1 (near 0))⟩ [] [.mk zeroS [] [] ⟨[120], rle (List.replicate 1 (near 0))⟩] zeroS]
theorem alive36 (H : List Ob) : SCall Try.prog 32 [] H (fun r H' => r = .bool true ∧ H' = H) := by
  refine SCall.of_good fun hH => ?_
  have hHk := HLt.add hH
  refine SCall.of_code Tok Try.func32 rfl Try.call32 (n := 22) rfl (by simp) (rs := [.tmp 0]) rfl ?_
  refine EWn.to ?_
  refine EWn.of_c Tok mixed (own := false) keep32 tab32 (by kernel_rfl) ?_
  (repeat (first | simp -dsimp only [st_run, sz_run, st1_run, cl_run, st_Str, sz_Str, st1_Str, cl_Str, st_c, sz_c, st1_c, cl_c, st_attr, sz_attr, st1_attr, cl_attr, st_tree, sz_tree, st1_tree, cl_tree, RB, TB, keep32, tab32, ewOp, xop, xindexAddr, xindex, xslice, xconvert, xlen, drawStep, FreeW, SameW, ChangeW, limBytes, Nat.reduceBEq, Nat.reduceAdd, Nat.reduceEqDiff, Nat.reduceLT, Nat.reduceLeDiff, Nat.reduceMul, Nat.reduceSub, Int.reduceBEq, Int.reduceBNe, Int.reduceToNat, Int.reduceLT, Int.reduceLE, Int.reduceGT, Int.reduceGE, Int.reduceAdd, Int.reduceSub, Int.reduceNeg, Int.reduceEq, Int.toNat_zero, Int.toNat_one, reduceIte, reduceCtorEq, ne_eq, decide_true, decide_false] | ((with_reducible refine Need.intro ?_ ?_); (first | trivial | omega | (simp; done) | (simp; omega)))))
  (first | refine SCall.then (mOf _ _ _) ?_ | refine SCall.thenA (mOf _ _ _) (by repeat (first | exact trivial | exact .inl (.inl rfl) | exact .inl (.inr ⟨_, rfl, rfl⟩) | exact .inl rfl | exact .inr ⟨_, rfl, rfl⟩ | refine .inr ⟨_, _, rfl, rfl, ?_⟩ | refine ⟨?_, ?_⟩)) ?_ | refine CallE.intro _ (mOf _ _ _) ?_ | refine CallE.introA (mOf _ _ _) (by repeat (first | exact trivial | exact .inl (.inl rfl) | exact .inl (.inr ⟨_, rfl, rfl⟩) | exact .inl rfl | exact .inr ⟨_, rfl, rfl⟩ | refine .inr ⟨_, _, rfl, rfl, ?_⟩ | refine ⟨?_, ?_⟩)) ?_ | refine CallE.intro _ (fun _ => mOf _ _ _) ?_ | refine CallE.intro _ (fun _ => SCall.arg (by repeat (first | exact trivial | exact .inl (.inl rfl) | exact .inl (.inr ⟨_, rfl, rfl⟩) | exact .inl rfl | exact .inr ⟨_, rfl, rfl⟩ | refine .inr ⟨_, _, rfl, rfl, ?_⟩ | refine ⟨?_, ?_⟩)) (mOf _ _ _)) ?_ | refine CallE2.intro _ _ (mOf _ _ _) ?_ | refine CallE2.intro _ _ (SCall.arg (by repeat (first | exact trivial | exact .inl (.inl rfl) | exact .inl (.inr ⟨_, rfl, rfl⟩) | exact .inl rfl | exact .inr ⟨_, rfl, rfl⟩ | refine .inr ⟨_, _, rfl, rfl, ?_⟩ | refine ⟨?_, ?_⟩)) (mOf _ _ _)) ?_)
  (repeat (first | simp -dsimp only [st_run, sz_run, st1_run, cl_run, st_Str, sz_Str, st1_Str, cl_Str, st_c, sz_c, st1_c, cl_c, st_attr, sz_attr, st1_attr, cl_attr, st_tree, sz_tree, st1_tree, cl_tree, strV, RB, TB, keep32, tab32, ewOp, xop, xindexAddr, xindex, xslice, xconvert, xlen, drawStep, FreeW, SameW, ChangeW, limBytes, Nat.reduceBEq, Nat.reduceAdd, Nat.reduceEqDiff, Nat.reduceLT, Nat.reduceLeDiff, Nat.reduceMul, Nat.reduceSub, Int.reduceBEq, Int.reduceBNe, Int.reduceToNat, Int.reduceLT, Int.reduceLE, Int.reduceGT, Int.reduceGE, Int.reduceAdd, Int.reduceSub, Int.reduceNeg, Int.reduceEq, Int.toNat_zero, Int.toNat_one, reduceIte, reduceCtorEq, ne_eq, decide_true, decide_false] | ((with_reducible refine Need.intro ?_ ?_); (first | trivial | omega | (simp; done) | (simp; omega)))))
  (first | refine SCall.then (mOf _ _ _) ?_ | refine SCall.thenA (mOf _ _ _) (by repeat (first | exact trivial | exact .inl (.inl rfl) | exact .inl (.inr ⟨_, rfl, rfl⟩) | exact .inl rfl | exact .inr ⟨_, rfl, rfl⟩ | refine .inr ⟨_, _, rfl, rfl, ?_⟩ | refine ⟨?_, ?_⟩)) ?_ | refine CallE.intro _ (mOf _ _ _) ?_ | refine CallE.introA (mOf _ _ _) (by repeat (first | exact trivial | exact .inl (.inl rfl) | exact .inl (.inr ⟨_, rfl, rfl⟩) | exact .inl rfl | exact .inr ⟨_, rfl, rfl⟩ | refine .inr ⟨_, _, rfl, rfl, ?_⟩ | refine ⟨?_, ?_⟩)) ?_ | refine CallE.intro _ (fun _ => mOf _ _ _) ?_ | refine CallE.intro _ (fun _ => SCall.arg (by repeat (first | exact trivial | exact .inl (.inl rfl) | exact .inl (.inr ⟨_, rfl, rfl⟩) | exact .inl rfl | exact .inr ⟨_, rfl, rfl⟩ | refine .inr ⟨_, _, rfl, rfl, ?_⟩ | refine ⟨?_, ?_⟩)) (mOf _ _ _)) ?_ | refine CallE2.intro _ _ (mOf _ _ _) ?_ | refine CallE2.intro _ _ (SCall.arg (by repeat (first | exact trivial | exact .inl (.inl rfl) | exact .inl (.inr ⟨_, rfl, rfl⟩) | exact .inl rfl | exact .inr ⟨_, rfl, rfl⟩ | refine .inr ⟨_, _, rfl, rfl, ?_⟩ | refine ⟨?_, ?_⟩)) (mOf _ _ _)) ?_)
  (repeat (first | simp -dsimp only [st_run, sz_run, st1_run, cl_run, st_Str, sz_Str, st1_Str, cl_Str, st_c, sz_c, st1_c, cl_c, st_attr, sz_attr, st1_attr, cl_attr, st_tree, sz_tree, st1_tree, cl_tree, strV, RB, TB, keep32, tab32, ewOp, xop, xindexAddr, xindex, xslice, xconvert, xlen, drawStep, FreeW, SameW, ChangeW, limBytes, Nat.reduceBEq, Nat.reduceAdd, Nat.reduceEqDiff, Nat.reduceLT, Nat.reduceLeDiff, Nat.reduceMul, Nat.reduceSub, Int.reduceBEq, Int.reduceBNe, Int.reduceToNat, Int.reduceLT, Int.reduceLE, Int.reduceGT, Int.reduceGE, Int.reduceAdd, Int.reduceSub, Int.reduceNeg, Int.reduceEq, Int.toNat_zero, Int.toNat_one, reduceIte, reduceCtorEq, ne_eq, decide_true, decide_false] | ((with_reducible refine Need.intro ?_ ?_); (first | trivial | omega | (simp; done) | (simp; omega)))))
  (first | refine SCall.deep ?_ | refine CallE.deep ?_)
  simp -dsimp only [wdV, wdVs, wds_run]
  have e : V.slice [V.agg [V.str [112], V.slice (List.map runV (rle (List.replicate 1 (near 0)))), V.slice [], V.slice [V.agg [V.str [], V.slice [], V.slice [], V.slice [], V.str [120], V.slice (List.map runV (rle (List.replicate 1 (near 0))))]], V.str [], V.slice []]] = .slice (exT.map treeV) := by simp [exT, treeV_mk, zeroS]
  rw [e]
  have hl : linesF (mergeT exT) [] = [[112], [32, 32, 34, 120, 34]] := by decide +kernel
  (first | refine SCall.then (oLinesT _ exT (by decide +kernel)) ?_ | refine SCall.thenA (oLinesT _ exT (by decide +kernel)) (by repeat (first | exact trivial | exact .inl (.inl rfl) | exact .inl (.inr ⟨_, rfl, rfl⟩) | exact .inl rfl | exact .inr ⟨_, rfl, rfl⟩ | refine .inr ⟨_, _, rfl, rfl, ?_⟩ | refine ⟨?_, ?_⟩)) ?_ | refine CallE.intro _ (oLinesT _ exT (by decide +kernel)) ?_ | refine CallE.introA (oLinesT _ exT (by decide +kernel)) (by repeat (first | exact trivial | exact .inl (.inl rfl) | exact .inl (.inr ⟨_, rfl, rfl⟩) | exact .inl rfl | exact .inr ⟨_, rfl, rfl⟩ | refine .inr ⟨_, _, rfl, rfl, ?_⟩ | refine ⟨?_, ?_⟩)) ?_ | refine CallE.intro _ (fun _ => oLinesT _ exT (by decide +kernel)) ?_ | refine CallE.intro _ (fun _ => SCall.arg (by repeat (first | exact trivial | exact .inl (.inl rfl) | exact .inl (.inr ⟨_, rfl, rfl⟩) | exact .inl rfl | exact .inr ⟨_, rfl, rfl⟩ | refine .inr ⟨_, _, rfl, rfl, ?_⟩ | refine ⟨?_, ?_⟩)) (oLinesT _ exT (by decide +kernel))) ?_ | refine CallE2.intro _ _ (oLinesT _ exT (by decide +kernel)) ?_ | refine CallE2.intro _ _ (SCall.arg (by repeat (first | exact trivial | exact .inl (.inl rfl) | exact .inl (.inr ⟨_, rfl, rfl⟩) | exact .inl rfl | exact .inr ⟨_, rfl, rfl⟩ | refine .inr ⟨_, _, rfl, rfl, ?_⟩ | refine ⟨?_, ?_⟩)) (oLinesT _ exT (by decide +kernel))) ?_)
  (repeat (first | simp -dsimp only [st_run, sz_run, st1_run, cl_run, st_Str, sz_Str, st1_Str, cl_Str, st_c, sz_c, st1_c, cl_c, st_attr, sz_attr, st1_attr, cl_attr, st_tree, sz_tree, st1_tree, cl_tree, hl, List.map_cons, List.map_nil, RB, TB, keep32, tab32, ewOp, xop, xindexAddr, xindex, xslice, xconvert, xlen, drawStep, FreeW, SameW, ChangeW, limBytes, Nat.reduceBEq, Nat.reduceAdd, Nat.reduceEqDiff, Nat.reduceLT, Nat.reduceLeDiff, Nat.reduceMul, Nat.reduceSub, Int.reduceBEq, Int.reduceBNe, Int.reduceToNat, Int.reduceLT, Int.reduceLE, Int.reduceGT, Int.reduceGE, Int.reduceAdd, Int.reduceSub, Int.reduceNeg, Int.reduceEq, Int.toNat_zero, Int.toNat_one, reduceIte, reduceCtorEq, ne_eq, decide_true, decide_false] | ((with_reducible refine Need.intro ?_ ?_); (first | trivial | omega | (simp; done) | (simp; omega)))))
  (first | refine SCall.then (oQuote _ [97, 34] (by decide)) ?_ | refine SCall.thenA (oQuote _ [97, 34] (by decide)) (by repeat (first | exact trivial | exact .inl (.inl rfl) | exact .inl (.inr ⟨_, rfl, rfl⟩) | exact .inl rfl | exact .inr ⟨_, rfl, rfl⟩ | refine .inr ⟨_, _, rfl, rfl, ?_⟩ | refine ⟨?_, ?_⟩)) ?_ | refine CallE.intro _ (oQuote _ [97, 34] (by decide)) ?_ | refine CallE.introA (oQuote _ [97, 34] (by decide)) (by repeat (first | exact trivial | exact .inl (.inl rfl) | exact .inl (.inr ⟨_, rfl, rfl⟩) | exact .inl rfl | exact .inr ⟨_, rfl, rfl⟩ | refine .inr ⟨_, _, rfl, rfl, ?_⟩ | refine ⟨?_, ?_⟩)) ?_ | refine CallE.intro _ (fun _ => oQuote _ [97, 34] (by decide)) ?_ | refine CallE.intro _ (fun _ => SCall.arg (by repeat (first | exact trivial | exact .inl (.inl rfl) | exact .inl (.inr ⟨_, rfl, rfl⟩) | exact .inl rfl | exact .inr ⟨_, rfl, rfl⟩ | refine .inr ⟨_, _, rfl, rfl, ?_⟩ | refine ⟨?_, ?_⟩)) (oQuote _ [97, 34] (by decide))) ?_ | refine CallE2.intro _ _ (oQuote _ [97, 34] (by decide)) ?_ | refine CallE2.intro _ _ (SCall.arg (by repeat (first | exact trivial | exact .inl (.inl rfl) | exact .inl (.inr ⟨_, rfl, rfl⟩) | exact .inl rfl | exact .inr ⟨_, rfl, rfl⟩ | refine .inr ⟨_, _, rfl, rfl, ?_⟩ | refine ⟨?_, ?_⟩)) (oQuote _ [97, 34] (by decide))) ?_)
  (repeat (first | simp -dsimp only [st_run, sz_run, st1_run, cl_run, st_Str, sz_Str, st1_Str, cl_Str, st_c, sz_c, st1_c, cl_c, st_attr, sz_attr, st1_attr, cl_attr, st_tree, sz_tree, st1_tree, cl_tree, show (quoteS [97, 34] == [34, 97, 92, 34, 34]) = true from by decide +kernel, RB, TB, keep32, tab32, ewOp, xop, xindexAddr, xindex, xslice, xconvert, xlen, drawStep, FreeW, SameW, ChangeW, limBytes, Nat.reduceBEq, Nat.reduceAdd, Nat.reduceEqDiff, Nat.reduceLT, Nat.reduceLeDiff, Nat.reduceMul, Nat.reduceSub, Int.reduceBEq, Int.reduceBNe, Int.reduceToNat, Int.reduceLT, Int.reduceLE, Int.reduceGT, Int.reduceGE, Int.reduceAdd, Int.reduceSub, Int.reduceNeg, Int.reduceEq, Int.toNat_zero, Int.toNat_one, reduceIte, reduceCtorEq, ne_eq, decide_true, decide_false] | ((with_reducible refine Need.intro ?_ ?_); (first | trivial | omega | (simp; done) | (simp; omega)))))
  (repeat (first | simp -dsimp only [st_run, sz_run, st1_run, cl_run, st_Str, sz_Str, st1_Str, cl_Str, st_c, sz_c, st1_c, cl_c, st_attr, sz_attr, st1_attr, cl_attr, st_tree, sz_tree, st1_tree, cl_tree, show (([32, 32, 34, 120, 34] : List UInt8) == [32, 32, 34, 120, 34]) = true from rfl, RB, TB, keep32, tab32, ewOp, xop, xindexAddr, xindex, xslice, xconvert, xlen, drawStep, FreeW, SameW, ChangeW, limBytes, Nat.reduceBEq, Nat.reduceAdd, Nat.reduceEqDiff, Nat.reduceLT, Nat.reduceLeDiff, Nat.reduceMul, Nat.reduceSub, Int.reduceBEq, Int.reduceBNe, Int.reduceToNat, Int.reduceLT, Int.reduceLE, Int.reduceGT, Int.reduceGE, Int.reduceAdd, Int.reduceSub, Int.reduceNeg, Int.reduceEq, Int.toNat_zero, Int.toNat_one, reduceIte, reduceCtorEq, ne_eq, decide_true, decide_false] | ((with_reducible refine Need.intro ?_ ?_); (first | trivial | omega | (simp; done) | (simp; omega)))))
  refine RetW.auto0 false _ (by first | rfl | exact (List.append_nil _).symm) ?_ ?_
  · (simp (maxDischargeDepth := 6) [LTB, HLt_set, ltL_take, ltL_drop, ltL_rep, ltL_set, upd, eset, hH, hHk, lt_vi, lt_str, lt_vb, ltc_str, ltc_vi, lt_run, lt1_run, ltc_run, lt_Str, lt1_Str, ltc_Str, lt_c, lt1_c, ltc_c, lt_attr, lt1_attr, ltc_attr, lt_tree, lt1_tree, ltc_tree] <;> omega)
  (try simp only [wk, wk1, wk0, RB, limBytes, Nat.reduceBEq, Nat.reduceAdd, Nat.reduceEqDiff, Nat.reduceLT, Nat.reduceLeDiff, Nat.reduceMul, Nat.reduceSub, Int.reduceBEq, Int.reduceBNe, Int.reduceToNat, Int.reduceLT, Int.reduceLE, Int.reduceGT, Int.reduceGE, Int.reduceAdd, Int.reduceSub, Int.reduceNeg, Int.reduceEq, Int.toNat_zero, Int.toNat_one, reduceIte, reduceCtorEq, ne_eq, decide_true, decide_false])
  (try (rw [List.take_of_length_le]; rotate_left 1; (· first | (simp; done) | (simp; omega) | omega)))
end Go.Proofs.Ytjhjcldpcngldaa

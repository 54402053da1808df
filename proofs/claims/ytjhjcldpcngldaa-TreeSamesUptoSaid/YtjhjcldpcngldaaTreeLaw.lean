/- The plain laws of trees: what is merged by the law is, in its own form, what is merged by the package. -/
import Derived.Test.YtjhjcldpcngldaaTree6
import Derived.Test.YtjhjcldpcngldaaRefStr
set_option linter.unusedSimpArgs false
set_option linter.unusedVariables false
set_option maxRecDepth 100000
namespace Go.Proofs.Ytjhjcldpcngldaa
open Go Go.EL
theorem fix_eq {a b : Str} (h : fixS a = fixS b) : a.text = b.text ∧ orig a = orig b := like_iff.2 h
theorem fm_near (l : List Str) : ∀ o ∈ l.flatMap orig, 0 ≤ o ∧ o ≤ 65536 := fun o ho => by
  obtain ⟨s, _, h⟩ := List.mem_flatMap.1 ho
  exact orig_near s o h
theorem cat_orig (l : List Str) : orig (catS l) = l.flatMap orig := orig_rle (fm_orig l) (fm_near l)
theorem fx_tag {t u : Tree} (h : fxT t = fxT u) : fixS t.tag = fixS u.tag ∧ t.attrs.map ownA = u.attrs.map ownA ∧ t.kids.map fxT = u.kids.map fxT ∧ fixS t.text = fixS u.text := by
  rw [fxT_eq, fxT_eq] at h
  injection h with h1 h2 h3 h4
  exact ⟨h1, h2, h3, h4⟩
theorem fx_isE {t u : Tree} (h : fxT t = fxT u) : t.isE = u.isE := by
  unfold Tree.isE
  rw [(fix_eq (fx_tag h).1).1]
theorem fix_nil {s : Str} (h : s.text = []) : fixS s = zeroS := by
  obtain ⟨t, r⟩ := s
  simp only at h
  subst h
  have := orig_len ⟨[], r⟩
  simp only [List.length_nil] at this
  unfold fixS
  rw [List.eq_nil_of_length_eq_zero this]
  rfl
theorem fix_zero : fixS zeroS = zeroS := fix_nil rfl
theorem isE_fix (s : Str) (a b : List Attr) (k k' : List Tree) (x y : Str) : (Tree.mk (fixS s) a k x).isE = (Tree.mk s b k' y).isE := rfl
def zeroI (acc : List Tree) : Prop := ∀ u ∈ acc, u.isE = false → u.attrs = [] ∧ u.kids = []
theorem step_zero {acc : List Tree} (t : Tree) (ks : List Tree) (h : zeroI acc) : zeroI (stepM acc t ks) := by
  unfold stepM
  split
  · rename_i he
    intro u hu hf
    rcases List.mem_append.1 hu with hu | hu
    · exact h u hu hf
    · rw [List.mem_singleton.1 hu] at hf
      have : (Tree.mk (fixS t.tag) (onceA t.attrs []) ks zeroS).isE = t.isE := rfl
      rw [this, he] at hf; cases hf
  · split
    · exact h
    · split
      · intro u hu _; rw [List.mem_singleton.1 hu]; exact ⟨rfl, rfl⟩
      · rename_i u hl
        obtain ⟨ys, rfl⟩ := List.getLast?_eq_some_iff.1 hl
        split
        · intro v hv hf
          rcases List.mem_append.1 hv with hv | hv
          · exact h v hv hf
          · rw [List.mem_singleton.1 hv]; exact ⟨rfl, rfl⟩
        · rename_i hu
          rw [List.dropLast_concat]
          intro v hv hf
          rcases List.mem_append.1 hv with hv | hv
          · exact h v (by simp [hv]) hf
          · rw [List.mem_singleton.1 hv]
            exact h u (by simp) (by simpa using hu)
theorem step_fx {acc acc' : List Tree} (t : Tree) {ks ks' : List Tree} (h : acc.map fxT = acc'.map fxT) (hk : ks.map fxT = ks'.map fxT) (hz : zeroI acc) : (stepM acc t ks).map fxT = (stepR acc' t ks').map fxT := by
  unfold stepM stepR
  split
  · simp only [List.map_append, h, List.map_cons, List.map_nil, fxT_mk, fix_fix, hk]
  · split
    · exact h
    · rcases List.eq_nil_or_concat acc with ha | ⟨ys, u, ha⟩
      · subst ha
        have ha' : acc' = [] := by simpa using h.symm
        subst ha'
        simp [fxT_mk, fix_fix]
      · rw [List.concat_eq_append] at ha
        subst ha
        rcases List.eq_nil_or_concat acc' with ha' | ⟨ys', u', ha'⟩
        · subst ha'; simp at h
        · rw [List.concat_eq_append] at ha'
          subst ha'
          simp only [List.map_append, List.map_cons, List.map_nil] at h
          obtain ⟨h1, h2⟩ := List.append_inj' h rfl
          injection h2 with h2 _
          simp only [List.getLast?_concat, List.dropLast_concat]
          rw [fx_isE h2]
          obtain ⟨e1, e2, e3, e4⟩ := fx_tag h2
          split
          · simp only [List.map_append, h1, h2, List.map_cons, List.map_nil, fxT_mk, fix_fix]
          · rename_i hu'
            have hu : u.isE = false := by rw [fx_isE h2]; simpa using hu'
            obtain ⟨z1, z2⟩ := hz u (by simp) hu
            have z3 : u.tag.text = [] := by simpa [Tree.isE] using hu
            have z4 : catS [u.text, t.text] = catS [u'.text, t.text] := by
              obtain ⟨f1, f2⟩ := fix_eq e4
              simp [catS, f1, f2]
            simp only [List.map_append, h1, List.map_cons, List.map_nil, fxT_mk, z1, z2, z4, fix_nil z3, fix_zero]
mutual
theorem mergeK_fx : ∀ t : Tree, (mergeK t).map fxT = (mergeRK t).map fxT
  | .mk tag attrs kids text => by
    rw [mergeK, mergeRK]
    exact mergeF_fx kids [] [] rfl (fun u hu => by cases hu)
theorem mergeF_fx : ∀ (l acc acc' : List Tree), acc.map fxT = acc'.map fxT → zeroI acc → (mergeF l acc).map fxT = (mergeRF l acc').map fxT
  | [], acc, acc', h, hz => by simp only [mergeF, mergeRF]; exact h
  | t :: l, acc, acc', h, hz => by
    simp only [mergeF, mergeRF]
    exact mergeF_fx l _ _ (step_fx t h (mergeK_fx t) hz) (step_zero t _ hz)
end
theorem merge_fx (l : List Tree) : (mergeT l).map fxT = (mergeR l).map fxT := mergeF_fx l [] [] rfl (fun u hu => by cases hu)
/-! what is gone through -/
def fxP (p : Tree × Int) : Tree × Int := (fxT p.1, p.2)
mutual
theorem visK_fx : ∀ (t : Tree) (d : Int), visK (fxT t) d = (visK t d).map fxP
  | .mk tag attrs kids text, d => by rw [fxT, visK, visK]; exact visL_fx kids (d + 1)
theorem visL_fx : ∀ (l : List Tree) (d : Int), visL (fxs l) d = (visL l d).map fxP
  | [], d => by simp only [fxs, visL, List.map_nil]
  | t :: l, d => by
    simp only [fxs, visL, List.map_cons, List.map_append]
    rw [visK_fx t d, visL_fx l d]
    rfl
end
theorem isE_fx (t : Tree) : (fxT t).isE = t.isE := by rw [fxT_eq]; rfl
theorem tags_fx (l : List (Tree × Int)) : tagsF (l.map fxP) = tagsF l := by
  induction l with
  | nil => rfl
  | cons a l ih =>
    unfold tagsF at ih ⊢
    have e : (fxP a).1.tag.text = a.1.tag.text := by unfold fxP; simp only [fxT_eq a.1]; rfl
    simp only [List.map_cons, List.filter_cons]
    have e2 : (fxP a).1.isE = a.1.isE := isE_fx a.1
    rw [e2]
    split
    · simp only [List.map_cons, e, ih]
    · exact ih
theorem dep_fx : ∀ (l : List (Tree × Int)) (m : Int), depF (l.map fxP) m = depF l m
  | [], m => rfl
  | a :: l, m => by
    have e2 : (fxP a).1.isE = a.1.isE := isE_fx a.1
    simp only [List.map_cons, depF, e2, dep_fx l]
    rfl
theorem letters_fx (l : List (Tree × Int)) : lettersF (l.map fxP) = lettersF l := by
  induction l with
  | nil => rfl
  | cons a l ih =>
    unfold lettersF at ih ⊢
    have e : ofS (fxP a).1.text = ofS a.1.text := by
      have : (fxP a).1.text = fixS a.1.text := by unfold fxP; simp only [fxT_eq a.1]; rfl
      rw [this]; exact ofS_inj.2 (Like_fix _)
    simp only [List.map_cons, List.flatMap_cons, e, ih]
theorem vis_same {a b : List Tree} (h : a.map fxT = b.map fxT) (d : Int) : (visL a d).map fxP = (visL b d).map fxP := by
  rw [← visL_fx, ← visL_fx, fxs_map, fxs_map, h]
theorem letters_fst : ∀ l : List (Tree × Int), (lettersF l).map Prod.fst = (wordsF l).flatMap Str.text
  | [] => rfl
  | a :: l => by
    have ih := letters_fst l
    unfold lettersF wordsF at *
    simp only [List.flatMap_cons, List.map_append, List.map_cons, ih, ofS_fst]
theorem letters_snd : ∀ l : List (Tree × Int), (lettersF l).map Prod.snd = (wordsF l).flatMap orig
  | [] => rfl
  | a :: l => by
    have ih := letters_snd l
    unfold lettersF wordsF at *
    simp only [List.flatMap_cons, List.map_append, List.map_cons, ih, ofS_snd]
theorem cat_letters (l : List (Tree × Int)) : catS (wordsF l) = strR (lettersF l) := by
  unfold catS strR
  rw [letters_fst, letters_snd]
/-! sizes -/
def mrS (t : Tree) : Nat := szS' t.tag + (t.attrs.map szA').sum + szTs t.kids + 2 * t.text.text.length + max t.text.text.length t.text.runs.length + 3
def mrL (l : List Tree) : Nat := (l.map mrS).sum
theorem mrL_app (a b : List Tree) : mrL (a ++ b) = mrL a + mrL b := by simp [mrL]
theorem stepR_sz (acc : List Tree) (t : Tree) (ks : List Tree) (hk : szTs ks ≤ 3 * szTs t.kids) : mrL (stepR acc t ks) ≤ mrL acc + 3 * szT t := by
  have hsz := szT_eq t
  have h2 := once_sz t.attrs []
  have h3 : 1 ≤ szS' t.tag := by unfold szS'; omega
  have h4 : t.text.text.length + t.text.runs.length + 1 = szS' t.text := rfl
  have z : szS' zeroS = 1 := rfl
  simp only [List.map_nil, List.sum_nil, Nat.zero_add] at h2
  unfold stepR
  split
  · rw [mrL_app]
    have e : mrL [Tree.mk t.tag (onceA t.attrs []) ks zeroS] = szS' t.tag + ((onceA t.attrs []).map szA').sum + szTs ks + 2 * 0 + max 0 0 + 3 := by simp [mrL, mrS, Tree.tag, Tree.attrs, Tree.kids, Tree.text, zeroS]
    omega
  · split
    · omega
    · have e : mrL [Tree.mk zeroS [] [] t.text] = 1 + 2 * t.text.text.length + max t.text.text.length t.text.runs.length + 3 := by simp [mrL, mrS, Tree.tag, Tree.attrs, Tree.kids, Tree.text, z, szTs]
      split
      · omega
      · rename_i u hl
        obtain ⟨ys, rfl⟩ := List.getLast?_eq_some_iff.1 hl
        split
        · rw [mrL_app]; omega
        · rw [List.dropLast_concat, mrL_app, mrL_app]
          have hr := cat_runs [u.text, t.text]
          have hl : (catS [u.text, t.text]).text.length = u.text.text.length + t.text.text.length := by simp [catS]
          have e1 : mrL [Tree.mk zeroS [] [] (catS [u.text, t.text])] = 1 + 2 * (catS [u.text, t.text]).text.length + max (catS [u.text, t.text]).text.length (catS [u.text, t.text]).runs.length + 3 := by simp [mrL, mrS, Tree.tag, Tree.attrs, Tree.kids, Tree.text, z, szTs]
          have e2 : mrL [u] = mrS u := by simp [mrL]
          have e3 : 1 ≤ szS' u.tag := by unfold szS'; omega
          have e4 : mrS u = szS' u.tag + (u.attrs.map szA').sum + szTs u.kids + 2 * u.text.text.length + max u.text.text.length u.text.runs.length + 3 := rfl
          omega
theorem sz_mr : ∀ l : List Tree, szTs l ≤ mrL l
  | [] => by simp [szTs]
  | t :: l => by
    have h1 := sz_mr l
    have h3 := szT_eq t
    have h4 : szS' t.text = t.text.text.length + t.text.runs.length + 1 := rfl
    have h5 : mrL (t :: l) = mrS t + mrL l := by simp [mrL]
    have h6 : mrS t = szS' t.tag + (t.attrs.map szA').sum + szTs t.kids + 2 * t.text.text.length + max t.text.text.length t.text.runs.length + 3 := rfl
    simp only [szTs]
    omega
mutual
theorem mergeRK_sz : ∀ t : Tree, szTs (mergeRK t) ≤ 3 * szTs t.kids
  | .mk tag attrs kids text => by
    have h1 := mergeRF_sz kids []
    have h5 : mrL ([] : List Tree) = 0 := rfl
    have h6 := sz_mr (mergeRF kids [])
    rw [mergeRK]
    show szTs (mergeRF kids []) ≤ 3 * szTs kids
    omega
theorem mergeRF_sz : ∀ (l acc : List Tree), mrL (mergeRF l acc) ≤ mrL acc + 3 * szTs l
  | [], acc => by simp only [mergeRF, szTs]; omega
  | t :: l, acc => by
    have h1 := mergeRF_sz l (stepR acc t (mergeRK t))
    have h2 := stepR_sz acc t (mergeRK t) (mergeRK_sz t)
    simp only [mergeRF, szTs]
    omega
end
theorem mergeR_sz (l : List Tree) : szTs (mergeR l) ≤ 3 * szTs l := by
  have h := mergeRF_sz l []
  have h5 : mrL ([] : List Tree) = 0 := rfl
  have h6 := sz_mr (mergeRF l [])
  unfold mergeR; omega
/-! the law's example -/
def exL : List Tree := [.mk zeroS [] [] ⟨[97], rle (List.replicate 1 (near 0))⟩, .mk zeroS [] [] zeroS, .mk zeroS [] [] ⟨[98], rle (List.replicate 1 (near 0))⟩]
theorem alive11 (H : List Ob) : SCall Try.prog 35 [] H (fun r H' => r = .bool true ∧ H' = H) := by
  have hl : (mergeT exL).length = 1 := by decide +kernel
  have hlt : 0 < (mergeT exL).length := by rw [hl]; decide
  have hx0 : ((mergeT exL)[0]?.map fun t => t.text.text) = some [97, 98] := by decide +kernel
  have hx : (mergeT exL)[0].text.text = [97, 98] := by rw [List.getElem?_eq_getElem hlt] at hx0; simpa using hx0
  have hv : (visA (mergeT exL)).length = 1 := by decide +kernel
  have hsz : szTs (mergeT exL) ≤ 100000000 := by decide +kernel
  refine SCall.of_good fun hH => ?_
  have hHk := HLt.add hH
  refine SCall.of_code Tok Try.func35 rfl Try.call35 (n := 25) rfl (by simp) (rs := [.tmp 0]) rfl ?_
  refine EWn.to ?_
  refine EWn.of_c Tok mixed (own := false) keep35 tab35 (by kernel_rfl) ?_
  (repeat (first | simp -dsimp only [st_run, sz_run, st1_run, cl_run, st_Str, sz_Str, st1_Str, cl_Str, st_c, sz_c, st1_c, cl_c, st_attr, sz_attr, st1_attr, cl_attr, st_tree, sz_tree, st1_tree, cl_tree, RB, TB, keep35, tab35, ewOp, xop, xindexAddr, xindex, xslice, xconvert, xlen, drawStep, FreeW, StabW, isStab, SameW, ChangeW, limBytes, Nat.reduceBEq, Nat.reduceAdd, Nat.reduceEqDiff, Nat.reduceLT, Nat.reduceLeDiff, Nat.reduceMul, Nat.reduceSub, Int.reduceBEq, Int.reduceBNe, Int.reduceToNat, Int.reduceLT, Int.reduceLE, Int.reduceGT, Int.reduceGE, Int.reduceAdd, Int.reduceSub, Int.reduceNeg, Int.reduceEq, Int.toNat_zero, Int.toNat_one, reduceIte, reduceCtorEq, ne_eq, decide_true, decide_false] | ((with_reducible refine Need.intro ?_ ?_); (first | trivial | omega | (simp; done) | (simp; omega)))))
  (first | refine SCall.then (mOf _ _ _) ?_ | refine SCall.thenA (mOf _ _ _) (by repeat (first | exact trivial | exact .inl (.inl rfl) | exact .inl (.inr ⟨_, rfl, rfl⟩) | exact .inl rfl | exact .inr ⟨_, rfl, rfl⟩ | refine .inr ⟨_, _, rfl, rfl, ?_⟩ | refine ⟨?_, ?_⟩)) ?_ | refine CallE.intro _ (mOf _ _ _) ?_ | refine CallE.introA (mOf _ _ _) (by repeat (first | exact trivial | exact .inl (.inl rfl) | exact .inl (.inr ⟨_, rfl, rfl⟩) | exact .inl rfl | exact .inr ⟨_, rfl, rfl⟩ | refine .inr ⟨_, _, rfl, rfl, ?_⟩ | refine ⟨?_, ?_⟩)) ?_ | refine CallE.intro _ (fun _ => mOf _ _ _) ?_ | refine CallE.intro _ (fun _ => SCall.arg (by repeat (first | exact trivial | exact .inl (.inl rfl) | exact .inl (.inr ⟨_, rfl, rfl⟩) | exact .inl rfl | exact .inr ⟨_, rfl, rfl⟩ | refine .inr ⟨_, _, rfl, rfl, ?_⟩ | refine ⟨?_, ?_⟩)) (mOf _ _ _)) ?_ | refine CallE2.intro _ _ (mOf _ _ _) ?_ | refine CallE2.intro _ _ (SCall.arg (by repeat (first | exact trivial | exact .inl (.inl rfl) | exact .inl (.inr ⟨_, rfl, rfl⟩) | exact .inl rfl | exact .inr ⟨_, rfl, rfl⟩ | refine .inr ⟨_, _, rfl, rfl, ?_⟩ | refine ⟨?_, ?_⟩)) (mOf _ _ _)) ?_)
  (repeat (first | simp -dsimp only [st_run, sz_run, st1_run, cl_run, st_Str, sz_Str, st1_Str, cl_Str, st_c, sz_c, st1_c, cl_c, st_attr, sz_attr, st1_attr, cl_attr, st_tree, sz_tree, st1_tree, cl_tree, strV, RB, TB, keep35, tab35, ewOp, xop, xindexAddr, xindex, xslice, xconvert, xlen, drawStep, FreeW, StabW, isStab, SameW, ChangeW, limBytes, Nat.reduceBEq, Nat.reduceAdd, Nat.reduceEqDiff, Nat.reduceLT, Nat.reduceLeDiff, Nat.reduceMul, Nat.reduceSub, Int.reduceBEq, Int.reduceBNe, Int.reduceToNat, Int.reduceLT, Int.reduceLE, Int.reduceGT, Int.reduceGE, Int.reduceAdd, Int.reduceSub, Int.reduceNeg, Int.reduceEq, Int.toNat_zero, Int.toNat_one, reduceIte, reduceCtorEq, ne_eq, decide_true, decide_false] | ((with_reducible refine Need.intro ?_ ?_); (first | trivial | omega | (simp; done) | (simp; omega)))))
  (first | refine SCall.then (mOf _ _ _) ?_ | refine SCall.thenA (mOf _ _ _) (by repeat (first | exact trivial | exact .inl (.inl rfl) | exact .inl (.inr ⟨_, rfl, rfl⟩) | exact .inl rfl | exact .inr ⟨_, rfl, rfl⟩ | refine .inr ⟨_, _, rfl, rfl, ?_⟩ | refine ⟨?_, ?_⟩)) ?_ | refine CallE.intro _ (mOf _ _ _) ?_ | refine CallE.introA (mOf _ _ _) (by repeat (first | exact trivial | exact .inl (.inl rfl) | exact .inl (.inr ⟨_, rfl, rfl⟩) | exact .inl rfl | exact .inr ⟨_, rfl, rfl⟩ | refine .inr ⟨_, _, rfl, rfl, ?_⟩ | refine ⟨?_, ?_⟩)) ?_ | refine CallE.intro _ (fun _ => mOf _ _ _) ?_ | refine CallE.intro _ (fun _ => SCall.arg (by repeat (first | exact trivial | exact .inl (.inl rfl) | exact .inl (.inr ⟨_, rfl, rfl⟩) | exact .inl rfl | exact .inr ⟨_, rfl, rfl⟩ | refine .inr ⟨_, _, rfl, rfl, ?_⟩ | refine ⟨?_, ?_⟩)) (mOf _ _ _)) ?_ | refine CallE2.intro _ _ (mOf _ _ _) ?_ | refine CallE2.intro _ _ (SCall.arg (by repeat (first | exact trivial | exact .inl (.inl rfl) | exact .inl (.inr ⟨_, rfl, rfl⟩) | exact .inl rfl | exact .inr ⟨_, rfl, rfl⟩ | refine .inr ⟨_, _, rfl, rfl, ?_⟩ | refine ⟨?_, ?_⟩)) (mOf _ _ _)) ?_)
  (repeat (first | simp -dsimp only [st_run, sz_run, st1_run, cl_run, st_Str, sz_Str, st1_Str, cl_Str, st_c, sz_c, st1_c, cl_c, st_attr, sz_attr, st1_attr, cl_attr, st_tree, sz_tree, st1_tree, cl_tree, strV, RB, TB, keep35, tab35, ewOp, xop, xindexAddr, xindex, xslice, xconvert, xlen, drawStep, FreeW, StabW, isStab, SameW, ChangeW, limBytes, Nat.reduceBEq, Nat.reduceAdd, Nat.reduceEqDiff, Nat.reduceLT, Nat.reduceLeDiff, Nat.reduceMul, Nat.reduceSub, Int.reduceBEq, Int.reduceBNe, Int.reduceToNat, Int.reduceLT, Int.reduceLE, Int.reduceGT, Int.reduceGE, Int.reduceAdd, Int.reduceSub, Int.reduceNeg, Int.reduceEq, Int.toNat_zero, Int.toNat_one, reduceIte, reduceCtorEq, ne_eq, decide_true, decide_false] | ((with_reducible refine Need.intro ?_ ?_); (first | trivial | omega | (simp; done) | (simp; omega)))))
  (first | refine SCall.deep ?_ | refine CallE.deep ?_)
  simp -dsimp only [wdV, wdVs, wds_run]
  have e : V.slice [V.agg [V.str [], V.slice [], V.slice [], V.slice [], V.str [97], V.slice (List.map runV (rle (List.replicate 1 (near 0))))], V.agg [V.str [], V.slice [], V.slice [], V.slice [], V.str [], V.slice []], V.agg [V.str [], V.slice [], V.slice [], V.slice [], V.str [98], V.slice (List.map runV (rle (List.replicate 1 (near 0))))]] = .slice (exL.map treeV) := by simp [exL, treeV_mk, zeroS]
  rw [e]
  have hte := treeV_eq (mergeT exL)[0]
  rw [hx] at hte
  (first | refine SCall.then (tMerge _ exL (Nat.le_refl _) (by decide +kernel) _) ?_ | refine SCall.thenA (tMerge _ exL (Nat.le_refl _) (by decide +kernel) _) (by repeat (first | exact trivial | exact .inl (.inl rfl) | exact .inl (.inr ⟨_, rfl, rfl⟩) | exact .inl rfl | exact .inr ⟨_, rfl, rfl⟩ | refine .inr ⟨_, _, rfl, rfl, ?_⟩ | refine ⟨?_, ?_⟩)) ?_ | refine CallE.intro _ (tMerge _ exL (Nat.le_refl _) (by decide +kernel) _) ?_ | refine CallE.introA (tMerge _ exL (Nat.le_refl _) (by decide +kernel) _) (by repeat (first | exact trivial | exact .inl (.inl rfl) | exact .inl (.inr ⟨_, rfl, rfl⟩) | exact .inl rfl | exact .inr ⟨_, rfl, rfl⟩ | refine .inr ⟨_, _, rfl, rfl, ?_⟩ | refine ⟨?_, ?_⟩)) ?_ | refine CallE.intro _ (fun _ => tMerge _ exL (Nat.le_refl _) (by decide +kernel) _) ?_ | refine CallE.intro _ (fun _ => SCall.arg (by repeat (first | exact trivial | exact .inl (.inl rfl) | exact .inl (.inr ⟨_, rfl, rfl⟩) | exact .inl rfl | exact .inr ⟨_, rfl, rfl⟩ | refine .inr ⟨_, _, rfl, rfl, ?_⟩ | refine ⟨?_, ?_⟩)) (tMerge _ exL (Nat.le_refl _) (by decide +kernel) _)) ?_ | refine CallE2.intro _ _ (tMerge _ exL (Nat.le_refl _) (by decide +kernel) _) ?_ | refine CallE2.intro _ _ (SCall.arg (by repeat (first | exact trivial | exact .inl (.inl rfl) | exact .inl (.inr ⟨_, rfl, rfl⟩) | exact .inl rfl | exact .inr ⟨_, rfl, rfl⟩ | refine .inr ⟨_, _, rfl, rfl, ?_⟩ | refine ⟨?_, ?_⟩)) (tMerge _ exL (Nat.le_refl _) (by decide +kernel) _)) ?_)
  (repeat (first | simp -dsimp only [st_run, sz_run, st1_run, cl_run, st_Str, sz_Str, st1_Str, cl_Str, st_c, sz_c, st1_c, cl_c, st_attr, sz_attr, st1_attr, cl_attr, st_tree, sz_tree, st1_tree, cl_tree, hl, at_map treeV (mergeT exL) 0 hlt, hte, RB, TB, keep35, tab35, ewOp, xop, xindexAddr, xindex, xslice, xconvert, xlen, drawStep, FreeW, StabW, isStab, SameW, ChangeW, limBytes, Nat.reduceBEq, Nat.reduceAdd, Nat.reduceEqDiff, Nat.reduceLT, Nat.reduceLeDiff, Nat.reduceMul, Nat.reduceSub, Int.reduceBEq, Int.reduceBNe, Int.reduceToNat, Int.reduceLT, Int.reduceLE, Int.reduceGT, Int.reduceGE, Int.reduceAdd, Int.reduceSub, Int.reduceNeg, Int.reduceEq, Int.toNat_zero, Int.toNat_one, reduceIte, reduceCtorEq, ne_eq, decide_true, decide_false] | ((with_reducible refine Need.intro ?_ ?_); (first | trivial | omega | (simp; done) | (simp; omega)))))
  (first | refine SCall.then (tSize _ (mergeT exL) hsz) ?_ | refine SCall.thenA (tSize _ (mergeT exL) hsz) (by repeat (first | exact trivial | exact .inl (.inl rfl) | exact .inl (.inr ⟨_, rfl, rfl⟩) | exact .inl rfl | exact .inr ⟨_, rfl, rfl⟩ | refine .inr ⟨_, _, rfl, rfl, ?_⟩ | refine ⟨?_, ?_⟩)) ?_ | refine CallE.intro _ (tSize _ (mergeT exL) hsz) ?_ | refine CallE.introA (tSize _ (mergeT exL) hsz) (by repeat (first | exact trivial | exact .inl (.inl rfl) | exact .inl (.inr ⟨_, rfl, rfl⟩) | exact .inl rfl | exact .inr ⟨_, rfl, rfl⟩ | refine .inr ⟨_, _, rfl, rfl, ?_⟩ | refine ⟨?_, ?_⟩)) ?_ | refine CallE.intro _ (fun _ => tSize _ (mergeT exL) hsz) ?_ | refine CallE.intro _ (fun _ => SCall.arg (by repeat (first | exact trivial | exact .inl (.inl rfl) | exact .inl (.inr ⟨_, rfl, rfl⟩) | exact .inl rfl | exact .inr ⟨_, rfl, rfl⟩ | refine .inr ⟨_, _, rfl, rfl, ?_⟩ | refine ⟨?_, ?_⟩)) (tSize _ (mergeT exL) hsz)) ?_ | refine CallE2.intro _ _ (tSize _ (mergeT exL) hsz) ?_ | refine CallE2.intro _ _ (SCall.arg (by repeat (first | exact trivial | exact .inl (.inl rfl) | exact .inl (.inr ⟨_, rfl, rfl⟩) | exact .inl rfl | exact .inr ⟨_, rfl, rfl⟩ | refine .inr ⟨_, _, rfl, rfl, ?_⟩ | refine ⟨?_, ?_⟩)) (tSize _ (mergeT exL) hsz)) ?_)
  (repeat (first | simp -dsimp only [st_run, sz_run, st1_run, cl_run, st_Str, sz_Str, st1_Str, cl_Str, st_c, sz_c, st1_c, cl_c, st_attr, sz_attr, st1_attr, cl_attr, st_tree, sz_tree, st1_tree, cl_tree, hv, RB, TB, keep35, tab35, ewOp, xop, xindexAddr, xindex, xslice, xconvert, xlen, drawStep, FreeW, StabW, isStab, SameW, ChangeW, limBytes, Nat.reduceBEq, Nat.reduceAdd, Nat.reduceEqDiff, Nat.reduceLT, Nat.reduceLeDiff, Nat.reduceMul, Nat.reduceSub, Int.reduceBEq, Int.reduceBNe, Int.reduceToNat, Int.reduceLT, Int.reduceLE, Int.reduceGT, Int.reduceGE, Int.reduceAdd, Int.reduceSub, Int.reduceNeg, Int.reduceEq, Int.toNat_zero, Int.toNat_one, reduceIte, reduceCtorEq, ne_eq, decide_true, decide_false] | ((with_reducible refine Need.intro ?_ ?_); (first | trivial | omega | (simp; done) | (simp; omega)))))
  refine RetW.auto0 false _ (by first | rfl | exact (List.append_nil _).symm) ?_ ?_
  · (simp (maxDischargeDepth := 6) [LTB, HLt_set, ltL_take, ltL_drop, ltL_rep, ltL_set, upd, eset, hH, hHk, lt_vi, lt_str, lt_vb, ltc_str, ltc_vi, lt_run, lt1_run, ltc_run, lt_Str, lt1_Str, ltc_Str, lt_c, lt1_c, ltc_c, lt_attr, lt1_attr, ltc_attr, lt_tree, lt1_tree, ltc_tree] <;> omega)
  (try simp only [wk, wk1, wk0, RB, limBytes, Nat.reduceBEq, Nat.reduceAdd, Nat.reduceEqDiff, Nat.reduceLT, Nat.reduceLeDiff, Nat.reduceMul, Nat.reduceSub, Int.reduceBEq, Int.reduceBNe, Int.reduceToNat, Int.reduceLT, Int.reduceLE, Int.reduceGT, Int.reduceGE, Int.reduceAdd, Int.reduceSub, Int.reduceNeg, Int.reduceEq, Int.toNat_zero, Int.toNat_one, reduceIte, reduceCtorEq, ne_eq, decide_true, decide_false])
  (try (rw [List.take_of_length_le]; rotate_left 1; (· first | (simp; done) | (simp; omega) | omega)))
end Go.Proofs.Ytjhjcldpcngldaa

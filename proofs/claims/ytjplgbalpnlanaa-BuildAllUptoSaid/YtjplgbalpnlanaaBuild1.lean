/- The walks of package build: a stack of open elements, each with its kids as its own list. -/
import Derived.Test.YtjplgbalpnlanaaBuildLaw
set_option maxHeartbeats 600000
set_option linter.unusedSimpArgs false
set_option linter.unusedVariables false
set_option maxRecDepth 100000
namespace Go.EL
open Go
theorem Gho.adoptElt {n0 : Nat} {H : List Ob} {env : Env} (o j i es : Nat) {ver es0 : Nat} {l cs : List V} (ho : H[o]? = some (.vec ver es0 l)) (hj : l[j]? = some (.agg cs)) (hi : cs[i]? = some (.fslice [])) (hn : n0 ≤ H.length) : Gho n0 env H env (H.set o (.vec ver es0 (l.set j (.agg (cs.set i (.vec H.length 1 0 0))))) ++ [.vec 1 es []]) := by
  intro g w hG
  have hz : g H.length = none := hG.none_of_ge (Nat.le_refl _)
  have hlt := lt_of_get ho
  obtain ⟨h1, h2⟩ := step_one hG H.length (setKey g H.length (some ⟨1, none, es, 0⟩)) (H ++ [.vec 1 es []]) w rfl rfl rfl
    (fun o ho => getElem?_snoc_ne ho) (fun o ho => setKey_other ho) (by simp) (Nat.le_refl _) (fun b hb _ => rfl)
    (fun k' b hk' hb => by rw [setKey_same] at hk'; injection hk' with e; subst e; cases hb)
    (fun h => absurd h (Nat.lt_irrefl _))
    (fun m => by
      rw [setKey_same, getElem?_snoc_eq]
      exact ⟨_, rfl, rfl, rfl, Nat.le_refl _, Nat.zero_le _, Nat.le_refl _, .inl ⟨rfl, rfl⟩⟩)
  have ho1 : (H ++ [Ob.vec 1 es []])[o]? = some (.vec ver es0 l) := by rw [List.getElem?_append_left hlt]; exact ho
  have hob := h1.ob o
  rw [ho1] at hob
  obtain ⟨q, hq1, hq2, hq3, hq4, hq5, hq6, hq7⟩ := hob
  have hset : (H ++ [Ob.vec 1 es []]).set o (.vec ver es0 (l.set j (.agg (cs.set i (.vec H.length 1 0 0))))) = H.set o (.vec ver es0 (l.set j (.agg (cs.set i (.vec H.length 1 0 0))))) ++ [.vec 1 es []] := List.set_append_left _ _ hlt
  have hrep : ∀ {c : Cx}, c.nobj = H.length + 1 → c.key = setKey g H.length (some ⟨1, none, es, 0⟩) → ∀ {cs : List V} {vs : List Value} {i : Nat}, cs[i]? = some (.fslice []) → Reps c cs vs → Reps c (cs.set i (.vec H.length 1 0 0)) vs := by
    intro c hc1 hc2 cs
    induction cs with
    | nil => intro vs i hi _; simp at hi
    | cons x cs ih =>
      intro vs i hi hr
      simp only [Reps] at hr
      obtain ⟨v, vs', rfl, k1, k2, k3⟩ := hr
      cases i with
      | zero =>
        simp at hi
        subst hi
        simp only [List.set_cons_zero, Reps]
        simp only [RepC] at k2
        obtain ⟨a, es', e1, _, _⟩ := k2
        injection e1 with e1
        subst e1
        refine ⟨_, vs', rfl, trivial, ?_, k3⟩
        simp only [RepC]
        refine ⟨⟨by omega, by rw [hc2, setKey_same]; intro e; injection e with e; injection e with e _; cases e⟩, _, rfl, rfl, fun k hk => ?_⟩
        rw [hc2, setKey_same] at hk
        injection hk with hk
        subst hk
        exact ⟨Nat.le_refl _, fun _ => ⟨Nat.le_refl _, a, rfl, fun h => absurd h (Nat.lt_irrefl _)⟩⟩
      | succ i =>
        simp only [List.set_cons_succ, Reps]
        exact ⟨v, vs', rfl, k1, k2, ih (by simpa using hi) k3⟩
  have hrepE : ∀ {c : Cx} {e b : Nat}, c.nobj = H.length + 1 → c.key = setKey g H.length (some ⟨1, none, es, 0⟩) → ∀ {l : List V} {off j : Nat}, l[j]? = some (.agg cs) → RepE c e b off l → RepE c e b off (l.set j (.agg (cs.set i (.vec H.length 1 0 0)))) := by
    intro c e b hc1 hc2 l
    induction l with
    | nil => intro off j hj _; simp at hj
    | cons x l ih =>
      intro off j hj hr
      simp only [RepE] at hr
      obtain ⟨vs, ⟨k0, k1⟩, k2, k3, k4⟩ := hr
      cases j with
      | zero =>
        simp at hj
        subst hj
        simp only [List.set_cons_zero, RepE]
        refine ⟨vs, ⟨trivial, ?_⟩, k2, k3, k4⟩
        simp only [RepC] at k1 ⊢
        exact hrep hc1 hc2 hi k1
      | succ j =>
        simp only [List.set_cons_succ, RepE]
        exact ⟨vs, ⟨k0, k1⟩, k2, k3, ih (by simpa using hj) k4⟩
  have hlen : (H.set o (.vec ver es0 (l.set j (.agg (cs.set i (.vec H.length 1 0 0))))) ++ [Ob.vec 1 es []]).length = (H ++ [Ob.vec 1 es []]).length := by simp
  obtain ⟨h3, h4⟩ := step_one h1 o (setKey g H.length (some ⟨1, none, es, 0⟩)) (H.set o (.vec ver es0 (l.set j (.agg (cs.set i (.vec H.length 1 0 0))))) ++ [.vec 1 es []]) w rfl rfl rfl
    (fun o' ho' => by rw [← hset]; exact set_get_ne ho') (fun _ _ => rfl) (by rw [hlen]; exact Nat.le_refl _) (Nat.le_refl _) (fun _ _ _ => rfl)
    (fun k' b hk' hb => .inr ⟨k', hk', hb⟩) (fun _ k' hk' => ⟨k', hk', Nat.le_refl _, fun _ => rfl⟩)
    (fun m => by
      rw [show (H.set o (.vec ver es0 (l.set j (.agg (cs.set i (.vec H.length 1 0 0))))) ++ [Ob.vec 1 es []])[o]? = some (.vec ver es0 (l.set j (.agg (cs.set i (.vec H.length 1 0 0))))) from by rw [← hset, set_get_eq ho1]]
      refine ⟨q, hq1, hq2, hq3, hq4, hq5, by simpa using hq6, ?_⟩
      rcases hq7 with hq7 | ⟨b, cur, et, fr, p1, p2, p3, p4, p5, p6⟩
      · exact .inl hq7
      · exact .inr ⟨b, cur, et, fr, p1, p2, p3, hrepE (by simp [cxOf]) rfl hj (RepE.mono m _ _ (fun a _ => rfl) _ _ p4), p5, p6⟩)
  refine ⟨_, h3, fun gs ws h => (h.trans h2).trans h4, fun t v hv => (hv.mono h2.mono).mono h4.mono⟩
end Go.EL
namespace Go.Proofs.Ytjplgbalpnlanaa
open Go Go.EL
theorem zrBuild11 : type_of% (And.intro (And.intro (And.intro (And.intro (@st_run) (@sz_run)) (And.intro (@st1_run) (And.intro (@cl_run) (@st_Str)))) (And.intro (And.intro (@sz_Str) (@st1_Str)) (And.intro (@cl_Str) (And.intro (@st_c) (@sz_c))))) (And.intro (And.intro (And.intro (@st1_c) (@cl_c)) (And.intro (@st_attr) (And.intro (@sz_attr) (@st1_attr)))) (And.intro (And.intro (@cl_attr) (@st_tree)) (And.intro (@sz_tree) (And.intro (@st1_tree) (@cl_tree)))))) := And.intro (And.intro (And.intro (And.intro (@st_run) (@sz_run)) (And.intro (@st1_run) (And.intro (@cl_run) (@st_Str)))) (And.intro (And.intro (@sz_Str) (@st1_Str)) (And.intro (@cl_Str) (And.intro (@st_c) (@sz_c))))) (And.intro (And.intro (And.intro (@st1_c) (@cl_c)) (And.intro (@st_attr) (And.intro (@sz_attr) (@st1_attr)))) (And.intro (And.intro (@cl_attr) (@st_tree)) (And.intro (@sz_tree) (And.intro (@st1_tree) (@cl_tree)))))
theorem zlBuild11 : type_of% (And.intro (And.intro (And.intro (And.intro (@lt_vi) (@lt_str)) (And.intro (@lt_vb) (And.intro (@ltc_str) (@ltc_vi)))) (And.intro (And.intro (@lt_run) (@lt1_run)) (And.intro (@ltc_run) (And.intro (@lt_Str) (@lt1_Str))))) (And.intro (And.intro (And.intro (@ltc_Str) (@lt_c)) (And.intro (@lt1_c) (And.intro (@ltc_c) (@lt_attr)))) (And.intro (And.intro (@lt1_attr) (@ltc_attr)) (And.intro (@lt_tree) (And.intro (@lt1_tree) (@ltc_tree)))))) := And.intro (And.intro (And.intro (And.intro (@lt_vi) (@lt_str)) (And.intro (@lt_vb) (And.intro (@ltc_str) (@ltc_vi)))) (And.intro (And.intro (@lt_run) (@lt1_run)) (And.intro (@ltc_run) (And.intro (@lt_Str) (@lt1_Str))))) (And.intro (And.intro (And.intro (@ltc_Str) (@lt_c)) (And.intro (@lt1_c) (And.intro (@ltc_c) (@lt_attr)))) (And.intro (And.intro (@lt1_attr) (@ltc_attr)) (And.intro (@lt_tree) (And.intro (@lt1_tree) (@ltc_tree)))))
/-- an open element: it, its kids' object, and that one's version -/
abbrev Op := Fr × Nat × Nat
def opV (p : Op) : V := .agg [.str p.1.tag.text, .slice (p.1.tag.runs.map runV), .slice (p.1.attrs.map attrV), .vec p.2.1 p.2.2 0 p.1.kids.length, .str [], .slice []]
theorem at_snoc (cs : List V) (x : V) : (cs ++ [x]).getD cs.length .dead = x := by simp
theorem set_snoc (cs : List V) (x y : V) : (cs ++ [x]).set cs.length y = cs ++ [y] := by simp
theorem len_snoc (cs : List V) (x : V) : (cs ++ [x]).length = cs.length + 1 := by simp
theorem bTop (H : List Ob) (s o ver : Nat) (cs : List V) (x : V) (g1 : H[s]? = some (.var [.vec o ver 0 (cs.length + 1)])) (g2 : H[o]? = some (.vec ver 6 (cs ++ [x]))) (hb : cs.length ≤ 1000000000) :
    SCall Try.prog 91 [.ref s 0] H (fun r H' => r = .eref o ver cs.length 0 ∧ H' = H) := by
  have w : IntKind.i64.wrap (((cs.length + 1 : Nat) : Int) - 1) = (cs.length : Int) := by rw [wrapI (by omega)]; omega
  have holt := (List.getElem?_eq_some_iff.1 g2).1
  refine SCall.of_good fun hH => ?_
  have hHk := HLt.add hH
  refine SCall.of_code Tok Try.func91 rfl Try.call91 (n := 14) rfl (by simp) (rs := [.tmp 2]) rfl ?_
  refine EWn.to ?_
  refine EWn.of_c Tok mixed (own := false) keep91 tab91 (by kernel_rfl) ?_
  (repeat (first | simp -dsimp only [zrBuild11, g1, g2, w, len_snoc, RB, TB, keep91, tab91, xindexAddr, xindex, xslice, xconvert, xlen, ewOp, FreeW, StabW, SameW, ChangeW, AddW, BaseW, limBytes, simprocAttr, ne_eq] | ((with_reducible refine Need.intro ?_ ?_); (first | trivial | exact ⟨_, rfl⟩ | exact ⟨[], (List.append_nil _).symm⟩ | omega | (simp; done) | (simp; omega) | exact ⟨by first | trivial | (simp; done), _, by first | rfl | (simp; rfl)⟩))))
  refine RetW.auto0 false _ (by first | rfl | exact (List.append_nil _).symm) ?_ ?_
  · (simp (maxDischargeDepth := 6) [LTB, HLt_set, ltL_take, ltL_drop, ltL_rep, ltL_set, upd, eset, hH, hHk, zlBuild11] <;> omega)
  (try simp only [wk, wk1, wk0, RB, limBytes, simprocAttr, ne_eq])
  (try (rw [List.take_of_length_le]; rotate_left 1; (· first | (simp; done) | (simp; omega) | omega)))
theorem bAdd0 (H : List Ob) (s o ver : Nat) (cs : List V) (f : Fr) (k kv : Nat) (t : Tree) (g1 : H[s]? = some (.var [.vec o ver 0 (cs.length + 1)])) (g2 : H[o]? = some (.vec ver 6 (cs ++ [opV (f, k, kv)]))) (g3 : H[k]? = some (.vec kv 6 (f.kids.map treeV)))
    (hso : s ≠ o) (hsk : s ≠ k) (hok : o ≠ k) (hb : cs.length ≤ 1000000000) (hb2 : f.kids.length ≤ 1000000000) :
    SCall Try.prog 152 [.ref s 0, treeV t] H (fun r H' => r = .tuple [] ∧ H' = ((H.set k (.vec (kv + 1) 6 (f.kids.map treeV ++ [treeV t]))).set o (.vec ver 6 (cs ++ [opV (⟨f.tag, f.attrs, f.kids ++ [t]⟩, k, kv + 1)]))) ++ [.var (treeV t).cells]) := by
  have ls := (List.getElem?_eq_some_iff.1 g1).1
  have lo := (List.getElem?_eq_some_iff.1 g2).1
  have lk := (List.getElem?_eq_some_iff.1 g3).1
  have hS : ∀ L, (H ++ L)[s]? = some (.var [.vec o ver 0 (cs.length + 1)]) := fun L => by rw [List.getElem?_append_left ls]; exact g1
  have hO : ∀ L, (H ++ L)[o]? = some (.vec ver 6 (cs ++ [opV (f, k, kv)])) := fun L => by rw [List.getElem?_append_left lo]; exact g2
  have hK : ∀ L, (H ++ L)[k]? = some (.vec kv 6 (f.kids.map treeV)) := fun L => by rw [List.getElem?_append_left lk]; exact g3
  have hsK : ∀ (L : List Ob) (x : Ob), (H ++ L).set k x = H.set k x ++ L := fun L x => List.set_append_left _ _ lk
  have hO2 : ∀ (L : List Ob) (x : Ob), (H.set k x ++ L)[o]? = some (.vec ver 6 (cs ++ [opV (f, k, kv)])) := fun L x => by rw [List.getElem?_append_left (by simpa using lo), List.getElem?_set_ne (Ne.symm hok)]; exact g2
  have hsO : ∀ (L : List Ob) (x y : Ob), (H.set k x ++ L).set o y = (H.set k x).set o y ++ L := fun L x y => List.set_append_left _ _ (by simpa using lo)
  have hte := treeV_eq t
  refine SCall.of_good fun hH => ?_
  have hHk := HLt.add hH
  refine SCall.of_code Tok Try.func152 rfl Try.call152 (n := 16) rfl (by simp) (rs := []) rfl ?_
  refine EWn.to ?_
  refine EWn.of_c Tok mixed (own := false) keep152 tab152 (by kernel_rfl) ?_
  (repeat (first | simp -dsimp only [zrBuild11, hte, RB, TB, keep152, tab152, xindexAddr, xindex, xslice, xconvert, xlen, ewOp, FreeW, StabW, SameW, ChangeW, AddW, BaseW, limBytes, simprocAttr, ne_eq] | ((with_reducible refine Need.intro ?_ ?_); (first | trivial | exact ⟨_, rfl⟩ | exact ⟨[], (List.append_nil _).symm⟩ | omega | (simp; done) | (simp; omega) | exact ⟨by first | trivial | (simp; done), _, by first | rfl | (simp; rfl)⟩))))
  (first | refine SCall.then (bTop _ s o ver cs _ (hS _) (hO _) hb) ?_ | refine SCall.thenA (bTop _ s o ver cs _ (hS _) (hO _) hb) (by repeat (first | exact trivial | exact .inl (.inl rfl) | exact .inl (.inr ⟨_, rfl, rfl⟩) | exact .inl rfl | exact .inr ⟨_, rfl, rfl⟩ | refine .inr ⟨_, _, rfl, rfl, ?_⟩ | refine ⟨?_, ?_⟩)) ?_ | refine CallE.intro _ (bTop _ s o ver cs _ (hS _) (hO _) hb) ?_ | refine CallE.introA (bTop _ s o ver cs _ (hS _) (hO _) hb) (by repeat (first | exact trivial | exact .inl (.inl rfl) | exact .inl (.inr ⟨_, rfl, rfl⟩) | exact .inl rfl | exact .inr ⟨_, rfl, rfl⟩ | refine .inr ⟨_, _, rfl, rfl, ?_⟩ | refine ⟨?_, ?_⟩)) ?_ | refine CallE.intro _ (fun _ => bTop _ s o ver cs _ (hS _) (hO _) hb) ?_ | refine CallE.intro _ (fun _ => SCall.arg (by repeat (first | exact trivial | exact .inl (.inl rfl) | exact .inl (.inr ⟨_, rfl, rfl⟩) | exact .inl rfl | exact .inr ⟨_, rfl, rfl⟩ | refine .inr ⟨_, _, rfl, rfl, ?_⟩ | refine ⟨?_, ?_⟩)) (bTop _ s o ver cs _ (hS _) (hO _) hb)) ?_ | refine CallE2.intro _ _ (bTop _ s o ver cs _ (hS _) (hO _) hb) ?_ | refine CallE2.intro _ _ (SCall.arg (by repeat (first | exact trivial | exact .inl (.inl rfl) | exact .inl (.inr ⟨_, rfl, rfl⟩) | exact .inl rfl | exact .inr ⟨_, rfl, rfl⟩ | refine .inr ⟨_, _, rfl, rfl, ?_⟩ | refine ⟨?_, ?_⟩)) (bTop _ s o ver cs _ (hS _) (hO _) hb)) ?_)
  (repeat (first | simp -dsimp only [zrBuild11, hS, hO, hK, hsK, hO2, hsO, at_snoc, opV, len_snoc, set_snoc, RB, TB, keep152, tab152, xindexAddr, xindex, xslice, xconvert, xlen, ewOp, FreeW, StabW, SameW, ChangeW, AddW, BaseW, limBytes, simprocAttr, ne_eq] | ((with_reducible refine Need.intro ?_ ?_); (first | trivial | exact ⟨_, rfl⟩ | exact ⟨[], (List.append_nil _).symm⟩ | omega | (simp; done) | (simp; omega) | exact ⟨by first | trivial | (simp; done), _, by first | rfl | (simp; rfl)⟩))))
  (first | refine SCall.then (bTop _ s o ver cs _ (hS _) (hO _) hb) ?_ | refine SCall.thenA (bTop _ s o ver cs _ (hS _) (hO _) hb) (by repeat (first | exact trivial | exact .inl (.inl rfl) | exact .inl (.inr ⟨_, rfl, rfl⟩) | exact .inl rfl | exact .inr ⟨_, rfl, rfl⟩ | refine .inr ⟨_, _, rfl, rfl, ?_⟩ | refine ⟨?_, ?_⟩)) ?_ | refine CallE.intro _ (bTop _ s o ver cs _ (hS _) (hO _) hb) ?_ | refine CallE.introA (bTop _ s o ver cs _ (hS _) (hO _) hb) (by repeat (first | exact trivial | exact .inl (.inl rfl) | exact .inl (.inr ⟨_, rfl, rfl⟩) | exact .inl rfl | exact .inr ⟨_, rfl, rfl⟩ | refine .inr ⟨_, _, rfl, rfl, ?_⟩ | refine ⟨?_, ?_⟩)) ?_ | refine CallE.intro _ (fun _ => bTop _ s o ver cs _ (hS _) (hO _) hb) ?_ | refine CallE.intro _ (fun _ => SCall.arg (by repeat (first | exact trivial | exact .inl (.inl rfl) | exact .inl (.inr ⟨_, rfl, rfl⟩) | exact .inl rfl | exact .inr ⟨_, rfl, rfl⟩ | refine .inr ⟨_, _, rfl, rfl, ?_⟩ | refine ⟨?_, ?_⟩)) (bTop _ s o ver cs _ (hS _) (hO _) hb)) ?_ | refine CallE2.intro _ _ (bTop _ s o ver cs _ (hS _) (hO _) hb) ?_ | refine CallE2.intro _ _ (SCall.arg (by repeat (first | exact trivial | exact .inl (.inl rfl) | exact .inl (.inr ⟨_, rfl, rfl⟩) | exact .inl rfl | exact .inr ⟨_, rfl, rfl⟩ | refine .inr ⟨_, _, rfl, rfl, ?_⟩ | refine ⟨?_, ?_⟩)) (bTop _ s o ver cs _ (hS _) (hO _) hb)) ?_)
  (repeat (first | simp -dsimp only [zrBuild11, hS, hO, hK, hsK, hO2, hsO, at_snoc, opV, len_snoc, set_snoc, RB, TB, keep152, tab152, xindexAddr, xindex, xslice, xconvert, xlen, ewOp, FreeW, StabW, SameW, ChangeW, AddW, BaseW, limBytes, simprocAttr, ne_eq] | ((with_reducible refine Need.intro ?_ ?_); (first | trivial | exact ⟨_, rfl⟩ | exact ⟨[], (List.append_nil _).symm⟩ | omega | (simp; done) | (simp; omega) | exact ⟨by first | trivial | (simp; done), _, by first | rfl | (simp; rfl)⟩))))
  refine RetW.keep false (by simp) ?_ ?_ ?_
  · have hx := hH.get g2
    have hk2 := hH.get g3
    simp only [Ob.lt, ltL_append, opV] at hx hk2
    have hte2 := lt1_tree (H.length + 1) t
    rw [hte] at hte2
    have hcs : ltL (H.length + 1) cs := ltL_le (by omega) _ hx.1
    rw [List.length_append, List.length_set, List.length_set, HLt_append]
    refine ⟨HLt_set (HLt_set (hHk 1) ?_) ?_, ?_⟩
    · simp only [Ob.lt, ltL_append]; exact ⟨lt_tree _ _, hte2, trivial⟩
    · simp only [Ob.lt, ltL_append, ltL, V.lt, and_true, true_and]; exact ⟨hcs, lt_run _ _, lt_attr _ _, by simp; omega⟩
    · rw [HLt_cons]; exact ⟨by simpa [Ob.lt, V.lt] using hte2, HLt_nil⟩
  · simp [okW, okW1, okW0, V.lt]
  · simp [wk, wk1, wk0, opV]
end Go.Proofs.Ytjplgbalpnlanaa

/- The walks of package build: put, told whole; all, Trees, Open. -/
import Derived.Test.YtjplgbalpnlanaaBuild3
import Derived.Test.YtjplgbalpnlanaaTree1
set_option maxHeartbeats 600000
set_option linter.unusedSimpArgs false
set_option linter.unusedVariables false
set_option maxRecDepth 100000
namespace Go.Proofs.Ytjplgbalpnlanaa
open Go Go.EL
theorem zrBuild41 : type_of% (And.intro (And.intro (And.intro (And.intro (@st_run) (And.intro (@sz_run) (@st1_run))) (And.intro (@cl_run) (And.intro (@st_Str) (@sz_Str)))) (And.intro (And.intro (@st1_Str) (And.intro (@cl_Str) (@st_c))) (And.intro (@sz_c) (And.intro (@st1_c) (@cl_c))))) (And.intro (And.intro (And.intro (@st_attr) (And.intro (@sz_attr) (@st1_attr))) (And.intro (@cl_attr) (And.intro (@st_tree) (@sz_tree)))) (And.intro (And.intro (@st1_tree) (And.intro (@cl_tree) (@st_tok))) (And.intro (@sz_tok) (And.intro (@st1_tok) (@cl_tok)))))) := And.intro (And.intro (And.intro (And.intro (@st_run) (And.intro (@sz_run) (@st1_run))) (And.intro (@cl_run) (And.intro (@st_Str) (@sz_Str)))) (And.intro (And.intro (@st1_Str) (And.intro (@cl_Str) (@st_c))) (And.intro (@sz_c) (And.intro (@st1_c) (@cl_c))))) (And.intro (And.intro (And.intro (@st_attr) (And.intro (@sz_attr) (@st1_attr))) (And.intro (@cl_attr) (And.intro (@st_tree) (@sz_tree)))) (And.intro (And.intro (@st1_tree) (And.intro (@cl_tree) (@st_tok))) (And.intro (@sz_tok) (And.intro (@st1_tok) (@cl_tok)))))
theorem zlBuild41 : type_of% (And.intro (And.intro (And.intro (And.intro (@lt_vi) (@lt_str)) (And.intro (@lt_vb) (And.intro (@ltc_str) (@ltc_vi)))) (And.intro (And.intro (@lt_run) (And.intro (@lt1_run) (@ltc_run))) (And.intro (@lt_Str) (And.intro (@lt1_Str) (@ltc_Str))))) (And.intro (And.intro (And.intro (@lt_c) (And.intro (@lt1_c) (@ltc_c))) (And.intro (@lt_attr) (And.intro (@lt1_attr) (@ltc_attr)))) (And.intro (And.intro (@lt_tree) (And.intro (@lt1_tree) (@ltc_tree))) (And.intro (@lt_tok) (And.intro (@lt1_tok) (@ltc_tok)))))) := And.intro (And.intro (And.intro (And.intro (@lt_vi) (@lt_str)) (And.intro (@lt_vb) (And.intro (@ltc_str) (@ltc_vi)))) (And.intro (And.intro (@lt_run) (And.intro (@lt1_run) (@ltc_run))) (And.intro (@lt_Str) (And.intro (@lt1_Str) (@ltc_Str))))) (And.intro (And.intro (And.intro (@lt_c) (And.intro (@lt1_c) (@ltc_c))) (And.intro (@lt_attr) (And.intro (@lt1_attr) (@ltc_attr)))) (And.intro (And.intro (@lt_tree) (And.intro (@lt1_tree) (@ltc_tree))) (And.intro (@lt_tok) (And.intro (@lt1_tok) (@ltc_tok)))))
theorem lt_op (n : Nat) (p : Op) : V.lt n (opV p) = (p.2.1 < n) := by
  unfold opV
  simp only [V.lt, ltL, and_true, true_and]
  exact propext ⟨fun h => h.2.2, fun h => ⟨lt_run _ _, lt_attr _ _, h⟩⟩
theorem ghoB {f : FuncId} {args : List V} {H : List Ob} {R R2 : V → List Ob → Prop} (h : SCall Try.prog f args H R) (hg : ∀ r H', R r H' → ∃ r2 H2, Gho H.length [(0, r)] H' [(0, r2)] H2 ∧ R2 r2 H2) : SCall Try.prog f args H R2 := by
  intro g w cargs hG ha
  refine (h g w cargs hG ha).mono fun cv w' ⟨r, H', g', k1, k2, k3, hr⟩ => ?_
  obtain ⟨r2, H2, hh, h2⟩ := hg r H' hr
  obtain ⟨g2, j1, j2, j3⟩ := hh g' w' k1
  refine ⟨r2, H2, g2, j1, j2 _ _ k2, ?_, h2⟩
  have := j3 0 cv (by simpa [eget] using k3)
  simpa [eget] using this
/-- the kids of the one that is open last are told as a list of its own -/
theorem open_gho {n0 : Nat} {env : Env} {Hr : List Ob} {o ver : Nat} {cs : List V} {name : Str} {attrs : List Attr} (ho : Hr[o]? = some (.vec ver 6 (cs ++ [.agg [.str name.text, .slice (name.runs.map runV), .slice (attrs.map attrV), .fslice [], .str [], .fslice []]]))) (hn : n0 ≤ Hr.length) :
    Gho n0 env Hr env (Hr.set o (.vec ver 6 (cs ++ [opV (⟨name, attrs, []⟩, Hr.length, 1)])) ++ [.vec 1 6 []]) := by
  have lo := (List.getElem?_eq_some_iff.1 ho).1
  have h1 := Gho.adoptElt (n0 := n0) (env := env) o cs.length 3 6 (cs := [.str name.text, .slice (name.runs.map runV), .slice (attrs.map attrV), .fslice [], .str [], .fslice []]) ho (by simp) (by rfl) hn
  refine h1.trans ?_
  have h2 := Gho.weakOb (n0 := n0) (env := env) (H := Hr.set o (.vec ver 6 (cs ++ [.agg [.str name.text, .slice (name.runs.map runV), .slice (attrs.map attrV), .vec Hr.length 1 0 0, .str [], .fslice []]])) ++ [.vec 1 6 []]) o (x := .vec ver 6 (cs ++ [.agg [.str name.text, .slice (name.runs.map runV), .slice (attrs.map attrV), .vec Hr.length 1 0 0, .str [], .fslice []]])) (y := .vec ver 6 (cs ++ [opV (⟨name, attrs, []⟩, Hr.length, 1)])) (by rw [List.getElem?_append_left (by simpa using lo), List.getElem?_set_self lo])
    ⟨rfl, rfl, All2.app (All2.rfl' CvA.rfl' _) ⟨.inr ⟨[.str name.text, .slice (name.runs.map runV), .slice (attrs.map attrV), .vec Hr.length 1 0 0, .str [], .fslice []], _, rfl, rfl, .inl (.inl rfl), .inl (.inl rfl), .inl (.inl rfl), .inl (.inl rfl), .inl (.inl rfl), .inl (.inr ⟨_, rfl, rfl⟩), trivial⟩, trivial⟩⟩
  rw [List.set_append_left _ _ (by simpa using lo), List.set_set] at h2
  rw [set_snoc]
  exact h2
theorem bPut (H : List Ob) (s : Nat) (st : List Fr) (own : List Nat) (t : Toke) (h : Stk H s st own) (hne : st ≠ []) (hb : szSt st + szK t ≤ 100000000) :
    SCall Try.prog 151 [.ref s 0, tokV t] H (fun r H' => r = .tuple [] ∧ After H s own (putF st t) H') := by
  refine SCall.mono (ghoB (bPut0 H s st own t h hne hb) (R2 := fun r H' => r = .tuple [] ∧ ∃ own', Stk H' s (putF st t) own' ∧ Kept H own H' own') ?_).goodR (fun r H' ⟨⟨h1, h2⟩, h3⟩ => ⟨h1, h3, h2⟩)
  rintro r H' ⟨rfl, hA | ⟨hp, o, ver, ps, L, rfl, hm, hS, rfl⟩⟩
  · exact ⟨_, _, Gho.refl _ _ _, rfl, hA.2⟩
  · obtain ⟨g1, g2, g3, g4⟩ := id hS
    have ls := (List.getElem?_eq_some_iff.1 g1).1
    have lo := (List.getElem?_eq_some_iff.1 g2).1
    have hso : s ≠ o := by have := g4; unfold ownOf at this; simp only [List.nodup_cons, List.mem_cons, not_or] at this; exact this.1.1
    have lp : ∀ p ∈ ps, p.2.1 < H.length := fun p hp => (List.getElem?_eq_some_iff.1 (g3 p hp)).1
    have hps : ∀ p ∈ ps, p.2.1 ≠ s ∧ p.2.1 ≠ o := fun p hp => by
      have := g4
      unfold ownOf at this
      simp only [List.nodup_cons, List.mem_cons, not_or] at this
      have hm : p.2.1 ∈ ps.map fun p => p.2.1 := List.mem_map.2 ⟨p, hp, rfl⟩
      exact ⟨fun e => this.1.2 (e ▸ hm), fun e => this.2.1 (e ▸ hm)⟩
    generalize hHr : (H.set o (.vec (ver + 1) 6 (ps.reverse.map opV ++ [.agg [.str t.name.text, .slice (t.name.runs.map runV), .slice (t.attrs.map attrV), .fslice [], .str [], .fslice []]]))).set s (.var [.vec o (ver + 1) 0 (ps.length + 1)]) ++ L = Hr
    have hrl : H.length ≤ Hr.length := by rw [← hHr]; simp
    have hrs : Hr[s]? = some (.var [.vec o (ver + 1) 0 (ps.length + 1)]) := by rw [← hHr, List.getElem?_append_left (by simpa using ls), List.getElem?_set_self (by simpa using ls)]
    have hro : Hr[o]? = some (.vec (ver + 1) 6 (ps.reverse.map opV ++ [.agg [.str t.name.text, .slice (t.name.runs.map runV), .slice (t.attrs.map attrV), .fslice [], .str [], .fslice []]])) := by
      rw [← hHr, List.getElem?_append_left (by simpa using lo), List.getElem?_set_ne hso, List.getElem?_set_self lo]
    have hrj : ∀ j, j < H.length → j ≠ s → j ≠ o → Hr[j]? = H[j]? := fun j hj h1 h2 => by
      rw [← hHr, List.getElem?_append_left (by simpa using hj), List.getElem?_set_ne (Ne.symm h1), List.getElem?_set_ne (Ne.symm h2)]
    have hj3 : ∀ j, j < Hr.length → j ≠ o → ∀ X Y, (Hr.set o X ++ [Y])[j]? = Hr[j]? := fun j hj h2 X Y => by
      rw [List.getElem?_append_left (by simpa using hj), List.getElem?_set_ne (Ne.symm h2)]
    refine ⟨_, _, open_gho hro hrl, rfl, ownOf s o ((⟨t.name, t.attrs, []⟩, Hr.length, 1) :: ps), ⟨o, ver + 1, (⟨t.name, t.attrs, []⟩, Hr.length, 1) :: ps, rfl, by rw [hp, List.map_cons, hm], ?_, ?_, ?_, ?_⟩, by simp; omega, ?_, ?_⟩
    · rw [hj3 s (by omega) hso, hrs]; simp
    · rw [List.getElem?_append_left (by simp; omega), List.getElem?_set_self (by omega)]; simp
    · intro p hp
      rcases List.mem_cons.1 hp with rfl | hp
      · simp
      · have := lp p hp
        rw [hj3 _ (by omega) (hps p hp).2, hrj _ this (hps p hp).1 (hps p hp).2, g3 p hp]
    · have hn := g4
      unfold ownOf at hn ⊢
      simp only [List.map_cons, List.nodup_cons, List.mem_cons, not_or] at hn ⊢
      refine ⟨⟨hso, by omega, hn.1.2⟩, ⟨by omega, hn.2.1⟩, fun hm => ?_, hn.2.2⟩
      obtain ⟨p, hp, e⟩ := List.mem_map.1 hm
      have := lp p hp
      omega
    · intro j hj hn
      unfold ownOf at hn
      simp only [List.mem_cons, not_or] at hn
      rw [hj3 j (by omega) hn.2.1, hrj j hj hn.1 hn.2.1]
    · intro j hj
      unfold ownOf at hj ⊢
      simp only [List.map_cons, List.mem_cons] at hj ⊢
      rcases hj with h | h | h | h
      · exact .inl (.inl h)
      · exact .inl (.inr (.inl h))
      · exact .inr (by omega)
      · exact .inl (.inr (.inr h))
theorem root_gho {n0 : Nat} {env : Env} {H : List Ob} (hn : n0 ≤ H.length) :
    Gho n0 env (H ++ [.vec 1 6 [.agg [.str [], .fslice [], .fslice [], .fslice [], .str [], .fslice []]], .var [.vec H.length 1 0 1]]) env (H ++ [.vec 1 6 [opV (rootF, H.length + 2, 1)], .var [.vec H.length 1 0 1], .vec 1 6 []]) := by
  have h1 := Gho.adoptElt (n0 := n0) (env := env) (H := H ++ [.vec 1 6 [.agg [.str [], .fslice [], .fslice [], .fslice [], .str [], .fslice []]], .var [.vec H.length 1 0 1]]) H.length 0 3 6 (cs := [.str [], .fslice [], .fslice [], .fslice [], .str [], .fslice []]) (by rw [hget0]; rfl) (by rfl) (by rfl) (by simp; omega)
  refine h1.trans ?_
  have h2 := Gho.weakOb (n0 := n0) (env := env) (H := H ++ [.vec 1 6 [.agg [.str [], .fslice [], .fslice [], .vec (H.length + 2) 1 0 0, .str [], .fslice []]], .var [.vec H.length 1 0 1], .vec 1 6 []]) H.length (x := .vec 1 6 [.agg [.str [], .fslice [], .fslice [], .vec (H.length + 2) 1 0 0, .str [], .fslice []]]) (y := .vec 1 6 [opV (rootF, H.length + 2, 1)]) (by rw [hget0]; rfl)
    ⟨rfl, rfl, .inr ⟨_, _, rfl, rfl, .inl (.inl rfl), .inl (.inr ⟨_, rfl, rfl⟩), .inl (.inr ⟨_, rfl, rfl⟩), .inl (.inl rfl), .inl (.inl rfl), .inl (.inr ⟨_, rfl, rfl⟩), trivial⟩, trivial⟩
  simp only [hset0, List.set_cons_zero] at h2 ⊢
  simpa using h2
def Kept0 (H : List Ob) (own : List Nat) (G : List Ob) : Prop := H.length ≤ G.length ∧ (∀ j, j < H.length → G[j]? = H[j]?) ∧ ∀ j ∈ own, H.length ≤ j
theorem Kept0.step {H G G2 : List Ob} {own own2 : List Nat} (h : Kept0 H own G) (k : Kept G own G2 own2) : Kept0 H own2 G2 := by
  refine ⟨Nat.le_trans h.1 k.1, fun j hj => ?_, fun j hj => ?_⟩
  · rw [k.2.1 j (Nat.lt_of_lt_of_le hj h.1) (fun hm => absurd (h.2.2 j hm) (Nat.not_le.2 hj)), h.2.1 j hj]
  · rcases k.2.2 j hj with h1 | h1
    · exact h.2.2 j h1
    · exact Nat.le_trans h.1 h1
theorem Kept0.app {H G : List Ob} {own : List Nat} (h : Kept0 H own G) : ∃ L, G = H ++ L := by
  refine ⟨G.drop H.length, ?_⟩
  have : G.take H.length = H := by
    apply List.ext_getElem?
    intro j
    rcases Nat.lt_or_ge j H.length with hj | hj
    · rw [List.getElem?_take_of_lt hj, h.2.1 j hj]
    · rw [List.getElem?_eq_none (by rw [List.length_take]; omega), List.getElem?_eq_none hj]
  conv => lhs; rw [← List.take_append_drop H.length G]
  rw [this]
def stA (l : List Toke) : List Fr := l.foldl putF [rootF]
theorem stA_succ {l : List Toke} {i : Nat} (h : i < l.length) : stA (l.take (i + 1)) = putF (stA (l.take i)) l[i] := by
  unfold stA
  rw [List.take_succ_eq_append_getElem h, List.foldl_append]
  rfl
theorem stA_ne (l : List Toke) : stA l ≠ [] := all_ne l _ (by simp)
theorem stA_sz (l : List Toke) : szSt (stA l) ≤ 3 + (l.map szK).sum := by
  have := sz_all l [rootF]
  rw [sz_root] at this
  exact this
theorem szK_take (l : List Toke) {i : Nat} (h : i < l.length) : ((l.take i).map szK).sum + szK l[i] ≤ (l.map szK).sum := by
  conv => rhs; rw [← List.take_append_drop i l, List.drop_eq_getElem_cons h]
  simp only [List.map_append, List.sum_append, List.map_cons, List.sum_cons]
  omega
theorem szK_len (l : List Toke) : l.length ≤ (l.map szK).sum := by
  induction l with
  | nil => simp
  | cons t l ih => simp only [List.map_cons, List.sum_cons, List.length_cons, szK]; omega
theorem bAll (H : List Ob) (l : List Toke) (hb : (l.map szK).sum ≤ 90000000) : SCall Try.prog 89 [.slice (l.map tokV)] H (fun r H' => ∃ s own, r = .ref s 0 ∧ HLt H'.length H' ∧ Stk H' s (stA l) own ∧ Kept0 H own H') := by
  have hll := szK_len l
  refine SCall.of_good fun hH => ?_
  have hHk := HLt.add hH
  refine SCall.of_code Tok Try.func89 rfl Try.call89 (n := 20) rfl (by simp) (rs := [.tmp 2]) rfl ?_
  refine EWn.to ?_
  refine EWn.of_c Tok mixed (own := false) keep89 tab89 (by kernel_rfl) ?_
  (repeat (first | simp -dsimp only [zrBuild41, RB, TB, keep89, tab89, xindexAddr, xindex, xslice, xconvert, xlen, ewOp, FreeW, StabW, SameW, ChangeW, AddW, BaseW, limBytes, simprocAttr, ne_eq] | ((with_reducible refine Need.intro ?_ ?_); (first | trivial | exact ⟨_, rfl⟩ | exact ⟨[], (List.append_nil _).symm⟩ | omega | (simp; done) | (simp; omega) | exact ⟨by first | trivial | (simp; done), _, by first | rfl | (simp; rfl)⟩))))
  refine EWn.ghost (root_gho (by simp)) ?_
  refine EWn.loopE (ι := (Nat) × (List Ob) × (List Nat)) (fun (x_ : (Nat) × (List Ob) × (List Nat)) => match x_ with | (i, G, own) => i ≤ l.length ∧ HLt G.length G ∧ Stk G (H.length + 1) (stA (l.take i)) own ∧ Kept0 H own G) (fun (x_ : (Nat) × (List Ob) × (List Nat)) => match x_ with | (i, G, own) => l.length - i) (fun (x_ : (Nat) × (List Ob) × (List Nat)) => match x_ with | (i, G, own) => [(11, .int .i64 i)]) (fun (x_ : (Nat) × (List Ob) × (List Nat)) => match x_ with | (i, G, own) => G) (0, (H ++ [Ob.vec 1 6 [opV (rootF, H.length + 2, 1)], Ob.var [.vec H.length 1 0 1], Ob.vec 1 6 []]), ownOf (H.length + 1) H.length [(rootF, H.length + 2, 1)]) ?_ ?_ ?_ ?_ ?_
  · first | rfl | simp [upd, eset]
  · first | rfl | (simp; done) | exact (set_same (by assumption)).symm
  · rintro ⟨i, G, own⟩ ⟨hi, hG, hS, hK⟩
    have ls : H.length + 1 < G.length := by obtain ⟨o, ver, ps, rfl, hm, g1, -⟩ := hS; exact (List.getElem?_eq_some_iff.1 g1).1
    exact ⟨hK.1, hG, by (simp (maxDischargeDepth := 6) [LTB, HLt_set, ltL_take, ltL_drop, ltL_rep, ltL_set, upd, eset, hH, hHk, zlBuild41, lt_op] <;> omega)⟩
  · refine ⟨Nat.zero_le _, ?_, ⟨H.length, 1, [(rootF, H.length + 2, 1)], rfl, rfl, ?_, ?_, ?_, ?_⟩, ?_, ?_, ?_⟩
    · (simp (maxDischargeDepth := 6) [LTB, HLt_set, ltL_take, ltL_drop, ltL_rep, ltL_set, upd, eset, hH, hHk, zlBuild41, lt_op] <;> omega)
    · rw [hget]; rfl
    · rw [hget0]; rfl
    · intro p hp
      simp only [List.mem_singleton] at hp
      subst hp
      rw [hget]; rfl
    · simp [ownOf]
    · simp
    · exact fun j hj => List.getElem?_append_left hj
    · intro j hj
      simp only [ownOf, List.map_cons, List.map_nil, List.mem_cons, List.not_mem_nil, or_false] at hj
      omega
  rintro ⟨i, G, own⟩ ⟨hi, hG, hS, hK⟩
  have ls : H.length + 1 < G.length := by obtain ⟨o, ver, ps, rfl, hm, g1, -⟩ := hS; exact (List.getElem?_eq_some_iff.1 g1).1
  refine EWn.of_c Tok mixed (own := false) keep89 tab89 (by kernel_rfl) ?_
  (repeat (first | simp -dsimp only [zrBuild41, RB, TB, keep89, tab89, xindexAddr, xindex, xslice, xconvert, xlen, ewOp, FreeW, StabW, SameW, ChangeW, AddW, BaseW, limBytes, simprocAttr, ne_eq] | ((with_reducible refine Need.intro ?_ ?_); (first | trivial | exact ⟨_, rfl⟩ | exact ⟨[], (List.append_nil _).symm⟩ | omega | (simp; done) | (simp; omega) | exact ⟨by first | trivial | (simp; done), _, by first | rfl | (simp; rfl)⟩))))
  refine IfW.intro (fun h => ?_) (fun h => ?_)
  · have hlt := lt_of h
    have hsz := stA_sz (l.take i)
    have hsz2 := szK_take l hlt
    (repeat (first | simp -dsimp only [zrBuild41, h, at_map tokV l i hlt, tokV, RB, TB, keep89, tab89, xindexAddr, xindex, xslice, xconvert, xlen, ewOp, FreeW, StabW, SameW, ChangeW, AddW, BaseW, limBytes, simprocAttr, ne_eq] | ((with_reducible refine Need.intro ?_ ?_); (first | trivial | exact ⟨_, rfl⟩ | exact ⟨[], (List.append_nil _).symm⟩ | omega | (simp; done) | (simp; omega) | exact ⟨by first | trivial | (simp; done), _, by first | rfl | (simp; rfl)⟩))))
    refine SCall.mono (bPut _ (H.length + 1) (stA (l.take i)) own l[i] (hS.app _) (stA_ne _) (by omega)) ?_
    rintro _ G2 ⟨rfl, hG2, own2, hS2, hK2⟩
    (repeat (first | simp -dsimp only [zrBuild41, RB, TB, keep89, tab89, xindexAddr, xindex, xslice, xconvert, xlen, ewOp, FreeW, StabW, SameW, ChangeW, AddW, BaseW, limBytes, simprocAttr, ne_eq] | ((with_reducible refine Need.intro ?_ ?_); (first | trivial | exact ⟨_, rfl⟩ | exact ⟨[], (List.append_nil _).symm⟩ | omega | (simp; done) | (simp; omega) | exact ⟨by first | trivial | (simp; done), _, by first | rfl | (simp; rfl)⟩))))
    rw [wrapI (by omega)]
    refine UpTo.here ⟨(i + 1, G2, own2), ⟨hlt, hG2, by rw [stA_succ hlt]; exact hS2, hK.step (Kept.trans (Kept.app G _ own) hK2)⟩, by simp only; omega, by simp [upd, eset], ⟨[], by simp⟩⟩
  · (repeat (first | simp -dsimp only [zrBuild41, h, RB, TB, keep89, tab89, xindexAddr, xindex, xslice, xconvert, xlen, ewOp, FreeW, StabW, SameW, ChangeW, AddW, BaseW, limBytes, simprocAttr, ne_eq] | ((with_reducible refine Need.intro ?_ ?_); (first | trivial | exact ⟨_, rfl⟩ | exact ⟨[], (List.append_nil _).symm⟩ | omega | (simp; done) | (simp; omega) | exact ⟨by first | trivial | (simp; done), _, by first | rfl | (simp; rfl)⟩))))
    have hi2 : i = l.length := Nat.le_antisymm hi (ge_of h)
    subst hi2
    rw [List.take_length] at hS
    refine RetW.keep false hK.1 hG (by simp [okW, okW1, okW0, V.lt]; exact ls) ?_
    simp only [wk, wk1, wk0]
    exact ⟨_, own, rfl, hG, hS, hK⟩
end Go.Proofs.Ytjplgbalpnlanaa

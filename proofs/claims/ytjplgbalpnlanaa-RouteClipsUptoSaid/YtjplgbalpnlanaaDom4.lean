/- The walk of package dom: Insert, of a child that is behind all others. -/
import Derived.Test.YtjplgbalpnlanaaDom3
set_option linter.unusedSimpArgs false
set_option linter.unusedVariables false
set_option maxRecDepth 100000
namespace Go.Proofs.Ytjplgbalpnlanaa
open Go Go.EL
theorem zrDom41 : type_of% (And.intro (And.intro (And.intro (And.intro (@st_run) (And.intro (@sz_run) (@st1_run))) (And.intro (@cl_run) (And.intro (@st_Str) (@sz_Str)))) (And.intro (And.intro (@st1_Str) (And.intro (@cl_Str) (@st_c))) (And.intro (@sz_c) (And.intro (@st1_c) (@cl_c))))) (And.intro (And.intro (And.intro (@st_attr) (And.intro (@sz_attr) (@st1_attr))) (And.intro (@cl_attr) (And.intro (@st_hook) (@sz_hook)))) (And.intro (And.intro (@st1_hook) (And.intro (@cl_hook) (@st_node))) (And.intro (@sz_node) (And.intro (@st1_node) (@cl_node)))))) := And.intro (And.intro (And.intro (And.intro (@st_run) (And.intro (@sz_run) (@st1_run))) (And.intro (@cl_run) (And.intro (@st_Str) (@sz_Str)))) (And.intro (And.intro (@st1_Str) (And.intro (@cl_Str) (@st_c))) (And.intro (@sz_c) (And.intro (@st1_c) (@cl_c))))) (And.intro (And.intro (And.intro (@st_attr) (And.intro (@sz_attr) (@st1_attr))) (And.intro (@cl_attr) (And.intro (@st_hook) (@sz_hook)))) (And.intro (And.intro (@st1_hook) (And.intro (@cl_hook) (@st_node))) (And.intro (@sz_node) (And.intro (@st1_node) (@cl_node)))))
theorem zlDom41 : type_of% (And.intro (And.intro (And.intro (And.intro (@lt_vi) (@lt_str)) (And.intro (@lt_vb) (And.intro (@ltc_str) (@ltc_vi)))) (And.intro (And.intro (@lt_run) (And.intro (@lt1_run) (@ltc_run))) (And.intro (@lt_Str) (And.intro (@lt1_Str) (@ltc_Str))))) (And.intro (And.intro (And.intro (@lt_c) (And.intro (@lt1_c) (@ltc_c))) (And.intro (@lt_attr) (And.intro (@lt1_attr) (@ltc_attr)))) (And.intro (And.intro (@lt_hook) (And.intro (@lt1_hook) (@ltc_hook))) (And.intro (@lt_node) (And.intro (@lt1_node) (@ltc_node)))))) := And.intro (And.intro (And.intro (And.intro (@lt_vi) (@lt_str)) (And.intro (@lt_vb) (And.intro (@ltc_str) (@ltc_vi)))) (And.intro (And.intro (@lt_run) (And.intro (@lt1_run) (@ltc_run))) (And.intro (@lt_Str) (And.intro (@lt1_Str) (@ltc_Str))))) (And.intro (And.intro (And.intro (@lt_c) (And.intro (@lt1_c) (@ltc_c))) (And.intro (@lt_attr) (And.intro (@lt1_attr) (@ltc_attr)))) (And.intro (And.intro (@lt_hook) (And.intro (@lt1_hook) (@ltc_hook))) (And.intro (@lt_node) (And.intro (@lt1_node) (@ltc_node)))))
theorem sgen {f : FuncId} {args : List V} {H : List Ob} {R : V → List Ob → Prop} (h : ∀ G, G = H → SCall Try.prog f args G R) : SCall Try.prog f args H R := h H rfl
theorem pre_app {G H : List Ob} (hl : G.length ≤ H.length) (h : ∀ j, j < G.length → H[j]? = G[j]?) : ∃ L, H = G ++ L := by
  refine ⟨H.drop G.length, ?_⟩
  have : H.take G.length = G := by
    apply List.ext_getElem?
    intro j
    rcases Nat.lt_or_ge j G.length with hj | hj
    · rw [List.getElem?_take_of_lt hj, h j hj]
    · rw [List.getElem?_eq_none (by rw [List.length_take]; omega), List.getElem?_eq_none hj]
  conv => lhs; rw [← List.take_append_drop G.length H]
  rw [this]
/-- a parent with one more kid -/
def kidN (p : Node) (child : Int) : Node := { ownN p with kids := p.kids ++ [child] }
def parN (c : Node) (parent : Int) : Node := { ownN c with parent := parent }
def insNodes (ns : List Ent) (parent child : Int) (p c : Node) : List Ent := nset (nset ns parent (setN p (kidN p child))) child (setN c (parN c parent))
theorem nget_nset (ns : List Ent) (id j : Int) (x : Node) : nget (nset ns id x) j = if j = id then (if (nget ns id).isSome then some x else none) else nget ns j := by
  induction ns with
  | nil => simp [nset, nget]
  | cons q l ih =>
    simp only [nset]
    by_cases h : id = q.1
    · rw [if_pos h]
      simp only [nget, h]
      by_cases hj : j = q.1
      · simp [hj]
      · simp [hj]
    · rw [if_neg h]
      simp only [nget, if_neg h]
      by_cases hj : j = q.1
      · rw [if_pos hj, if_pos hj, if_neg (fun e : j = id => h (by rw [← e]; exact hj))]
      · rw [if_neg hj, if_neg hj, ih]
set_option maxHeartbeats 2000000 in
theorem dInsert (G : List Ob) (A m : Nat) (a : Arena) (h : arenaAt G A m a) (hok : ∀ p ∈ a.nodes, okN p.2.2) (hN : a.nodes.length ≤ 1000000) (parent child : Int) (p c : Node) (hp : nget a.nodes parent = some p) (hc : nget a.nodes child = some c)
    (hpk : p.kind ≠ 2) (hcp : c.parent < 0) (hc0 : child ≠ 0) (hpid : p.id = parent) (hcid : c.id = child) (hin : insideG a child (a.nodes.length + 1) parent [] = false) (hkl : p.kids.length ≤ 1000000) (hAm : A ≠ m) :
    SCall Try.prog 68 [.ref A 0, .int .i64 parent, .int .i64 p.kids.length, .int .i64 child] G (fun r H' => r = .int .i64 0 ∧ H' = G.set m (.map (encM (insNodes a.nodes parent child p c)) a.clock)) := by
  subst hpid hcid
  have hne : c.id ≠ p.id := fun e => by
    have := insideG_succ a c.id a.nodes.length p.id []
    rw [hin, hp, e] at this
    simp at this
  have e1 : (p.kind == 2) = false := by simpa using hpk
  have e2 : decide (c.parent ≥ 0) = false := decide_eq_false (by omega)
  have e3 : (c.id == 0) = false := by simpa using hc0
  have e4 : decide ((p.kids.length : Int) < 0) = false := decide_eq_false (by omega)
  have e5 : decide ((p.kids.length : Int) > p.kids.length) = false := decide_eq_false (by omega)
  have f1 : (ownN p).kind = p.kind := rfl
  have f2 : (ownN c).parent = c.parent := rfl
  have f3 : (ownN p).kids = p.kids := rfl
  have lA := (List.getElem?_eq_some_iff.1 h.1).1
  have lm := (List.getElem?_eq_some_iff.1 h.2.1).1
  refine SCall.of_good fun hH => ?_
  have hHk := HLt.add hH
  refine SCall.of_code Tok Try.func68 rfl Try.call68 (n := 74) rfl (by simp) (rs := [.tmp 8]) rfl ?_
  refine EWn.to ?_
  refine EWn.of_c Tok mixed (own := false) keep68 tab68 (by kernel_rfl) ?_
  (repeat (first | simp -dsimp only [zrDom41, xnils, xnilm, xrange, xmakeMap, xslice3, RB, TB, keep68, tab68, xindexAddr, xindex, xslice, xconvert, xlen, ewOp, FreeW, StabW, SameW, ChangeW, AddW, BaseW, limBytes, simprocAttr, ne_eq] | ((with_reducible refine Need.intro ?_ ?_); (first | trivial | exact ⟨_, rfl⟩ | exact ⟨[], (List.append_nil _).symm⟩ | omega | (simp; done) | (simp; omega) | exact ⟨by first | trivial | (simp; done), _, by first | rfl | (simp; rfl)⟩))))
  refine SCall.mono (aGetV G A m a h hok p.id p hp).goodA ?_
  rintro _ G1 ⟨⟨o, L1, rfl, hG1e, hle, ho⟩, hG1⟩
  have hat : ∀ K, arenaAt (G1 ++ K) A m a := fun K => by rw [hG1e]; exact arena_app (arena_app h _) _
  have lo := (List.getElem?_eq_some_iff.1 ho).1
  have ho2 : ∀ K, (G1 ++ K)[o]? = some (.vec 1 1 (p.kids.map vi)) := fun K => get_appD (L := K) ho
  have hsO : ∀ (K : List Ob) (x : Ob), (G1 ++ K).set o x = G1.set o x ++ K := fun K x => List.set_append_left _ _ lo
  have hgO : ∀ (K : List Ob) (x : Ob), (G1.set o x ++ K)[o]? = some x := fun K x => by rw [List.getElem?_append_left (by simpa using lo), List.getElem?_set_self lo]
  (repeat (first | simp -dsimp only [zrDom41, xnils, xnilm, xrange, xmakeMap, xslice3, nodeK, RB, TB, keep68, tab68, xindexAddr, xindex, xslice, xconvert, xlen, ewOp, FreeW, StabW, SameW, ChangeW, AddW, BaseW, limBytes, simprocAttr, ne_eq] | ((with_reducible refine Need.intro ?_ ?_); (first | trivial | exact ⟨_, rfl⟩ | exact ⟨[], (List.append_nil _).symm⟩ | omega | (simp; done) | (simp; omega) | exact ⟨by first | trivial | (simp; done), _, by first | rfl | (simp; rfl)⟩))))
  (first | refine SCall.then (aGetS _ A m a (hat _) hok c.id c hc) ?_ | refine SCall.thenA (aGetS _ A m a (hat _) hok c.id c hc) (by repeat (first | exact trivial | exact .inl (.inl rfl) | exact .inl (.inr ⟨_, rfl, rfl⟩) | exact .inl rfl | exact .inr ⟨_, rfl, rfl⟩ | refine .inr ⟨_, _, rfl, rfl, ?_⟩ | refine ⟨?_, ?_⟩)) ?_ | refine CallE.intro _ (aGetS _ A m a (hat _) hok c.id c hc) ?_ | refine CallE.introA (aGetS _ A m a (hat _) hok c.id c hc) (by repeat (first | exact trivial | exact .inl (.inl rfl) | exact .inl (.inr ⟨_, rfl, rfl⟩) | exact .inl rfl | exact .inr ⟨_, rfl, rfl⟩ | refine .inr ⟨_, _, rfl, rfl, ?_⟩ | refine ⟨?_, ?_⟩)) ?_ | refine CallE.intro _ (fun _ => aGetS _ A m a (hat _) hok c.id c hc) ?_ | refine CallE.intro _ (fun _ => SCall.arg (by repeat (first | exact trivial | exact .inl (.inl rfl) | exact .inl (.inr ⟨_, rfl, rfl⟩) | exact .inl rfl | exact .inr ⟨_, rfl, rfl⟩ | refine .inr ⟨_, _, rfl, rfl, ?_⟩ | refine ⟨?_, ?_⟩)) (aGetS _ A m a (hat _) hok c.id c hc)) ?_ | refine CallE2.intro _ _ (aGetS _ A m a (hat _) hok c.id c hc) ?_ | refine CallE2.intro _ _ (SCall.arg (by repeat (first | exact trivial | exact .inl (.inl rfl) | exact .inl (.inr ⟨_, rfl, rfl⟩) | exact .inl rfl | exact .inr ⟨_, rfl, rfl⟩ | refine .inr ⟨_, _, rfl, rfl, ?_⟩ | refine ⟨?_, ?_⟩)) (aGetS _ A m a (hat _) hok c.id c hc)) ?_)
  (repeat (first | simp -dsimp only [zrDom41, xnils, xnilm, xrange, xmakeMap, xslice3, nodeV, e1, e2, e3, e4, e5, f1, f2, f3, RB, TB, keep68, tab68, xindexAddr, xindex, xslice, xconvert, xlen, ewOp, FreeW, StabW, SameW, ChangeW, AddW, BaseW, limBytes, simprocAttr, ne_eq] | ((with_reducible refine Need.intro ?_ ?_); (first | trivial | exact ⟨_, rfl⟩ | exact ⟨[], (List.append_nil _).symm⟩ | omega | (simp; done) | (simp; omega) | exact ⟨by first | trivial | (simp; done), _, by first | rfl | (simp; rfl)⟩))))
  (first | refine SCall.then (dInside _ A m a (hat _) hok hN p.id c.id) ?_ | refine SCall.thenA (dInside _ A m a (hat _) hok hN p.id c.id) (by repeat (first | exact trivial | exact .inl (.inl rfl) | exact .inl (.inr ⟨_, rfl, rfl⟩) | exact .inl rfl | exact .inr ⟨_, rfl, rfl⟩ | refine .inr ⟨_, _, rfl, rfl, ?_⟩ | refine ⟨?_, ?_⟩)) ?_ | refine CallE.intro _ (dInside _ A m a (hat _) hok hN p.id c.id) ?_ | refine CallE.introA (dInside _ A m a (hat _) hok hN p.id c.id) (by repeat (first | exact trivial | exact .inl (.inl rfl) | exact .inl (.inr ⟨_, rfl, rfl⟩) | exact .inl rfl | exact .inr ⟨_, rfl, rfl⟩ | refine .inr ⟨_, _, rfl, rfl, ?_⟩ | refine ⟨?_, ?_⟩)) ?_ | refine CallE.intro _ (fun _ => dInside _ A m a (hat _) hok hN p.id c.id) ?_ | refine CallE.intro _ (fun _ => SCall.arg (by repeat (first | exact trivial | exact .inl (.inl rfl) | exact .inl (.inr ⟨_, rfl, rfl⟩) | exact .inl rfl | exact .inr ⟨_, rfl, rfl⟩ | refine .inr ⟨_, _, rfl, rfl, ?_⟩ | refine ⟨?_, ?_⟩)) (dInside _ A m a (hat _) hok hN p.id c.id)) ?_ | refine CallE2.intro _ _ (dInside _ A m a (hat _) hok hN p.id c.id) ?_ | refine CallE2.intro _ _ (SCall.arg (by repeat (first | exact trivial | exact .inl (.inl rfl) | exact .inl (.inr ⟨_, rfl, rfl⟩) | exact .inl rfl | exact .inr ⟨_, rfl, rfl⟩ | refine .inr ⟨_, _, rfl, rfl, ?_⟩ | refine ⟨?_, ?_⟩)) (dInside _ A m a (hat _) hok hN p.id c.id)) ?_)
  (repeat (first | simp -dsimp only [zrDom41, xnils, xnilm, xrange, xmakeMap, xslice3, hin, e1, e2, e3, e4, e5, f1, f2, f3, ho2, RB, TB, keep68, tab68, xindexAddr, xindex, xslice, xconvert, xlen, ewOp, FreeW, StabW, SameW, ChangeW, AddW, BaseW, limBytes, simprocAttr, ne_eq] | ((with_reducible refine Need.intro ?_ ?_); (first | trivial | exact ⟨_, rfl⟩ | exact ⟨[], (List.append_nil _).symm⟩ | omega | (simp; done) | (simp; omega) | exact ⟨by first | trivial | (simp; done), _, by first | rfl | (simp; rfl)⟩))))
  (first | refine SCall.then (insI _ o 1 p.kids c.id (ho2 _) (by omega)) ?_ | refine SCall.thenA (insI _ o 1 p.kids c.id (ho2 _) (by omega)) (by repeat (first | exact trivial | exact .inl (.inl rfl) | exact .inl (.inr ⟨_, rfl, rfl⟩) | exact .inl rfl | exact .inr ⟨_, rfl, rfl⟩ | refine .inr ⟨_, _, rfl, rfl, ?_⟩ | refine ⟨?_, ?_⟩)) ?_ | refine CallE.intro _ (insI _ o 1 p.kids c.id (ho2 _) (by omega)) ?_ | refine CallE.introA (insI _ o 1 p.kids c.id (ho2 _) (by omega)) (by repeat (first | exact trivial | exact .inl (.inl rfl) | exact .inl (.inr ⟨_, rfl, rfl⟩) | exact .inl rfl | exact .inr ⟨_, rfl, rfl⟩ | refine .inr ⟨_, _, rfl, rfl, ?_⟩ | refine ⟨?_, ?_⟩)) ?_ | refine CallE.intro _ (fun _ => insI _ o 1 p.kids c.id (ho2 _) (by omega)) ?_ | refine CallE.intro _ (fun _ => SCall.arg (by repeat (first | exact trivial | exact .inl (.inl rfl) | exact .inl (.inr ⟨_, rfl, rfl⟩) | exact .inl rfl | exact .inr ⟨_, rfl, rfl⟩ | refine .inr ⟨_, _, rfl, rfl, ?_⟩ | refine ⟨?_, ?_⟩)) (insI _ o 1 p.kids c.id (ho2 _) (by omega))) ?_ | refine CallE2.intro _ _ (insI _ o 1 p.kids c.id (ho2 _) (by omega)) ?_ | refine CallE2.intro _ _ (SCall.arg (by repeat (first | exact trivial | exact .inl (.inl rfl) | exact .inl (.inr ⟨_, rfl, rfl⟩) | exact .inl rfl | exact .inr ⟨_, rfl, rfl⟩ | refine .inr ⟨_, _, rfl, rfl, ?_⟩ | refine ⟨?_, ?_⟩)) (insI _ o 1 p.kids c.id (ho2 _) (by omega))) ?_)
  (repeat (first | simp -dsimp only [zrDom41, xnils, xnilm, xrange, xmakeMap, xslice3, hsO, hgO, f3, RB, TB, keep68, tab68, xindexAddr, xindex, xslice, xconvert, xlen, ewOp, FreeW, StabW, SameW, ChangeW, AddW, BaseW, limBytes, simprocAttr, ne_eq] | ((with_reducible refine Need.intro ?_ ?_); (first | trivial | exact ⟨_, rfl⟩ | exact ⟨[], (List.append_nil _).symm⟩ | omega | (simp; done) | (simp; omega) | exact ⟨by first | trivial | (simp; done), _, by first | rfl | (simp; rfl)⟩))))
  refine sgen fun G2 hG2 => ?_
  have hl1 : G.length ≤ G1.length := by rw [hG1e]; simp
  have hG2o : G2[o]? = some (.vec 2 1 ((p.kids ++ [c.id]).map vi)) := by rw [hG2]; exact hgO _ _
  have hG2c : G2[G1.length + 1]? = some (.var (nodeV (ownN c)).cells) := by rw [hG2, List.getElem?_append_right (by simp)]; simp; rfl
  have hG2l : G2.length = G1.length + 2 := by rw [hG2]; simp
  have hG2p : ∀ j, j < G.length → G2[j]? = G[j]? := fun j hj => by
    rw [hG2, List.getElem?_append_left (by simp; omega), List.getElem?_set_ne (by omega), hG1e, List.getElem?_append_left hj]
  refine SCall.freezeA 1 (cs' := (nodeV (kidN p c.id)).cells) hG2o rfl ?_ ?_
  · refine ⟨.inl (.inl rfl), .inl (.inl rfl), .inl (.inl rfl), .inl (.inl rfl), .inl (.inl rfl), .inl (.inl rfl), .inl (.inl rfl), .inl (.inl rfl), .inl (.inl rfl), .inl (.inl rfl), .inr ⟨o, 2, _, 0, _, rfl, rfl, ?_, ?_⟩, .inl (.inl rfl), .inl (.inl rfl), trivial⟩
    · simp
    · rw [List.drop_zero, List.take_of_length_le (by simp)]; rfl
  refine sgen fun G3 hG3 => ?_
  have hG3l : G3.length = G1.length + 2 := by rw [hG3]; simpa using hG2l
  have hG3p : ∀ j, j < G.length → G3[j]? = G[j]? := fun j hj => by rw [hG3, List.getElem?_set_ne (by omega)]; exact hG2p j hj
  have hG3c : G3[G1.length + 1]? = some (.var (nodeV (ownN c)).cells) := by rw [hG3, List.getElem?_set_ne (by omega)]; exact hG2c
  have hat3 : arenaAt G3 A m a := by
    obtain ⟨L, hL⟩ := pre_app (by omega) hG3p
    rw [hL]; exact arena_app h _
  obtain ⟨q, hq, hqe⟩ := nget_mem hp
  obtain ⟨q2, hq2, hqe2⟩ := nget_mem hc
  have okp : okN p := hqe ▸ hok q hq
  have okc : okN c := hqe2 ▸ hok q2 hq2
  have okk : okN (kidN p c.id) := by
    obtain ⟨o1, o2, o3, o4, o5, o6⟩ := okN_own okp
    exact ⟨o1, o2, o3, o4, o5, by simp [kidN]; omega⟩
  have okk2 : okN (parN c p.id) := by
    obtain ⟨o1, o2, o3, o4, o5, o6⟩ := okN_own okc
    exact ⟨o1, o2, o3, o4, o5, o6⟩
  refine SCall.mono (aSet G3 A m a hat3 (kidN p c.id) p hp okk) ?_
  rintro _ G4 ⟨rfl, hG4⟩
  have hid : (kidN p c.id).id = p.id := rfl
  rw [hid] at hG4
  have hG4l : G4.length = G1.length + 2 := by rw [hG4]; simpa using hG3l
  have hG4c : G4[G1.length + 1]? = some (.var (nodeV (ownN c)).cells) := by rw [hG4, List.getElem?_set_ne (by omega)]; exact hG3c
  have hG4x : ∀ X, (G4.set (G1.length + 1) X)[G1.length + 1]? = some X := fun X => List.getElem?_set_self (by omega)
  (repeat (first | simp -dsimp only [zrDom41, xnils, xnilm, xrange, xmakeMap, xslice3, hG4c, hG4x, nodeV, V.cells, RB, TB, keep68, tab68, xindexAddr, xindex, xslice, xconvert, xlen, ewOp, FreeW, StabW, SameW, ChangeW, AddW, BaseW, limBytes, simprocAttr, ne_eq] | ((with_reducible refine Need.intro ?_ ?_); (first | trivial | exact ⟨_, rfl⟩ | exact ⟨[], (List.append_nil _).symm⟩ | omega | (simp; done) | (simp; omega) | exact ⟨by first | trivial | (simp; done), _, by first | rfl | (simp; rfl)⟩))))
  refine sgen fun G5 hG5 => ?_
  have hat5 : arenaAt G5 A m { a with nodes := nset a.nodes p.id (setN p (kidN p c.id)) } := by
    refine ⟨?_, ?_, h.2.2.1, h.2.2.2⟩
    · rw [hG5, List.getElem?_set_ne (by omega), hG4, List.getElem?_set_ne (Ne.symm hAm)]; exact hat3.1
    · rw [hG5, List.getElem?_set_ne (by omega), hG4, List.getElem?_set_self (by omega)]
  have hc2 : nget (nset a.nodes p.id (setN p (kidN p c.id))) c.id = some c := by rw [nget_nset, if_neg hne]; exact hc
  refine SCall.mono (aSet G5 A m _ hat5 (parN c p.id) c hc2 okk2).goodA ?_
  rintro _ G6 ⟨⟨rfl, hG6⟩, hG6h⟩
  (repeat (first | simp -dsimp only [zrDom41, xnils, xnilm, xrange, xmakeMap, xslice3, RB, TB, keep68, tab68, xindexAddr, xindex, xslice, xconvert, xlen, ewOp, FreeW, StabW, SameW, ChangeW, AddW, BaseW, limBytes, simprocAttr, ne_eq] | ((with_reducible refine Need.intro ?_ ?_); (first | trivial | exact ⟨_, rfl⟩ | exact ⟨[], (List.append_nil _).symm⟩ | omega | (simp; done) | (simp; omega) | exact ⟨by first | trivial | (simp; done), _, by first | rfl | (simp; rfl)⟩))))
  have hG5l : G5.length = G1.length + 2 := by rw [hG5]; simpa using hG4l
  obtain ⟨L6, hL6⟩ : ∃ L6, G6 = G.set m (.map (encM (insNodes a.nodes p.id c.id p c)) a.clock) ++ L6 := by
    refine pre_app (by rw [hG6]; simp; omega) fun j hj => ?_
    rw [List.length_set] at hj
    rw [hG6]
    by_cases e : j = m
    · rw [e, List.getElem?_set_self (by omega), List.getElem?_set_self lm]; rfl
    · rw [List.getElem?_set_ne (Ne.symm e), List.getElem?_set_ne (Ne.symm e), hG5, List.getElem?_set_ne (by omega), hG4, List.getElem?_set_ne (Ne.symm e)]
      exact hG3p j hj
  refine RetW.cutK false (G.set m (.map (encM (insNodes a.nodes p.id c.id p c)) a.clock)) L6 hL6 (by simp) ?_ ?_ ?_
  · rw [List.length_set]
    exact HLt_set hH (lt_encM _ _)
  · simp [okW, okW1, okW0, V.lt]
  · simp [wk, wk1, wk0]
end Go.Proofs.Ytjplgbalpnlanaa

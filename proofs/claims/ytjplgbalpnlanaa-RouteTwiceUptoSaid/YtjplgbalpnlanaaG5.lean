import Derived.Test.YtjplgbalpnlanaaG4
/- The walk of package dom: Insert, at any place. -/
set_option linter.unusedSimpArgs false
set_option linter.unusedVariables false
set_option maxRecDepth 100000
namespace Go.Proofs.Ytjplgbalpnlanaa
open Go Go.EL
theorem zrDomI1 : type_of% (And.intro (And.intro (And.intro (And.intro (@st_run) (And.intro (@sz_run) (@st1_run))) (And.intro (@cl_run) (And.intro (@st_Str) (@sz_Str)))) (And.intro (And.intro (@st1_Str) (And.intro (@cl_Str) (@st_c))) (And.intro (@sz_c) (And.intro (@st1_c) (@cl_c))))) (And.intro (And.intro (And.intro (@st_attr) (And.intro (@sz_attr) (@st1_attr))) (And.intro (@cl_attr) (And.intro (@st_hook) (@sz_hook)))) (And.intro (And.intro (@st1_hook) (And.intro (@cl_hook) (@st_node))) (And.intro (@sz_node) (And.intro (@st1_node) (@cl_node)))))) := And.intro (And.intro (And.intro (And.intro (@st_run) (And.intro (@sz_run) (@st1_run))) (And.intro (@cl_run) (And.intro (@st_Str) (@sz_Str)))) (And.intro (And.intro (@st1_Str) (And.intro (@cl_Str) (@st_c))) (And.intro (@sz_c) (And.intro (@st1_c) (@cl_c))))) (And.intro (And.intro (And.intro (@st_attr) (And.intro (@sz_attr) (@st1_attr))) (And.intro (@cl_attr) (And.intro (@st_hook) (@sz_hook)))) (And.intro (And.intro (@st1_hook) (And.intro (@cl_hook) (@st_node))) (And.intro (@sz_node) (And.intro (@st1_node) (@cl_node)))))
theorem zlDomI1 : type_of% (And.intro (And.intro (And.intro (And.intro (@lt_vi) (@lt_str)) (And.intro (@lt_vb) (And.intro (@ltc_str) (@ltc_vi)))) (And.intro (And.intro (@lt_run) (And.intro (@lt1_run) (@ltc_run))) (And.intro (@lt_Str) (And.intro (@lt1_Str) (@ltc_Str))))) (And.intro (And.intro (And.intro (@lt_c) (And.intro (@lt1_c) (@ltc_c))) (And.intro (@lt_attr) (And.intro (@lt1_attr) (@ltc_attr)))) (And.intro (And.intro (@lt_hook) (And.intro (@lt1_hook) (@ltc_hook))) (And.intro (@lt_node) (And.intro (@lt1_node) (@ltc_node)))))) := And.intro (And.intro (And.intro (And.intro (@lt_vi) (@lt_str)) (And.intro (@lt_vb) (And.intro (@ltc_str) (@ltc_vi)))) (And.intro (And.intro (@lt_run) (And.intro (@lt1_run) (@ltc_run))) (And.intro (@lt_Str) (And.intro (@lt1_Str) (@ltc_Str))))) (And.intro (And.intro (And.intro (@lt_c) (And.intro (@lt1_c) (@ltc_c))) (And.intro (@lt_attr) (And.intro (@lt1_attr) (@ltc_attr)))) (And.intro (And.intro (@lt_hook) (And.intro (@lt1_hook) (@ltc_hook))) (And.intro (@lt_node) (And.intro (@lt1_node) (@ltc_node)))))
theorem insEnd (H : List Ob) (o ver o2 : Nat) (l : List Int) (x : Int) (ho : H[o]? = some (.vec ver 1 (l.map vi))) (ho2 : H[o2]? = some (.vec 1 1 [vi x])) (hne : o ≠ o2) (hl : l.length ≤ 1000000000) : SCall Try.prog 131 [.vec o ver 0 l.length, .int .i64 l.length, .vec o2 1 0 1] H (fun r H' => r = .vec o (ver + 1) 0 (l.length + 1) ∧ H' = H.set o (.vec (ver + 1) 1 ((l ++ [x]).map vi))) := by
  have lo : o < H.length := (List.getElem?_eq_some_iff.1 ho).1
  have hK := fun K => show (H ++ K)[o]? = some (.vec ver 1 (l.map vi)) by rw [List.getElem?_append_left lo]; exact ho
  have hK2 := fun K => show (H ++ K)[o2]? = some (.vec 1 1 [vi x]) by rw [List.getElem?_append_left (List.getElem?_eq_some_iff.1 ho2).1]; exact ho2
  refine SCall.of_good fun hH => ?_
  have hHk := HLt.add hH
  refine SCall.of_code Tok Try.func131 rfl Try.call131 (n := 95) rfl (by simp) (rs := [.tmp 6]) rfl ?_
  refine EWn.to ?_
  refine EWn.of_c Tok mixed (own := false) keep131 tab131 (by kernel_rfl) ?_
  (repeat (first | simp -dsimp only [zrDomI1, xnils, xnilm, xrange, xmakeMap, xslice3, ho, hK, ho2, hK2, RB, TB, keep131, tab131, xindexAddr, xindex, xslice, xconvert, xlen, ewOp, FreeW, StabW, SameW, ChangeW, AddW, BaseW, limBytes, simprocAttr, ne_eq] | ((with_reducible refine Need.intro ?_ ?_); (omega))))
  skip
  first | (refine Need.intro ⟨by first | trivial | (simp [vi, V.storable]), by first | rfl | (simp [vi, V.cells]), by omega⟩ ?_) | trace_state
  (repeat simp -dsimp only [zrDomI1, xnils, xnilm, xrange, xmakeMap, xslice3, ho, hK, ho2, hK2, RB, TB, keep131, tab131, xindexAddr, xindex, xslice, xconvert, xlen, ewOp, FreeW, StabW, SameW, ChangeW, AddW, BaseW, limBytes, simprocAttr, ne_eq])
  refine RetW.cutK false (H.set o (.vec (ver + 1) 1 ((l ++ [x]).map vi))) [] (by simp) (by simp) ?_ ?_ ?_
  · rw [List.length_set]
    exact HLt_set hH (lt_vi _ _)
  · simp [okW, okW1, okW0, V.lt, lo]
    intro h; omega
  · simp only [List.length_set, wk, wk1, wk0]
    rw [if_neg (by omega)]
    exact ⟨rfl, trivial⟩
theorem insAny (H : List Ob) (o ver o2 i : Nat) (l : List Int) (x : Int) (ho : H[o]? = some (.vec ver 1 (l.map vi))) (ho2 : H[o2]? = some (.vec 1 1 [vi x])) (hne : o ≠ o2) (hi : i ≤ l.length) (hl : l.length ≤ 1000000000) :
    SCall Try.prog 131 [.vec o ver 0 l.length, .int .i64 i, .vec o2 1 0 1] H (fun r H' => r = .vec o (ver + 1) 0 (l.length + 1) ∧ H' = H.set o (.vec (ver + 1) 1 ((l.take i ++ x :: l.drop i).map vi))) := by
  rcases Nat.lt_or_ge i l.length with h | h
  · exact insAt H o ver o2 i l x ho ho2 hne h hl
  · have e : i = l.length := Nat.le_antisymm hi h
    subst e
    rw [List.take_length, List.drop_length]
    exact insEnd H o ver o2 l x ho ho2 hne hl
/-- a parent with one more kid, at a place -/
def kidAt (p : Node) (i : Nat) (child : Int) : Node := { ownN p with kids := p.kids.take i ++ child :: p.kids.drop i }
def insAtN (ns : List Ent) (parent child : Int) (i : Nat) (p c : Node) : List Ent := nset (nset ns parent (setN p (kidAt p i child))) child (setN c (parN c parent))
set_option maxHeartbeats 2000000 in
theorem dInsertAt (G : List Ob) (A m : Nat) (a : Arena) (h : arenaAt G A m a) (hok : ∀ p ∈ a.nodes, okN p.2.2) (hN : a.nodes.length ≤ 1000000) (parent child : Int) (i : Nat) (p c : Node) (hp : nget a.nodes parent = some p) (hc : nget a.nodes child = some c)
    (hpk : p.kind ≠ 2) (hcp : c.parent < 0) (hc0 : child ≠ 0) (hpid : p.id = parent) (hcid : c.id = child) (hin : insideG a child (a.nodes.length + 1) parent [] = false) (hkl : p.kids.length ≤ 1000000) (hi : i ≤ p.kids.length) (hAm : A ≠ m) :
    SCall Try.prog 68 [.ref A 0, .int .i64 parent, .int .i64 i, .int .i64 child] G (fun r H' => r = .int .i64 0 ∧ H' = G.set m (.map (encM (insAtN a.nodes parent child i p c)) a.clock)) := by
  subst hpid hcid
  have hne : c.id ≠ p.id := fun e => by
    have := insideG_succ a c.id a.nodes.length p.id []
    rw [hin, hp, e] at this
    simp at this
  have e1 : (p.kind == 2) = false := by simpa using hpk
  have e2 : decide (c.parent ≥ 0) = false := decide_eq_false (by omega)
  have e3 : (c.id == 0) = false := by simpa using hc0
  have e4 : decide ((i : Int) < 0) = false := decide_eq_false (by omega)
  have e5 : decide ((i : Int) > p.kids.length) = false := decide_eq_false (by omega)
  have f1 : (ownN p).kind = p.kind := rfl
  have f2 : (ownN c).parent = c.parent := rfl
  have f3 : (ownN p).kids = p.kids := rfl
  have lA := (List.getElem?_eq_some_iff.1 h.1).1
  have lm := (List.getElem?_eq_some_iff.1 h.2.1).1
  refine SCall.of_good fun hH => ?_
  have hHk := HLt.add hH
  refine SCall.of_code Tok Try.func68 rfl Try.call68 (n := 74) rfl (by simp) (rs := [.tmp 8]) rfl ?_
  refine EWn.to ?_
  refine EWn.of_c Tok mixed (own := true) keep68 tab68 (by kernel_rfl) ?_
  (repeat simp -dsimp only [zrDomI1, xnils, xnilm, xrange, xmakeMap, xslice3, RB, TB, keep68, tab68, xindexAddr, xindex, xslice, xconvert, xlen, ewOp, FreeW, StabW, SameW, ChangeW, AddW, BaseW, limBytes, simprocAttr, ne_eq])
  refine SCall.mono (aGetV G A m a h hok p.id p hp).goodA ?_
  rintro _ G1 ⟨⟨o, L1, rfl, hG1e, hle, ho⟩, hG1⟩
  have hat : ∀ K, arenaAt (G1 ++ K) A m a := fun K => by rw [hG1e]; exact arena_app (arena_app h _) _
  have lo := (List.getElem?_eq_some_iff.1 ho).1
  have ho2 : ∀ K, (G1 ++ K)[o]? = some (.vec 1 1 (p.kids.map vi)) := fun K => get_appD (L := K) ho
  have hsO : ∀ (K : List Ob) (x : Ob), (G1 ++ K).set o x = G1.set o x ++ K := fun K x => List.set_append_left _ _ lo
  have hgO : ∀ (K : List Ob) (x : Ob), (G1.set o x ++ K)[o]? = some x := fun K x => by rw [List.getElem?_append_left (by simpa using lo), List.getElem?_set_self lo]
  (repeat simp -dsimp only [zrDomI1, xnils, xnilm, xrange, xmakeMap, xslice3, nodeK, RB, TB, keep68, tab68, xindexAddr, xindex, xslice, xconvert, xlen, ewOp, FreeW, StabW, SameW, ChangeW, AddW, BaseW, limBytes, simprocAttr, ne_eq])
  (refine SCall.then (aGetS _ A m a (hat _) hok c.id c hc) ?_)
  (repeat simp -dsimp only [zrDomI1, xnils, xnilm, xrange, xmakeMap, xslice3, nodeV, e1, e2, e3, e4, e5, f1, f2, f3, RB, TB, keep68, tab68, xindexAddr, xindex, xslice, xconvert, xlen, ewOp, FreeW, StabW, SameW, ChangeW, AddW, BaseW, limBytes, simprocAttr, ne_eq])
  (refine SCall.then (dInside _ A m a (hat _) hok hN p.id c.id) ?_)
  (repeat (first | simp -dsimp only [zrDomI1, xnils, xnilm, xrange, xmakeMap, xslice3, hin, e1, e2, e3, e4, e5, f1, f2, f3, ho2, RB, TB, keep68, tab68, xindexAddr, xindex, xslice, xconvert, xlen, ewOp, FreeW, StabW, SameW, ChangeW, AddW, BaseW, limBytes, simprocAttr, ne_eq] | ((with_reducible refine Need.intro ?_ ?_); (trivial))))
  (refine SCall.then (insAny _ o 1 (G1.length + 2) i p.kids c.id (ho2 _) (by rw [hget]; rfl) (by omega) hi (by omega)) ?_)
  (repeat simp -dsimp only [zrDomI1, xnils, xnilm, xrange, xmakeMap, xslice3, hsO, hgO, f3, RB, TB, keep68, tab68, xindexAddr, xindex, xslice, xconvert, xlen, ewOp, FreeW, StabW, SameW, ChangeW, AddW, BaseW, limBytes, simprocAttr, ne_eq])
  refine sgen fun G2 hG2 => ?_
  have hl1 : G.length ≤ G1.length := by rw [hG1e]; simp
  have hG2o : G2[o]? = some (.vec 2 1 ((p.kids.take i ++ c.id :: p.kids.drop i).map vi)) := by rw [hG2]; exact hgO _ _
  have hG2c : G2[G1.length + 1]? = some (.var (nodeV (ownN c)).cells) := by rw [hG2, List.getElem?_append_right (by simp)]; simp; rfl
  have hG2l : G2.length = G1.length + 3 := by rw [hG2]; simp
  have hG2p : ∀ j, j < G.length → G2[j]? = G[j]? := fun j hj => by
    rw [hG2, List.getElem?_append_left (by simp; omega), List.getElem?_set_ne (by omega), hG1e, List.getElem?_append_left hj]
  refine SCall.freezeA 1 (cs' := (nodeV (kidAt p i c.id)).cells) hG2o rfl ?_ ?_
  · refine ⟨.inl (.inl rfl), .inl (.inl rfl), .inl (.inl rfl), .inl (.inl rfl), .inl (.inl rfl), .inl (.inl rfl), .inl (.inl rfl), .inl (.inl rfl), .inl (.inl rfl), .inl (.inl rfl), .inr ⟨o, 2, _, 0, _, rfl, rfl, ?_, ?_⟩, .inl (.inl rfl), .inl (.inl rfl), trivial⟩
    · simp; omega
    · rw [List.drop_zero, List.take_of_length_le (by simp; omega)]; rfl
  refine sgen fun G3 hG3 => ?_
  have hG3l : G3.length = G1.length + 3 := by rw [hG3]; simpa using hG2l
  have hG3p : ∀ j, j < G.length → G3[j]? = G[j]? := fun j hj => by rw [hG3, List.getElem?_set_ne (by omega)]; exact hG2p j hj
  have hG3c : G3[G1.length + 1]? = some (.var (nodeV (ownN c)).cells) := by rw [hG3, List.getElem?_set_ne (by omega)]; exact hG2c
  have hat3 : arenaAt G3 A m a := by
    obtain ⟨L, hL⟩ := pre_app (by omega) hG3p
    rw [hL]; exact arena_app h _
  obtain ⟨q, hq, hqe⟩ := nget_mem hp
  obtain ⟨q2, hq2, hqe2⟩ := nget_mem hc
  have okp : okN p := hqe ▸ hok q hq
  have okc : okN c := hqe2 ▸ hok q2 hq2
  have okk : okN (kidAt p i c.id) := by
    obtain ⟨o1, o2, o3, o4, o5, o6⟩ := okN_own okp
    exact ⟨o1, o2, o3, o4, o5, by simp [kidAt]; omega⟩
  have okk2 : okN (parN c p.id) := by
    obtain ⟨o1, o2, o3, o4, o5, o6⟩ := okN_own okc
    exact ⟨o1, o2, o3, o4, o5, o6⟩
  refine SCall.mono (aSet G3 A m a hat3 (kidAt p i c.id) p hp okk) ?_
  rintro _ G4 ⟨rfl, hG4⟩
  have hid : (kidAt p i c.id).id = p.id := rfl
  rw [hid] at hG4
  have hG4l : G4.length = G1.length + 3 := by rw [hG4]; simpa using hG3l
  have hG4c : G4[G1.length + 1]? = some (.var (nodeV (ownN c)).cells) := by rw [hG4, List.getElem?_set_ne (by omega)]; exact hG3c
  have hG4x : ∀ X, (G4.set (G1.length + 1) X)[G1.length + 1]? = some X := fun X => List.getElem?_set_self (by omega)
  (repeat simp -dsimp only [zrDomI1, xnils, xnilm, xrange, xmakeMap, xslice3, hG4c, hG4x, nodeV, V.cells, RB, TB, keep68, tab68, xindexAddr, xindex, xslice, xconvert, xlen, ewOp, FreeW, StabW, SameW, ChangeW, AddW, BaseW, limBytes, simprocAttr, ne_eq])
  refine sgen fun G5 hG5 => ?_
  have hat5 : arenaAt G5 A m { a with nodes := nset a.nodes p.id (setN p (kidAt p i c.id)) } := by
    refine ⟨?_, ?_, h.2.2.1, h.2.2.2⟩
    · rw [hG5, List.getElem?_set_ne (by omega), hG4, List.getElem?_set_ne (Ne.symm hAm)]; exact hat3.1
    · rw [hG5, List.getElem?_set_ne (by omega), hG4, List.getElem?_set_self (by omega)]
  have hc2 : nget (nset a.nodes p.id (setN p (kidAt p i c.id))) c.id = some c := by rw [nget_nset, if_neg hne]; exact hc
  refine SCall.mono (aSet G5 A m _ hat5 (parN c p.id) c hc2 okk2).goodA ?_
  rintro _ G6 ⟨⟨rfl, hG6⟩, hG6h⟩
  (repeat simp -dsimp only [zrDomI1, xnils, xnilm, xrange, xmakeMap, xslice3, RB, TB, keep68, tab68, xindexAddr, xindex, xslice, xconvert, xlen, ewOp, FreeW, StabW, SameW, ChangeW, AddW, BaseW, limBytes, simprocAttr, ne_eq])
  have hG5l : G5.length = G1.length + 3 := by rw [hG5]; simpa using hG4l
  obtain ⟨L6, hL6⟩ : ∃ L6, G6 = G.set m (.map (encM (insAtN a.nodes p.id c.id i p c)) a.clock) ++ L6 := by
    refine pre_app (by rw [hG6]; simp; omega) fun j hj => ?_
    rw [List.length_set] at hj
    rw [hG6]
    by_cases e : j = m
    · rw [e, List.getElem?_set_self (by omega), List.getElem?_set_self lm]; rfl
    · rw [List.getElem?_set_ne (Ne.symm e), List.getElem?_set_ne (Ne.symm e), hG5, List.getElem?_set_ne (by omega), hG4, List.getElem?_set_ne (Ne.symm e)]
      exact hG3p j hj
  refine RetW.cutK false (G.set m (.map (encM (insAtN a.nodes p.id c.id i p c)) a.clock)) L6 hL6 (by simp) ?_ ?_ ?_
  · rw [List.length_set]
    exact HLt_set hH (lt_encM _ _)
  · simp [okW, okW1, okW0, V.lt]
  · simp [wk, wk1, wk0]
end Go.Proofs.Ytjplgbalpnlanaa

/- The walks of package arena: known, most, full, Next, Make of the owners 1 to 3; Make of any owner. -/
set_option maxHeartbeats 600000
set_option linter.unusedSimpArgs false
set_option linter.unusedVariables false
set_option maxRecDepth 100000
namespace Go.Proofs.Ytjplgbalpnlanaa
open Go Go.EL
theorem zrArena61 : type_of% (And.intro (And.intro (And.intro (And.intro (@st_run) (And.intro (@sz_run) (@st1_run))) (And.intro (@cl_run) (And.intro (@st_Str) (@sz_Str)))) (And.intro (And.intro (@st1_Str) (And.intro (@cl_Str) (@st_c))) (And.intro (@sz_c) (And.intro (@st1_c) (@cl_c))))) (And.intro (And.intro (And.intro (@st_attr) (And.intro (@sz_attr) (@st1_attr))) (And.intro (@cl_attr) (And.intro (@st_hook) (@sz_hook)))) (And.intro (And.intro (@st1_hook) (And.intro (@cl_hook) (@st_node))) (And.intro (@sz_node) (And.intro (@st1_node) (@cl_node)))))) := And.intro (And.intro (And.intro (And.intro (@st_run) (And.intro (@sz_run) (@st1_run))) (And.intro (@cl_run) (And.intro (@st_Str) (@sz_Str)))) (And.intro (And.intro (@st1_Str) (And.intro (@cl_Str) (@st_c))) (And.intro (@sz_c) (And.intro (@st1_c) (@cl_c))))) (And.intro (And.intro (And.intro (@st_attr) (And.intro (@sz_attr) (@st1_attr))) (And.intro (@cl_attr) (And.intro (@st_hook) (@sz_hook)))) (And.intro (And.intro (@st1_hook) (And.intro (@cl_hook) (@st_node))) (And.intro (@sz_node) (And.intro (@st1_node) (@cl_node)))))
theorem zlArena61 : type_of% (And.intro (And.intro (And.intro (And.intro (@lt_vi) (@lt_str)) (And.intro (@lt_vb) (And.intro (@ltc_str) (@ltc_vi)))) (And.intro (And.intro (@lt_run) (And.intro (@lt1_run) (@ltc_run))) (And.intro (@lt_Str) (And.intro (@lt1_Str) (@ltc_Str))))) (And.intro (And.intro (And.intro (@lt_c) (And.intro (@lt1_c) (@ltc_c))) (And.intro (@lt_attr) (And.intro (@lt1_attr) (@ltc_attr)))) (And.intro (And.intro (@lt_hook) (And.intro (@lt1_hook) (@ltc_hook))) (And.intro (@lt_node) (And.intro (@lt1_node) (@ltc_node)))))) := And.intro (And.intro (And.intro (And.intro (@lt_vi) (@lt_str)) (And.intro (@lt_vb) (And.intro (@ltc_str) (@ltc_vi)))) (And.intro (And.intro (@lt_run) (And.intro (@lt1_run) (@ltc_run))) (And.intro (@lt_Str) (And.intro (@lt1_Str) (@ltc_Str))))) (And.intro (And.intro (And.intro (@lt_c) (And.intro (@lt1_c) (@ltc_c))) (And.intro (@lt_attr) (And.intro (@lt1_attr) (@ltc_attr)))) (And.intro (And.intro (@lt_hook) (And.intro (@lt1_hook) (@ltc_hook))) (And.intro (@lt_node) (And.intro (@lt1_node) (@ltc_node)))))
def madeOV (k id kind : Int) (tag : Str) (key : List UInt8) (slot : Int) : V := .agg [.int .i64 id, .int .i64 k, .int .i64 (-1), .int .i64 kind, .str (fixS tag).text, .slice ((fixS tag).runs.map runV), .str key, .int .i64 slot, .fslice [], .fslice [], .fslice [], .str [], .fslice []]
def madeO (k id kind : Int) (tag : Str) (key : List UInt8) (slot : Int) : Node := ⟨id, k, -1, kind, fixS tag, key, slot, [], [], [], zeroS⟩
theorem aKnown1 (H : List Ob) : SCall Try.prog 106 [.int .i64 1] H (fun r H' => r = .bool true ∧ H' = H) := by
  refine SCall.of_good fun hH => ?_
  have hHk := HLt.add hH
  refine SCall.of_code Tok Try.func106 rfl Try.call106 (n := 9) rfl (by simp) (rs := [.tmp 2]) rfl ?_
  refine EWn.to ?_
  refine EWn.of_c Tok mixed (own := false) keep106 tab106 (by kernel_rfl) ?_
  (repeat simp -dsimp only [zrArena61, xnils, xnilm, xrange, xmakeMap, xslice3, RB, TB, keep106, tab106, xindexAddr, xindex, xslice, xconvert, xlen, ewOp, FreeW, StabW, SameW, ChangeW, AddW, BaseW, limBytes, simprocAttr, ne_eq])
  refine RetW.auto0 false _ (by first | rfl | exact (List.append_nil _).symm) ?_ ?_
  · (simp (maxDischargeDepth := 6) [LTB, HLt_set, ltL_take, ltL_drop, ltL_rep, ltL_set, upd, eset, hH, hHk, zlArena61] <;> omega)
  (try simp only [wk, wk1, wk0, RB, limBytes, simprocAttr, ne_eq])
  skip
theorem aMost1 (H : List Ob) : SCall Try.prog 160 [.int .i64 1] H (fun r H' => r = .int .i64 32 ∧ H' = H) := by
  refine SCall.of_good fun hH => ?_
  have hHk := HLt.add hH
  refine SCall.of_code Tok Try.func160 rfl Try.call160 (n := 5) rfl (by simp) (rs := [.tmp 2]) rfl ?_
  refine EWn.to ?_
  refine EWn.of_c Tok mixed (own := false) keep160 tab160 (by kernel_rfl) ?_
  (repeat simp -dsimp only [zrArena61, xnils, xnilm, xrange, xmakeMap, xslice3, RB, TB, keep160, tab160, xindexAddr, xindex, xslice, xconvert, xlen, ewOp, FreeW, StabW, SameW, ChangeW, AddW, BaseW, limBytes, simprocAttr, ne_eq])
  refine RetW.auto0 false _ (by first | rfl | exact (List.append_nil _).symm) ?_ ?_
  · (simp (maxDischargeDepth := 6) [LTB, HLt_set, ltL_take, ltL_drop, ltL_rep, ltL_set, upd, eset, hH, hHk, zlArena61] <;> omega)
  (try simp only [wk, wk1, wk0, RB, limBytes, simprocAttr, ne_eq])
  skip
theorem aFull1 (G : List Ob) (A m : Nat) (ns : List Ent) (ck : Nat) (u0 u1 u2 u3 l0 l1 l2 l3 : Int) (h : arenaAt G A m (arena8 ns ck u0 u1 u2 u3 l0 l1 l2 l3)) (hl : l1 < 32) (hu : u1 < 1048575) : SCall Try.prog 107 [.ref A 0, .int .i64 1] G (fun r H' => r = .bool false ∧ H' = G) := by
  have e1 : decide (l1 ≥ 32) = false := decide_eq_false (by omega)
  have e2 : decide (u1 ≥ 1048575) = false := decide_eq_false (by omega)
  obtain ⟨g1, g2⟩ := at8 h
  refine SCall.of_good fun hH => ?_
  have hHk := HLt.add hH
  refine SCall.of_code Tok Try.func107 rfl Try.call107 (n := 23) rfl (by simp) (rs := [.tmp 4]) rfl ?_
  refine EWn.to ?_
  refine EWn.of_c Tok mixed (own := false) keep107 tab107 (by kernel_rfl) ?_
  (repeat simp -dsimp only [zrArena61, xnils, xnilm, xrange, xmakeMap, xslice3, g1, RB, TB, keep107, tab107, xindexAddr, xindex, xslice, xconvert, xlen, ewOp, FreeW, StabW, SameW, ChangeW, AddW, BaseW, limBytes, simprocAttr, ne_eq])
  (refine CallE.intro _ (aMost1 _) ?_)
  (repeat simp -dsimp only [zrArena61, xnils, xnilm, xrange, xmakeMap, xslice3, e1, e2, g1, RB, TB, keep107, tab107, xindexAddr, xindex, xslice, xconvert, xlen, ewOp, FreeW, StabW, SameW, ChangeW, AddW, BaseW, limBytes, simprocAttr, ne_eq])
  refine RetW.auto0 false _ (by first | rfl | exact (List.append_nil _).symm) ?_ ?_
  · (simp (maxDischargeDepth := 6) [LTB, HLt_set, ltL_take, ltL_drop, ltL_rep, ltL_set, upd, eset, hH, hHk, zlArena61] <;> omega)
  (try simp only [wk, wk1, wk0, RB, limBytes, simprocAttr, ne_eq])
  skip
theorem aNext1 (G : List Ob) (A m : Nat) (ns : List Ent) (ck : Nat) (u0 u1 u2 u3 l0 l1 l2 l3 : Int) (h : arenaAt G A m (arena8 ns ck u0 u1 u2 u3 l0 l1 l2 l3)) (hl : l1 < 32) (hu : u1 < 1048575) (h0 : 0 ≤ u1) : SCall Try.prog 108 [.ref A 0, .int .i64 1] G (fun r H' => r = .int .i64 (1048576 + u1 + 1) ∧ H' = G) := by
  obtain ⟨g1, g2⟩ := at8 h
  have w0 : IntKind.i64.wrap 1048576 = 1048576 := rfl
  have w1 : IntKind.i64.wrap (1048576 + u1) = 1048576 + u1 := wrapI (by omega)
  have w2 : IntKind.i64.wrap (1048576 + u1 + 1) = 1048576 + u1 + 1 := wrapI (by omega)
  refine SCall.of_good fun hH => ?_
  have hHk := HLt.add hH
  refine SCall.of_code Tok Try.func108 rfl Try.call108 (n := 28) rfl (by simp) (rs := [.tmp 4]) rfl ?_
  refine EWn.to ?_
  refine EWn.of_c Tok mixed (own := false) keep108 tab108 (by kernel_rfl) ?_
  (repeat simp -dsimp only [zrArena61, xnils, xnilm, xrange, xmakeMap, xslice3, RB, TB, keep108, tab108, xindexAddr, xindex, xslice, xconvert, xlen, ewOp, FreeW, StabW, SameW, ChangeW, AddW, BaseW, limBytes, simprocAttr, ne_eq])
  (refine SCall.then (aIs _ A m _ h) ?_)
  (repeat simp -dsimp only [zrArena61, xnils, xnilm, xrange, xmakeMap, xslice3, RB, TB, keep108, tab108, xindexAddr, xindex, xslice, xconvert, xlen, ewOp, FreeW, StabW, SameW, ChangeW, AddW, BaseW, limBytes, simprocAttr, ne_eq])
  (refine SCall.then (aKnown1 _) ?_)
  (repeat simp -dsimp only [zrArena61, xnils, xnilm, xrange, xmakeMap, xslice3, RB, TB, keep108, tab108, xindexAddr, xindex, xslice, xconvert, xlen, ewOp, FreeW, StabW, SameW, ChangeW, AddW, BaseW, limBytes, simprocAttr, ne_eq])
  (refine SCall.then (aFull1 _ A m ns ck u0 u1 u2 u3 l0 l1 l2 l3 h hl hu) ?_)
  (repeat simp -dsimp only [zrArena61, xnils, xnilm, xrange, xmakeMap, xslice3, g1, w0, w1, w2, RB, TB, keep108, tab108, xindexAddr, xindex, xslice, xconvert, xlen, ewOp, FreeW, StabW, SameW, ChangeW, AddW, BaseW, limBytes, simprocAttr, ne_eq])
  refine RetW.auto0 false _ (by first | rfl | exact (List.append_nil _).symm) ?_ ?_
  · (simp (maxDischargeDepth := 6) [LTB, HLt_set, ltL_take, ltL_drop, ltL_rep, ltL_set, upd, eset, hH, hHk, zlArena61] <;> omega)
  (try simp only [wk, wk1, wk0, RB, limBytes, simprocAttr, ne_eq])
  skip
theorem aMake10 (G : List Ob) (A m : Nat) (ns : List Ent) (ck : Nat) (u0 u1 u2 u3 l0 l1 l2 l3 : Int) (h : arenaAt G A m (arena8 ns ck u0 u1 u2 u3 l0 l1 l2 l3)) (hl : l1 < 32) (hl0 : 0 ≤ l1) (hu : u1 < 1048575) (h0 : 0 ≤ u1)
    (kind : Int) (hk : 1 ≤ kind ∧ kind ≤ 3) (tag : Str) (htag : okS tag) (key : List UInt8) (slot : Int) (hnew : nget ns (1048576 + u1 + 1) = none) (hAm : A ≠ m) :
    SCall Try.prog 37 [.ref A 0, .int .i64 1, .int .i64 kind, strV tag, .str key, .int .i64 slot] G (fun r H' => r = .tuple [.int .i64 (1048576 + u1 + 1), .int .i64 0] ∧
      H' = (G.set A (.var [.mapr m, .int .i64 u0, .int .i64 (u1 + 1), .int .i64 u2, .int .i64 u3, .int .i64 l0, .int .i64 (l1 + 1), .int .i64 l2, .int .i64 l3])).set m (.map (encM ns ++ [((1048576 + u1 + 1), ck, madeOV 1 (1048576 + u1 + 1) kind tag key slot)]) (ck + 1))) := by
  obtain ⟨g1, g2⟩ := at8 h
  have e1 : decide (kind < 1) = false := decide_eq_false (by omega)
  have e2 : decide (kind > 3) = false := decide_eq_false (by omega)
  refine SCall.of_good fun hH => ?_
  have hHk := HLt.add hH
  refine SCall.of_code Tok Try.func37 rfl Try.call37 (n := 71) rfl (by simp) (rs := [.tmp 12, .tmp 13]) rfl ?_
  refine EWn.to ?_
  refine EWn.of_c Tok mixed (own := false) keep37 tab37 (by kernel_rfl) ?_
  (repeat simp -dsimp only [zrArena61, xnils, xnilm, xrange, xmakeMap, xslice3, strV, RB, TB, keep37, tab37, xindexAddr, xindex, xslice, xconvert, xlen, ewOp, FreeW, StabW, SameW, ChangeW, AddW, BaseW, limBytes, simprocAttr, ne_eq])
  (refine SCall.then (aIs _ A m _ (arena_app h _)) ?_)
  (repeat simp -dsimp only [zrArena61, xnils, xnilm, xrange, xmakeMap, xslice3, RB, TB, keep37, tab37, xindexAddr, xindex, xslice, xconvert, xlen, ewOp, FreeW, StabW, SameW, ChangeW, AddW, BaseW, limBytes, simprocAttr, ne_eq])
  (refine SCall.then (aKnown1 _) ?_)
  (repeat simp -dsimp only [zrArena61, xnils, xnilm, xrange, xmakeMap, xslice3, RB, TB, keep37, tab37, xindexAddr, xindex, xslice, xconvert, xlen, ewOp, FreeW, StabW, SameW, ChangeW, AddW, BaseW, limBytes, simprocAttr, ne_eq])
  (refine SCall.then (aFull1 _ A m ns ck u0 u1 u2 u3 l0 l1 l2 l3 (arena_app h _) hl hu) ?_)
  (repeat simp -dsimp only [zrArena61, xnils, xnilm, xrange, xmakeMap, xslice3, e1, e2, RB, TB, keep37, tab37, xindexAddr, xindex, xslice, xconvert, xlen, ewOp, FreeW, StabW, SameW, ChangeW, AddW, BaseW, limBytes, simprocAttr, ne_eq])
  have lA : A < G.length := (List.getElem?_eq_some_iff.1 g1).1
  have lm : m < G.length := (List.getElem?_eq_some_iff.1 g2).1
  have w2 : IntKind.i64.wrap (u1 + 1) = u1 + 1 := wrapI (by omega)
  have w3 : IntKind.i64.wrap (l1 + 1) = l1 + 1 := wrapI (by omega)
  have gA : ∀ L, (G ++ L)[A]? = some (.var [.mapr m, .int .i64 u0, .int .i64 u1, .int .i64 u2, .int .i64 u3, .int .i64 l0, .int .i64 l1, .int .i64 l2, .int .i64 l3]) := fun L => by rw [List.getElem?_append_left lA]; exact g1
  have hsA : ∀ (L : List Ob) (x : Ob), (G ++ L).set A x = G.set A x ++ L := fun L x => List.set_append_left _ _ lA
  have hgA : ∀ (x : Ob) (L : List Ob), (G.set A x ++ L)[A]? = some x := fun x L => by rw [List.getElem?_append_left (by simpa using lA), List.getElem?_set_self lA]
  have hss : ∀ (x y : Ob) (L : List Ob), (G.set A x ++ L).set A y = G.set A y ++ L := fun x y L => by rw [List.set_append_left _ _ (by simpa using lA), List.set_set]
  have hgm : ∀ (x : Ob) (L : List Ob), (G.set A x ++ L)[m]? = some (.map (encM ns) ck) := fun x L => by rw [List.getElem?_append_left (by simpa using lm), List.getElem?_set_ne hAm]; exact g2
  have hsm : ∀ (x y : Ob) (L : List Ob), (G.set A x ++ L).set m y = (G.set A x).set m y ++ L := fun x y L => List.set_append_left _ _ (by simpa using lm)
  (refine SCall.then (aNext1 _ A m ns ck u0 u1 u2 u3 l0 l1 l2 l3 (arena_app h _) hl hu h0) ?_)
  (repeat simp -dsimp only [zrArena61, xnils, xnilm, xrange, xmakeMap, xslice3, gA, hsA, hgA, hss, hgm, hsm, w2, w3, RB, TB, keep37, tab37, xindexAddr, xindex, xslice, xconvert, xlen, ewOp, FreeW, StabW, SameW, ChangeW, AddW, BaseW, limBytes, simprocAttr, ne_eq])
  have hg := mget_enc (1048576 + u1 + 1) ns
  rw [hnew, Option.map_none] at hg
  (refine CallE.intro _ (mFix _ tag htag) ?_)
  (repeat (first | simp -dsimp only [zrArena61, xnils, xnilm, xrange, xmakeMap, xslice3, strV, gA, hsA, hgA, hss, hgm, hsm, w2, w3, EL.mput, hg, Option.isSome_none, RB, TB, keep37, tab37, xindexAddr, xindex, xslice, xconvert, xlen, ewOp, FreeW, StabW, SameW, ChangeW, AddW, BaseW, limBytes, simprocAttr, ne_eq] | ((with_reducible refine Need.intro ?_ ?_); (trivial))))
  refine RetW.cutK false ((G.set A (.var [.mapr m, .int .i64 u0, .int .i64 (u1 + 1), .int .i64 u2, .int .i64 u3, .int .i64 l0, .int .i64 (l1 + 1), .int .i64 l2, .int .i64 l3])).set m (.map (encM ns ++ [((1048576 + u1 + 1), ck, madeOV 1 (1048576 + u1 + 1) kind tag key slot)]) (ck + 1))) _ rfl (by simp) ?_ ?_ ?_
  · have hn : ltL G.length ((encM ns ++ [((1048576 + u1 + 1), ck, madeOV 1 (1048576 + u1 + 1) kind tag key slot)]).map fun p : Int × Nat × V => p.2.2) := by
      rw [List.map_append, ltL_append]
      refine ⟨lt_encM _ _, ?_⟩
      simp only [List.map_cons, List.map_nil, madeOV, ltL, V.lt, and_true, true_and]
      exact lt_run _ _
    rw [List.length_set, List.length_set]
    refine HLt_set (HLt_set hH ?_) hn
    simp only [Ob.lt, ltL, V.lt, and_true]; exact lm
  · simp [okW, okW1, okW0, V.lt]
  · simp [wk, wk1, wk0]
theorem aMake1 (G : List Ob) (A m : Nat) (ns : List Ent) (ck : Nat) (u0 u1 u2 u3 l0 l1 l2 l3 : Int) (h : arenaAt G A m (arena8 ns ck u0 u1 u2 u3 l0 l1 l2 l3)) (hl : l1 < 32) (hl0 : 0 ≤ l1) (hu : u1 < 1048575) (h0 : 0 ≤ u1)
    (kind : Int) (hk : 1 ≤ kind ∧ kind ≤ 3) (tag : Str) (htag : okS tag) (key : List UInt8) (slot : Int) (hnew : nget ns (1048576 + u1 + 1) = none) (hAm : A ≠ m) :
    SCall Try.prog 37 [.ref A 0, .int .i64 1, .int .i64 kind, strV tag, .str key, .int .i64 slot] G (fun r H' => r = .tuple [.int .i64 (1048576 + u1 + 1), .int .i64 0] ∧
      H' = (G.set A (.var [.mapr m, .int .i64 u0, .int .i64 (u1 + 1), .int .i64 u2, .int .i64 u3, .int .i64 l0, .int .i64 (l1 + 1), .int .i64 l2, .int .i64 l3])).set m (.map (encM (ns ++ [((1048576 + u1 + 1), ck, madeO 1 (1048576 + u1 + 1) kind tag key slot)])) (ck + 1))) := by
  refine (aMake10 G A m ns ck u0 u1 u2 u3 l0 l1 l2 l3 h hl hl0 hu h0 kind hk tag htag key slot hnew hAm).gho ?_
  obtain ⟨g1, g2⟩ := at8 h
  have lm : m < G.length := (List.getElem?_eq_some_iff.1 g2).1
  have hcv : CvO none (Ob.map (encM ns ++ [((1048576 + u1 + 1), ck, madeOV 1 (1048576 + u1 + 1) kind tag key slot)]) (ck + 1)) (Ob.map (encM ns ++ [((1048576 + u1 + 1), ck, nodeV (madeO 1 (1048576 + u1 + 1) kind tag key slot))]) (ck + 1)) := by
    refine ⟨rfl, All2.app (All2.rfl' (fun _ => ⟨rfl, rfl, CvA.rfl' _⟩) _) ⟨⟨rfl, rfl, .inr ⟨_, _, rfl, rfl, ?_⟩⟩, trivial⟩⟩
    repeat (first | exact trivial | refine ⟨.inl (.inl rfl), ?_⟩ | refine ⟨.inl (.inr ⟨_, rfl, rfl⟩), ?_⟩)
  have hw := fun (env : Env) (X : List Ob) (hX : X[m]? = some (Ob.map (encM ns ++ [((1048576 + u1 + 1), ck, madeOV 1 (1048576 + u1 + 1) kind tag key slot)]) (ck + 1))) => Gho.weakOb (n0 := G.length) (env := env) m hX hcv
  have := hw [(0, .tuple [.int .i64 (1048576 + u1 + 1), .int .i64 0])] ((G.set A (.var [.mapr m, .int .i64 u0, .int .i64 (u1 + 1), .int .i64 u2, .int .i64 u3, .int .i64 l0, .int .i64 (l1 + 1), .int .i64 l2, .int .i64 l3])).set m (.map (encM ns ++ [((1048576 + u1 + 1), ck, madeOV 1 (1048576 + u1 + 1) kind tag key slot)]) (ck + 1))) (by rw [List.getElem?_set_self (by simpa using lm)])
  rw [List.set_set] at this
  rw [encM_app]
  exact this
theorem aKnown2 (H : List Ob) : SCall Try.prog 106 [.int .i64 2] H (fun r H' => r = .bool true ∧ H' = H) := by
  refine SCall.of_good fun hH => ?_
  have hHk := HLt.add hH
  refine SCall.of_code Tok Try.func106 rfl Try.call106 (n := 9) rfl (by simp) (rs := [.tmp 2]) rfl ?_
  refine EWn.to ?_
  refine EWn.of_c Tok mixed (own := false) keep106 tab106 (by kernel_rfl) ?_
  (repeat simp -dsimp only [zrArena61, xnils, xnilm, xrange, xmakeMap, xslice3, RB, TB, keep106, tab106, xindexAddr, xindex, xslice, xconvert, xlen, ewOp, FreeW, StabW, SameW, ChangeW, AddW, BaseW, limBytes, simprocAttr, ne_eq])
  refine RetW.auto0 false _ (by first | rfl | exact (List.append_nil _).symm) ?_ ?_
  · (simp (maxDischargeDepth := 6) [LTB, HLt_set, ltL_take, ltL_drop, ltL_rep, ltL_set, upd, eset, hH, hHk, zlArena61] <;> omega)
  (try simp only [wk, wk1, wk0, RB, limBytes, simprocAttr, ne_eq])
  skip
theorem aMost2 (H : List Ob) : SCall Try.prog 160 [.int .i64 2] H (fun r H' => r = .int .i64 32 ∧ H' = H) := by
  refine SCall.of_good fun hH => ?_
  have hHk := HLt.add hH
  refine SCall.of_code Tok Try.func160 rfl Try.call160 (n := 5) rfl (by simp) (rs := [.tmp 2]) rfl ?_
  refine EWn.to ?_
  refine EWn.of_c Tok mixed (own := false) keep160 tab160 (by kernel_rfl) ?_
  (repeat simp -dsimp only [zrArena61, xnils, xnilm, xrange, xmakeMap, xslice3, RB, TB, keep160, tab160, xindexAddr, xindex, xslice, xconvert, xlen, ewOp, FreeW, StabW, SameW, ChangeW, AddW, BaseW, limBytes, simprocAttr, ne_eq])
  refine RetW.auto0 false _ (by first | rfl | exact (List.append_nil _).symm) ?_ ?_
  · (simp (maxDischargeDepth := 6) [LTB, HLt_set, ltL_take, ltL_drop, ltL_rep, ltL_set, upd, eset, hH, hHk, zlArena61] <;> omega)
  (try simp only [wk, wk1, wk0, RB, limBytes, simprocAttr, ne_eq])
  skip
theorem aFull2 (G : List Ob) (A m : Nat) (ns : List Ent) (ck : Nat) (u0 u1 u2 u3 l0 l1 l2 l3 : Int) (h : arenaAt G A m (arena8 ns ck u0 u1 u2 u3 l0 l1 l2 l3)) (hl : l2 < 32) (hu : u2 < 1048575) : SCall Try.prog 107 [.ref A 0, .int .i64 2] G (fun r H' => r = .bool false ∧ H' = G) := by
  have e1 : decide (l2 ≥ 32) = false := decide_eq_false (by omega)
  have e2 : decide (u2 ≥ 1048575) = false := decide_eq_false (by omega)
  obtain ⟨g1, g2⟩ := at8 h
  refine SCall.of_good fun hH => ?_
  have hHk := HLt.add hH
  refine SCall.of_code Tok Try.func107 rfl Try.call107 (n := 23) rfl (by simp) (rs := [.tmp 4]) rfl ?_
  refine EWn.to ?_
  refine EWn.of_c Tok mixed (own := false) keep107 tab107 (by kernel_rfl) ?_
  (repeat simp -dsimp only [zrArena61, xnils, xnilm, xrange, xmakeMap, xslice3, g1, RB, TB, keep107, tab107, xindexAddr, xindex, xslice, xconvert, xlen, ewOp, FreeW, StabW, SameW, ChangeW, AddW, BaseW, limBytes, simprocAttr, ne_eq])
  (refine CallE.intro _ (aMost2 _) ?_)
  (repeat simp -dsimp only [zrArena61, xnils, xnilm, xrange, xmakeMap, xslice3, e1, e2, g1, RB, TB, keep107, tab107, xindexAddr, xindex, xslice, xconvert, xlen, ewOp, FreeW, StabW, SameW, ChangeW, AddW, BaseW, limBytes, simprocAttr, ne_eq])
  refine RetW.auto0 false _ (by first | rfl | exact (List.append_nil _).symm) ?_ ?_
  · (simp (maxDischargeDepth := 6) [LTB, HLt_set, ltL_take, ltL_drop, ltL_rep, ltL_set, upd, eset, hH, hHk, zlArena61] <;> omega)
  (try simp only [wk, wk1, wk0, RB, limBytes, simprocAttr, ne_eq])
  skip
theorem aNext2 (G : List Ob) (A m : Nat) (ns : List Ent) (ck : Nat) (u0 u1 u2 u3 l0 l1 l2 l3 : Int) (h : arenaAt G A m (arena8 ns ck u0 u1 u2 u3 l0 l1 l2 l3)) (hl : l2 < 32) (hu : u2 < 1048575) (h0 : 0 ≤ u2) : SCall Try.prog 108 [.ref A 0, .int .i64 2] G (fun r H' => r = .int .i64 (2097152 + u2 + 1) ∧ H' = G) := by
  obtain ⟨g1, g2⟩ := at8 h
  have w0 : IntKind.i64.wrap 2097152 = 2097152 := rfl
  have w1 : IntKind.i64.wrap (2097152 + u2) = 2097152 + u2 := wrapI (by omega)
  have w2 : IntKind.i64.wrap (2097152 + u2 + 1) = 2097152 + u2 + 1 := wrapI (by omega)
  refine SCall.of_good fun hH => ?_
  have hHk := HLt.add hH
  refine SCall.of_code Tok Try.func108 rfl Try.call108 (n := 28) rfl (by simp) (rs := [.tmp 4]) rfl ?_
  refine EWn.to ?_
  refine EWn.of_c Tok mixed (own := false) keep108 tab108 (by kernel_rfl) ?_
  (repeat simp -dsimp only [zrArena61, xnils, xnilm, xrange, xmakeMap, xslice3, RB, TB, keep108, tab108, xindexAddr, xindex, xslice, xconvert, xlen, ewOp, FreeW, StabW, SameW, ChangeW, AddW, BaseW, limBytes, simprocAttr, ne_eq])
  (refine SCall.then (aIs _ A m _ h) ?_)
  (repeat simp -dsimp only [zrArena61, xnils, xnilm, xrange, xmakeMap, xslice3, RB, TB, keep108, tab108, xindexAddr, xindex, xslice, xconvert, xlen, ewOp, FreeW, StabW, SameW, ChangeW, AddW, BaseW, limBytes, simprocAttr, ne_eq])
  (refine SCall.then (aKnown2 _) ?_)
  (repeat simp -dsimp only [zrArena61, xnils, xnilm, xrange, xmakeMap, xslice3, RB, TB, keep108, tab108, xindexAddr, xindex, xslice, xconvert, xlen, ewOp, FreeW, StabW, SameW, ChangeW, AddW, BaseW, limBytes, simprocAttr, ne_eq])
  (refine SCall.then (aFull2 _ A m ns ck u0 u1 u2 u3 l0 l1 l2 l3 h hl hu) ?_)
  (repeat simp -dsimp only [zrArena61, xnils, xnilm, xrange, xmakeMap, xslice3, g1, w0, w1, w2, RB, TB, keep108, tab108, xindexAddr, xindex, xslice, xconvert, xlen, ewOp, FreeW, StabW, SameW, ChangeW, AddW, BaseW, limBytes, simprocAttr, ne_eq])
  refine RetW.auto0 false _ (by first | rfl | exact (List.append_nil _).symm) ?_ ?_
  · (simp (maxDischargeDepth := 6) [LTB, HLt_set, ltL_take, ltL_drop, ltL_rep, ltL_set, upd, eset, hH, hHk, zlArena61] <;> omega)
  (try simp only [wk, wk1, wk0, RB, limBytes, simprocAttr, ne_eq])
  skip
theorem aMake20 (G : List Ob) (A m : Nat) (ns : List Ent) (ck : Nat) (u0 u1 u2 u3 l0 l1 l2 l3 : Int) (h : arenaAt G A m (arena8 ns ck u0 u1 u2 u3 l0 l1 l2 l3)) (hl : l2 < 32) (hl0 : 0 ≤ l2) (hu : u2 < 1048575) (h0 : 0 ≤ u2)
    (kind : Int) (hk : 1 ≤ kind ∧ kind ≤ 3) (tag : Str) (htag : okS tag) (key : List UInt8) (slot : Int) (hnew : nget ns (2097152 + u2 + 1) = none) (hAm : A ≠ m) :
    SCall Try.prog 37 [.ref A 0, .int .i64 2, .int .i64 kind, strV tag, .str key, .int .i64 slot] G (fun r H' => r = .tuple [.int .i64 (2097152 + u2 + 1), .int .i64 0] ∧
      H' = (G.set A (.var [.mapr m, .int .i64 u0, .int .i64 u1, .int .i64 (u2 + 1), .int .i64 u3, .int .i64 l0, .int .i64 l1, .int .i64 (l2 + 1), .int .i64 l3])).set m (.map (encM ns ++ [((2097152 + u2 + 1), ck, madeOV 2 (2097152 + u2 + 1) kind tag key slot)]) (ck + 1))) := by
  obtain ⟨g1, g2⟩ := at8 h
  have e1 : decide (kind < 1) = false := decide_eq_false (by omega)
  have e2 : decide (kind > 3) = false := decide_eq_false (by omega)
  refine SCall.of_good fun hH => ?_
  have hHk := HLt.add hH
  refine SCall.of_code Tok Try.func37 rfl Try.call37 (n := 71) rfl (by simp) (rs := [.tmp 12, .tmp 13]) rfl ?_
  refine EWn.to ?_
  refine EWn.of_c Tok mixed (own := false) keep37 tab37 (by kernel_rfl) ?_
  (repeat simp -dsimp only [zrArena61, xnils, xnilm, xrange, xmakeMap, xslice3, strV, RB, TB, keep37, tab37, xindexAddr, xindex, xslice, xconvert, xlen, ewOp, FreeW, StabW, SameW, ChangeW, AddW, BaseW, limBytes, simprocAttr, ne_eq])
  (refine SCall.then (aIs _ A m _ (arena_app h _)) ?_)
  (repeat simp -dsimp only [zrArena61, xnils, xnilm, xrange, xmakeMap, xslice3, RB, TB, keep37, tab37, xindexAddr, xindex, xslice, xconvert, xlen, ewOp, FreeW, StabW, SameW, ChangeW, AddW, BaseW, limBytes, simprocAttr, ne_eq])
  (refine SCall.then (aKnown2 _) ?_)
  (repeat simp -dsimp only [zrArena61, xnils, xnilm, xrange, xmakeMap, xslice3, RB, TB, keep37, tab37, xindexAddr, xindex, xslice, xconvert, xlen, ewOp, FreeW, StabW, SameW, ChangeW, AddW, BaseW, limBytes, simprocAttr, ne_eq])
  (refine SCall.then (aFull2 _ A m ns ck u0 u1 u2 u3 l0 l1 l2 l3 (arena_app h _) hl hu) ?_)
  (repeat simp -dsimp only [zrArena61, xnils, xnilm, xrange, xmakeMap, xslice3, e1, e2, RB, TB, keep37, tab37, xindexAddr, xindex, xslice, xconvert, xlen, ewOp, FreeW, StabW, SameW, ChangeW, AddW, BaseW, limBytes, simprocAttr, ne_eq])
  have lA : A < G.length := (List.getElem?_eq_some_iff.1 g1).1
  have lm : m < G.length := (List.getElem?_eq_some_iff.1 g2).1
  have w2 : IntKind.i64.wrap (u2 + 1) = u2 + 1 := wrapI (by omega)
  have w3 : IntKind.i64.wrap (l2 + 1) = l2 + 1 := wrapI (by omega)
  have gA : ∀ L, (G ++ L)[A]? = some (.var [.mapr m, .int .i64 u0, .int .i64 u1, .int .i64 u2, .int .i64 u3, .int .i64 l0, .int .i64 l1, .int .i64 l2, .int .i64 l3]) := fun L => by rw [List.getElem?_append_left lA]; exact g1
  have hsA : ∀ (L : List Ob) (x : Ob), (G ++ L).set A x = G.set A x ++ L := fun L x => List.set_append_left _ _ lA
  have hgA : ∀ (x : Ob) (L : List Ob), (G.set A x ++ L)[A]? = some x := fun x L => by rw [List.getElem?_append_left (by simpa using lA), List.getElem?_set_self lA]
  have hss : ∀ (x y : Ob) (L : List Ob), (G.set A x ++ L).set A y = G.set A y ++ L := fun x y L => by rw [List.set_append_left _ _ (by simpa using lA), List.set_set]
  have hgm : ∀ (x : Ob) (L : List Ob), (G.set A x ++ L)[m]? = some (.map (encM ns) ck) := fun x L => by rw [List.getElem?_append_left (by simpa using lm), List.getElem?_set_ne hAm]; exact g2
  have hsm : ∀ (x y : Ob) (L : List Ob), (G.set A x ++ L).set m y = (G.set A x).set m y ++ L := fun x y L => List.set_append_left _ _ (by simpa using lm)
  (refine SCall.then (aNext2 _ A m ns ck u0 u1 u2 u3 l0 l1 l2 l3 (arena_app h _) hl hu h0) ?_)
  (repeat simp -dsimp only [zrArena61, xnils, xnilm, xrange, xmakeMap, xslice3, gA, hsA, hgA, hss, hgm, hsm, w2, w3, RB, TB, keep37, tab37, xindexAddr, xindex, xslice, xconvert, xlen, ewOp, FreeW, StabW, SameW, ChangeW, AddW, BaseW, limBytes, simprocAttr, ne_eq])
  have hg := mget_enc (2097152 + u2 + 1) ns
  rw [hnew, Option.map_none] at hg
  (refine CallE.intro _ (mFix _ tag htag) ?_)
  (repeat (first | simp -dsimp only [zrArena61, xnils, xnilm, xrange, xmakeMap, xslice3, strV, gA, hsA, hgA, hss, hgm, hsm, w2, w3, EL.mput, hg, Option.isSome_none, RB, TB, keep37, tab37, xindexAddr, xindex, xslice, xconvert, xlen, ewOp, FreeW, StabW, SameW, ChangeW, AddW, BaseW, limBytes, simprocAttr, ne_eq] | ((with_reducible refine Need.intro ?_ ?_); (trivial))))
  refine RetW.cutK false ((G.set A (.var [.mapr m, .int .i64 u0, .int .i64 u1, .int .i64 (u2 + 1), .int .i64 u3, .int .i64 l0, .int .i64 l1, .int .i64 (l2 + 1), .int .i64 l3])).set m (.map (encM ns ++ [((2097152 + u2 + 1), ck, madeOV 2 (2097152 + u2 + 1) kind tag key slot)]) (ck + 1))) _ rfl (by simp) ?_ ?_ ?_
  · have hn : ltL G.length ((encM ns ++ [((2097152 + u2 + 1), ck, madeOV 2 (2097152 + u2 + 1) kind tag key slot)]).map fun p : Int × Nat × V => p.2.2) := by
      rw [List.map_append, ltL_append]
      refine ⟨lt_encM _ _, ?_⟩
      simp only [List.map_cons, List.map_nil, madeOV, ltL, V.lt, and_true, true_and]
      exact lt_run _ _
    rw [List.length_set, List.length_set]
    refine HLt_set (HLt_set hH ?_) hn
    simp only [Ob.lt, ltL, V.lt, and_true]; exact lm
  · simp [okW, okW1, okW0, V.lt]
  · simp [wk, wk1, wk0]
theorem aMake2 (G : List Ob) (A m : Nat) (ns : List Ent) (ck : Nat) (u0 u1 u2 u3 l0 l1 l2 l3 : Int) (h : arenaAt G A m (arena8 ns ck u0 u1 u2 u3 l0 l1 l2 l3)) (hl : l2 < 32) (hl0 : 0 ≤ l2) (hu : u2 < 1048575) (h0 : 0 ≤ u2)
    (kind : Int) (hk : 1 ≤ kind ∧ kind ≤ 3) (tag : Str) (htag : okS tag) (key : List UInt8) (slot : Int) (hnew : nget ns (2097152 + u2 + 1) = none) (hAm : A ≠ m) :
    SCall Try.prog 37 [.ref A 0, .int .i64 2, .int .i64 kind, strV tag, .str key, .int .i64 slot] G (fun r H' => r = .tuple [.int .i64 (2097152 + u2 + 1), .int .i64 0] ∧
      H' = (G.set A (.var [.mapr m, .int .i64 u0, .int .i64 u1, .int .i64 (u2 + 1), .int .i64 u3, .int .i64 l0, .int .i64 l1, .int .i64 (l2 + 1), .int .i64 l3])).set m (.map (encM (ns ++ [((2097152 + u2 + 1), ck, madeO 2 (2097152 + u2 + 1) kind tag key slot)])) (ck + 1))) := by
  refine (aMake20 G A m ns ck u0 u1 u2 u3 l0 l1 l2 l3 h hl hl0 hu h0 kind hk tag htag key slot hnew hAm).gho ?_
  obtain ⟨g1, g2⟩ := at8 h
  have lm : m < G.length := (List.getElem?_eq_some_iff.1 g2).1
  have hcv : CvO none (Ob.map (encM ns ++ [((2097152 + u2 + 1), ck, madeOV 2 (2097152 + u2 + 1) kind tag key slot)]) (ck + 1)) (Ob.map (encM ns ++ [((2097152 + u2 + 1), ck, nodeV (madeO 2 (2097152 + u2 + 1) kind tag key slot))]) (ck + 1)) := by
    refine ⟨rfl, All2.app (All2.rfl' (fun _ => ⟨rfl, rfl, CvA.rfl' _⟩) _) ⟨⟨rfl, rfl, .inr ⟨_, _, rfl, rfl, ?_⟩⟩, trivial⟩⟩
    repeat (first | exact trivial | refine ⟨.inl (.inl rfl), ?_⟩ | refine ⟨.inl (.inr ⟨_, rfl, rfl⟩), ?_⟩)
  have hw := fun (env : Env) (X : List Ob) (hX : X[m]? = some (Ob.map (encM ns ++ [((2097152 + u2 + 1), ck, madeOV 2 (2097152 + u2 + 1) kind tag key slot)]) (ck + 1))) => Gho.weakOb (n0 := G.length) (env := env) m hX hcv
  have := hw [(0, .tuple [.int .i64 (2097152 + u2 + 1), .int .i64 0])] ((G.set A (.var [.mapr m, .int .i64 u0, .int .i64 u1, .int .i64 (u2 + 1), .int .i64 u3, .int .i64 l0, .int .i64 l1, .int .i64 (l2 + 1), .int .i64 l3])).set m (.map (encM ns ++ [((2097152 + u2 + 1), ck, madeOV 2 (2097152 + u2 + 1) kind tag key slot)]) (ck + 1))) (by rw [List.getElem?_set_self (by simpa using lm)])
  rw [List.set_set] at this
  rw [encM_app]
  exact this
theorem aKnown3 (H : List Ob) : SCall Try.prog 106 [.int .i64 3] H (fun r H' => r = .bool true ∧ H' = H) := by
  refine SCall.of_good fun hH => ?_
  have hHk := HLt.add hH
  refine SCall.of_code Tok Try.func106 rfl Try.call106 (n := 9) rfl (by simp) (rs := [.tmp 2]) rfl ?_
  refine EWn.to ?_
  refine EWn.of_c Tok mixed (own := false) keep106 tab106 (by kernel_rfl) ?_
  (repeat simp -dsimp only [zrArena61, xnils, xnilm, xrange, xmakeMap, xslice3, RB, TB, keep106, tab106, xindexAddr, xindex, xslice, xconvert, xlen, ewOp, FreeW, StabW, SameW, ChangeW, AddW, BaseW, limBytes, simprocAttr, ne_eq])
  refine RetW.auto0 false _ (by first | rfl | exact (List.append_nil _).symm) ?_ ?_
  · (simp (maxDischargeDepth := 6) [LTB, HLt_set, ltL_take, ltL_drop, ltL_rep, ltL_set, upd, eset, hH, hHk, zlArena61] <;> omega)
  (try simp only [wk, wk1, wk0, RB, limBytes, simprocAttr, ne_eq])
  skip
theorem aMost3 (H : List Ob) : SCall Try.prog 160 [.int .i64 3] H (fun r H' => r = .int .i64 32 ∧ H' = H) := by
  refine SCall.of_good fun hH => ?_
  have hHk := HLt.add hH
  refine SCall.of_code Tok Try.func160 rfl Try.call160 (n := 5) rfl (by simp) (rs := [.tmp 2]) rfl ?_
  refine EWn.to ?_
  refine EWn.of_c Tok mixed (own := false) keep160 tab160 (by kernel_rfl) ?_
  (repeat simp -dsimp only [zrArena61, xnils, xnilm, xrange, xmakeMap, xslice3, RB, TB, keep160, tab160, xindexAddr, xindex, xslice, xconvert, xlen, ewOp, FreeW, StabW, SameW, ChangeW, AddW, BaseW, limBytes, simprocAttr, ne_eq])
  refine RetW.auto0 false _ (by first | rfl | exact (List.append_nil _).symm) ?_ ?_
  · (simp (maxDischargeDepth := 6) [LTB, HLt_set, ltL_take, ltL_drop, ltL_rep, ltL_set, upd, eset, hH, hHk, zlArena61] <;> omega)
  (try simp only [wk, wk1, wk0, RB, limBytes, simprocAttr, ne_eq])
  skip
theorem aFull3 (G : List Ob) (A m : Nat) (ns : List Ent) (ck : Nat) (u0 u1 u2 u3 l0 l1 l2 l3 : Int) (h : arenaAt G A m (arena8 ns ck u0 u1 u2 u3 l0 l1 l2 l3)) (hl : l3 < 32) (hu : u3 < 1048575) : SCall Try.prog 107 [.ref A 0, .int .i64 3] G (fun r H' => r = .bool false ∧ H' = G) := by
  have e1 : decide (l3 ≥ 32) = false := decide_eq_false (by omega)
  have e2 : decide (u3 ≥ 1048575) = false := decide_eq_false (by omega)
  obtain ⟨g1, g2⟩ := at8 h
  refine SCall.of_good fun hH => ?_
  have hHk := HLt.add hH
  refine SCall.of_code Tok Try.func107 rfl Try.call107 (n := 23) rfl (by simp) (rs := [.tmp 4]) rfl ?_
  refine EWn.to ?_
  refine EWn.of_c Tok mixed (own := false) keep107 tab107 (by kernel_rfl) ?_
  (repeat simp -dsimp only [zrArena61, xnils, xnilm, xrange, xmakeMap, xslice3, g1, RB, TB, keep107, tab107, xindexAddr, xindex, xslice, xconvert, xlen, ewOp, FreeW, StabW, SameW, ChangeW, AddW, BaseW, limBytes, simprocAttr, ne_eq])
  (refine CallE.intro _ (aMost3 _) ?_)
  (repeat simp -dsimp only [zrArena61, xnils, xnilm, xrange, xmakeMap, xslice3, e1, e2, g1, RB, TB, keep107, tab107, xindexAddr, xindex, xslice, xconvert, xlen, ewOp, FreeW, StabW, SameW, ChangeW, AddW, BaseW, limBytes, simprocAttr, ne_eq])
  refine RetW.auto0 false _ (by first | rfl | exact (List.append_nil _).symm) ?_ ?_
  · (simp (maxDischargeDepth := 6) [LTB, HLt_set, ltL_take, ltL_drop, ltL_rep, ltL_set, upd, eset, hH, hHk, zlArena61] <;> omega)
  (try simp only [wk, wk1, wk0, RB, limBytes, simprocAttr, ne_eq])
  skip
theorem aNext3 (G : List Ob) (A m : Nat) (ns : List Ent) (ck : Nat) (u0 u1 u2 u3 l0 l1 l2 l3 : Int) (h : arenaAt G A m (arena8 ns ck u0 u1 u2 u3 l0 l1 l2 l3)) (hl : l3 < 32) (hu : u3 < 1048575) (h0 : 0 ≤ u3) : SCall Try.prog 108 [.ref A 0, .int .i64 3] G (fun r H' => r = .int .i64 (3145728 + u3 + 1) ∧ H' = G) := by
  obtain ⟨g1, g2⟩ := at8 h
  have w0 : IntKind.i64.wrap 3145728 = 3145728 := rfl
  have w1 : IntKind.i64.wrap (3145728 + u3) = 3145728 + u3 := wrapI (by omega)
  have w2 : IntKind.i64.wrap (3145728 + u3 + 1) = 3145728 + u3 + 1 := wrapI (by omega)
  refine SCall.of_good fun hH => ?_
  have hHk := HLt.add hH
  refine SCall.of_code Tok Try.func108 rfl Try.call108 (n := 28) rfl (by simp) (rs := [.tmp 4]) rfl ?_
  refine EWn.to ?_
  refine EWn.of_c Tok mixed (own := false) keep108 tab108 (by kernel_rfl) ?_
  (repeat simp -dsimp only [zrArena61, xnils, xnilm, xrange, xmakeMap, xslice3, RB, TB, keep108, tab108, xindexAddr, xindex, xslice, xconvert, xlen, ewOp, FreeW, StabW, SameW, ChangeW, AddW, BaseW, limBytes, simprocAttr, ne_eq])
  (refine SCall.then (aIs _ A m _ h) ?_)
  (repeat simp -dsimp only [zrArena61, xnils, xnilm, xrange, xmakeMap, xslice3, RB, TB, keep108, tab108, xindexAddr, xindex, xslice, xconvert, xlen, ewOp, FreeW, StabW, SameW, ChangeW, AddW, BaseW, limBytes, simprocAttr, ne_eq])
  (refine SCall.then (aKnown3 _) ?_)
  (repeat simp -dsimp only [zrArena61, xnils, xnilm, xrange, xmakeMap, xslice3, RB, TB, keep108, tab108, xindexAddr, xindex, xslice, xconvert, xlen, ewOp, FreeW, StabW, SameW, ChangeW, AddW, BaseW, limBytes, simprocAttr, ne_eq])
  (refine SCall.then (aFull3 _ A m ns ck u0 u1 u2 u3 l0 l1 l2 l3 h hl hu) ?_)
  (repeat simp -dsimp only [zrArena61, xnils, xnilm, xrange, xmakeMap, xslice3, g1, w0, w1, w2, RB, TB, keep108, tab108, xindexAddr, xindex, xslice, xconvert, xlen, ewOp, FreeW, StabW, SameW, ChangeW, AddW, BaseW, limBytes, simprocAttr, ne_eq])
  refine RetW.auto0 false _ (by first | rfl | exact (List.append_nil _).symm) ?_ ?_
  · (simp (maxDischargeDepth := 6) [LTB, HLt_set, ltL_take, ltL_drop, ltL_rep, ltL_set, upd, eset, hH, hHk, zlArena61] <;> omega)
  (try simp only [wk, wk1, wk0, RB, limBytes, simprocAttr, ne_eq])
  skip
theorem aMake30 (G : List Ob) (A m : Nat) (ns : List Ent) (ck : Nat) (u0 u1 u2 u3 l0 l1 l2 l3 : Int) (h : arenaAt G A m (arena8 ns ck u0 u1 u2 u3 l0 l1 l2 l3)) (hl : l3 < 32) (hl0 : 0 ≤ l3) (hu : u3 < 1048575) (h0 : 0 ≤ u3)
    (kind : Int) (hk : 1 ≤ kind ∧ kind ≤ 3) (tag : Str) (htag : okS tag) (key : List UInt8) (slot : Int) (hnew : nget ns (3145728 + u3 + 1) = none) (hAm : A ≠ m) :
    SCall Try.prog 37 [.ref A 0, .int .i64 3, .int .i64 kind, strV tag, .str key, .int .i64 slot] G (fun r H' => r = .tuple [.int .i64 (3145728 + u3 + 1), .int .i64 0] ∧
      H' = (G.set A (.var [.mapr m, .int .i64 u0, .int .i64 u1, .int .i64 u2, .int .i64 (u3 + 1), .int .i64 l0, .int .i64 l1, .int .i64 l2, .int .i64 (l3 + 1)])).set m (.map (encM ns ++ [((3145728 + u3 + 1), ck, madeOV 3 (3145728 + u3 + 1) kind tag key slot)]) (ck + 1))) := by
  obtain ⟨g1, g2⟩ := at8 h
  have e1 : decide (kind < 1) = false := decide_eq_false (by omega)
  have e2 : decide (kind > 3) = false := decide_eq_false (by omega)
  refine SCall.of_good fun hH => ?_
  have hHk := HLt.add hH
  refine SCall.of_code Tok Try.func37 rfl Try.call37 (n := 71) rfl (by simp) (rs := [.tmp 12, .tmp 13]) rfl ?_
  refine EWn.to ?_
  refine EWn.of_c Tok mixed (own := false) keep37 tab37 (by kernel_rfl) ?_
  (repeat simp -dsimp only [zrArena61, xnils, xnilm, xrange, xmakeMap, xslice3, strV, RB, TB, keep37, tab37, xindexAddr, xindex, xslice, xconvert, xlen, ewOp, FreeW, StabW, SameW, ChangeW, AddW, BaseW, limBytes, simprocAttr, ne_eq])
  (refine SCall.then (aIs _ A m _ (arena_app h _)) ?_)
  (repeat simp -dsimp only [zrArena61, xnils, xnilm, xrange, xmakeMap, xslice3, RB, TB, keep37, tab37, xindexAddr, xindex, xslice, xconvert, xlen, ewOp, FreeW, StabW, SameW, ChangeW, AddW, BaseW, limBytes, simprocAttr, ne_eq])
  (refine SCall.then (aKnown3 _) ?_)
  (repeat simp -dsimp only [zrArena61, xnils, xnilm, xrange, xmakeMap, xslice3, RB, TB, keep37, tab37, xindexAddr, xindex, xslice, xconvert, xlen, ewOp, FreeW, StabW, SameW, ChangeW, AddW, BaseW, limBytes, simprocAttr, ne_eq])
  (refine SCall.then (aFull3 _ A m ns ck u0 u1 u2 u3 l0 l1 l2 l3 (arena_app h _) hl hu) ?_)
  (repeat simp -dsimp only [zrArena61, xnils, xnilm, xrange, xmakeMap, xslice3, e1, e2, RB, TB, keep37, tab37, xindexAddr, xindex, xslice, xconvert, xlen, ewOp, FreeW, StabW, SameW, ChangeW, AddW, BaseW, limBytes, simprocAttr, ne_eq])
  have lA : A < G.length := (List.getElem?_eq_some_iff.1 g1).1
  have lm : m < G.length := (List.getElem?_eq_some_iff.1 g2).1
  have w2 : IntKind.i64.wrap (u3 + 1) = u3 + 1 := wrapI (by omega)
  have w3 : IntKind.i64.wrap (l3 + 1) = l3 + 1 := wrapI (by omega)
  have gA : ∀ L, (G ++ L)[A]? = some (.var [.mapr m, .int .i64 u0, .int .i64 u1, .int .i64 u2, .int .i64 u3, .int .i64 l0, .int .i64 l1, .int .i64 l2, .int .i64 l3]) := fun L => by rw [List.getElem?_append_left lA]; exact g1
  have hsA : ∀ (L : List Ob) (x : Ob), (G ++ L).set A x = G.set A x ++ L := fun L x => List.set_append_left _ _ lA
  have hgA : ∀ (x : Ob) (L : List Ob), (G.set A x ++ L)[A]? = some x := fun x L => by rw [List.getElem?_append_left (by simpa using lA), List.getElem?_set_self lA]
  have hss : ∀ (x y : Ob) (L : List Ob), (G.set A x ++ L).set A y = G.set A y ++ L := fun x y L => by rw [List.set_append_left _ _ (by simpa using lA), List.set_set]
  have hgm : ∀ (x : Ob) (L : List Ob), (G.set A x ++ L)[m]? = some (.map (encM ns) ck) := fun x L => by rw [List.getElem?_append_left (by simpa using lm), List.getElem?_set_ne hAm]; exact g2
  have hsm : ∀ (x y : Ob) (L : List Ob), (G.set A x ++ L).set m y = (G.set A x).set m y ++ L := fun x y L => List.set_append_left _ _ (by simpa using lm)
  (refine SCall.then (aNext3 _ A m ns ck u0 u1 u2 u3 l0 l1 l2 l3 (arena_app h _) hl hu h0) ?_)
  (repeat simp -dsimp only [zrArena61, xnils, xnilm, xrange, xmakeMap, xslice3, gA, hsA, hgA, hss, hgm, hsm, w2, w3, RB, TB, keep37, tab37, xindexAddr, xindex, xslice, xconvert, xlen, ewOp, FreeW, StabW, SameW, ChangeW, AddW, BaseW, limBytes, simprocAttr, ne_eq])
  have hg := mget_enc (3145728 + u3 + 1) ns
  rw [hnew, Option.map_none] at hg
  (refine CallE.intro _ (mFix _ tag htag) ?_)
  (repeat (first | simp -dsimp only [zrArena61, xnils, xnilm, xrange, xmakeMap, xslice3, strV, gA, hsA, hgA, hss, hgm, hsm, w2, w3, EL.mput, hg, Option.isSome_none, RB, TB, keep37, tab37, xindexAddr, xindex, xslice, xconvert, xlen, ewOp, FreeW, StabW, SameW, ChangeW, AddW, BaseW, limBytes, simprocAttr, ne_eq] | ((with_reducible refine Need.intro ?_ ?_); (trivial))))
  refine RetW.cutK false ((G.set A (.var [.mapr m, .int .i64 u0, .int .i64 u1, .int .i64 u2, .int .i64 (u3 + 1), .int .i64 l0, .int .i64 l1, .int .i64 l2, .int .i64 (l3 + 1)])).set m (.map (encM ns ++ [((3145728 + u3 + 1), ck, madeOV 3 (3145728 + u3 + 1) kind tag key slot)]) (ck + 1))) _ rfl (by simp) ?_ ?_ ?_
  · have hn : ltL G.length ((encM ns ++ [((3145728 + u3 + 1), ck, madeOV 3 (3145728 + u3 + 1) kind tag key slot)]).map fun p : Int × Nat × V => p.2.2) := by
      rw [List.map_append, ltL_append]
      refine ⟨lt_encM _ _, ?_⟩
      simp only [List.map_cons, List.map_nil, madeOV, ltL, V.lt, and_true, true_and]
      exact lt_run _ _
    rw [List.length_set, List.length_set]
    refine HLt_set (HLt_set hH ?_) hn
    simp only [Ob.lt, ltL, V.lt, and_true]; exact lm
  · simp [okW, okW1, okW0, V.lt]
  · simp [wk, wk1, wk0]
theorem aMake3 (G : List Ob) (A m : Nat) (ns : List Ent) (ck : Nat) (u0 u1 u2 u3 l0 l1 l2 l3 : Int) (h : arenaAt G A m (arena8 ns ck u0 u1 u2 u3 l0 l1 l2 l3)) (hl : l3 < 32) (hl0 : 0 ≤ l3) (hu : u3 < 1048575) (h0 : 0 ≤ u3)
    (kind : Int) (hk : 1 ≤ kind ∧ kind ≤ 3) (tag : Str) (htag : okS tag) (key : List UInt8) (slot : Int) (hnew : nget ns (3145728 + u3 + 1) = none) (hAm : A ≠ m) :
    SCall Try.prog 37 [.ref A 0, .int .i64 3, .int .i64 kind, strV tag, .str key, .int .i64 slot] G (fun r H' => r = .tuple [.int .i64 (3145728 + u3 + 1), .int .i64 0] ∧
      H' = (G.set A (.var [.mapr m, .int .i64 u0, .int .i64 u1, .int .i64 u2, .int .i64 (u3 + 1), .int .i64 l0, .int .i64 l1, .int .i64 l2, .int .i64 (l3 + 1)])).set m (.map (encM (ns ++ [((3145728 + u3 + 1), ck, madeO 3 (3145728 + u3 + 1) kind tag key slot)])) (ck + 1))) := by
  refine (aMake30 G A m ns ck u0 u1 u2 u3 l0 l1 l2 l3 h hl hl0 hu h0 kind hk tag htag key slot hnew hAm).gho ?_
  obtain ⟨g1, g2⟩ := at8 h
  have lm : m < G.length := (List.getElem?_eq_some_iff.1 g2).1
  have hcv : CvO none (Ob.map (encM ns ++ [((3145728 + u3 + 1), ck, madeOV 3 (3145728 + u3 + 1) kind tag key slot)]) (ck + 1)) (Ob.map (encM ns ++ [((3145728 + u3 + 1), ck, nodeV (madeO 3 (3145728 + u3 + 1) kind tag key slot))]) (ck + 1)) := by
    refine ⟨rfl, All2.app (All2.rfl' (fun _ => ⟨rfl, rfl, CvA.rfl' _⟩) _) ⟨⟨rfl, rfl, .inr ⟨_, _, rfl, rfl, ?_⟩⟩, trivial⟩⟩
    repeat (first | exact trivial | refine ⟨.inl (.inl rfl), ?_⟩ | refine ⟨.inl (.inr ⟨_, rfl, rfl⟩), ?_⟩)
  have hw := fun (env : Env) (X : List Ob) (hX : X[m]? = some (Ob.map (encM ns ++ [((3145728 + u3 + 1), ck, madeOV 3 (3145728 + u3 + 1) kind tag key slot)]) (ck + 1))) => Gho.weakOb (n0 := G.length) (env := env) m hX hcv
  have := hw [(0, .tuple [.int .i64 (3145728 + u3 + 1), .int .i64 0])] ((G.set A (.var [.mapr m, .int .i64 u0, .int .i64 u1, .int .i64 u2, .int .i64 (u3 + 1), .int .i64 l0, .int .i64 l1, .int .i64 l2, .int .i64 (l3 + 1)])).set m (.map (encM ns ++ [((3145728 + u3 + 1), ck, madeOV 3 (3145728 + u3 + 1) kind tag key slot)]) (ck + 1))) (by rw [List.getElem?_set_self (by simpa using lm)])
  rw [List.set_set] at this
  rw [encM_app]
  exact this
def mostO (k : Nat) : Int := if k = 0 then 128 else 32
def addAt (l : List Int) (k : Nat) : List Int := l.set k (l.getD k 0 + 1)
def idO (a : Arena) (k : Nat) : Int := k * 1048576 + a.used.getD k 0 + 1
def makeA (a : Arena) (k : Nat) (kind : Int) (tag : Str) (key : List UInt8) (slot : Int) : Arena := ⟨a.nodes ++ [(idO a k, a.clock, madeO k (idO a k) kind tag key slot)], a.clock + 1, addAt a.used k, addAt a.live k⟩
theorem len4 {l : List Int} (h : l.length = 4) : ∃ a b c d, l = [a, b, c, d] := by
  match l, h with
  | [a, b, c, d], _ => exact ⟨a, b, c, d, rfl⟩
/-- MAKE, OF ANY OWNER -/
theorem aMake (G : List Ob) (A m : Nat) (a : Arena) (h : arenaAt G A m a) (k : Nat) (hk4 : k < 4) (hl : a.live.getD k 0 < mostO k) (hl0 : 0 ≤ a.live.getD k 0) (hu : a.used.getD k 0 < 1048575) (h0 : 0 ≤ a.used.getD k 0)
    (kind : Int) (hk : 1 ≤ kind ∧ kind ≤ 3) (tag : Str) (htag : okS tag) (key : List UInt8) (slot : Int) (hnew : nget a.nodes (idO a k) = none) (hAm : A ≠ m) :
    SCall Try.prog 37 [.ref A 0, .int .i64 k, .int .i64 kind, strV tag, .str key, .int .i64 slot] G (fun r H' => r = .tuple [.int .i64 (idO a k), .int .i64 0] ∧
      H' = (G.set A (.var (.mapr m :: ((makeA a k kind tag key slot).used.map vi ++ (makeA a k kind tag key slot).live.map vi)))).set m (.map (encM (makeA a k kind tag key slot).nodes) (makeA a k kind tag key slot).clock)) := by
  obtain ⟨ns, ck, us, ls⟩ := a
  obtain ⟨u0, u1, u2, u3, rfl⟩ := len4 (l := us) h.2.2.1
  obtain ⟨l0, l1, l2, l3, rfl⟩ := len4 (l := ls) h.2.2.2
  have hkc : k = 0 ∨ k = 1 ∨ k = 2 ∨ k = 3 := by omega
  rcases hkc with rfl | rfl | rfl | rfl
  · have e : idO ⟨ns, ck, [u0, u1, u2, u3], [l0, l1, l2, l3]⟩ 0 = u0 + 1 := by simp [idO]
    have hl' : l0 < 128 := hl
    have hl0' : 0 ≤ l0 := hl0
    have hu' : u0 < 1048575 := hu
    have h0' : 0 ≤ u0 := h0
    rw [e] at hnew
    have hm := aMake0 G A m ns ck u0 u1 u2 u3 l0 l1 l2 l3 h hl' hl0' hu' h0' kind hk tag htag key slot hnew hAm
    refine SCall.mono hm ?_
    rintro r H' ⟨rfl, rfl⟩
    refine ⟨by rw [e], ?_⟩
    simp only [makeA, e]
    first | rfl | (simp [addAt, madeO, madeN]; done) | (simp only [addAt, madeO, madeN]; rfl)
  · have e : idO ⟨ns, ck, [u0, u1, u2, u3], [l0, l1, l2, l3]⟩ 1 = 1048576 + u1 + 1 := by simp [idO]
    have hl' : l1 < 32 := hl
    have hl0' : 0 ≤ l1 := hl0
    have hu' : u1 < 1048575 := hu
    have h0' : 0 ≤ u1 := h0
    rw [e] at hnew
    have hm := aMake1 G A m ns ck u0 u1 u2 u3 l0 l1 l2 l3 h hl' hl0' hu' h0' kind hk tag htag key slot hnew hAm
    refine SCall.mono hm ?_
    rintro r H' ⟨rfl, rfl⟩
    refine ⟨by rw [e], ?_⟩
    simp only [makeA, e]
    first | rfl | (simp [addAt, madeO, madeN]; done) | (simp only [addAt, madeO, madeN]; rfl)
  · have e : idO ⟨ns, ck, [u0, u1, u2, u3], [l0, l1, l2, l3]⟩ 2 = 2097152 + u2 + 1 := by simp [idO]
    have hl' : l2 < 32 := hl
    have hl0' : 0 ≤ l2 := hl0
    have hu' : u2 < 1048575 := hu
    have h0' : 0 ≤ u2 := h0
    rw [e] at hnew
    have hm := aMake2 G A m ns ck u0 u1 u2 u3 l0 l1 l2 l3 h hl' hl0' hu' h0' kind hk tag htag key slot hnew hAm
    refine SCall.mono hm ?_
    rintro r H' ⟨rfl, rfl⟩
    refine ⟨by rw [e], ?_⟩
    simp only [makeA, e]
    first | rfl | (simp [addAt, madeO, madeN]; done) | (simp only [addAt, madeO, madeN]; rfl)
  · have e : idO ⟨ns, ck, [u0, u1, u2, u3], [l0, l1, l2, l3]⟩ 3 = 3145728 + u3 + 1 := by simp [idO]
    have hl' : l3 < 32 := hl
    have hl0' : 0 ≤ l3 := hl0
    have hu' : u3 < 1048575 := hu
    have h0' : 0 ≤ u3 := h0
    rw [e] at hnew
    have hm := aMake3 G A m ns ck u0 u1 u2 u3 l0 l1 l2 l3 h hl' hl0' hu' h0' kind hk tag htag key slot hnew hAm
    refine SCall.mono hm ?_
    rintro r H' ⟨rfl, rfl⟩
    refine ⟨by rw [e], ?_⟩
    simp only [makeA, e]
    first | rfl | (simp [addAt, madeO, madeN]; done) | (simp only [addAt, madeO, madeN]; rfl)
end Go.Proofs.Ytjplgbalpnlanaa

/- Laws of chapter 20: the example. -/
set_option maxHeartbeats 600000
set_option linter.unusedSimpArgs false
set_option linter.unusedVariables false
set_option maxRecDepth 100000
namespace Go.Proofs.Ytjplgbalpnlanaa
open Go Go.EL
theorem zrDom51 : type_of% (And.intro (And.intro (And.intro (And.intro (@st_run) (And.intro (@sz_run) (@st1_run))) (And.intro (@cl_run) (And.intro (@st_Str) (@sz_Str)))) (And.intro (And.intro (@st1_Str) (And.intro (@cl_Str) (@st_c))) (And.intro (@sz_c) (And.intro (@st1_c) (@cl_c))))) (And.intro (And.intro (And.intro (@st_attr) (And.intro (@sz_attr) (@st1_attr))) (And.intro (@cl_attr) (And.intro (@st_hook) (@sz_hook)))) (And.intro (And.intro (@st1_hook) (And.intro (@cl_hook) (@st_node))) (And.intro (@sz_node) (And.intro (@st1_node) (@cl_node)))))) := And.intro (And.intro (And.intro (And.intro (@st_run) (And.intro (@sz_run) (@st1_run))) (And.intro (@cl_run) (And.intro (@st_Str) (@sz_Str)))) (And.intro (And.intro (@st1_Str) (And.intro (@cl_Str) (@st_c))) (And.intro (@sz_c) (And.intro (@st1_c) (@cl_c))))) (And.intro (And.intro (And.intro (@st_attr) (And.intro (@sz_attr) (@st1_attr))) (And.intro (@cl_attr) (And.intro (@st_hook) (@sz_hook)))) (And.intro (And.intro (@st1_hook) (And.intro (@cl_hook) (@st_node))) (And.intro (@sz_node) (And.intro (@st1_node) (@cl_node)))))
theorem zlDom51 : type_of% (And.intro (And.intro (And.intro (And.intro (@lt_vi) (@lt_str)) (And.intro (@lt_vb) (And.intro (@ltc_str) (@ltc_vi)))) (And.intro (And.intro (@lt_run) (And.intro (@lt1_run) (@ltc_run))) (And.intro (@lt_Str) (And.intro (@lt1_Str) (@ltc_Str))))) (And.intro (And.intro (And.intro (@lt_c) (And.intro (@lt1_c) (@ltc_c))) (And.intro (@lt_attr) (And.intro (@lt1_attr) (@ltc_attr)))) (And.intro (And.intro (@lt_hook) (And.intro (@lt1_hook) (@ltc_hook))) (And.intro (@lt_node) (And.intro (@lt1_node) (@ltc_node)))))) := And.intro (And.intro (And.intro (And.intro (@lt_vi) (@lt_str)) (And.intro (@lt_vb) (And.intro (@ltc_str) (@ltc_vi)))) (And.intro (And.intro (@lt_run) (And.intro (@lt1_run) (@ltc_run))) (And.intro (@lt_Str) (And.intro (@lt1_Str) (@ltc_Str))))) (And.intro (And.intro (And.intro (@lt_c) (And.intro (@lt1_c) (@ltc_c))) (And.intro (@lt_attr) (And.intro (@lt1_attr) (@ltc_attr)))) (And.intro (And.intro (@lt_hook) (And.intro (@lt1_hook) (@ltc_hook))) (And.intro (@lt_node) (And.intro (@lt1_node) (@ltc_node)))))
theorem okN_set {x n : Node} (hx : okN x) (hn : okN n) : okN (setN x n) := ⟨hx.1, okS_fix hn.2.1, fun a ha => by
  obtain ⟨b, hb, rfl⟩ := List.mem_map.1 ha
  exact okA_own (hn.2.2.1 b hb), by simpa [setN] using hn.2.2.2.1, hn.2.2.2.2.1, hn.2.2.2.2.2⟩
theorem ok_nset {id : Int} {x : Node} (hx : okN x) : ∀ {ns : List Ent}, (∀ p ∈ ns, okN p.2.2) → ∀ p ∈ nset ns id x, okN p.2.2
  | [], h, p, hp => by simp [nset] at hp
  | q :: l, h, p, hp => by
    simp only [nset] at hp
    split at hp
    · rcases List.mem_cons.1 hp with rfl | hp
      · exact hx
      · exact h p (by simp [hp])
    · rcases List.mem_cons.1 hp with rfl | hp
      · exact h _ (by simp)
      · exact ok_nset hx (fun p hp => h p (by simp [hp])) p hp
theorem okN_kid {p : Node} (h : okN p) (hk : p.kids.length ≤ 1000000) (c : Int) : okN (kidN p c) := by
  obtain ⟨o1, o2, o3, o4, o5, o6⟩ := okN_own h
  exact ⟨o1, o2, o3, o4, o5, by simp [kidN]; omega⟩
theorem okN_par {p : Node} (h : okN p) (c : Int) : okN (parN p c) := by
  obtain ⟨o1, o2, o3, o4, o5, o6⟩ := okN_own h
  exact ⟨o1, o2, o3, o4, o5, o6⟩
theorem ok_ins {ns : List Ent} (h : ∀ p ∈ ns, okN p.2.2) {parent child : Int} {p c : Node} (hp : okN p) (hc : okN c) (hk : p.kids.length ≤ 1000000) : ∀ q ∈ insNodes ns parent child p c, okN q.2.2 :=
  ok_nset (okN_set hc (okN_par hc _)) (ok_nset (okN_set hp (okN_kid hp hk _)) h)
def tagP : Str := ⟨[112], rle [near 0]⟩
theorem okP : okS tagP := by unfold tagP; exact ⟨by simp, by have := rle_len [near 0]; simp at this ⊢; omega⟩
theorem okN_made {tag : Str} (h : okS tag) (id kind : Int) (key : List UInt8) (slot : Int) : okN (madeN id kind tag key slot) := ⟨okS_fix h, ⟨by simp [madeN, zeroS], by simp [madeN, zeroS]⟩, fun a ha => by simp [madeN] at ha, by simp [madeN], by simp [madeN], by simp [madeN]⟩
theorem okRoot : okN rootN := by
  refine ⟨⟨by simp [rootN], ?_⟩, ⟨by simp [rootN, zeroS], by simp [rootN, zeroS]⟩, fun a ha => by simp [rootN] at ha, by simp [rootN], by simp [rootN], by simp [rootN]⟩
  have := rle_len (List.replicate 3 (0 : Int)); simp only [rootN]; exact Nat.le_trans this (by simp)
/-- a new arena with one node more -/
def oneA (kind : Int) : Arena := arena8 [(0, 0, rootN), (1, 1, madeN 1 kind tagP [] 0)] 2 1 0 0 0 2 0 0 0
theorem ok_one (kind : Int) : ∀ p ∈ (oneA kind).nodes, okN p.2.2 := by
  intro p hp
  have hp : p ∈ [((0 : Int), (0 : Nat), rootN), (1, 1, madeN 1 kind tagP [] 0)] := hp
  simp only [List.mem_cons, List.not_mem_nil, or_false] at hp
  rcases hp with rfl | rfl
  · exact okRoot
  · exact okN_made okP _ _ _ _
theorem alive20 (H : List Ob) : SCall Try.prog 35 [] H (fun r H' => r = .bool true ∧ H' = H) := by
  have hA0 : arenaAt (H ++ [.map (encM newA.nodes) 1, .var (.mapr H.length :: (newA.used.map vi ++ newA.live.map vi))]) (H.length + 1) H.length newA := ⟨by simp, by simp; rfl, rfl, rfl⟩
  have ok0 : ∀ p ∈ newA.nodes, okN p.2.2 := fun p hp => by
    have hp : p ∈ [((0 : Int), (0 : Nat), rootN)] := hp
    simp only [List.mem_singleton] at hp
    rw [hp]; exact okRoot
  have hM : SCall Try.prog 37 [.ref (H.length + 1) 0, .int .i64 0, .int .i64 1, strV tagP, .str [], .int .i64 0] (H ++ [.map (encM newA.nodes) 1, .var (.mapr H.length :: (newA.used.map vi ++ newA.live.map vi))]) (fun r H' => r = .tuple [.int .i64 1, .int .i64 0] ∧ H' = H ++ [.map (encM (oneA 1).nodes) 2, .var [.mapr H.length, .int .i64 1, .int .i64 0, .int .i64 0, .int .i64 0, .int .i64 2, .int .i64 0, .int .i64 0, .int .i64 0]]) := SCall.mono (aMake0 (H ++ [.map (encM newA.nodes) 1, .var (.mapr H.length :: (newA.used.map vi ++ newA.live.map vi))]) (H.length + 1) H.length newA.nodes 1 0 0 0 0 1 0 0 0 hA0 (by omega) (by omega) (by omega) (by omega) 1 ⟨by omega, by omega⟩ tagP okP [] 0 rfl (by omega)) fun r H' h => ⟨h.1, by rw [h.2]; simp; rfl⟩
  have hA1 : arenaAt (H ++ [.map (encM (oneA 1).nodes) 2, .var [.mapr H.length, .int .i64 1, .int .i64 0, .int .i64 0, .int .i64 0, .int .i64 2, .int .i64 0, .int .i64 0, .int .i64 0]]) (H.length + 1) H.length (oneA 1) := ⟨by simp; rfl, by simp; rfl, rfl, rfl⟩
  have hI : SCall Try.prog 68 [.ref (H.length + 1) 0, .int .i64 0, .int .i64 0, .int .i64 1] (H ++ [.map (encM (oneA 1).nodes) 2, .var [.mapr H.length, .int .i64 1, .int .i64 0, .int .i64 0, .int .i64 0, .int .i64 2, .int .i64 0, .int .i64 0, .int .i64 0]]) (fun r H' => r = .int .i64 0 ∧ H' = H ++ [.map (encM (insNodes (oneA 1).nodes 0 1 rootN (madeN 1 1 tagP [] 0))) 2, .var [.mapr H.length, .int .i64 1, .int .i64 0, .int .i64 0, .int .i64 0, .int .i64 2, .int .i64 0, .int .i64 0, .int .i64 0]]) := SCall.mono (dInsert _ (H.length + 1) H.length (oneA 1) hA1 (ok_one 1) (by simp [oneA, arena8]) 0 1 rootN (madeN 1 1 tagP [] 0) rfl rfl (by simp [rootN]) (by simp [madeN]) (by omega) rfl rfl rfl (by simp [rootN]) (by omega)) fun r H' h => ⟨h.1, by rw [h.2]; simp; rfl⟩
  have hA2 : arenaAt (H ++ [.map (encM (insNodes (oneA 1).nodes 0 1 rootN (madeN 1 1 tagP [] 0))) 2, .var [.mapr H.length, .int .i64 1, .int .i64 0, .int .i64 0, .int .i64 0, .int .i64 2, .int .i64 0, .int .i64 0, .int .i64 0]]) (H.length + 1) H.length { oneA 1 with nodes := insNodes (oneA 1).nodes 0 1 rootN (madeN 1 1 tagP [] 0) } := ⟨by simp; rfl, by simp; rfl, rfl, rfl⟩
  have hN := dInside _ (H.length + 1) H.length { oneA 1 with nodes := insNodes (oneA 1).nodes 0 1 rootN (madeN 1 1 tagP [] 0) } hA2 (ok_ins (ok_one 1) okRoot (okN_made okP _ _ _ _) (by simp [rootN])) (by simp [insNodes, oneA, arena8, nset]) 1 0
  rw [show insideG { oneA 1 with nodes := insNodes (oneA 1).nodes 0 1 rootN (madeN 1 1 tagP [] 0) } 0 (({ oneA 1 with nodes := insNodes (oneA 1).nodes 0 1 rootN (madeN 1 1 tagP [] 0) } : Arena).nodes.length + 1) 1 [] = true from rfl] at hN
  refine SCall.of_good fun hH => ?_
  have hHk := HLt.add hH
  refine SCall.of_code Tok Try.func35 rfl Try.call35 (n := 31) rfl (by simp) (rs := [.tmp 0]) rfl ?_
  refine EWn.to ?_
  refine EWn.of_c Tok mixed (own := false) keep35 tab35 (by kernel_rfl) ?_
  (repeat simp -dsimp only [zrDom51, xnils, xnilm, xrange, xmakeMap, xslice3, RB, TB, keep35, tab35, xindexAddr, xindex, xslice, xconvert, xlen, ewOp, FreeW, StabW, SameW, ChangeW, AddW, BaseW, limBytes, simprocAttr, ne_eq])
  (refine SCall.then (aNew _) ?_)
  (repeat simp -dsimp only [zrDom51, xnils, xnilm, xrange, xmakeMap, xslice3, RB, TB, keep35, tab35, xindexAddr, xindex, xslice, xconvert, xlen, ewOp, FreeW, StabW, SameW, ChangeW, AddW, BaseW, limBytes, simprocAttr, ne_eq])
  (refine SCall.then (dRemove0 _ (H.length + 1) H.length newA hA0 ok0 rootN rfl) ?_)
  (repeat simp -dsimp only [zrDom51, xnils, xnilm, xrange, xmakeMap, xslice3, RB, TB, keep35, tab35, xindexAddr, xindex, xslice, xconvert, xlen, ewOp, FreeW, StabW, SameW, ChangeW, AddW, BaseW, limBytes, simprocAttr, ne_eq])
  (refine SCall.then (mOf _ _ _) ?_)
  (repeat simp -dsimp only [zrDom51, xnils, xnilm, xrange, xmakeMap, xslice3, strV, RB, TB, keep35, tab35, xindexAddr, xindex, xslice, xconvert, xlen, ewOp, FreeW, StabW, SameW, ChangeW, AddW, BaseW, limBytes, simprocAttr, ne_eq])
  refine SCall.then hM ?_
  (repeat simp -dsimp only [zrDom51, xnils, xnilm, xrange, xmakeMap, xslice3, RB, TB, keep35, tab35, xindexAddr, xindex, xslice, xconvert, xlen, ewOp, FreeW, StabW, SameW, ChangeW, AddW, BaseW, limBytes, simprocAttr, ne_eq])
  refine SCall.then hI ?_
  (repeat simp -dsimp only [zrDom51, xnils, xnilm, xrange, xmakeMap, xslice3, RB, TB, keep35, tab35, xindexAddr, xindex, xslice, xconvert, xlen, ewOp, FreeW, StabW, SameW, ChangeW, AddW, BaseW, limBytes, simprocAttr, ne_eq])
  refine SCall.then hN ?_
  (repeat simp -dsimp only [zrDom51, xnils, xnilm, xrange, xmakeMap, xslice3, RB, TB, keep35, tab35, xindexAddr, xindex, xslice, xconvert, xlen, ewOp, FreeW, StabW, SameW, ChangeW, AddW, BaseW, limBytes, simprocAttr, ne_eq])
  refine RetW.auto0 false _ (by first | rfl | exact (List.append_nil _).symm) ?_ ?_
  · (simp (maxDischargeDepth := 6) [LTB, HLt_set, ltL_take, ltL_drop, ltL_rep, ltL_set, upd, eset, hH, hHk, zlDom51] <;> omega)
  (try simp only [wk, wk1, wk0, RB, limBytes, simprocAttr, ne_eq])
  skip
end Go.Proofs.Ytjplgbalpnlanaa

/- Arenas that are built node by node: what stays so; no program in sight. -/
set_option maxHeartbeats 600000
set_option linter.unusedSimpArgs false
set_option linter.unusedVariables false
set_option maxRecDepth 100000
namespace Go.Proofs.Ytjplgbalpnlanaa
open Go Go.EL
theorem deep_mono {a : Arena} : ∀ {k : Nat} {x : Int}, deepG a k x → deepG a (k + 1) x
  | 0, x, h => h.elim
  | k + 1, x, h => fun n hn c hc => deep_mono (h n hn c hc)
theorem deep_le {a : Arena} {k j : Nat} {x : Int} (h : deepG a k x) (hj : k ≤ j) : deepG a j x := by
  obtain ⟨d, rfl⟩ := Nat.le.dest hj
  clear hj
  induction d with
  | zero => exact h
  | succ d ih => exact deep_mono ih
theorem flatMap_ext {α β : Type} {f g : α → List β} : ∀ {l : List α}, (∀ x ∈ l, f x = g x) → l.flatMap f = l.flatMap g
  | [], _ => rfl
  | x :: l, h => by rw [List.flatMap_cons, List.flatMap_cons, h x (by simp), flatMap_ext fun y hy => h y (by simp [hy])]
theorem ids_fuel {a : Arena} : ∀ {k : Nat} {x : Int}, deepG a k x → idsG a (k + 1) x = idsG a k x
  | 0, x, h => h.elim
  | k + 1, x, h => by
    cases hn : nget a.nodes x with
    | none => rw [idsG_none hn, idsG_none hn]
    | some n => rw [idsG_some hn, idsG_some hn, flatMap_ext fun c hc => ids_fuel (h n hn c hc)]
theorem ids_le {a : Arena} {k j : Nat} {x : Int} (h : deepG a k x) (hj : k ≤ j) : idsG a j x = idsG a k x := by
  obtain ⟨d, rfl⟩ := Nat.le.dest hj
  clear hj
  induction d with
  | zero => rfl
  | succ d ih => rw [← Nat.add_assoc, ids_fuel (deep_le h (Nat.le_add_right _ _)), ih]
def kidsAt (a : Arena) (x : Int) : Option (List Int) := (nget a.nodes x).map (·.kids)
theorem kids_some {a : Arena} {x : Int} {n : Node} (h : nget a.nodes x = some n) : kidsAt a x = some n.kids := by rw [kidsAt, h]; rfl
theorem kids_of {a : Arena} {x : Int} {l : List Int} (h : kidsAt a x = some l) : ∃ n, nget a.nodes x = some n ∧ n.kids = l := by
  unfold kidsAt at h
  obtain ⟨n, h1, h2⟩ := Option.map_eq_some_iff.1 h
  exact ⟨n, h1, h2⟩
theorem kids_none {a : Arena} {x : Int} (h : kidsAt a x = none) : nget a.nodes x = none := by
  unfold kidsAt at h
  exact Option.map_eq_none_iff.1 h
theorem ids_congr {a b : Arena} (h : ∀ x, kidsAt a x = kidsAt b x) : ∀ (k : Nat) (x : Int), idsG a k x = idsG b k x
  | 0, _ => rfl
  | k + 1, x => by
    have hx := h x
    cases hn : nget a.nodes x with
    | none =>
      rw [idsG_none hn, idsG_none (kids_none (by rw [← hx, kidsAt, hn]; rfl))]
    | some n =>
      obtain ⟨m, h1, h2⟩ := kids_of (a := b) (by rw [← hx, kids_some hn])
      rw [idsG_some hn, idsG_some h1, h2, flatMap_ext fun c _ => ids_congr h k c]
theorem deep_congr {a b : Arena} (h : ∀ x, kidsAt a x = kidsAt b x) : ∀ {k : Nat} {x : Int}, deepG a k x → deepG b k x
  | 0, _, hd => hd
  | k + 1, x, hd => fun n hn c hc => by
    obtain ⟨m, h1, h2⟩ := kids_of (a := a) (by rw [h x, kids_some hn])
    exact deep_congr h (hd m h1 c (by rw [h2]; exact hc))
/-- a child without kids comes into a node's kids -/
structure InsK (a b : Arena) (p c : Int) (u v : List Int) : Prop where
  ne : p ≠ c
  par : kidsAt a p = some (u ++ v)
  par' : kidsAt b p = some (u ++ c :: v)
  kid' : kidsAt b c = some []
  other : ∀ x, x ≠ p → x ≠ c → kidsAt b x = kidsAt a x
theorem InsK.deep {a b : Arena} {p c : Int} {u v : List Int} (h : InsK a b p c u v) : ∀ {k : Nat} {x : Int}, deepG a k x → deepG b (k + 1) x
  | 0, _, hd => hd.elim
  | k + 1, x, hd => fun n hn y hy => by
    have hk := kids_some hn
    by_cases e1 : x = c
    · subst e1
      rw [h.kid'] at hk
      injection hk with hk
      rw [← hk] at hy; cases hy
    by_cases e2 : x = p
    · subst e2
      rw [h.par'] at hk
      injection hk with hk
      rw [← hk] at hy
      obtain ⟨m, h1, h2⟩ := kids_of h.par
      by_cases e3 : y = c
      · subst e3
        intro m2 hm2 z hz
        have hk2 := kids_some hm2
        rw [h.kid'] at hk2
        injection hk2 with hk2
        rw [← hk2] at hz; cases hz
      · refine InsK.deep h (hd m h1 y ?_)
        rw [h2]
        simp only [List.mem_append, List.mem_cons] at hy ⊢
        rcases hy with hy | hy | hy
        · exact .inl hy
        · exact absurd hy e3
        · exact .inr hy
    · rw [h.other x e2 e1] at hk
      obtain ⟨m, h1, h2⟩ := kids_of hk
      exact InsK.deep h (hd m h1 y (by rw [h2]; exact hy))
theorem count_flat {f g : Int → List Int} {p c z : Int} : ∀ {l : List Int}, (∀ y ∈ l, (f y).count z = (g y).count z + if z = c then (g y).count p else 0) → (l.flatMap f).count z = (l.flatMap g).count z + if z = c then (l.flatMap g).count p else 0
  | [], _ => by simp
  | y :: l, h => by
    have h1 := h y (by simp)
    have h2 := count_flat (l := l) fun y hy => h y (by simp [hy])
    rw [List.flatMap_cons, List.flatMap_cons, List.count_append, List.count_append, List.count_append, h1, h2]
    by_cases e : z = c
    · simp only [if_pos e]; omega
    · simp only [if_neg e]; omega
theorem InsK.count {a b : Arena} {p c : Int} {u v : List Int} (h : InsK a b p c u v) (hc : ∀ x l, kidsAt a x = some l → c ∉ l) (z : Int) : ∀ {k : Nat} {x : Int}, deepG b k x → x ≠ c → (idsG b k x).count z = (idsG a k x).count z + if z = c then (idsG a k x).count p else 0
  | 0, _, hd, _ => hd.elim
  | k + 1, x, hd, hx => by
    by_cases e2 : x = p
    · subst e2
      obtain ⟨m, h1, h2⟩ := kids_of h.par
      obtain ⟨m', h1', h2'⟩ := kids_of h.par'
      obtain ⟨q, g1, g2⟩ := kids_of h.kid'
      have hdc : deepG b k c := hd m' h1' c (by rw [h2']; simp)
      have hcc : idsG b k c = [c] := by
        cases k with
        | zero => exact hdc.elim
        | succ k => rw [idsG_some g1, g2]; rfl
      have hne : ∀ y ∈ u ++ v, y ≠ c := fun y hy e => hc x _ h.par (e ▸ hy)
      have hk : ∀ y ∈ u ++ v, (idsG b k y).count z = (idsG a k y).count z + if z = c then (idsG a k y).count x else 0 := fun y hy => by
        refine InsK.count h hc z (hd m' h1' y ?_) (hne y hy)
        rw [h2']
        simp only [List.mem_append, List.mem_cons] at hy ⊢
        rcases hy with hy | hy
        · exact .inl hy
        · exact .inr (.inr hy)
      have hu := count_flat (l := u) fun y hy => hk y (by simp [hy])
      have hv := count_flat (l := v) fun y hy => hk y (by simp [hy])
      rw [idsG_some h1, idsG_some h1', h2, h2', List.flatMap_append, List.flatMap_append, List.flatMap_cons, hcc]
      simp only [List.count_cons, List.count_append, List.count_nil, beq_iff_eq, List.cons_append, List.nil_append, hu, hv]
      by_cases e : z = c
      · subst e
        have : (x == z) = false := by simpa using h.ne
        simp only [if_true, if_neg h.ne, if_true]
        omega
      · simp only [if_neg e, if_neg (fun e' : c = z => e e'.symm)]
        omega
    · have ho := h.other x e2 hx
      cases hn : nget a.nodes x with
      | none =>
        rw [idsG_none hn, idsG_none (kids_none (by rw [ho, kidsAt, hn]; rfl))]
        simp
      | some n =>
        obtain ⟨m, h1, h2⟩ := kids_of (a := b) (by rw [ho, kids_some hn])
        have hk : ∀ y ∈ n.kids, (idsG b k y).count z = (idsG a k y).count z + if z = c then (idsG a k y).count p else 0 := fun y hy =>
          InsK.count h hc z (hd m h1 y (by rw [h2]; exact hy)) (fun e => hc x _ (kids_some hn) (e ▸ hy))
        have hf := count_flat hk
        rw [idsG_some hn, idsG_some h1, h2]
        simp only [List.count_cons, hf, beq_iff_eq, if_neg e2]
        by_cases e : z = c
        · simp only [if_pos e]; omega
        · simp only [if_neg e]; omega
/-- an arena after i nodes were made, and j of them put somewhere: the tree's ids -/
structure Grown (B i j : Nat) (a : Arena) (ids : List Int) : Prop where
  keyed : Keyed a.nodes
  ok : ∀ p ∈ a.nodes, okN p.2.2 ∧ p.2.2.hooks.length ≤ B
  len : a.nodes.length ≤ i + 1
  ul : a.used.length = 4
  ll : a.live.length = 4
  used : ∀ k, k < 4 → 0 ≤ a.used.getD k 0 ∧ a.used.getD k 0 ≤ i
  live : ∀ k, k < 4 → 0 ≤ a.live.getD k 0 ∧ a.live.getD k 0 ≤ i + 1
  key : ∀ x, (nget a.nodes x).isSome = true → x = 0 ∨ ∃ k : Nat, k < 4 ∧ (k : Int) * 1048576 < x ∧ x ≤ k * 1048576 + a.used.getD k 0
  kids : ∀ x n, nget a.nodes x = some n → (∀ c ∈ n.kids, c ∈ ids) ∧ n.kids.length ≤ j ∧ (n.parent = -1 ∨ n.parent ∈ ids)
  deep : ∀ x, deepG a (j + 1) x
  cnt : ∀ z, (idsG a (j + 1) 0).count z = ids.count z
  nodup : ids.Nodup
  mem : ∀ x ∈ ids, (nget a.nodes x).isSome = true
  root : 0 ∈ ids
  idl : ids.length ≤ j + 1
theorem Grown.new (B : Nat) : Grown B 0 0 newA [0] where
  keyed := fun p hp => by
    have hp : p ∈ [((0 : Int), (0 : Nat), rootN)] := hp
    simp only [List.mem_singleton] at hp
    subst hp; rfl
  ok := fun p hp => by
    have hp : p ∈ [((0 : Int), (0 : Nat), rootN)] := hp
    simp only [List.mem_singleton] at hp
    subst hp; exact ⟨okRoot, by simp [rootN]⟩
  len := by simp [newA]
  ul := rfl
  ll := rfl
  used := fun k hk => by
    have : k = 0 ∨ k = 1 ∨ k = 2 ∨ k = 3 := by omega
    rcases this with rfl | rfl | rfl | rfl <;> simp [newA]
  live := fun k hk => by
    have : k = 0 ∨ k = 1 ∨ k = 2 ∨ k = 3 := by omega
    rcases this with rfl | rfl | rfl | rfl <;> simp [newA]
  key := fun x hx => by
    by_cases e : x = 0
    · exact .inl e
    · simp [newA, nget, e] at hx
  kids := fun x n hn => by
    by_cases e : x = 0
    · subst e
      have : n = rootN := by simp [newA, nget] at hn; exact hn.symm
      subst this
      exact ⟨fun c hc => (by cases hc), Nat.le_refl _, .inl rfl⟩
    · simp [newA, nget, e] at hn
  deep := fun x n hn c hc => by
    by_cases e : x = 0
    · subst e
      have : n = rootN := by simp [newA, nget] at hn; exact hn.symm
      subst this
      cases hc
    · simp [newA, nget, e] at hn
  cnt := fun z => rfl
  nodup := by simp
  mem := fun x hx => by simp at hx; subst hx; rfl
  root := by simp
  idl := by simp
theorem nget_app (l : List Ent) (q : Ent) (x : Int) : nget (l ++ [q]) x = match nget l x with | some n => some n | none => if x = q.1 then some q.2.2 else none := by
  induction l with
  | nil => simp [nget]
  | cons p l ih =>
    simp only [List.cons_append, nget]
    by_cases e : x = p.1
    · simp [e]
    · simp only [if_neg e, ih]
theorem getD_add {l : List Int} {k j : Nat} (hl : l.length = 4) (hk : k < 4) (hj : j < 4) : (addAt l k).getD j 0 = if j = k then l.getD k 0 + 1 else l.getD j 0 := by
  unfold addAt
  rw [List.getD_eq_getElem?_getD, List.getElem?_set]
  by_cases e : j = k
  · subst e
    rw [if_pos rfl, if_pos (by omega), if_pos rfl]
    rfl
  · rw [if_neg (fun e' => e e'.symm), if_neg e, List.getD_eq_getElem?_getD]
section
variable {B i j : Nat} {a : Arena} {ids : List Int}
theorem Grown.fresh (g : Grown B i j a ids) {k : Nat} (hk : k < 4) (hi : i ≤ 1000) : nget a.nodes (idO a k) = none ∧ idO a k ∉ ids ∧ idO a k ≠ 0 ∧ 0 < idO a k := by
  have hu := g.used k hk
  have h0 : nget a.nodes (idO a k) = none := by
    cases hn : nget a.nodes (idO a k) with
    | none => rfl
    | some n =>
      exfalso
      rcases g.key _ (by rw [hn]; rfl) with e | ⟨q, hq, h1, h2⟩
      · unfold idO at e; omega
      · have hu2 := g.used q hq
        unfold idO at h1 h2
        by_cases e : q = k
        · subst e; omega
        · have : q < k ∨ k < q := by omega
          omega
  refine ⟨h0, fun h => ?_, ?_, ?_⟩
  · have := g.mem _ h
    rw [h0] at this; cases this
  · unfold idO; omega
  · unfold idO; omega
theorem Grown.none_neg (g : Grown B i j a ids) {x : Int} (hx : x < 0) : nget a.nodes x = none := by
  cases hn : nget a.nodes x with
  | none => rfl
  | some n =>
    rcases g.key _ (by rw [hn]; rfl) with e | ⟨q, hq, h1, h2⟩
    · omega
    · omega
theorem okN_madeO {tag : Str} (h : okS tag) (k id kind : Int) (key : List UInt8) (slot : Int) : okN (madeO k id kind tag key slot) := ⟨okS_fix h, ⟨by simp [madeO, zeroS], by simp [madeO, zeroS]⟩, fun a ha => by simp [madeO] at ha, by simp [madeO], by simp [madeO], by simp [madeO]⟩
theorem Grown.made (g : Grown B i j a ids) {k : Nat} (hk : k < 4) (hi : i ≤ 1000) {tag : Str} (ht : okS tag) (kind : Int) (key : List UInt8) (slot : Int) :
    Grown B (i + 1) j (makeA a k kind tag key slot) ids ∧ nget (makeA a k kind tag key slot).nodes (idO a k) = some (madeO k (idO a k) kind tag key slot) := by
  obtain ⟨h0, h1, h2, h3⟩ := g.fresh hk hi
  have hget : ∀ x, nget (makeA a k kind tag key slot).nodes x = if x = idO a k then some (madeO k (idO a k) kind tag key slot) else nget a.nodes x := fun x => by
    show nget (a.nodes ++ [(idO a k, a.clock, madeO k (idO a k) kind tag key slot)]) x = _
    rw [nget_app]
    by_cases e : x = idO a k
    · rw [if_pos e, e, h0]; simp
    · rw [if_neg e]
      cases nget a.nodes x with
      | none => simp [e]
      | some n => simp [e]
  have hme : nget (makeA a k kind tag key slot).nodes (idO a k) = some (madeO k (idO a k) kind tag key slot) := by rw [hget, if_pos rfl]
  have hkid : ∀ x ∈ ids, kidsAt (makeA a k kind tag key slot) x = kidsAt a x := fun x hx => by
    unfold kidsAt
    rw [hget, if_neg (fun e : x = idO a k => h1 (e ▸ hx))]
  refine ⟨⟨?_, ?_, ?_, ?_, ?_, ?_, ?_, ?_, ?_, ?_, ?_, g.nodup, ?_, g.root, g.idl⟩, hme⟩
  · intro p hp
    have hp : p ∈ a.nodes ++ [(idO a k, a.clock, madeO k (idO a k) kind tag key slot)] := hp
    rcases List.mem_append.1 hp with hp | hp
    · exact g.keyed p hp
    · rw [List.mem_singleton.1 hp]; rfl
  · intro p hp
    have hp : p ∈ a.nodes ++ [(idO a k, a.clock, madeO k (idO a k) kind tag key slot)] := hp
    rcases List.mem_append.1 hp with hp | hp
    · exact g.ok p hp
    · rw [List.mem_singleton.1 hp]; exact ⟨okN_madeO ht _ _ _ _ _, by simp [madeO]⟩
  · show (a.nodes ++ [_]).length ≤ _
    rw [List.length_append, List.length_singleton]
    have := g.len
    omega
  · show (addAt a.used k).length = 4
    rw [addAt, List.length_set]; exact g.ul
  · show (addAt a.live k).length = 4
    rw [addAt, List.length_set]; exact g.ll
  · intro q hq
    show 0 ≤ (addAt a.used k).getD q 0 ∧ (addAt a.used k).getD q 0 ≤ _
    have hu := g.used k hk
    have hu2 := g.used q hq
    rw [getD_add g.ul hk hq]
    split <;> omega
  · intro q hq
    show 0 ≤ (addAt a.live k).getD q 0 ∧ (addAt a.live k).getD q 0 ≤ _
    have hu := g.live k hk
    have hu2 := g.live q hq
    rw [getD_add g.ll hk hq]
    split <;> omega
  · intro x hx
    rw [hget] at hx
    by_cases e : x = idO a k
    · right
      refine ⟨k, hk, ?_, ?_⟩
      · have := g.used k hk
        rw [e]; unfold idO; omega
      · show x ≤ _ + (addAt a.used k).getD k 0
        rw [getD_add g.ul hk hk, if_pos rfl, e]
        unfold idO; omega
    · rw [if_neg e] at hx
      rcases g.key x hx with h | ⟨q, hq, g1, g2⟩
      · exact .inl h
      · refine .inr ⟨q, hq, g1, ?_⟩
        show x ≤ _ + (addAt a.used k).getD q 0
        rw [getD_add g.ul hk hq]
        split
        · rename_i e; subst e; omega
        · omega
  · intro x n hn
    rw [hget] at hn
    by_cases e : x = idO a k
    · rw [if_pos e] at hn
      injection hn with hn
      subst hn
      exact ⟨fun c hc => (by cases hc), Nat.zero_le _, .inl rfl⟩
    · rw [if_neg e] at hn
      exact g.kids x n hn
  · have key : ∀ (q : Nat) (x : Int), deepG a (q + 1) x → deepG (makeA a k kind tag key slot) (q + 1) x := by
      intro q
      induction q with
      | zero =>
        intro x hd n hn c hc
        rw [hget] at hn
        by_cases e : x = idO a k
        · rw [if_pos e] at hn
          injection hn with hn
          subst hn
          cases hc
        · rw [if_neg e] at hn
          exact hd n hn c hc
      | succ q ih =>
        intro x hd n hn c hc
        rw [hget] at hn
        by_cases e : x = idO a k
        · rw [if_pos e] at hn
          injection hn with hn
          subst hn
          cases hc
        · rw [if_neg e] at hn
          exact ih c (hd n hn c hc)
    exact fun x => key j x (g.deep x)
  · intro z
    have key : ∀ (q : Nat) (x : Int), x ∈ ids → idsG (makeA a k kind tag key slot) q x = idsG a q x := by
      intro q
      induction q with
      | zero => intro x _; rfl
      | succ q ih =>
        intro x hx
        have hh := hget x
        rw [if_neg (fun e : x = idO a k => h1 (e ▸ hx))] at hh
        cases hn : nget a.nodes x with
        | none => rw [idsG_none hn, idsG_none (by rw [hh, hn])]
        | some n =>
          rw [idsG_some hn, idsG_some (by rw [hh, hn])]
          rw [flatMap_ext fun c hc => ih c ((g.kids x n hn).1 c hc)]
    rw [key _ 0 g.root]
    exact g.cnt z
  · intro x hx
    rw [hget]
    split
    · rfl
    · exact g.mem x hx
/-- a node's values change, not its place -/
theorem Grown.set (g : Grown B i j a ids) {x : Int} {n m : Node} (hn : nget a.nodes x = some n) (hk : m.kids = n.kids) (hp : m.parent = n.parent) (hid : m.id = n.id) (hok : okN m) (hh : m.hooks.length ≤ B) :
    Grown B i j { a with nodes := nset a.nodes x m } ids ∧ nget (nset a.nodes x m) x = some m := by
  have hget : ∀ y, nget (nset a.nodes x m) y = if y = x then some m else nget a.nodes y := fun y => by
    rw [nget_nset]
    by_cases e : y = x
    · rw [if_pos e, if_pos e, hn]; rfl
    · rw [if_neg e, if_neg e]
  have hkid : ∀ y, kidsAt a y = kidsAt { a with nodes := nset a.nodes x m } y := fun y => by
    show (nget a.nodes y).map _ = (nget (nset a.nodes x m) y).map _
    rw [hget]
    by_cases e : y = x
    · rw [if_pos e, e, hn]; simp [hk]
    · rw [if_neg e]
  have hsome : ∀ y, (nget (nset a.nodes x m) y).isSome = (nget a.nodes y).isSome := fun y => by
    rw [hget]
    by_cases e : y = x
    · rw [if_pos e, e, hn]; rfl
    · rw [if_neg e]
  have hmem : ∀ {l : List Ent} {p : Ent}, p ∈ nset l x m → (p ∈ l) ∨ (p.1 = x ∧ p.2.2 = m) := by
    intro l
    induction l with
    | nil => intro p hp; simp [nset] at hp
    | cons q l ih =>
      intro p hp
      simp only [nset] at hp
      by_cases e : x = q.1
      · rw [if_pos e] at hp
        rcases List.mem_cons.1 hp with rfl | hp
        · exact .inr ⟨e.symm, rfl⟩
        · exact .inl (by simp [hp])
      · rw [if_neg e] at hp
        rcases List.mem_cons.1 hp with rfl | hp
        · exact .inl (by simp)
        · rcases ih hp with h | h
          · exact .inl (by simp [h])
          · exact .inr h
  have hlen : ∀ l : List Ent, (nset l x m).length = l.length := by
    intro l
    induction l with
    | nil => rfl
    | cons q l ih => simp only [nset]; split <;> simp [ih]
  have hx : n.id = x := nget_key g.keyed hn
  refine ⟨⟨?_, ?_, ?_, g.ul, g.ll, g.used, g.live, ?_, ?_, ?_, ?_, g.nodup, ?_, g.root, g.idl⟩, by rw [hget, if_pos rfl]⟩
  · intro p hp
    rcases hmem hp with h | ⟨h1, h2⟩
    · exact g.keyed p h
    · rw [h2, hid, hx, h1]
  · intro p hp
    rcases hmem hp with h | ⟨h1, h2⟩
    · exact g.ok p h
    · rw [h2]; exact ⟨hok, hh⟩
  · show (nset a.nodes x m).length ≤ _
    rw [hlen]; exact g.len
  · intro y hy
    have hy : (nget (nset a.nodes x m) y).isSome = true := hy
    rw [hsome] at hy
    exact g.key y hy
  · intro y q hq
    have hq : nget (nset a.nodes x m) y = some q := hq
    rw [hget] at hq
    by_cases e : y = x
    · rw [if_pos e] at hq
      injection hq with hq
      subst hq
      rw [hk, hp]
      exact g.kids x n hn
    · rw [if_neg e] at hq
      exact g.kids y q hq
  · exact fun y => deep_congr hkid (g.deep y)
  · intro z
    rw [← ids_congr hkid]
    exact g.cnt z
  · intro y hy
    show (nget (nset a.nodes x m) y).isSome = true
    rw [hsome]; exact g.mem y hy
theorem Grown.inside (g : Grown B i j a ids) {c : Int} (hc : c ∉ ids) : ∀ (k : Nat) (x : Int) (met : List Int), (x = -1 ∨ x ∈ ids) → insideG a c k x met = false
  | 0, _, _, _ => rfl
  | k + 1, x, met, hx => by
    rw [insideG_succ]
    cases hn : nget a.nodes x with
    | none => rfl
    | some n =>
      have hid : n.id = x := nget_key g.keyed hn
      simp only
      have hx' : x ∈ ids := by
        rcases hx with e | e
        · rw [g.none_neg (by omega)] at hn; cases hn
        · exact e
      split
      · rfl
      · rw [if_neg (fun e => hc (by rw [← e, hid]; exact hx'))]
        exact Grown.inside g hc k n.parent _ (g.kids x n hn).2.2
theorem okN_kidAt {p : Node} (h : okN p) (i : Nat) (hk : p.kids.length ≤ 1000000) (c : Int) : okN (kidAt p i c) := by
  obtain ⟨o1, o2, o3, o4, o5, o6⟩ := okN_own h
  refine ⟨o1, o2, o3, o4, o5, ?_⟩
  simp only [kidAt, List.length_append, List.length_take, List.length_cons, List.length_drop]
  omega
/-- a new node is put into another one -/
theorem Grown.ins (g : Grown B i j a ids) {p c : Int} {n m : Node} {q : Nat} (hp : p ∈ ids) (hc : c ∉ ids) (hn : nget a.nodes p = some n) (hm : nget a.nodes c = some m) (hmk : m.kids = []) (hq : q ≤ n.kids.length) (hj : j ≤ 1000) :
    Grown B i (j + 1) { a with nodes := insAtN a.nodes p c q n m } (ids ++ [c]) ∧ nget (insAtN a.nodes p c q n m) c = some (setN m (parN m p)) := by
  have hne : p ≠ c := fun e => hc (e ▸ hp)
  have hpid : n.id = p := nget_key g.keyed hn
  have hcid : m.id = c := nget_key g.keyed hm
  have e1 : nget (nset a.nodes p (setN n (kidAt n q c))) c = some m := by rw [nget_nset, if_neg (fun e => hne e.symm), hm]
  have hget : ∀ y, nget (insAtN a.nodes p c q n m) y = if y = c then some (setN m (parN m p)) else if y = p then some (setN n (kidAt n q c)) else nget a.nodes y := fun y => by
    unfold insAtN
    rw [nget_nset]
    by_cases e : y = c
    · rw [if_pos e, if_pos e, e1]; rfl
    · rw [if_neg e, if_neg e, nget_nset]
      by_cases e' : y = p
      · rw [if_pos e', if_pos e', hn]; rfl
      · rw [if_neg e', if_neg e']
  have hsome : ∀ y, (nget (insAtN a.nodes p c q n m) y).isSome = (nget a.nodes y).isSome := fun y => by
    rw [hget]
    by_cases e : y = c
    · rw [if_pos e, e, hm]; rfl
    · rw [if_neg e]
      by_cases e' : y = p
      · rw [if_pos e', e', hn]; rfl
      · rw [if_neg e']
  have hK : InsK a { a with nodes := insAtN a.nodes p c q n m } p c (n.kids.take q) (n.kids.drop q) := by
    refine ⟨hne, ?_, ?_, ?_, ?_⟩
    · rw [List.take_append_drop]; exact kids_some hn
    · show (nget (insAtN a.nodes p c q n m) p).map _ = _
      rw [hget, if_neg hne, if_pos rfl]; rfl
    · show (nget (insAtN a.nodes p c q n m) c).map _ = _
      rw [hget, if_pos rfl]
      show some m.kids = _
      rw [hmk]
    · intro x h1 h2
      show (nget (insAtN a.nodes p c q n m) x).map _ = _
      rw [hget, if_neg h2, if_neg h1]; rfl
  have hmem : ∀ {l : List Ent} {x : Int} {u : Node} {t : Ent}, t ∈ nset l x u → (t ∈ l) ∨ (t.1 = x ∧ t.2.2 = u) := by
    intro l x u
    induction l with
    | nil => intro t hp; simp [nset] at hp
    | cons r l ih =>
      intro t hp
      simp only [nset] at hp
      by_cases e : x = r.1
      · rw [if_pos e] at hp
        rcases List.mem_cons.1 hp with rfl | hp
        · exact .inr ⟨e.symm, rfl⟩
        · exact .inl (by simp [hp])
      · rw [if_neg e] at hp
        rcases List.mem_cons.1 hp with rfl | hp
        · exact .inl (by simp)
        · rcases ih hp with h | h
          · exact .inl (by simp [h])
          · exact .inr h
  have hlen : ∀ (l : List Ent) (x : Int) (u : Node), (nset l x u).length = l.length := by
    intro l x u
    induction l with
    | nil => rfl
    | cons r l ih => simp only [nset]; split <;> simp [ih]
  obtain ⟨pn, hpn, rfl⟩ := nget_mem hn
  obtain ⟨pm, hpm, rfl⟩ := nget_mem hm
  have okn := g.ok pn hpn
  have okm := g.ok pm hpm
  have hkl := (g.kids p _ hn).2.1
  refine ⟨⟨?_, ?_, ?_, g.ul, g.ll, g.used, g.live, ?_, ?_, ?_, ?_, ?_, ?_, ?_, ?_⟩, by rw [hget, if_pos rfl]⟩
  · intro t ht
    rcases hmem ht with ht | ⟨h1, h2⟩
    · rcases hmem ht with ht | ⟨h1, h2⟩
      · exact g.keyed t ht
      · rw [h2, h1]; exact hpid
    · rw [h2, h1]; exact hcid
  · intro t ht
    rcases hmem ht with ht | ⟨h1, h2⟩
    · rcases hmem ht with ht | ⟨h1, h2⟩
      · exact g.ok t ht
      · rw [h2]; exact ⟨okN_set okn.1 (okN_kidAt okn.1 _ (by omega) _), okn.2⟩
    · rw [h2]; exact ⟨okN_set okm.1 (okN_par okm.1 _), okm.2⟩
  · show (nset (nset a.nodes p _) c _).length ≤ _
    rw [hlen, hlen]; exact g.len
  · intro y hy
    have hy : (nget (insAtN a.nodes p c q pn.2.2 pm.2.2) y).isSome = true := hy
    rw [hsome] at hy
    exact g.key y hy
  · intro y u hu
    have hu : nget (insAtN a.nodes p c q pn.2.2 pm.2.2) y = some u := hu
    rw [hget] at hu
    by_cases e : y = c
    · rw [if_pos e] at hu
      injection hu with hu
      subst hu
      refine ⟨fun z hz => ?_, ?_, .inr (by simp [setN, parN, hp])⟩
      · have hz : z ∈ pm.2.2.kids := hz
        rw [hmk] at hz; cases hz
      · show pm.2.2.kids.length ≤ _
        rw [hmk]; exact Nat.zero_le _
    · rw [if_neg e] at hu
      by_cases e' : y = p
      · rw [if_pos e'] at hu
        injection hu with hu
        subst hu
        obtain ⟨k1, k2, k3⟩ := g.kids p _ hn
        refine ⟨fun z hz => ?_, ?_, ?_⟩
        · have hz : z ∈ pn.2.2.kids.take q ++ c :: pn.2.2.kids.drop q := hz
          rw [List.mem_append, List.mem_cons] at hz
          rcases hz with hz | hz | hz
          · simp [k1 z (List.mem_of_mem_take hz)]
          · simp [hz]
          · simp [k1 z (List.mem_of_mem_drop hz)]
        · show (pn.2.2.kids.take q ++ c :: pn.2.2.kids.drop q).length ≤ _
          simp only [List.length_append, List.length_take, List.length_cons, List.length_drop]
          omega
        · have : pn.2.2.parent = -1 ∨ pn.2.2.parent ∈ ids ++ [c] := by
            rcases k3 with h | h
            · exact .inl h
            · exact .inr (by simp [h])
          exact this
      · rw [if_neg e'] at hu
        obtain ⟨k1, k2, k3⟩ := g.kids y u hu
        refine ⟨fun z hz => by simp [k1 z hz], by omega, ?_⟩
        rcases k3 with h | h
        · exact .inl h
        · exact .inr (by simp [h])
  · exact fun x => hK.deep (g.deep x)
  · intro z
    have hck : ∀ x l, kidsAt a x = some l → c ∉ l := fun x l hx hcl => by
      obtain ⟨u, h1, h2⟩ := kids_of hx
      exact hc ((g.kids x u h1).1 c (by rw [h2]; exact hcl))
    have h0 : (0 : Int) ≠ c := fun e => hc (e ▸ g.root)
    rw [hK.count hck z (hK.deep (g.deep 0)) h0, ids_fuel (g.deep 0), g.cnt z, g.cnt p, List.count_append]
    have hp1 : ids.count p = 1 := by
      have h1 := List.nodup_iff_count.1 g.nodup p
      have h2 := List.count_pos_iff.2 hp
      omega
    rw [hp1]
    by_cases e : z = c
    · subst e; simp
    · have h1 : [c].count z = 0 := List.count_eq_zero.2 (by simp [e])
      rw [if_neg e, h1]
  · rw [List.nodup_append]
    refine ⟨g.nodup, by simp, ?_⟩
    intro x hx y hy
    simp at hy
    subst hy
    exact fun e => hc (e ▸ hx)
  · intro x hx
    show (nget (insAtN a.nodes p c q pn.2.2 pm.2.2) x).isSome = true
    rw [hsome]
    rcases List.mem_append.1 hx with hx | hx
    · exact g.mem x hx
    · simp at hx; subst hx; rw [hm]; rfl
  · simp [g.root]
  · rw [List.length_append, List.length_singleton]
    have := g.idl
    omega
theorem Grown.weak (g : Grown B i j a ids) {i' j' : Nat} (hi : i ≤ i') (hj : j ≤ j') : Grown B i' j' a ids where
  keyed := g.keyed
  ok := g.ok
  len := by have := g.len; omega
  ul := g.ul
  ll := g.ll
  used := fun k hk => by have := g.used k hk; omega
  live := fun k hk => by have := g.live k hk; omega
  key := g.key
  kids := fun x n hn => by obtain ⟨h1, h2, h3⟩ := g.kids x n hn; exact ⟨h1, by omega, h3⟩
  deep := fun x => deep_le (g.deep x) (by omega)
  cnt := fun z => by rw [ids_le (g.deep 0) (by omega)]; exact g.cnt z
  nodup := g.nodup
  mem := g.mem
  root := g.root
  idl := by have := g.idl; omega
theorem Grown.ids_len (g : Grown B i j a ids) : (idsG a (j + 1) 0).length = ids.length := (List.perm_iff_count.2 g.cnt).length_eq
theorem Grown.ids_nodup (g : Grown B i j a ids) : (idsG a (j + 1) 0).Nodup := (List.perm_iff_count.2 g.cnt).nodup_iff.2 g.nodup
theorem Grown.ids_mem (g : Grown B i j a ids) {x : Int} : x ∈ idsG a (j + 1) 0 ↔ x ∈ ids := (List.perm_iff_count.2 g.cnt).mem_iff
end
end Go.Proofs.Ytjplgbalpnlanaa

/- dom.Insert where it tells an error: nothing changes. -/
set_option linter.unusedSimpArgs false
set_option linter.unusedVariables false
set_option maxRecDepth 100000
namespace Go.Proofs.Ytjplgbalpnlanaa
open Go Go.EL
theorem zrDom71 : type_of% (And.intro (And.intro (And.intro (And.intro (@st_run) (And.intro (@sz_run) (@st1_run))) (And.intro (@cl_run) (And.intro (@st_Str) (@sz_Str)))) (And.intro (And.intro (@st1_Str) (And.intro (@cl_Str) (@st_c))) (And.intro (@sz_c) (And.intro (@st1_c) (@cl_c))))) (And.intro (And.intro (And.intro (@st_attr) (And.intro (@sz_attr) (@st1_attr))) (And.intro (@cl_attr) (And.intro (@st_hook) (@sz_hook)))) (And.intro (And.intro (@st1_hook) (And.intro (@cl_hook) (@st_node))) (And.intro (@sz_node) (And.intro (@st1_node) (@cl_node)))))) := And.intro (And.intro (And.intro (And.intro (@st_run) (And.intro (@sz_run) (@st1_run))) (And.intro (@cl_run) (And.intro (@st_Str) (@sz_Str)))) (And.intro (And.intro (@st1_Str) (And.intro (@cl_Str) (@st_c))) (And.intro (@sz_c) (And.intro (@st1_c) (@cl_c))))) (And.intro (And.intro (And.intro (@st_attr) (And.intro (@sz_attr) (@st1_attr))) (And.intro (@cl_attr) (And.intro (@st_hook) (@sz_hook)))) (And.intro (And.intro (@st1_hook) (And.intro (@cl_hook) (@st_node))) (And.intro (@sz_node) (And.intro (@st1_node) (@cl_node)))))
theorem zlDom71 : type_of% (And.intro (And.intro (And.intro (And.intro (@lt_vi) (@lt_str)) (And.intro (@lt_vb) (And.intro (@ltc_str) (@ltc_vi)))) (And.intro (And.intro (@lt_run) (And.intro (@lt1_run) (@ltc_run))) (And.intro (@lt_Str) (And.intro (@lt1_Str) (@ltc_Str))))) (And.intro (And.intro (And.intro (@lt_c) (And.intro (@lt1_c) (@ltc_c))) (And.intro (@lt_attr) (And.intro (@lt1_attr) (@ltc_attr)))) (And.intro (And.intro (@lt_hook) (And.intro (@lt1_hook) (@ltc_hook))) (And.intro (@lt_node) (And.intro (@lt1_node) (@ltc_node)))))) := And.intro (And.intro (And.intro (And.intro (@lt_vi) (@lt_str)) (And.intro (@lt_vb) (And.intro (@ltc_str) (@ltc_vi)))) (And.intro (And.intro (@lt_run) (And.intro (@lt1_run) (@ltc_run))) (And.intro (@lt_Str) (And.intro (@lt1_Str) (@ltc_Str))))) (And.intro (And.intro (And.intro (@lt_c) (And.intro (@lt1_c) (@ltc_c))) (And.intro (@lt_attr) (And.intro (@lt1_attr) (@ltc_attr)))) (And.intro (And.intro (@lt_hook) (And.intro (@lt1_hook) (@ltc_hook))) (And.intro (@lt_node) (And.intro (@lt1_node) (@ltc_node)))))
def insErr (a : Arena) (parent at_ child : Int) : Int := match nget a.nodes parent with
  | none => 14
  | some p => match nget a.nodes child with
    | none => 14
    | some c => if p.kind = 2 then 12 else if 0 ≤ c.parent ∨ child = 0 then 9 else if insideG a child (a.nodes.length + 1) parent [] = true then 26 else if at_ < 0 ∨ (p.kids.length : Int) < at_ then 4 else 0
theorem nodeAt_some {a : Arena} {id : Int} {n : Node} (h : nget a.nodes id = some n) : nodeAt a id = ownN n := by unfold nodeAt; rw [h]
set_option maxHeartbeats 2000000 in
theorem dInsertErr (G : List Ob) (A m : Nat) (a : Arena) (h : arenaAt G A m a) (hok : ∀ p ∈ a.nodes, okN p.2.2) (hN : a.nodes.length ≤ 1000000) (parent at_ child : Int) (he : insErr a parent at_ child ≠ 0) :
    SCall Try.prog 68 [.ref A 0, .int .i64 parent, .int .i64 at_, .int .i64 child] G (fun r H' => r = .int .i64 (insErr a parent at_ child) ∧ H' = G) := by
  have lA := (List.getElem?_eq_some_iff.1 h.1).1
  cases hp : nget a.nodes parent with
  | none =>
    have e : insErr a parent at_ child = 14 := by unfold insErr; rw [hp]
    rw [e]
    refine SCall.of_good fun hH => ?_
    have hHk := HLt.add hH
    refine SCall.of_code Tok Try.func68 rfl Try.call68 (n := 74) rfl (by simp) (rs := [.tmp 8]) rfl ?_
    refine EWn.to ?_
    refine EWn.of_c Tok mixed (own := false) keep68 tab68 (by kernel_rfl) ?_
    (repeat simp -dsimp only [zrDom71, xnils, xnilm, xrange, xmakeMap, xslice3, RB, TB, keep68, tab68, xindexAddr, xindex, xslice, xconvert, xlen, ewOp, FreeW, StabW, SameW, ChangeW, AddW, BaseW, limBytes, simprocAttr, ne_eq])
    (refine SCall.then (aGetN _ A m a h hok parent hp) ?_)
    (repeat simp -dsimp only [zrDom71, xnils, xnilm, xrange, xmakeMap, xslice3, nodeV, RB, TB, keep68, tab68, xindexAddr, xindex, xslice, xconvert, xlen, ewOp, FreeW, StabW, SameW, ChangeW, AddW, BaseW, limBytes, simprocAttr, ne_eq])
    (refine SCall.then (aGetF _ A m a (arena_app h _) hok child) ?_)
    (repeat simp -dsimp only [zrDom71, xnils, xnilm, xrange, xmakeMap, xslice3, nodeV, RB, TB, keep68, tab68, xindexAddr, xindex, xslice, xconvert, xlen, ewOp, FreeW, StabW, SameW, ChangeW, AddW, BaseW, limBytes, simprocAttr, ne_eq])
    refine RetW.auto0 false _ (by first | rfl | exact (List.append_nil _).symm) ?_ ?_
    · (simp (maxDischargeDepth := 6) [LTB, HLt_set, ltL_take, ltL_drop, ltL_rep, ltL_set, upd, eset, hH, hHk, zlDom71] <;> omega)
    (try simp only [wk, wk1, wk0, RB, limBytes, simprocAttr, ne_eq])
    skip
  | some p =>
    have f1 : (nodeAt a parent).kind = p.kind := by rw [nodeAt_some hp]; rfl
    have f3 : (nodeAt a parent).kids = p.kids := by rw [nodeAt_some hp]; rfl
    cases hc : nget a.nodes child with
    | none =>
      have e : insErr a parent at_ child = 14 := by unfold insErr; rw [hp]; simp only [hc]
      rw [e]
      refine SCall.of_good fun hH => ?_
      have hHk := HLt.add hH
      refine SCall.of_code Tok Try.func68 rfl Try.call68 (n := 74) rfl (by simp) (rs := [.tmp 8]) rfl ?_
      refine EWn.to ?_
      refine EWn.of_c Tok mixed (own := false) keep68 tab68 (by kernel_rfl) ?_
      (repeat simp -dsimp only [zrDom71, xnils, xnilm, xrange, xmakeMap, xslice3, RB, TB, keep68, tab68, xindexAddr, xindex, xslice, xconvert, xlen, ewOp, FreeW, StabW, SameW, ChangeW, AddW, BaseW, limBytes, simprocAttr, ne_eq])
      (refine SCall.then (aGetS _ A m a h hok parent p hp) ?_)
      (repeat simp -dsimp only [zrDom71, xnils, xnilm, xrange, xmakeMap, xslice3, nodeV, RB, TB, keep68, tab68, xindexAddr, xindex, xslice, xconvert, xlen, ewOp, FreeW, StabW, SameW, ChangeW, AddW, BaseW, limBytes, simprocAttr, ne_eq])
      (refine SCall.then (aGetN _ A m a (arena_app h _) hok child hc) ?_)
      (repeat simp -dsimp only [zrDom71, xnils, xnilm, xrange, xmakeMap, xslice3, nodeV, RB, TB, keep68, tab68, xindexAddr, xindex, xslice, xconvert, xlen, ewOp, FreeW, StabW, SameW, ChangeW, AddW, BaseW, limBytes, simprocAttr, ne_eq])
      refine RetW.auto0 false _ (by first | rfl | exact (List.append_nil _).symm) ?_ ?_
      · (simp (maxDischargeDepth := 6) [LTB, HLt_set, ltL_take, ltL_drop, ltL_rep, ltL_set, upd, eset, hH, hHk, zlDom71] <;> omega)
      (try simp only [wk, wk1, wk0, RB, limBytes, simprocAttr, ne_eq])
      skip
    | some c =>
      have f2 : (ownN c).parent = c.parent := rfl
      have f4 : (ownN p).kind = p.kind := rfl
      have f5 : (ownN p).kids = p.kids := rfl
      have e : insErr a parent at_ child = if p.kind = 2 then 12 else if 0 ≤ c.parent ∨ child = 0 then 9 else if insideG a child (a.nodes.length + 1) parent [] = true then 26 else if at_ < 0 ∨ (p.kids.length : Int) < at_ then 4 else 0 := by unfold insErr; rw [hp]; simp only [hc]
      rw [e] at he ⊢
      refine SCall.of_good fun hH => ?_
      have hHk := HLt.add hH
      refine SCall.of_code Tok Try.func68 rfl Try.call68 (n := 74) rfl (by simp) (rs := [.tmp 8]) rfl ?_
      refine EWn.to ?_
      refine EWn.of_c Tok mixed (own := false) keep68 tab68 (by kernel_rfl) ?_
      (repeat simp -dsimp only [zrDom71, xnils, xnilm, xrange, xmakeMap, xslice3, RB, TB, keep68, tab68, xindexAddr, xindex, xslice, xconvert, xlen, ewOp, FreeW, StabW, SameW, ChangeW, AddW, BaseW, limBytes, simprocAttr, ne_eq])
      (refine SCall.then (aGetS _ A m a h hok parent p hp) ?_)
      (repeat simp -dsimp only [zrDom71, xnils, xnilm, xrange, xmakeMap, xslice3, nodeV, RB, TB, keep68, tab68, xindexAddr, xindex, xslice, xconvert, xlen, ewOp, FreeW, StabW, SameW, ChangeW, AddW, BaseW, limBytes, simprocAttr, ne_eq])
      (refine SCall.then (aGetS _ A m a (arena_app h _) hok child c hc) ?_)
      (repeat simp -dsimp only [zrDom71, xnils, xnilm, xrange, xmakeMap, xslice3, nodeV, f4, RB, TB, keep68, tab68, xindexAddr, xindex, xslice, xconvert, xlen, ewOp, FreeW, StabW, SameW, ChangeW, AddW, BaseW, limBytes, simprocAttr, ne_eq])
      refine IfW.intro (fun h1 => ?_) (fun h1 => ?_)
      · rw [if_pos (by simpa using h1)]
        (repeat simp -dsimp only [zrDom71, xnils, xnilm, xrange, xmakeMap, xslice3, h1, RB, TB, keep68, tab68, xindexAddr, xindex, xslice, xconvert, xlen, ewOp, FreeW, StabW, SameW, ChangeW, AddW, BaseW, limBytes, simprocAttr, ne_eq])
        refine RetW.auto0 false _ (by first | rfl | exact (List.append_nil _).symm) ?_ ?_
        · (simp (maxDischargeDepth := 6) [LTB, HLt_set, ltL_take, ltL_drop, ltL_rep, ltL_set, upd, eset, hH, hHk, zlDom71] <;> omega)
        (try simp only [wk, wk1, wk0, RB, limBytes, simprocAttr, ne_eq])
        skip
      · have h1' : ¬ p.kind = 2 := by simpa using h1
        rw [if_neg h1'] at he ⊢
        (repeat simp -dsimp only [zrDom71, xnils, xnilm, xrange, xmakeMap, xslice3, h1, f2, RB, TB, keep68, tab68, xindexAddr, xindex, xslice, xconvert, xlen, ewOp, FreeW, StabW, SameW, ChangeW, AddW, BaseW, limBytes, simprocAttr, ne_eq])
        by_cases h2 : 0 ≤ c.parent ∨ child = 0
        · rw [if_pos h2]
          by_cases h3 : 0 ≤ c.parent
          · (repeat simp -dsimp only [zrDom71, xnils, xnilm, xrange, xmakeMap, xslice3, show decide (c.parent ≥ 0) = true from decide_eq_true h3, RB, TB, keep68, tab68, xindexAddr, xindex, xslice, xconvert, xlen, ewOp, FreeW, StabW, SameW, ChangeW, AddW, BaseW, limBytes, simprocAttr, ne_eq])
            refine RetW.auto0 false _ (by first | rfl | exact (List.append_nil _).symm) ?_ ?_
            · (simp (maxDischargeDepth := 6) [LTB, HLt_set, ltL_take, ltL_drop, ltL_rep, ltL_set, upd, eset, hH, hHk, zlDom71] <;> omega)
            (try simp only [wk, wk1, wk0, RB, limBytes, simprocAttr, ne_eq])
            skip
          · have h4 : (child == 0) = true := by rcases h2 with h | h; exact absurd h h3; simpa using h
            (repeat simp -dsimp only [zrDom71, xnils, xnilm, xrange, xmakeMap, xslice3, show decide (c.parent ≥ 0) = false from decide_eq_false h3, h4, RB, TB, keep68, tab68, xindexAddr, xindex, xslice, xconvert, xlen, ewOp, FreeW, StabW, SameW, ChangeW, AddW, BaseW, limBytes, simprocAttr, ne_eq])
            refine RetW.auto0 false _ (by first | rfl | exact (List.append_nil _).symm) ?_ ?_
            · (simp (maxDischargeDepth := 6) [LTB, HLt_set, ltL_take, ltL_drop, ltL_rep, ltL_set, upd, eset, hH, hHk, zlDom71] <;> omega)
            (try simp only [wk, wk1, wk0, RB, limBytes, simprocAttr, ne_eq])
            skip
        · rw [if_neg h2] at he ⊢
          have h3 : ¬ 0 ≤ c.parent := fun h => h2 (.inl h)
          have h4 : (child == 0) = false := by simpa using fun h => h2 (.inr h)
          (repeat simp -dsimp only [zrDom71, xnils, xnilm, xrange, xmakeMap, xslice3, show decide (c.parent ≥ 0) = false from decide_eq_false h3, h4, RB, TB, keep68, tab68, xindexAddr, xindex, xslice, xconvert, xlen, ewOp, FreeW, StabW, SameW, ChangeW, AddW, BaseW, limBytes, simprocAttr, ne_eq])
          (refine SCall.then (dInside _ A m a (arena_app h _) hok hN parent child) ?_)
          (repeat simp -dsimp only [zrDom71, xnils, xnilm, xrange, xmakeMap, xslice3, RB, TB, keep68, tab68, xindexAddr, xindex, xslice, xconvert, xlen, ewOp, FreeW, StabW, SameW, ChangeW, AddW, BaseW, limBytes, simprocAttr, ne_eq])
          cases h5 : insideG a child (a.nodes.length + 1) parent []
          · rw [h5] at he
            simp only [Bool.false_eq_true, if_false] at he ⊢
            have h6 : at_ < 0 ∨ (p.kids.length : Int) < at_ := by
              by_cases h : at_ < 0 ∨ (p.kids.length : Int) < at_
              · exact h
              · rw [if_neg h] at he; exact absurd rfl he
            rw [if_pos h6]
            (repeat simp -dsimp only [zrDom71, xnils, xnilm, xrange, xmakeMap, xslice3, h5, RB, TB, keep68, tab68, xindexAddr, xindex, xslice, xconvert, xlen, ewOp, FreeW, StabW, SameW, ChangeW, AddW, BaseW, limBytes, simprocAttr, ne_eq])
            by_cases h7 : at_ < 0
            · (repeat simp -dsimp only [zrDom71, xnils, xnilm, xrange, xmakeMap, xslice3, show decide (at_ < 0) = true from decide_eq_true h7, RB, TB, keep68, tab68, xindexAddr, xindex, xslice, xconvert, xlen, ewOp, FreeW, StabW, SameW, ChangeW, AddW, BaseW, limBytes, simprocAttr, ne_eq])
              refine RetW.auto0 false _ (by first | rfl | exact (List.append_nil _).symm) ?_ ?_
              · (simp (maxDischargeDepth := 6) [LTB, HLt_set, ltL_take, ltL_drop, ltL_rep, ltL_set, upd, eset, hH, hHk, zlDom71] <;> omega)
              (try simp only [wk, wk1, wk0, RB, limBytes, simprocAttr, ne_eq])
              skip
            · have h8 : (p.kids.length : Int) < at_ := by rcases h6 with h | h; exact absurd h h7; exact h
              (repeat simp -dsimp only [zrDom71, xnils, xnilm, xrange, xmakeMap, xslice3, show decide (at_ < 0) = false from decide_eq_false h7, f5, show decide (at_ > (p.kids.length : Int)) = true from decide_eq_true h8, RB, TB, keep68, tab68, xindexAddr, xindex, xslice, xconvert, xlen, ewOp, FreeW, StabW, SameW, ChangeW, AddW, BaseW, limBytes, simprocAttr, ne_eq])
              refine RetW.auto0 false _ (by first | rfl | exact (List.append_nil _).symm) ?_ ?_
              · (simp (maxDischargeDepth := 6) [LTB, HLt_set, ltL_take, ltL_drop, ltL_rep, ltL_set, upd, eset, hH, hHk, zlDom71] <;> omega)
              (try simp only [wk, wk1, wk0, RB, limBytes, simprocAttr, ne_eq])
              skip
          · rw [if_pos rfl]
            (repeat simp -dsimp only [zrDom71, xnils, xnilm, xrange, xmakeMap, xslice3, h5, RB, TB, keep68, tab68, xindexAddr, xindex, xslice, xconvert, xlen, ewOp, FreeW, StabW, SameW, ChangeW, AddW, BaseW, limBytes, simprocAttr, ne_eq])
            refine RetW.auto0 false _ (by first | rfl | exact (List.append_nil _).symm) ?_ ?_
            · (simp (maxDischargeDepth := 6) [LTB, HLt_set, ltL_take, ltL_drop, ltL_rep, ltL_set, upd, eset, hH, hHk, zlDom71] <;> omega)
            (try simp only [wk, wk1, wk0, RB, limBytes, simprocAttr, ne_eq])
            skip
end Go.Proofs.Ytjplgbalpnlanaa

/- Arenas that are built node by node, behind one another in the heap: Make, Insert, SetHooks, Get, Has. -/
set_option maxHeartbeats 600000
set_option linter.unusedSimpArgs false
set_option linter.unusedVariables false
set_option maxRecDepth 100000
namespace Go.Proofs.Ytjplgbalpnlanaa
open Go Go.EL
/-- the arena's struct -/
def arC (m : Nat) (a : Arena) : List V := .mapr m :: (a.used.map vi ++ a.live.map vi)
theorem lt_arC (n m : Nat) (a : Arena) (h : m < n) : ltL n (arC m a) := by
  unfold arC
  simp only [ltL, V.lt]
  refine ⟨h, ?_⟩
  rw [ltL_append]
  exact ⟨lt_vi _ _, lt_vi _ _⟩
theorem ltL_nodeC (n : Nat) (x : Node) : ltL n (nodeV x).cells := by have := lt1_node n x; simp only [nodeV, V.lt] at this; exact this
section
variable {B i j : Nat} {a : Arena} {ids : List Int}
theorem Grown.at (g : Grown B i j a ids) (H K : List Ob) : arenaAt (H ++ .map (encM a.nodes) a.clock :: .var (arC H.length a) :: K) (H.length + 1) H.length a := ⟨by simp [arC], by simp, g.ul, g.ll⟩
theorem Grown.oks (g : Grown B i j a ids) : ∀ p ∈ a.nodes, okN p.2.2 := fun p hp => (g.ok p hp).1
theorem Grown.hks (g : Grown B i j a ids) : ∀ p ∈ a.nodes, p.2.2.hooks.length ≤ B := fun p hp => (g.ok p hp).2
theorem gMake (H K : List Ob) (g : Grown B i j a ids) (k : Nat) (hk : k < 4) (hi : i ≤ 30) (kind : Int) (hkd : 1 ≤ kind ∧ kind ≤ 3) (tag : Str) (htag : okS tag) (key : List UInt8) (slot : Int) :
    SCall Try.prog 37 [.ref (H.length + 1) 0, .int .i64 k, .int .i64 kind, strV tag, .str key, .int .i64 slot] (H ++ .map (encM a.nodes) a.clock :: .var (arC H.length a) :: K) (fun r H' => r = .tuple [.int .i64 (idO a k), .int .i64 0] ∧
      H' = H ++ .map (encM (makeA a k kind tag key slot).nodes) (makeA a k kind tag key slot).clock :: .var (arC H.length (makeA a k kind tag key slot)) :: K) := by
  have hu := g.used k hk
  have hl := g.live k hk
  refine SCall.mono (aMake _ (H.length + 1) H.length a (g.at H K) k hk (by unfold mostO; split <;> omega) hl.1 (by omega) hu.1 kind hkd tag htag key slot (g.fresh hk (by omega)).1 (by omega)) fun r H' h => ⟨h.1, ?_⟩
  rw [h.2]
  simp [arC]
theorem gInsert (H K : List Ob) (g : Grown B i j a ids) (hi : i ≤ 1000) (hj : j ≤ 1000) {p c : Int} {n m : Node} (hp : p ∈ ids) (hc : c ∉ ids) (hn : nget a.nodes p = some n) (hm : nget a.nodes c = some m) (hkd : n.kind ≠ 2) (hmp : m.parent = -1) (q : Nat) (hq : q ≤ n.kids.length) (qi : Int) (hqi : qi = q) :
    SCall Try.prog 68 [.ref (H.length + 1) 0, .int .i64 p, .int .i64 qi, .int .i64 c] (H ++ .map (encM a.nodes) a.clock :: .var (arC H.length a) :: K) (fun r H' => r = .int .i64 0 ∧
      H' = H ++ .map (encM (insAtN a.nodes p c q n m)) a.clock :: .var (arC H.length a) :: K) := by
  subst hqi
  have hkl := (g.kids p n hn).2.1
  refine SCall.mono (dInsertAt _ (H.length + 1) H.length a (g.at H K) g.oks (by have := g.len; omega) p c q n m hn hm hkd (by omega) (fun e => hc (e ▸ g.root)) (nget_key g.keyed hn) (nget_key g.keyed hm) (g.inside hc _ _ _ (.inr hp)) (by omega) hq (by omega)) fun r H' h => ⟨h.1, ?_⟩
  rw [h.2]
  simp [arC]
theorem gInsertK (H K : List Ob) (g : Grown B i j a ids) (hi : i ≤ 1000) {p c : Int} {n m : Node} (hn : nget a.nodes p = some n) (hm : nget a.nodes c = some m) (hkd : n.kind = 2) (qi : Int) :
    SCall Try.prog 68 [.ref (H.length + 1) 0, .int .i64 p, .int .i64 qi, .int .i64 c] (H ++ .map (encM a.nodes) a.clock :: .var (arC H.length a) :: K) (fun r H' => r = .int .i64 12 ∧
      H' = H ++ .map (encM a.nodes) a.clock :: .var (arC H.length a) :: K) := by
  have e : insErr a p qi c = 12 := by unfold insErr; rw [hn]; simp only [hm, if_pos hkd]
  have := dInsertErr (H ++ .map (encM a.nodes) a.clock :: .var (arC H.length a) :: K) (H.length + 1) H.length a (g.at H K) g.oks (by have := g.len; omega) p qi c (by rw [e]; decide)
  rw [e] at this
  exact this
def hookN (n : Node) (l : List Hook) : Node := setN n { ownN n with hooks := l }
theorem hookN_ok {n : Node} (h : okN n) {l : List Hook} (hl : l.length ≤ 1000000000) : okN (hookN n l) := okN_set h (by
  obtain ⟨o1, o2, o3, o4, o5, o6⟩ := okN_own h
  exact ⟨o1, o2, o3, o4, by simp; omega, o6⟩)
theorem gSetHooks (H K : List Ob) (g : Grown B i j a ids) {c : Int} {m : Node} (hm : nget a.nodes c = some m) (l : List Hook) (hl : l.length ≤ 1000000000) (hkd : m.kind = 1) :
    SCall Try.prog 39 [.ref (H.length + 1) 0, .int .i64 c, .slice (l.map hookV)] (H ++ .map (encM a.nodes) a.clock :: .var (arC H.length a) :: K) (fun r H' => r = .int .i64 0 ∧
      H' = H ++ .map (encM (nset a.nodes c (hookN m l))) a.clock :: .var (arC H.length a) :: K) := by
  refine SCall.mono (dSetHooks _ (H.length + 1) H.length a (g.at H K) g.oks c l (by omega) m hm hkd (nget_key g.keyed hm)) fun r H' h => ⟨h.1, ?_⟩
  rw [h.2]
  simp [hookN]
theorem gSetHooksK (H K : List Ob) (g : Grown B i j a ids) {c : Int} {m : Node} (hm : nget a.nodes c = some m) (l : List Hook) (hkd : m.kind ≠ 1) :
    SCall Try.prog 39 [.ref (H.length + 1) 0, .int .i64 c, .slice (l.map hookV)] (H ++ .map (encM a.nodes) a.clock :: .var (arC H.length a) :: K) (fun r H' => r = .int .i64 12 ∧
      H' = H ++ .map (encM a.nodes) a.clock :: .var (arC H.length a) :: K) := by
  have e : ofF a c 1 = (nodeZ, 12) := by unfold ofF; rw [hm]; simp [hkd]
  have := dSetHooksE (H ++ .map (encM a.nodes) a.clock :: .var (arC H.length a) :: K) (H.length + 1) H.length a (g.at H K) g.oks c l (by rw [e]; decide)
  rw [e] at this
  exact this
end
/-- a number, turned into a place of a list -/
theorem tmodn (x : Int) (n : Nat) (h0 : 0 < n) (h1 : n ≤ 1000000) : ∃ k : Nat, k < n ∧ (IntKind.i64.wrap (x.tmod n + n)).tmod n = (k : Int) := by
  have h2 := Int.tmod_lt_of_pos x (show (0 : Int) < n by omega)
  have h3 : -(n : Int) < x.tmod n := Int.lt_tmod_of_pos x (show (0 : Int) < n by omega)
  have e : IntKind.i64.wrap (x.tmod n + n) = x.tmod n + n := wrapI (by omega)
  rw [e]
  have h4 := Int.tmod_lt_of_pos (x.tmod n + n) (show (0 : Int) < n by omega)
  have h5 : 0 ≤ (x.tmod n + n).tmod n := Int.tmod_nonneg _ (by omega)
  exact ⟨((x.tmod n + n).tmod n).toNat, by omega, by omega⟩
end Go.Proofs.Ytjplgbalpnlanaa

/- The walks of package route: Clip, Without, told, phase; the law's same. -/
set_option maxHeartbeats 600000
set_option linter.unusedSimpArgs false
set_option linter.unusedVariables false
set_option maxRecDepth 100000
namespace Go.Proofs.Ytjplgbalpnlanaa
open Go Go.EL
theorem zrRoute11 : type_of% (And.intro (And.intro (And.intro (And.intro (@st_run) (And.intro (@sz_run) (@st1_run))) (And.intro (@cl_run) (And.intro (@st_Str) (@sz_Str)))) (And.intro (And.intro (@st1_Str) (And.intro (@cl_Str) (@st_c))) (And.intro (@sz_c) (And.intro (@st1_c) (@cl_c))))) (And.intro (And.intro (And.intro (@st_attr) (And.intro (@sz_attr) (@st1_attr))) (And.intro (@cl_attr) (And.intro (@st_hook) (@sz_hook)))) (And.intro (And.intro (@st1_hook) (And.intro (@cl_hook) (@st_node))) (And.intro (@sz_node) (And.intro (@st1_node) (@cl_node)))))) := And.intro (And.intro (And.intro (And.intro (@st_run) (And.intro (@sz_run) (@st1_run))) (And.intro (@cl_run) (And.intro (@st_Str) (@sz_Str)))) (And.intro (And.intro (@st1_Str) (And.intro (@cl_Str) (@st_c))) (And.intro (@sz_c) (And.intro (@st1_c) (@cl_c))))) (And.intro (And.intro (And.intro (@st_attr) (And.intro (@sz_attr) (@st1_attr))) (And.intro (@cl_attr) (And.intro (@st_hook) (@sz_hook)))) (And.intro (And.intro (@st1_hook) (And.intro (@cl_hook) (@st_node))) (And.intro (@sz_node) (And.intro (@st1_node) (@cl_node)))))
theorem zlRoute11 : type_of% (And.intro (And.intro (And.intro (And.intro (@lt_vi) (@lt_str)) (And.intro (@lt_vb) (And.intro (@ltc_str) (@ltc_vi)))) (And.intro (And.intro (@lt_run) (And.intro (@lt1_run) (@ltc_run))) (And.intro (@lt_Str) (And.intro (@lt1_Str) (@ltc_Str))))) (And.intro (And.intro (And.intro (@lt_c) (And.intro (@lt1_c) (@ltc_c))) (And.intro (@lt_attr) (And.intro (@lt1_attr) (@ltc_attr)))) (And.intro (And.intro (@lt_hook) (And.intro (@lt1_hook) (@ltc_hook))) (And.intro (@lt_node) (And.intro (@lt1_node) (@ltc_node)))))) := And.intro (And.intro (And.intro (And.intro (@lt_vi) (@lt_str)) (And.intro (@lt_vb) (And.intro (@ltc_str) (@ltc_vi)))) (And.intro (And.intro (@lt_run) (And.intro (@lt1_run) (@ltc_run))) (And.intro (@lt_Str) (And.intro (@lt1_Str) (@ltc_Str))))) (And.intro (And.intro (And.intro (@lt_c) (And.intro (@lt1_c) (@ltc_c))) (And.intro (@lt_attr) (And.intro (@lt1_attr) (@ltc_attr)))) (And.intro (And.intro (@lt_hook) (And.intro (@lt1_hook) (@ltc_hook))) (And.intro (@lt_node) (And.intro (@lt1_node) (@ltc_node)))))
structure Callr where
  owner : Int
  nm : Int
  node : Int
  phase : Int
  deriving DecidableEq
def callV (c : Callr) : V := .agg [.int .i64 c.owner, .int .i64 c.nm, .int .i64 c.node, .int .i64 c.phase]
theorem lt_callr (n : Nat) (l : List (Callr)) : ltL n (l.map callV) := ltL_map (f := callV) (fun _ => by simp [callV, V.lt, ltL]) l
theorem lt1_callr (n : Nat) (x : Callr) : V.lt n (callV x) := by simp [callV, V.lt, ltL]
theorem ltc_callr {α : Type} (n : Nat) (g : α → Callr) (l : List α) : ltL n (l.map (callV ∘ g)) := ltL_map (f := callV ∘ g) (fun x => lt1_callr n (g x)) l
theorem st_callr (l : List (Callr)) : (∀ x, x ∈ l.map callV → x.storable) = True := eq_true (storable_map (f := callV) (fun _ => trivial) l)
theorem sz_callr (l : List (Callr)) : Sized 4 (l.map callV) = True := eq_true (sizedMapV (f := callV) (fun _ => rfl) l)
theorem st1_callr (x : Callr) : (callV x).storable = True := eq_true trivial
theorem cl_callr (x : Callr) : (callV x).cells.length = 4 := rfl

theorem indexFunc_callr (H : List Ob) (l : List (Callr)) (k : FuncId) (fi ca : List V) (p : Callr → Bool) (hf : ∀ x ∈ l, SCall Try.prog k (fi ++ callV x :: ca) H (fun r H' => r = .bool (p x) ∧ H' = H)) (hlf : ltL H.length fi ∧ ltL H.length ca) : SCall Try.prog 170 [.slice (l.map callV), .fn (.func k) fi ca] H (fun r H' => r = .int .i64 (ix p l) ∧ H' = H) := by
  obtain ⟨hl1, hl2⟩ := hlf
  refine SCall.sized 0 rfl fun hl => ?_
  rw [List.length_map, maxLen_eq] at hl
  refine SCall.of_good fun hH => ?_
  have hHk := HLt.add hH
  refine SCall.of_code Tok Try.func170 rfl Try.call170 (n := 19) rfl (by simp) (rs := [.tmp 4]) rfl ?_
  refine EWn.to ?_
  refine EWn.of_c Tok mixed (own := false) keep170 tab170 (by kernel_rfl) ?_
  (repeat simp -dsimp only [zrRoute11, xnils, xnilm, xrange, xmakeMap, xslice3, st_callr, sz_callr, st1_callr, cl_callr, RB, TB, keep170, tab170, xindexAddr, xindex, xslice, xconvert, xlen, ewOp, FreeW, StabW, SameW, ChangeW, AddW, BaseW, limBytes, simprocAttr, ne_eq])
  refine EWn.loopE (ι := (Nat)) (fun (i : (Nat)) => i ≤ l.length ∧ ∀ x ∈ l.take i, p x = false) (fun (i : (Nat)) => l.length - i) (fun (i : (Nat)) => [(8, .int .i64 i)]) (fun (i : (Nat)) => H) (0) ?_ ?_ ?_ ?_ ?_
  · first | rfl | simp [upd, eset]
  · first | rfl | (simp; done) | exact (set_same (by assumption)).symm
  · rintro i hok; exact ⟨by first | (simp; done) | (simp; omega), by (simp (maxDischargeDepth := 6) [LTB, HLt_set, ltL_take, ltL_drop, ltL_rep, ltL_set, upd, eset, hH, hHk, hl1, hl2, zlRoute11, lt_callr, lt1_callr, ltc_callr] <;> omega), by (simp (maxDischargeDepth := 6) [LTB, HLt_set, ltL_take, ltL_drop, ltL_rep, ltL_set, upd, eset, hH, hHk, hl1, hl2, zlRoute11, lt_callr, lt1_callr, ltc_callr] <;> omega)⟩
  · simp
  rintro i ⟨hi, hno⟩
  refine EWn.of_c Tok mixed (own := false) keep170 tab170 (by kernel_rfl) ?_
  (repeat simp -dsimp only [zrRoute11, xnils, xnilm, xrange, xmakeMap, xslice3, st_callr, sz_callr, st1_callr, cl_callr, RB, TB, keep170, tab170, xindexAddr, xindex, xslice, xconvert, xlen, ewOp, FreeW, StabW, SameW, ChangeW, AddW, BaseW, limBytes, simprocAttr, ne_eq])
  refine IfW.intro (fun h => ?_) (fun h => ?_)
  · have hlt := lt_of h
    (repeat (first | simp -dsimp only [zrRoute11, xnils, xnilm, xrange, xmakeMap, xslice3, st_callr, sz_callr, st1_callr, cl_callr, h, at_map callV l i hlt, callV, RB, TB, keep170, tab170, xindexAddr, xindex, xslice, xconvert, xlen, ewOp, FreeW, StabW, SameW, ChangeW, AddW, BaseW, limBytes, simprocAttr, ne_eq] | ((with_reducible refine Need.intro ?_ ?_); (omega))))
    refine SCall.then (hf l[i] (List.getElem_mem hlt)) ?_
    (repeat simp -dsimp only [zrRoute11, xnils, xnilm, xrange, xmakeMap, xslice3, st_callr, sz_callr, st1_callr, cl_callr, RB, TB, keep170, tab170, xindexAddr, xindex, xslice, xconvert, xlen, ewOp, FreeW, StabW, SameW, ChangeW, AddW, BaseW, limBytes, simprocAttr, ne_eq])
    refine IfW.intro (fun hb => ?_) (fun hb => ?_)
    · (repeat simp -dsimp only [zrRoute11, xnils, xnilm, xrange, xmakeMap, xslice3, st_callr, sz_callr, st1_callr, cl_callr, hb, RB, TB, keep170, tab170, xindexAddr, xindex, xslice, xconvert, xlen, ewOp, FreeW, StabW, SameW, ChangeW, AddW, BaseW, limBytes, simprocAttr, ne_eq])
      refine RetW.auto0 false _ (by first | rfl | exact (List.append_nil _).symm) ?_ ?_
      · (simp (maxDischargeDepth := 6) [LTB, HLt_set, ltL_take, ltL_drop, ltL_rep, ltL_set, upd, eset, hH, hHk, hl1, hl2, zlRoute11, lt_callr, lt1_callr, ltc_callr] <;> omega)
      (try simp only [wk, wk1, wk0, RB, limBytes, simprocAttr, ne_eq])
      skip
      rw [ix_hit hlt hb hno]
    · (repeat simp -dsimp only [zrRoute11, xnils, xnilm, xrange, xmakeMap, xslice3, st_callr, sz_callr, st1_callr, cl_callr, hb, RB, TB, keep170, tab170, xindexAddr, xindex, xslice, xconvert, xlen, ewOp, FreeW, StabW, SameW, ChangeW, AddW, BaseW, limBytes, simprocAttr, ne_eq])
      rw [wrapI (by omega)]
      refine UpTo.here ⟨(i + 1), ?_, by first | omega | (simp only [List.length_append, List.length_cons, List.length_nil]; omega), by simp [upd, eset], ⟨_, by simp; try rfl⟩⟩
      exact ⟨hlt, take_step hlt hb hno⟩
  · (repeat simp -dsimp only [zrRoute11, xnils, xnilm, xrange, xmakeMap, xslice3, st_callr, sz_callr, st1_callr, cl_callr, h, RB, TB, keep170, tab170, xindexAddr, xindex, xslice, xconvert, xlen, ewOp, FreeW, StabW, SameW, ChangeW, AddW, BaseW, limBytes, simprocAttr, ne_eq])
    refine RetW.auto0 false _ (by first | rfl | exact (List.append_nil _).symm) ?_ ?_
    · (simp (maxDischargeDepth := 6) [LTB, HLt_set, ltL_take, ltL_drop, ltL_rep, ltL_set, upd, eset, hH, hHk, hl1, hl2, zlRoute11, lt_callr, lt1_callr, ltc_callr] <;> omega)
    (try simp only [wk, wk1, wk0, RB, limBytes, simprocAttr, ne_eq])
    skip
    rw [ix_none (take_all (ge_of h) hno)]
theorem indexFunc_callr_vec (H : List Ob) (l : List (Callr)) (k : FuncId) (fi ca : List V) (p : Callr → Bool) (hf : ∀ x ∈ l, SCall Try.prog k (fi ++ callV x :: ca) H (fun r H' => r = .bool (p x) ∧ H' = H)) (hlf : ltL H.length fi ∧ ltL H.length ca) (o ver n : Nat) (ho : H[o]? = some (.vec ver 4 (l.map callV))) (hn : n = l.length) (hl : l.length ≤ 1000000000000) : SCall Try.prog 170 [.vec o ver 0 n, .fn (.func k) fi ca] H (fun r H' => r = .int .i64 (ix p l) ∧ H' = H) := by
  subst hn
  obtain ⟨hl1, hl2⟩ := hlf
  have holt := lt_of_get ho
  refine SCall.of_good fun hH => ?_
  have hHk := HLt.add hH
  refine SCall.of_code Tok Try.func170 rfl Try.call170 (n := 19) rfl (by simp) (rs := [.tmp 4]) rfl ?_
  refine EWn.to ?_
  refine EWn.of_c Tok mixed (own := false) keep170 tab170 (by kernel_rfl) ?_
  (repeat simp -dsimp only [zrRoute11, xnils, xnilm, xrange, xmakeMap, xslice3, st_callr, sz_callr, st1_callr, cl_callr, ho, RB, TB, keep170, tab170, xindexAddr, xindex, xslice, xconvert, xlen, ewOp, FreeW, StabW, SameW, ChangeW, AddW, BaseW, limBytes, simprocAttr, ne_eq])
  refine EWn.loopE (ι := (Nat)) (fun (i : (Nat)) => i ≤ l.length ∧ ∀ x ∈ l.take i, p x = false) (fun (i : (Nat)) => l.length - i) (fun (i : (Nat)) => [(8, .int .i64 i)]) (fun (i : (Nat)) => H) (0) ?_ ?_ ?_ ?_ ?_
  · first | rfl | simp [upd, eset]
  · first | rfl | (simp; done) | exact (set_same (by assumption)).symm
  · rintro i hok; exact ⟨by first | (simp; done) | (simp; omega), by (simp (maxDischargeDepth := 6) [LTB, HLt_set, ltL_take, ltL_drop, ltL_rep, ltL_set, upd, eset, hH, hHk, hl1, hl2, holt, zlRoute11, lt_callr, lt1_callr, ltc_callr] <;> omega), by (simp (maxDischargeDepth := 6) [LTB, HLt_set, ltL_take, ltL_drop, ltL_rep, ltL_set, upd, eset, hH, hHk, hl1, hl2, holt, zlRoute11, lt_callr, lt1_callr, ltc_callr] <;> omega)⟩
  · simp
  rintro i ⟨hi, hno⟩
  refine EWn.of_c Tok mixed (own := false) keep170 tab170 (by kernel_rfl) ?_
  (repeat simp -dsimp only [zrRoute11, xnils, xnilm, xrange, xmakeMap, xslice3, st_callr, sz_callr, st1_callr, cl_callr, ho, RB, TB, keep170, tab170, xindexAddr, xindex, xslice, xconvert, xlen, ewOp, FreeW, StabW, SameW, ChangeW, AddW, BaseW, limBytes, simprocAttr, ne_eq])
  refine IfW.intro (fun h => ?_) (fun h => ?_)
  · have hlt := lt_of h
    (repeat (first | simp -dsimp only [zrRoute11, xnils, xnilm, xrange, xmakeMap, xslice3, st_callr, sz_callr, st1_callr, cl_callr, h, ho, at_map callV l i hlt, callV, RB, TB, keep170, tab170, xindexAddr, xindex, xslice, xconvert, xlen, ewOp, FreeW, StabW, SameW, ChangeW, AddW, BaseW, limBytes, simprocAttr, ne_eq] | ((with_reducible refine Need.intro ?_ ?_); (first | trivial | omega))))
    refine SCall.then (hf l[i] (List.getElem_mem hlt)) ?_
    (repeat simp -dsimp only [zrRoute11, xnils, xnilm, xrange, xmakeMap, xslice3, st_callr, sz_callr, st1_callr, cl_callr, RB, TB, keep170, tab170, xindexAddr, xindex, xslice, xconvert, xlen, ewOp, FreeW, StabW, SameW, ChangeW, AddW, BaseW, limBytes, simprocAttr, ne_eq])
    refine IfW.intro (fun hb => ?_) (fun hb => ?_)
    · (repeat simp -dsimp only [zrRoute11, xnils, xnilm, xrange, xmakeMap, xslice3, st_callr, sz_callr, st1_callr, cl_callr, hb, RB, TB, keep170, tab170, xindexAddr, xindex, xslice, xconvert, xlen, ewOp, FreeW, StabW, SameW, ChangeW, AddW, BaseW, limBytes, simprocAttr, ne_eq])
      refine RetW.auto0 false _ (by first | rfl | exact (List.append_nil _).symm) ?_ ?_
      · (simp (maxDischargeDepth := 6) [LTB, HLt_set, ltL_take, ltL_drop, ltL_rep, ltL_set, upd, eset, hH, hHk, hl1, hl2, holt, zlRoute11, lt_callr, lt1_callr, ltc_callr] <;> omega)
      (try simp only [wk, wk1, wk0, RB, limBytes, simprocAttr, ne_eq])
      skip
      rw [ix_hit hlt hb hno]
    · (repeat simp -dsimp only [zrRoute11, xnils, xnilm, xrange, xmakeMap, xslice3, st_callr, sz_callr, st1_callr, cl_callr, hb, RB, TB, keep170, tab170, xindexAddr, xindex, xslice, xconvert, xlen, ewOp, FreeW, StabW, SameW, ChangeW, AddW, BaseW, limBytes, simprocAttr, ne_eq])
      rw [wrapI (by omega)]
      refine UpTo.here ⟨(i + 1), ?_, by first | omega | (simp only [List.length_append, List.length_cons, List.length_nil]; omega), by simp [upd, eset], ⟨_, by simp; try rfl⟩⟩
      exact ⟨hlt, take_step hlt hb hno⟩
  · (repeat simp -dsimp only [zrRoute11, xnils, xnilm, xrange, xmakeMap, xslice3, st_callr, sz_callr, st1_callr, cl_callr, h, RB, TB, keep170, tab170, xindexAddr, xindex, xslice, xconvert, xlen, ewOp, FreeW, StabW, SameW, ChangeW, AddW, BaseW, limBytes, simprocAttr, ne_eq])
    refine RetW.auto0 false _ (by first | rfl | exact (List.append_nil _).symm) ?_ ?_
    · (simp (maxDischargeDepth := 6) [LTB, HLt_set, ltL_take, ltL_drop, ltL_rep, ltL_set, upd, eset, hH, hHk, hl1, hl2, holt, zlRoute11, lt_callr, lt1_callr, ltc_callr] <;> omega)
    (try simp only [wk, wk1, wk0, RB, limBytes, simprocAttr, ne_eq])
    skip
    rw [ix_none (take_all (ge_of h) hno)]

theorem deleteFunc_callr (H : List Ob) (l : List (Callr)) (k : FuncId) (fi ca : List V) (p : Callr → Bool) (hlf : ltL H.length fi ∧ ltL H.length ca) (o ver n : Nat) (hf : ∀ x ∈ l, ∀ (L : List (Callr)) (E : List Ob), SCall Try.prog k (fi ++ callV x :: ca) (H.set o (.vec ver 4 (L.map callV)) ++ E) (fun r H' => r = .bool (p x) ∧ H' = H.set o (.vec ver 4 (L.map callV)) ++ E)) (ho : H[o]? = some (.vec ver 4 (l.map callV))) (hn : n = l.length) (hb : l.length ≤ 1000000000) :
    SCall Try.prog 141 [.vec o ver 0 n, .fn (.func k) fi ca] H (fun r H' => r = .vec o ver 0 (l.filter fun x => !p x).length ∧ H' = H.set o (.vec ver 4 ((l.filter fun x => !p x).map callV ++ List.replicate (l.length - (l.filter fun x => !p x).length) (.agg [.int .i64 0, .int .i64 0, .int .i64 0, .int .i64 0])))) := by
  subst hn
  have holt := lt_of_get ho
  have hlf1 := hlf.1
  have hlf2 := hlf.2
  have hll : ltL H.length (l.map callV) := lt_callr _ _
  refine SCall.of_good fun hH => ?_
  have hHk := HLt.add hH
  refine SCall.of_code Tok Try.func141 rfl Try.call141 (n := 42) rfl (by simp) (rs := [.tmp 4]) rfl ?_
  refine EWn.to ?_
  refine EWn.of_c Tok mixed (own := false) keep141 tab141 (by kernel_rfl) ?_
  (repeat simp -dsimp only [zrRoute11, xnils, xnilm, xrange, xmakeMap, xslice3, st_callr, sz_callr, st1_callr, cl_callr, RB, TB, keep141, tab141, xindexAddr, xindex, xslice, xconvert, xlen, ewOp, FreeW, StabW, SameW, ChangeW, AddW, BaseW, limBytes, simprocAttr, ne_eq])
  have hf0 : ∀ x ∈ l, SCall Try.prog k (fi ++ callV x :: ca) H (fun r H' => r = .bool (p x) ∧ H' = H) := fun x hx => by have := hf x hx l []; rwa [set_same ho, List.append_nil] at this
  (refine SCall.then (indexFunc_callr_vec _ l k fi ca p hf0 hlf _ _ _ ho rfl (by omega)) ?_)
  (repeat simp -dsimp only [zrRoute11, xnils, xnilm, xrange, xmakeMap, xslice3, st_callr, sz_callr, st1_callr, cl_callr, RB, TB, keep141, tab141, xindexAddr, xindex, xslice, xconvert, xlen, ewOp, FreeW, StabW, SameW, ChangeW, AddW, BaseW, limBytes, simprocAttr, ne_eq])
  by_cases hany : ∃ x ∈ l, p x = true
  · obtain ⟨i0, hi0, hp0, hno⟩ : ∃ i0, ∃ h : i0 < l.length, p l[i0] = true ∧ ∀ x ∈ l.take i0, p x = false := by
      have hlt := List.findIdx_lt_length.2 hany
      refine ⟨l.findIdx p, hlt, List.findIdx_getElem, fun x hx => ?_⟩
      obtain ⟨j, hj, rfl⟩ := List.mem_take_iff_getElem.1 hx
      have := List.not_of_lt_findIdx (p := p) (xs := l) (i := j) (by omega)
      simpa using this
    have hix := ix_hit hi0 hp0 hno
    rw [hix]
    have hne : ((i0 : Int) == -1) = false := by simp
    (repeat simp -dsimp only [zrRoute11, xnils, xnilm, xrange, xmakeMap, xslice3, st_callr, sz_callr, st1_callr, cl_callr, hne, RB, TB, keep141, tab141, xindexAddr, xindex, xslice, xconvert, xlen, ewOp, FreeW, StabW, SameW, ChangeW, AddW, BaseW, limBytes, simprocAttr, ne_eq])
    rw [wrapI (by omega)]
    refine EWn.loopE (ι := (Nat) × (Nat) × (List (Callr))) (fun (x_ : (Nat) × (Nat) × (List (Callr))) => match x_ with | (i, j, L) => i < j ∧ j ≤ l.length ∧ L.length = l.length ∧ L.take i = (l.take j).filter (fun x => !p x) ∧ L.drop j = l.drop j) (fun (x_ : (Nat) × (Nat) × (List (Callr))) => match x_ with | (i, j, L) => l.length - j) (fun (x_ : (Nat) × (Nat) × (List (Callr))) => match x_ with | (i, j, L) => [(5, .int .i64 i), (6, .int .i64 j)]) (fun (x_ : (Nat) × (Nat) × (List (Callr))) => match x_ with | (i, j, L) => H.set o (.vec ver 4 (L.map callV))) (i0, i0 + 1, l) ?_ ?_ ?_ ?_ ?_
    · first | rfl | simp [upd, eset]
    · first | rfl | (simp; done) | exact (set_same (by assumption)).symm
    · rintro ⟨i, j, L⟩ hok; exact ⟨by first | (simp; done) | (simp; omega), by (simp (maxDischargeDepth := 6) [LTB, HLt_set, ltL_take, ltL_drop, ltL_rep, ltL_set, upd, eset, hH, hHk, hlf1, hlf2, hll, holt, zlRoute11, lt_callr, lt1_callr, ltc_callr] <;> omega), by (simp (maxDischargeDepth := 6) [LTB, HLt_set, ltL_take, ltL_drop, ltL_rep, ltL_set, upd, eset, hH, hHk, hlf1, hlf2, hll, holt, zlRoute11, lt_callr, lt1_callr, ltc_callr] <;> omega)⟩
    · refine ⟨by omega, by omega, rfl, ?_, rfl⟩
      rw [List.take_succ_eq_append_getElem hi0, List.filter_append, List.filter_eq_self.2 (fun x hx => by simp [hno x hx])]
      simp [hp0]
    rintro ⟨i, j, L⟩ ⟨hij, hj, hL, ht, hd⟩
    refine EWn.of_c Tok mixed (own := false) keep141 tab141 (by kernel_rfl) ?_
    (repeat simp -dsimp only [zrRoute11, xnils, xnilm, xrange, xmakeMap, xslice3, st_callr, sz_callr, st1_callr, cl_callr, List.getElem?_set_self holt, List.set_set, getset holt, setset holt, RB, TB, keep141, tab141, xindexAddr, xindex, xslice, xconvert, xlen, ewOp, FreeW, StabW, SameW, ChangeW, AddW, BaseW, limBytes, simprocAttr, ne_eq])
    refine IfW.intro (fun h => ?_) (fun h => ?_)
    · have hlt := lt_of h
      have hLj : L[j]'(by omega) = l[j] := by
        have := congrArg (fun x => x[0]?) hd
        simp only [List.getElem?_drop, Nat.add_zero] at this
        rw [List.getElem?_eq_getElem (by omega), List.getElem?_eq_getElem hlt] at this
        injection this
      (repeat (first | simp -dsimp only [zrRoute11, xnils, xnilm, xrange, xmakeMap, xslice3, st_callr, sz_callr, st1_callr, cl_callr, h, List.getElem?_set_self holt, List.set_set, getset holt, setset holt, at_map callV L j (by omega), callV, hLj, RB, TB, keep141, tab141, xindexAddr, xindex, xslice, xconvert, xlen, ewOp, FreeW, StabW, SameW, ChangeW, AddW, BaseW, limBytes, simprocAttr, ne_eq] | ((with_reducible refine Need.intro ?_ ?_); (omega))))
      first | refine SCall.then (hf l[j] (List.getElem_mem hlt) L []) ?_ | (refine SCall.congr (H' := H.set o (.vec ver 4 (L.map callV)) ++ []) rfl (List.append_nil _).symm ▸ ?_; refine SCall.then (hf l[j] (List.getElem_mem hlt) L []) ?_) | refine SCall.then (hf l[j] (List.getElem_mem hlt) L _) ?_
      (repeat simp -dsimp only [zrRoute11, xnils, xnilm, xrange, xmakeMap, xslice3, st_callr, sz_callr, st1_callr, cl_callr, RB, TB, keep141, tab141, xindexAddr, xindex, xslice, xconvert, xlen, ewOp, FreeW, StabW, SameW, ChangeW, AddW, BaseW, limBytes, simprocAttr, ne_eq])
      have htk : l.take (j + 1) = l.take j ++ [l[j]] := List.take_succ_eq_append_getElem hlt
      have hdk : L.drop (j + 1) = l.drop (j + 1) := by rw [← List.drop_drop, hd, List.drop_drop]
      refine IfW.intro (fun hb => ?_) (fun hb => ?_)
      · (repeat simp -dsimp only [zrRoute11, xnils, xnilm, xrange, xmakeMap, xslice3, st_callr, sz_callr, st1_callr, cl_callr, hb, RB, TB, keep141, tab141, xindexAddr, xindex, xslice, xconvert, xlen, ewOp, FreeW, StabW, SameW, ChangeW, AddW, BaseW, limBytes, simprocAttr, ne_eq])
        rw [wrapI (by omega)]
        refine UpTo.here ⟨(i, j + 1, L), ?_, by first | omega | (simp only [List.length_append, List.length_cons, List.length_nil]; omega), by simp [upd, eset], ⟨_, by simp; try rfl⟩⟩
        exact ⟨by omega, hlt, hL, by rw [ht, htk, List.filter_append]; simp [hb], hdk⟩
      · have hiL : i < L.length := by omega
        (repeat (first | simp -dsimp only [zrRoute11, xnils, xnilm, xrange, xmakeMap, xslice3, st_callr, sz_callr, st1_callr, cl_callr, hb, List.getElem?_set_self holt, List.set_set, getset holt, setset holt, at_map callV L i hiL, callV, RB, TB, keep141, tab141, xindexAddr, xindex, xslice, xconvert, xlen, ewOp, FreeW, StabW, SameW, ChangeW, AddW, BaseW, limBytes, simprocAttr, ne_eq] | ((with_reducible refine Need.intro ?_ ?_); (first | trivial | omega))))
        rw [wrapI (by omega), wrapI (by omega)]
        refine UpTo.here ⟨(i + 1, j + 1, L.set i l[j]), ?_, by first | omega | (simp only [List.length_append, List.length_cons, List.length_nil]; omega), by simp [upd, eset], ⟨_, by simp; try rfl⟩⟩
        refine ⟨by omega, hlt, by simp [hL], ?_, ?_⟩
        · rw [List.take_succ_eq_append_getElem (by simpa using hiL), htk, List.filter_append, List.getElem_set_self, List.take_set_of_le (Nat.le_refl _), ht]
          simp [hb]
        · rw [List.drop_set_of_lt (by omega), hdk]
    · (repeat (first | simp -dsimp only [zrRoute11, xnils, xnilm, xrange, xmakeMap, xslice3, st_callr, sz_callr, st1_callr, cl_callr, h, List.getElem?_set_self holt, List.set_set, getset holt, setset holt, RB, TB, keep141, tab141, xindexAddr, xindex, xslice, xconvert, xlen, ewOp, FreeW, StabW, SameW, ChangeW, AddW, BaseW, limBytes, simprocAttr, ne_eq] | ((with_reducible refine Need.intro ?_ ?_); (first | omega | (simp; omega)))))
      have hjl : j = l.length := Nat.le_antisymm hj (ge_of h)
      subst hjl
      rw [List.take_length] at ht
      have hfl : (l.filter fun x => !p x).length = i := by rw [← ht, List.length_take]; omega
      refine RetW.keep false (by simp) ?_ ?_ ?_
      · (simp (maxDischargeDepth := 6) [LTB, HLt_set, ltL_take, ltL_drop, ltL_rep, ltL_set, upd, eset, hH, hHk, hlf1, hlf2, hll, holt, zlRoute11, lt_callr, lt1_callr, ltc_callr] <;> omega)
      · (simp (maxDischargeDepth := 6) [LTB, HLt_set, ltL_take, ltL_drop, ltL_rep, ltL_set, upd, eset, hH, hHk, hlf1, hlf2, hll, holt, zlRoute11, lt_callr, lt1_callr, ltc_callr] <;> omega)
      rw [hfl]
      have hno2 : ¬ H.length ≤ o := by omega
      simp [wk, wk1, wk0, hno2, ← ht, List.map_take, List.drop_of_length_le (show L.length ≤ i + (l.length - i) by omega)]
  · have hix : ix p l = -1 := ix_none fun x hx => by cases h : p x with
      | false => rfl
      | true => exact absurd ⟨x, hx, h⟩ hany
    rw [hix]
    (repeat simp -dsimp only [zrRoute11, xnils, xnilm, xrange, xmakeMap, xslice3, st_callr, sz_callr, st1_callr, cl_callr, RB, TB, keep141, tab141, xindexAddr, xindex, xslice, xconvert, xlen, ewOp, FreeW, StabW, SameW, ChangeW, AddW, BaseW, limBytes, simprocAttr, ne_eq])
    have hfe : (l.filter fun x => !p x) = l := List.filter_eq_self.2 fun x hx => by
      cases h : p x with
      | false => rfl
      | true => exact absurd ⟨x, hx, h⟩ hany
    refine RetW.keep false (Nat.le_refl _) hH ?_ ?_
    · (simp (maxDischargeDepth := 6) [LTB, HLt_set, ltL_take, ltL_drop, ltL_rep, ltL_set, upd, eset, hH, hHk, hlf1, hlf2, hll, holt, zlRoute11, lt_callr, lt1_callr, ltc_callr] <;> omega)
    have : ¬ H.length ≤ o := by omega
    simp [wk, wk1, wk0, this, hfe, set_same ho]

theorem cloneC0 (H : List Ob) (l : List Callr) (hl : l.length ≤ 1000000000000) : SCall Try.prog 142 [.slice (l.map callV)] H (fun r H' => (l = [] ∧ r = .fslice [] ∧ H' = H) ∨ (r = .vec H.length 1 0 l.length ∧ H' = H ++ [.vec 1 4 (l.map callV)])) := by
  refine SCall.of_good fun hH => ?_
  have hHk := HLt.add hH
  refine SCall.of_code Tok Try.func142 rfl Try.call142 (n := 8) rfl (by simp) (rs := [.tmp 2]) rfl ?_
  refine EWn.to ?_
  refine EWn.of_c Tok mixed (own := false) keep142 tab142 (by kernel_rfl) ?_
  (repeat simp -dsimp only [zrRoute11, xnils, xnilm, xrange, xmakeMap, xslice3, st_callr, sz_callr, st1_callr, cl_callr, RB, TB, keep142, tab142, xindexAddr, xindex, xslice, xconvert, xlen, ewOp, FreeW, StabW, SameW, ChangeW, AddW, BaseW, limBytes, simprocAttr, ne_eq])
  refine AnyB.intro fun b hb => ?_
  (repeat simp -dsimp only [zrRoute11, xnils, xnilm, xrange, xmakeMap, xslice3, st_callr, sz_callr, st1_callr, cl_callr, RB, TB, keep142, tab142, xindexAddr, xindex, xslice, xconvert, xlen, ewOp, FreeW, StabW, SameW, ChangeW, AddW, BaseW, limBytes, simprocAttr, ne_eq])
  refine IfW.intro (fun h => ?_) (fun h => ?_)
  · subst h
    have h0 : l = [] := by cases l with
      | nil => rfl
      | cons x l => exact absurd (hb (by simp)) (by simp)
    subst h0
    (repeat simp -dsimp only [zrRoute11, xnils, xnilm, xrange, xmakeMap, xslice3, st_callr, sz_callr, st1_callr, cl_callr, RB, TB, keep142, tab142, xindexAddr, xindex, xslice, xconvert, xlen, ewOp, FreeW, StabW, SameW, ChangeW, AddW, BaseW, limBytes, simprocAttr, ne_eq])
    refine RetW.auto0 true _ (by first | rfl | exact (List.append_nil _).symm) ?_ ?_
    · (simp (maxDischargeDepth := 6) [LTB, HLt_set, ltL_take, ltL_drop, ltL_rep, ltL_set, upd, eset, hH, hHk, zlRoute11, lt_callr, lt1_callr, ltc_callr] <;> omega)
    (try simp only [wk, wk1, wk0, RB, if_true, limBytes, simprocAttr, ne_eq])
    skip
  · subst h
    (repeat (first | simp -dsimp only [zrRoute11, xnils, xnilm, xrange, xmakeMap, xslice3, st_callr, sz_callr, st1_callr, cl_callr, RB, TB, keep142, tab142, xindexAddr, xindex, xslice, xconvert, xlen, ewOp, FreeW, StabW, SameW, ChangeW, AddW, BaseW, limBytes, simprocAttr, ne_eq] | ((with_reducible refine Need.intro ?_ ?_); (omega))))
    refine RetW.auto false [.vec 1 4 (l.map callV)] _ (by first | rfl | simp) ?_ ?_ ?_
    · (simp (maxDischargeDepth := 6) [LTB, HLt_set, ltL_take, ltL_drop, ltL_rep, ltL_set, upd, eset, hH, hHk, zlRoute11, lt_callr, lt1_callr, ltc_callr] <;> omega)
    · (simp (maxDischargeDepth := 6) [LTB, HLt_set, ltL_take, ltL_drop, ltL_rep, ltL_set, upd, eset, hH, hHk, zlRoute11, lt_callr, lt1_callr, ltc_callr] <;> omega)
    (try simp only [wk, wk1, wk0, RB, limBytes, simprocAttr, ne_eq])
    (try (rw [List.take_of_length_le]; rotate_left 1; (· first | (simp; done) | (simp; omega) | omega)))
    first | (simp; done) | (refine .inr ⟨?_, ?_⟩ <;> simp; done) | trace_state
theorem cloneC (H : List Ob) (l : List Callr) (hl : l.length ≤ 1000000000000) : SCall Try.prog 142 [.slice (l.map callV)] H (fun r H' => r = .vec H.length 1 0 l.length ∧ H' = H ++ [.vec 1 4 (l.map callV)]) := by
  refine (cloneC0 H l hl).ghoE fun r H' h => ?_
  rcases h with ⟨rfl, rfl, rfl⟩ | ⟨rfl, rfl⟩
  · refine ⟨_, _, Gho.adopt (n0 := H'.length) (env := [(0, .fslice [])]) 0 4 rfl, And.intro rfl rfl⟩
  · exact ⟨_, _, Gho.refl _ _ _, And.intro rfl rfl⟩
theorem clipF (H : List Ob) (c : Callr) (o : Nat) (ow : Int) (ho : H[o]? = some (.var [.int .i64 ow])) : SCall Try.prog 143 [callV c, .ref o 0] H (fun r H' => r = .bool (!(c.owner == ow)) ∧ H' = H) := by
  have holt := lt_of_get ho
  have hgl : ∀ L, (H ++ L)[o]? = some (.var [.int .i64 ow]) := fun L => by rw [List.getElem?_append_left holt]; exact ho
  unfold callV
  refine SCall.of_good fun hH => ?_
  have hHk := HLt.add hH
  refine SCall.of_code Tok Try.func143 rfl Try.call143 (n := 8) rfl (by simp) (rs := [.tmp 3]) rfl ?_
  refine EWn.to ?_
  refine EWn.of_c Tok mixed (own := false) keep143 tab143 (by kernel_rfl) ?_
  (repeat simp -dsimp only [zrRoute11, xnils, xnilm, xrange, xmakeMap, xslice3, st_callr, sz_callr, st1_callr, cl_callr, hgl, RB, TB, keep143, tab143, xindexAddr, xindex, xslice, xconvert, xlen, ewOp, FreeW, StabW, SameW, ChangeW, AddW, BaseW, limBytes, simprocAttr, ne_eq])
  refine RetW.auto0 false _ (by first | rfl | exact (List.append_nil _).symm) ?_ ?_
  · (simp (maxDischargeDepth := 6) [LTB, HLt_set, ltL_take, ltL_drop, ltL_rep, ltL_set, upd, eset, hH, hHk, zlRoute11, lt_callr, lt1_callr, ltc_callr] <;> omega)
  (try simp only [wk, wk1, wk0, RB, limBytes, simprocAttr, ne_eq])
  skip
theorem withoutF (H : List Ob) (c : Callr) (o : Nat) (ow : Int) (ho : H[o]? = some (.var [.int .i64 ow])) : SCall Try.prog 144 [callV c, .ref o 0] H (fun r H' => r = .bool (c.owner == ow) ∧ H' = H) := by
  have holt := lt_of_get ho
  have hgl : ∀ L, (H ++ L)[o]? = some (.var [.int .i64 ow]) := fun L => by rw [List.getElem?_append_left holt]; exact ho
  unfold callV
  refine SCall.of_good fun hH => ?_
  have hHk := HLt.add hH
  refine SCall.of_code Tok Try.func144 rfl Try.call144 (n := 8) rfl (by simp) (rs := [.tmp 3]) rfl ?_
  refine EWn.to ?_
  refine EWn.of_c Tok mixed (own := false) keep144 tab144 (by kernel_rfl) ?_
  (repeat simp -dsimp only [zrRoute11, xnils, xnilm, xrange, xmakeMap, xslice3, st_callr, sz_callr, st1_callr, cl_callr, hgl, RB, TB, keep144, tab144, xindexAddr, xindex, xslice, xconvert, xlen, ewOp, FreeW, StabW, SameW, ChangeW, AddW, BaseW, limBytes, simprocAttr, ne_eq])
  refine RetW.auto0 false _ (by first | rfl | exact (List.append_nil _).symm) ?_ ?_
  · (simp (maxDischargeDepth := 6) [LTB, HLt_set, ltL_take, ltL_drop, ltL_rep, ltL_set, upd, eset, hH, hHk, zlRoute11, lt_callr, lt1_callr, ltc_callr] <;> omega)
  (try simp only [wk, wk1, wk0, RB, limBytes, simprocAttr, ne_eq])
  skip
theorem rClip (H : List Ob) (l : List Callr) (ow : Int) (hs : l.length ≤ 1000000000) : SCall Try.prog 82 [.slice (l.map callV), .int .i64 ow] H (fun r H' => r = .slice ((l.filter fun c => c.owner == ow).map callV) ∧ H' = H) := by
  refine SCall.of_good fun hH => ?_
  have hHk := HLt.add hH
  refine SCall.of_code Tok Try.func82 rfl Try.call82 (n := 9) rfl (by simp) (rs := [.tmp 4]) rfl ?_
  refine EWn.to ?_
  refine EWn.of_c Tok mixed (own := false) keep82 tab82 (by kernel_rfl) ?_
  (repeat simp -dsimp only [zrRoute11, xnils, xnilm, xrange, xmakeMap, xslice3, st_callr, sz_callr, st1_callr, cl_callr, RB, TB, keep82, tab82, xindexAddr, xindex, xslice, xconvert, xlen, ewOp, FreeW, StabW, SameW, ChangeW, AddW, BaseW, limBytes, simprocAttr, ne_eq])
  (refine SCall.then (cloneC _ l (by omega)) ?_)
  (repeat simp -dsimp only [zrRoute11, xnils, xnilm, xrange, xmakeMap, xslice3, st_callr, sz_callr, st1_callr, cl_callr, RB, TB, keep82, tab82, xindexAddr, xindex, xslice, xconvert, xlen, ewOp, FreeW, StabW, SameW, ChangeW, AddW, BaseW, limBytes, simprocAttr, ne_eq])
  refine SCall.then (deleteFunc_callr _ l _ [] [.ref H.length 0] (fun c => !(c.owner == ow)) ⟨trivial, by simp [ltL, V.lt]⟩ (H.length + 1) 1 _ (fun x _ L E => clipF _ x H.length ow (by simp)) (by simp) (by simp) (by omega)) ?_
  (repeat simp -dsimp only [zrRoute11, xnils, xnilm, xrange, xmakeMap, xslice3, st_callr, sz_callr, st1_callr, cl_callr, RB, TB, keep82, tab82, xindexAddr, xindex, xslice, xconvert, xlen, ewOp, FreeW, StabW, SameW, ChangeW, AddW, BaseW, limBytes, simprocAttr, ne_eq])
  rw [show (l.filter fun x => !!(x.owner == ow)) = l.filter fun c => c.owner == ow from by simp]
  generalize (l.filter fun c => c.owner == ow) = D
  refine RetW.auto0 false _ (by first | rfl | exact (List.append_nil _).symm) ?_ ?_
  · (simp (maxDischargeDepth := 6) [LTB, HLt_set, ltL_take, ltL_drop, ltL_rep, ltL_set, upd, eset, hH, hHk, zlRoute11, lt_callr, lt1_callr, ltc_callr] <;> omega)
  (try simp only [wk, wk1, wk0, RB, limBytes, simprocAttr, ne_eq])
  skip
  rw [List.take_left' (by simp)]
  simp
theorem rWithout (H : List Ob) (l : List Callr) (ow : Int) (hs : l.length ≤ 1000000000) : SCall Try.prog 83 [.slice (l.map callV), .int .i64 ow] H (fun r H' => r = .slice ((l.filter fun c => !(c.owner == ow)).map callV) ∧ H' = H) := by
  refine SCall.of_good fun hH => ?_
  have hHk := HLt.add hH
  refine SCall.of_code Tok Try.func83 rfl Try.call83 (n := 9) rfl (by simp) (rs := [.tmp 4]) rfl ?_
  refine EWn.to ?_
  refine EWn.of_c Tok mixed (own := false) keep83 tab83 (by kernel_rfl) ?_
  (repeat simp -dsimp only [zrRoute11, xnils, xnilm, xrange, xmakeMap, xslice3, st_callr, sz_callr, st1_callr, cl_callr, RB, TB, keep83, tab83, xindexAddr, xindex, xslice, xconvert, xlen, ewOp, FreeW, StabW, SameW, ChangeW, AddW, BaseW, limBytes, simprocAttr, ne_eq])
  (refine SCall.then (cloneC _ l (by omega)) ?_)
  (repeat simp -dsimp only [zrRoute11, xnils, xnilm, xrange, xmakeMap, xslice3, st_callr, sz_callr, st1_callr, cl_callr, RB, TB, keep83, tab83, xindexAddr, xindex, xslice, xconvert, xlen, ewOp, FreeW, StabW, SameW, ChangeW, AddW, BaseW, limBytes, simprocAttr, ne_eq])
  refine SCall.then (deleteFunc_callr _ l _ [] [.ref H.length 0] (fun c => c.owner == ow) ⟨trivial, by simp [ltL, V.lt]⟩ (H.length + 1) 1 _ (fun x _ L E => withoutF _ x H.length ow (by simp)) (by simp) (by simp) (by omega)) ?_
  (repeat simp -dsimp only [zrRoute11, xnils, xnilm, xrange, xmakeMap, xslice3, st_callr, sz_callr, st1_callr, cl_callr, RB, TB, keep83, tab83, xindexAddr, xindex, xslice, xconvert, xlen, ewOp, FreeW, StabW, SameW, ChangeW, AddW, BaseW, limBytes, simprocAttr, ne_eq])
  generalize (l.filter fun c => !(c.owner == ow)) = D
  refine RetW.auto0 false _ (by first | rfl | exact (List.append_nil _).symm) ?_ ?_
  · (simp (maxDischargeDepth := 6) [LTB, HLt_set, ltL_take, ltL_drop, ltL_rep, ltL_set, upd, eset, hH, hHk, zlRoute11, lt_callr, lt1_callr, ltc_callr] <;> omega)
  (try simp only [wk, wk1, wk0, RB, limBytes, simprocAttr, ne_eq])
  skip
  rw [List.take_left' (by simp)]
  simp
theorem lSame (H : List Ob) (l m : List (Callr)) : SCall Try.prog 63 [.slice (l.map callV), .slice (m.map callV)] H (fun r H' => r = .bool (decide (l = m)) ∧ H' = H) := by
  refine SCall.sized 0 rfl fun hl => ?_
  rw [List.length_map, maxLen_eq] at hl
  refine SCall.of_good fun hH => ?_
  have hHk := HLt.add hH
  refine SCall.of_code Tok Try.func63 rfl Try.call63 (n := 26) rfl (by simp) (rs := [.tmp 4]) rfl ?_
  refine EWn.to ?_
  refine EWn.of_c Tok mixed (own := false) keep63 tab63 (by kernel_rfl) ?_
  (repeat simp -dsimp only [zrRoute11, xnils, xnilm, xrange, xmakeMap, xslice3, st_callr, sz_callr, st1_callr, cl_callr, RB, TB, keep63, tab63, xindexAddr, xindex, xslice, xconvert, xlen, ewOp, FreeW, StabW, SameW, ChangeW, AddW, BaseW, limBytes, simprocAttr, ne_eq])
  refine IfW.intro (fun h => ?_) (fun h => ?_)
  rotate_left
  · (repeat simp -dsimp only [zrRoute11, xnils, xnilm, xrange, xmakeMap, xslice3, st_callr, sz_callr, st1_callr, cl_callr, h, RB, TB, keep63, tab63, xindexAddr, xindex, xslice, xconvert, xlen, ewOp, FreeW, StabW, SameW, ChangeW, AddW, BaseW, limBytes, simprocAttr, ne_eq])
    refine RetW.auto0 false _ (by first | rfl | exact (List.append_nil _).symm) ?_ ?_
    · (simp (maxDischargeDepth := 6) [LTB, HLt_set, ltL_take, ltL_drop, ltL_rep, ltL_set, upd, eset, hH, hHk, zlRoute11, lt_callr, lt1_callr, ltc_callr] <;> omega)
    (try simp only [wk, wk1, wk0, RB, limBytes, simprocAttr, ne_eq])
    skip
    have hlm : l ≠ m := by rintro rfl; simp at h
    simp [hlm]
  have hlm : l.length = m.length := by simp at h; omega
  (repeat simp -dsimp only [zrRoute11, xnils, xnilm, xrange, xmakeMap, xslice3, st_callr, sz_callr, st1_callr, cl_callr, h, RB, TB, keep63, tab63, xindexAddr, xindex, xslice, xconvert, xlen, ewOp, FreeW, StabW, SameW, ChangeW, AddW, BaseW, limBytes, simprocAttr, ne_eq])
  refine EWn.loopE (ι := (Nat)) (fun (i : (Nat)) => i ≤ l.length ∧ l.take i = m.take i) (fun (i : (Nat)) => l.length - i) (fun (i : (Nat)) => [(5, .int .i64 i)]) (fun (i : (Nat)) => H) (0) ?_ ?_ ?_ ?_ ?_
  · first | rfl | simp [upd, eset]
  · first | rfl | (simp; done) | exact (set_same (by assumption)).symm
  · rintro i hok; exact ⟨by first | (simp; done) | (simp; omega), by (simp (maxDischargeDepth := 6) [LTB, HLt_set, ltL_take, ltL_drop, ltL_rep, ltL_set, upd, eset, hH, hHk, zlRoute11, lt_callr, lt1_callr, ltc_callr] <;> omega), by (simp (maxDischargeDepth := 6) [LTB, HLt_set, ltL_take, ltL_drop, ltL_rep, ltL_set, upd, eset, hH, hHk, zlRoute11, lt_callr, lt1_callr, ltc_callr] <;> omega)⟩
  · simp
  rintro i ⟨hi, hno⟩
  refine EWn.of_c Tok mixed (own := false) keep63 tab63 (by kernel_rfl) ?_
  (repeat simp -dsimp only [zrRoute11, xnils, xnilm, xrange, xmakeMap, xslice3, st_callr, sz_callr, st1_callr, cl_callr, RB, TB, keep63, tab63, xindexAddr, xindex, xslice, xconvert, xlen, ewOp, FreeW, StabW, SameW, ChangeW, AddW, BaseW, limBytes, simprocAttr, ne_eq])
  refine IfW.intro (fun h1 => ?_) (fun h1 => ?_)
  · have hlt := lt_of h1
    have hlt' : i < m.length := by omega
    (repeat (first | simp -dsimp only [zrRoute11, xnils, xnilm, xrange, xmakeMap, xslice3, st_callr, sz_callr, st1_callr, cl_callr, h1, at_map callV l i hlt, at_map callV m i hlt', callV, RB, TB, keep63, tab63, xindexAddr, xindex, xslice, xconvert, xlen, ewOp, FreeW, StabW, SameW, ChangeW, AddW, BaseW, limBytes, simprocAttr, ne_eq] | ((with_reducible refine Need.intro ?_ ?_); (omega))))
    refine IfW.intro (fun hb => ?_) (fun hb => ?_)
    · (repeat simp -dsimp only [zrRoute11, xnils, xnilm, xrange, xmakeMap, xslice3, st_callr, sz_callr, st1_callr, cl_callr, hb, RB, TB, keep63, tab63, xindexAddr, xindex, xslice, xconvert, xlen, ewOp, FreeW, StabW, SameW, ChangeW, AddW, BaseW, limBytes, simprocAttr, ne_eq])
      rw [wrapI (by omega)]
      have hb : l[i] = m[i] := by simp at hb; cases h1 : l[i]; cases h2 : m[i]; simp_all
      refine UpTo.here ⟨(i + 1), ?_, by first | omega | (simp only [List.length_append, List.length_cons, List.length_nil]; omega), by simp [upd, eset], ⟨_, by simp; try rfl⟩⟩
      exact ⟨hlt, by rw [List.take_succ_eq_append_getElem hlt, List.take_succ_eq_append_getElem hlt', hno, hb]⟩
    · (repeat simp -dsimp only [zrRoute11, xnils, xnilm, xrange, xmakeMap, xslice3, st_callr, sz_callr, st1_callr, cl_callr, hb, RB, TB, keep63, tab63, xindexAddr, xindex, xslice, xconvert, xlen, ewOp, FreeW, StabW, SameW, ChangeW, AddW, BaseW, limBytes, simprocAttr, ne_eq])
      refine RetW.auto0 false _ (by first | rfl | exact (List.append_nil _).symm) ?_ ?_
      · (simp (maxDischargeDepth := 6) [LTB, HLt_set, ltL_take, ltL_drop, ltL_rep, ltL_set, upd, eset, hH, hHk, zlRoute11, lt_callr, lt1_callr, ltc_callr] <;> omega)
      (try simp only [wk, wk1, wk0, RB, limBytes, simprocAttr, ne_eq])
      skip
      have hlm : l ≠ m := by rintro rfl; simp at hb
      simp [hlm]
  · (repeat simp -dsimp only [zrRoute11, xnils, xnilm, xrange, xmakeMap, xslice3, st_callr, sz_callr, st1_callr, cl_callr, h1, RB, TB, keep63, tab63, xindexAddr, xindex, xslice, xconvert, xlen, ewOp, FreeW, StabW, SameW, ChangeW, AddW, BaseW, limBytes, simprocAttr, ne_eq])
    have hge := ge_of h1
    rw [List.take_of_length_le hge, List.take_of_length_le (by omega)] at hno
    refine RetW.auto0 false _ (by first | rfl | exact (List.append_nil _).symm) ?_ ?_
    · (simp (maxDischargeDepth := 6) [LTB, HLt_set, ltL_take, ltL_drop, ltL_rep, ltL_set, upd, eset, hH, hHk, zlRoute11, lt_callr, lt1_callr, ltc_callr] <;> omega)
    (try simp only [wk, wk1, wk0, RB, limBytes, simprocAttr, ne_eq])
    skip
    simp [hno]

theorem rPhase (H : List Ob) (i many other : Int) (hm : 0 ≤ many ∧ many ≤ 1000000) : SCall Try.prog 125 [.int .i64 i, .int .i64 many, .int .i64 other] H (fun r H' => r = .int .i64 (if i = many - 1 then 2 else other) ∧ H' = H) := by
  have w : IntKind.i64.wrap (many - 1) = many - 1 := wrapI (by omega)
  refine SCall.of_good fun hH => ?_
  have hHk := HLt.add hH
  refine SCall.of_code Tok Try.func125 rfl Try.call125 (n := 12) rfl (by simp) (rs := [.tmp 6]) rfl ?_
  refine EWn.to ?_
  refine EWn.of_c Tok mixed (own := false) keep125 tab125 (by kernel_rfl) ?_
  (repeat simp -dsimp only [zrRoute11, xnils, xnilm, xrange, xmakeMap, xslice3, st_callr, sz_callr, st1_callr, cl_callr, w, RB, TB, keep125, tab125, xindexAddr, xindex, xslice, xconvert, xlen, ewOp, FreeW, StabW, SameW, ChangeW, AddW, BaseW, limBytes, simprocAttr, ne_eq])
  refine IfW.intro (fun h => ?_) (fun h => ?_)
  · (repeat simp -dsimp only [zrRoute11, xnils, xnilm, xrange, xmakeMap, xslice3, st_callr, sz_callr, st1_callr, cl_callr, h, RB, TB, keep125, tab125, xindexAddr, xindex, xslice, xconvert, xlen, ewOp, FreeW, StabW, SameW, ChangeW, AddW, BaseW, limBytes, simprocAttr, ne_eq])
    refine RetW.auto0 false _ (by first | rfl | exact (List.append_nil _).symm) ?_ ?_
    · (simp (maxDischargeDepth := 6) [LTB, HLt_set, ltL_take, ltL_drop, ltL_rep, ltL_set, upd, eset, hH, hHk, zlRoute11, lt_callr, lt1_callr, ltc_callr] <;> omega)
    (try simp only [wk, wk1, wk0, RB, limBytes, simprocAttr, ne_eq])
    skip
    simp at h
    simp [h]
  · (repeat simp -dsimp only [zrRoute11, xnils, xnilm, xrange, xmakeMap, xslice3, st_callr, sz_callr, st1_callr, cl_callr, h, RB, TB, keep125, tab125, xindexAddr, xindex, xslice, xconvert, xlen, ewOp, FreeW, StabW, SameW, ChangeW, AddW, BaseW, limBytes, simprocAttr, ne_eq])
    refine RetW.auto0 false _ (by first | rfl | exact (List.append_nil _).symm) ?_ ?_
    · (simp (maxDischargeDepth := 6) [LTB, HLt_set, ltL_take, ltL_drop, ltL_rep, ltL_set, upd, eset, hH, hHk, zlRoute11, lt_callr, lt1_callr, ltc_callr] <;> omega)
    (try simp only [wk, wk1, wk0, RB, limBytes, simprocAttr, ne_eq])
    skip
    simp at h
    simp [h]
def toldF (n : Node) (ev : Int) (cap : Bool) (ph : Int) (l : List Hook) : List Callr := (l.filter fun h => h.ev == ev && (h.cap == cap)).map fun h => ⟨n.owner, h.nm, n.id, ph⟩
theorem toldF_succ (n : Node) (ev : Int) (cap : Bool) (ph : Int) {l : List Hook} {i : Nat} (h : i < l.length) : toldF n ev cap ph (l.take (i + 1)) = toldF n ev cap ph (l.take i) ++ (if (l[i].ev == ev && (l[i].cap == cap)) = true then [⟨n.owner, l[i].nm, n.id, ph⟩] else []) := by
  unfold toldF
  rw [List.take_succ_eq_append_getElem h, List.filter_append, List.map_append]
  congr 1
  rw [List.filter_cons]
  split <;> simp
theorem toldF_len (n : Node) (ev : Int) (cap : Bool) (ph : Int) (l : List Hook) : (toldF n ev cap ph l).length ≤ l.length := by unfold toldF; rw [List.length_map]; exact List.length_filter_le _ _
theorem rTold (H : List Ob) (n : Node) (ev : Int) (cap : Bool) (ph : Int) (hl : n.hooks.length ≤ 1000000000) : SCall Try.prog 124 [nodeV n, .int .i64 ev, .bool cap, .int .i64 ph] H (fun r H' => r = .slice ((toldF n ev cap ph n.hooks).map callV) ∧ H' = H) := by
  refine SCall.of_good fun hH => ?_
  have hHk := HLt.add hH
  refine SCall.of_code Tok Try.func124 rfl Try.call124 (n := 42) rfl (by simp) (rs := [.tmp 8]) rfl ?_
  refine EWn.to ?_
  refine EWn.of_c Tok mixed (own := false) keep124 tab124 (by kernel_rfl) ?_
  (repeat simp -dsimp only [zrRoute11, xnils, xnilm, xrange, xmakeMap, xslice3, st_callr, sz_callr, st1_callr, cl_callr, nodeV, RB, TB, keep124, tab124, xindexAddr, xindex, xslice, xconvert, xlen, ewOp, FreeW, StabW, SameW, ChangeW, AddW, BaseW, limBytes, simprocAttr, ne_eq])
  refine EWn.ghost (Gho.adopt 9 4 rfl) ?_
  simp only [RB, limBytes, simprocAttr, ne_eq]
  refine EWn.loopE (ι := (Nat) × (Nat)) (fun (x_ : (Nat) × (Nat)) => match x_ with | (i, v) => i ≤ n.hooks.length) (fun (x_ : (Nat) × (Nat)) => match x_ with | (i, v) => n.hooks.length - i) (fun (x_ : (Nat) × (Nat)) => match x_ with | (i, v) => [(9, .vec (H.length + 1) v 0 (toldF n ev cap ph (n.hooks.take i)).length), (15, .int .i64 i)]) (fun (x_ : (Nat) × (Nat)) => match x_ with | (i, v) => H ++ [.var [.int .i64 n.id, .int .i64 n.owner, .int .i64 n.parent, .int .i64 n.kind, .str n.tag.text, .slice (n.tag.runs.map runV), .str n.key, .int .i64 n.slot, .slice (n.attrs.map attrV), .slice (n.hooks.map hookV), .slice (n.kids.map vi), .str n.text.text, .slice (n.text.runs.map runV)], .vec v 4 ((toldF n ev cap ph (n.hooks.take i)).map callV)]) (0, 1) ?_ ?_ ?_ ?_ ?_
  · first | rfl | simp [upd, eset]
  · first | rfl | (simp; done) | exact (set_same (by assumption)).symm
  · rintro ⟨i, v⟩ hok; exact ⟨by first | (simp; done) | (simp; omega), by (simp (maxDischargeDepth := 6) [LTB, HLt_set, ltL_take, ltL_drop, ltL_rep, ltL_set, upd, eset, hH, hHk, zlRoute11, lt_callr, lt1_callr, ltc_callr] <;> omega), by (simp (maxDischargeDepth := 6) [LTB, HLt_set, ltL_take, ltL_drop, ltL_rep, ltL_set, upd, eset, hH, hHk, zlRoute11, lt_callr, lt1_callr, ltc_callr] <;> omega)⟩
  · omega
  rintro ⟨i, v⟩ hi
  have htl : (toldF n ev cap ph (n.hooks.take i)).length ≤ i := Nat.le_trans (toldF_len _ _ _ _ _) (by simp; omega)
  refine EWn.of_c Tok mixed (own := false) keep124 tab124 (by kernel_rfl) ?_
  (repeat simp -dsimp only [zrRoute11, xnils, xnilm, xrange, xmakeMap, xslice3, st_callr, sz_callr, st1_callr, cl_callr, RB, TB, keep124, tab124, xindexAddr, xindex, xslice, xconvert, xlen, ewOp, FreeW, StabW, SameW, ChangeW, AddW, BaseW, limBytes, simprocAttr, ne_eq])
  refine IfW.intro (fun h => ?_) (fun h => ?_)
  · have hlt := lt_of h
    have hat := at_map hookV n.hooks i hlt
    have hsucc := toldF_succ n ev cap ph hlt
    generalize n.hooks[i] = hk at hat hsucc
    have w1 : IntKind.i64.wrap ((i : Int) + 1) = ((i + 1 : Nat) : Int) := by rw [wrapI (by omega)]; omega
    (repeat (first | simp -dsimp only [zrRoute11, xnils, xnilm, xrange, xmakeMap, xslice3, st_callr, sz_callr, st1_callr, cl_callr, h, hat, hookV, RB, TB, keep124, tab124, xindexAddr, xindex, xslice, xconvert, xlen, ewOp, FreeW, StabW, SameW, ChangeW, AddW, BaseW, limBytes, simprocAttr, ne_eq] | ((with_reducible refine Need.intro ?_ ?_); (omega))))
    refine IfW.intro (fun h1 => ?_) (fun h1 => ?_)
    · (repeat simp -dsimp only [zrRoute11, xnils, xnilm, xrange, xmakeMap, xslice3, st_callr, sz_callr, st1_callr, cl_callr, h1, hat, hookV, RB, TB, keep124, tab124, xindexAddr, xindex, xslice, xconvert, xlen, ewOp, FreeW, StabW, SameW, ChangeW, AddW, BaseW, limBytes, simprocAttr, ne_eq])
      refine IfW.intro (fun h2 => ?_) (fun h2 => ?_)
      · rw [if_pos (by rw [h1, h2]; rfl)] at hsucc
        (repeat (first | simp -dsimp only [zrRoute11, xnils, xnilm, xrange, xmakeMap, xslice3, st_callr, sz_callr, st1_callr, cl_callr, h2, w1, RB, TB, keep124, tab124, xindexAddr, xindex, xslice, xconvert, xlen, ewOp, FreeW, StabW, SameW, ChangeW, AddW, BaseW, limBytes, simprocAttr, ne_eq] | ((with_reducible refine Need.intro ?_ ?_); (first | trivial | omega))))
        refine UpTo.here ⟨(i + 1, v + 1), hlt, by simp only; omega, by simp [upd, eset, hsucc], ⟨_, by simp [hsucc, callV]; rfl⟩⟩
      · rw [if_neg (by rw [h1, h2]; simp), List.append_nil] at hsucc
        (repeat simp -dsimp only [zrRoute11, xnils, xnilm, xrange, xmakeMap, xslice3, st_callr, sz_callr, st1_callr, cl_callr, h2, w1, RB, TB, keep124, tab124, xindexAddr, xindex, xslice, xconvert, xlen, ewOp, FreeW, StabW, SameW, ChangeW, AddW, BaseW, limBytes, simprocAttr, ne_eq])
        refine UpTo.here ⟨(i + 1, v), hlt, by simp only; omega, by simp [upd, eset, hsucc], ⟨_, by simp [hsucc]; rfl⟩⟩
    · rw [if_neg (by rw [h1]; simp), List.append_nil] at hsucc
      (repeat simp -dsimp only [zrRoute11, xnils, xnilm, xrange, xmakeMap, xslice3, st_callr, sz_callr, st1_callr, cl_callr, h1, w1, RB, TB, keep124, tab124, xindexAddr, xindex, xslice, xconvert, xlen, ewOp, FreeW, StabW, SameW, ChangeW, AddW, BaseW, limBytes, simprocAttr, ne_eq])
      refine UpTo.here ⟨(i + 1, v), hlt, by simp only; omega, by simp [upd, eset, hsucc], ⟨_, by simp [hsucc]; rfl⟩⟩
  · (repeat simp -dsimp only [zrRoute11, xnils, xnilm, xrange, xmakeMap, xslice3, st_callr, sz_callr, st1_callr, cl_callr, h, RB, TB, keep124, tab124, xindexAddr, xindex, xslice, xconvert, xlen, ewOp, FreeW, StabW, SameW, ChangeW, AddW, BaseW, limBytes, simprocAttr, ne_eq])
    have hi2 : i = n.hooks.length := Nat.le_antisymm hi (ge_of h)
    subst hi2
    rw [List.take_length]
    refine RetW.auto0 false _ (by first | rfl | exact (List.append_nil _).symm) ?_ ?_
    · (simp (maxDischargeDepth := 6) [LTB, HLt_set, ltL_take, ltL_drop, ltL_rep, ltL_set, upd, eset, hH, hHk, zlRoute11, lt_callr, lt1_callr, ltc_callr] <;> omega)
    (try simp only [wk, wk1, wk0, RB, limBytes, simprocAttr, ne_eq])
    (try (rw [List.take_of_length_le]; rotate_left 1; (· first | (simp; done) | (simp; omega) | omega)))
    simp
end Go.Proofs.Ytjplgbalpnlanaa

/- slices.Backward of ints; a range over it. -/
set_option maxHeartbeats 600000
set_option linter.unusedSimpArgs false
set_option linter.unusedVariables false
set_option maxRecDepth 100000
namespace Go.Proofs.Ytjplgbalpnlanaa
open Go Go.EL
theorem zrRoute21 : type_of% (And.intro (And.intro (And.intro (And.intro (@st_run) (And.intro (@sz_run) (@st1_run))) (And.intro (@cl_run) (And.intro (@st_Str) (@sz_Str)))) (And.intro (And.intro (@st1_Str) (And.intro (@cl_Str) (@st_c))) (And.intro (@sz_c) (And.intro (@st1_c) (@cl_c))))) (And.intro (And.intro (And.intro (@st_attr) (And.intro (@sz_attr) (@st1_attr))) (And.intro (@cl_attr) (And.intro (@st_hook) (@sz_hook)))) (And.intro (And.intro (@st1_hook) (And.intro (@cl_hook) (@st_node))) (And.intro (@sz_node) (And.intro (@st1_node) (@cl_node)))))) := And.intro (And.intro (And.intro (And.intro (@st_run) (And.intro (@sz_run) (@st1_run))) (And.intro (@cl_run) (And.intro (@st_Str) (@sz_Str)))) (And.intro (And.intro (@st1_Str) (And.intro (@cl_Str) (@st_c))) (And.intro (@sz_c) (And.intro (@st1_c) (@cl_c))))) (And.intro (And.intro (And.intro (@st_attr) (And.intro (@sz_attr) (@st1_attr))) (And.intro (@cl_attr) (And.intro (@st_hook) (@sz_hook)))) (And.intro (And.intro (@st1_hook) (And.intro (@cl_hook) (@st_node))) (And.intro (@sz_node) (And.intro (@st1_node) (@cl_node)))))
theorem zlRoute21 : type_of% (And.intro (And.intro (And.intro (And.intro (@lt_vi) (@lt_str)) (And.intro (@lt_vb) (And.intro (@ltc_str) (@ltc_vi)))) (And.intro (And.intro (@lt_run) (And.intro (@lt1_run) (@ltc_run))) (And.intro (@lt_Str) (And.intro (@lt1_Str) (@ltc_Str))))) (And.intro (And.intro (And.intro (@lt_c) (And.intro (@lt1_c) (@ltc_c))) (And.intro (@lt_attr) (And.intro (@lt1_attr) (@ltc_attr)))) (And.intro (And.intro (@lt_hook) (And.intro (@lt1_hook) (@ltc_hook))) (And.intro (@lt_node) (And.intro (@lt1_node) (@ltc_node)))))) := And.intro (And.intro (And.intro (And.intro (@lt_vi) (@lt_str)) (And.intro (@lt_vb) (And.intro (@ltc_str) (@ltc_vi)))) (And.intro (And.intro (@lt_run) (And.intro (@lt1_run) (@ltc_run))) (And.intro (@lt_Str) (And.intro (@lt1_Str) (@ltc_Str))))) (And.intro (And.intro (And.intro (@lt_c) (And.intro (@lt1_c) (@ltc_c))) (And.intro (@lt_attr) (And.intro (@lt1_attr) (@ltc_attr)))) (And.intro (And.intro (@lt_hook) (And.intro (@lt1_hook) (@ltc_hook))) (And.intro (@lt_node) (And.intro (@lt1_node) (@ltc_node)))))
theorem ysMonoB {P : Program} {l : Nat} {args : List V} {H : List Ob} {R R' : V → List Ob → Prop} (h : YSCall P l args H R) (hr : ∀ r H', R r H' → R' r H') : YSCall P l args H R' := by
  intro g w cargs hG ha
  obtain ⟨l', fn, tmps, body, h1, h2⟩ := h g w cargs hG ha
  exact ⟨l', fn, tmps, body, h1, h2.mono fun e w' ⟨v, he, r, H', g', k1, k2, k3, k4⟩ => ⟨v, he, r, H', g', k1, k2, k3, hr _ _ k4⟩⟩
theorem back (H : List Ob) (l : List Int) : SCall Try.prog 126 [.slice (l.map vi)] H (fun r H' => r = .fn (.func 164) [] [.ref H.length 0] ∧ H' = H ++ [.var [.slice (l.map vi)]]) := by
  refine SCall.of_good fun hH => ?_
  have hHk := HLt.add hH
  refine SCall.of_code Tok Try.func126 rfl Try.call126 (n := 4) rfl (by simp) (rs := [.tmp 2]) rfl ?_
  refine EWn.to ?_
  refine EWn.of_c Tok mixed (own := false) keep126 tab126 (by kernel_rfl) ?_
  (repeat simp -dsimp only [zrRoute21, xnils, xnilm, xrange, xmakeMap, xslice3, RB, TB, keep126, tab126, xindexAddr, xindex, xslice, xconvert, xlen, ewOp, FreeW, StabW, SameW, ChangeW, AddW, BaseW, limBytes, simprocAttr, ne_eq])
  refine RetW.auto false [.var [.slice (l.map vi)]] _ (by first | rfl | simp) ?_ ?_ ?_
  · (simp (maxDischargeDepth := 6) [LTB, HLt_set, ltL_take, ltL_drop, ltL_rep, ltL_set, upd, eset, hH, hHk, zlRoute21] <;> omega)
  · (simp (maxDischargeDepth := 6) [LTB, HLt_set, ltL_take, ltL_drop, ltL_rep, ltL_set, upd, eset, hH, hHk, zlRoute21] <;> omega)
  (try simp only [wk, wk1, wk0, RB, limBytes, simprocAttr, ne_eq])
  skip
/-- a place and what stands there, from the end -/
def visB (l : List Int) : List (Nat × Int) := l.zipIdx.reverse.map fun p => (p.2, p.1)
def encB (a : Nat × Int) : List V := [.int .i64 a.1, .int .i64 a.2]
theorem visB_len (l : List Int) : (visB l).length = l.length := by simp [visB]
theorem visB_get (l : List Int) (k : Nat) (hk : k < l.length) : (visB l)[k]? = some (l.length - 1 - k, l[l.length - 1 - k]'(by omega)) := by
  unfold visB
  rw [List.getElem?_map, List.getElem?_reverse (by simpa using hk)]
  simp only [List.length_zipIdx]
  rw [List.getElem?_eq_getElem (by simp; omega)]
  simp
theorem back1 {ι : Type} (hs : ι → List Ob) (ok : List (Nat × Int) → ι → Prop) (k0 : Nat) (hl : ∀ pre x, ok pre x → (hs x).length = k0 ∧ HLt k0 (hs x)) (lo : Nat) (l : List Int) (c : Nat) (x : ι) (R : List Ob) (hsz : l.length ≤ 1000000) (h0 : ok [] x) (hc : ∀ pre y, ok pre y → (hs y)[c]? = some (.var [.slice (l.map vi)]))
    (hY : ∀ pre a post x L, visB l = pre ++ a :: post → ok pre x → YSCall Try.prog lo (encB a) (hs x ++ (R ++ L)) (fun r H' => r = .bool true ∧ ∃ x', ok (pre ++ [a]) x' ∧ H' = hs x' ++ (R ++ L))) :
    SCall Try.prog 164 [.fn (.yield lo) [] [], .ref c 0] (hs x ++ R) (fun r H' => ∃ x', ok (visB l) x' ∧ H' = hs x' ++ R) := by
  refine SCall.of_good fun hH0 => ?_
  obtain ⟨hh, hhe⟩ : ∃ hh : ι → List Ob, ∀ y, hh y = hs y ++ R := ⟨_, fun _ => rfl⟩
  have hcc : ∀ pre y, ok pre y → ∀ K, (hh y ++ K)[c]? = some (.var [.slice (l.map vi)]) := fun pre y h K => by rw [hhe]; exact get_appD (get_appD (hc pre y h))
  have hcc0 : ∀ pre y, ok pre y → (hh y)[c]? = some (.var [.slice (l.map vi)]) := fun pre y h => by rw [hhe]; exact get_appD (hc pre y h)
  have hln : ∀ pre x', ok pre x' → (hh x').length = (hh x).length := fun pre x' h => by rw [hhe, hhe, List.length_append, List.length_append, (hl _ _ h).1, (hl _ _ h0).1]
  have hHx : ∀ pre x', ok pre x' → HLt (hh x).length (hh x') := fun pre x' h => by
    rw [hhe, hhe]
    rw [HLt_append] at hH0 ⊢
    exact ⟨(hl _ _ h).2.le (by rw [List.length_append, (hl _ _ h0).1]; omega), hH0.2⟩
  have hYh : ∀ pre a post x M, visB l = pre ++ a :: post → ok pre x → YSCall Try.prog lo (encB a) (hh x ++ M) (fun r H' => r = .bool true ∧ ∃ x', ok (pre ++ [a]) x' ∧ H' = hh x' ++ M) := fun pre a post x M h1 h2 => by
    rw [hhe, List.append_assoc]
    exact ysMonoB (hY pre a post x M h1 h2) fun r H' ⟨k1, x', k2, k3⟩ => ⟨k1, x', k2, by rw [k3, hhe, List.append_assoc]⟩
  have hfin : SCall Try.prog 164 [.fn (.yield lo) [] [], .ref c 0] (hh x) (fun r H' => ∃ x', ok (visB l) x' ∧ H' = hh x') → SCall Try.prog 164 [.fn (.yield lo) [] [], .ref c 0] (hs x ++ R) (fun r H' => ∃ x', ok (visB l) x' ∧ H' = hs x' ++ R) := fun h => by
    rw [← hhe]
    exact h.mono fun r H' ⟨x', k2, k3⟩ => ⟨x', k2, by rw [k3, hhe]⟩
  refine hfin ?_
  clear hfin
  have hclt := lt_of_get (hcc0 _ _ h0)
  have w0 : IntKind.i64.wrap ((l.length : Int) - 1) = (l.length : Int) - 1 := wrapI (by omega)
  have hx0 := hcc0 _ _ h0
  have hvl := visB_len l
  refine SCall.of_good fun hH => ?_
  have hHk := HLt.add hH
  refine SCall.of_code Tok Try.func164 rfl Try.call164 (n := 19) rfl (by simp) (rs := []) rfl ?_
  refine EWn.to ?_
  refine EWn.of_c Tok mixed (own := false) keep164 tab164 (by kernel_rfl) ?_
  (repeat simp -dsimp only [zrRoute21, xnils, xnilm, xrange, xmakeMap, xslice3, hx0, w0, RB, TB, keep164, tab164, xindexAddr, xindex, xslice, xconvert, xlen, ewOp, FreeW, StabW, SameW, ChangeW, AddW, BaseW, limBytes, simprocAttr, ne_eq])
  refine EWn.loopE (ι := (Nat) × (ι)) (fun (x_ : (Nat) × (ι)) => match x_ with | (i, y) => i ≤ l.length ∧ ok ((visB l).take i) y) (fun (x_ : (Nat) × (ι)) => match x_ with | (i, y) => l.length - i) (fun (x_ : (Nat) × (ι)) => match x_ with | (i, y) => [(3, .int .i64 ((l.length : Int) - 1 - i))]) (fun (x_ : (Nat) × (ι)) => match x_ with | (i, y) => hh y) (0, x) ?_ ?_ ?_ ?_ ?_
  · first | rfl | simp [upd, eset]
  · first | rfl | (simp; done) | exact (set_same (by assumption)).symm
  · rintro ⟨i, y⟩ ⟨h1, h2⟩
    have e1 := hln _ _ h2
    have hH1 := hHx _ _ h2
    simp only
    rw [e1]
    refine ⟨Nat.le_refl _, hH1, ?_⟩
    (simp (maxDischargeDepth := 6) [LTB, HLt_set, ltL_take, ltL_drop, ltL_rep, ltL_set, upd, eset, hH, hHk, hclt, zlRoute21] <;> omega)
  · exact ⟨Nat.zero_le _, by simpa using h0⟩
  rintro ⟨i, y⟩ ⟨hi, hy⟩
  (try simp only at hi hy)
  have e1 := hln _ _ hy
  have hH1 := hHx _ _ hy
  rw [← e1] at hH1
  have hgy := hcc0 _ _ hy
  refine EWn.of_c Tok mixed (own := false) keep164 tab164 (by kernel_rfl) ?_
  (repeat simp -dsimp only [zrRoute21, xnils, xnilm, xrange, xmakeMap, xslice3, hgy, RB, TB, keep164, tab164, xindexAddr, xindex, xslice, xconvert, xlen, ewOp, FreeW, StabW, SameW, ChangeW, AddW, BaseW, limBytes, simprocAttr, ne_eq])
  refine IfW.intro (fun h => ?_) (fun h => ?_)
  · have hlt : i < l.length := by
      have : (0 : Int) ≤ (l.length : Int) - 1 - i := by simpa using h
      omega
    have hg := visB_get l i hlt
    have hvi : i < (visB l).length := by omega
    have hge : (visB l)[i] = (l.length - 1 - i, l[l.length - 1 - i]'(by omega)) := by
      rw [List.getElem?_eq_getElem hvi] at hg; exact Option.some.inj hg
    have hsp : visB l = (visB l).take i ++ (l.length - 1 - i, l[l.length - 1 - i]'(by omega)) :: (visB l).drop (i + 1) := by
      rw [← hge]; simp
    have hmi := at_map vi l (l.length - 1 - i) (by omega)
    simp only [vi] at hmi
    have hj : ((l.length : Int) - 1 - i).toNat = l.length - 1 - i := by omega
    have hj2 : ((l.length : Int) - 1 - i) = ((l.length - 1 - i : Nat) : Int) := by omega
    have hyk := hYh _ _ _ y [] hsp hy
    simp only [encB, List.append_nil] at hyk
    (repeat (first | simp -dsimp only [zrRoute21, xnils, xnilm, xrange, xmakeMap, xslice3, h, hgy, hmi, hj, RB, TB, keep164, tab164, xindexAddr, xindex, xslice, xconvert, xlen, ewOp, FreeW, StabW, SameW, ChangeW, AddW, BaseW, limBytes, simprocAttr, ne_eq] | ((with_reducible refine Need.intro ?_ ?_); (omega))))
    rw [hj2]
    refine ysMonoB hyk ?_
    rintro _ _ ⟨rfl, y2, hy2, rfl⟩
    have w1 : IntKind.i64.wrap (((l.length - 1 - i : Nat) : Int) - 1) = (l.length : Int) - 1 - ((i + 1 : Nat) : Int) := by rw [wrapI (by omega)]; omega
    (repeat simp -dsimp only [zrRoute21, xnils, xnilm, xrange, xmakeMap, xslice3, h, w1, RB, TB, keep164, tab164, xindexAddr, xindex, xslice, xconvert, xlen, ewOp, FreeW, StabW, SameW, ChangeW, AddW, BaseW, limBytes, simprocAttr, ne_eq])
    refine UpTo.here ⟨(i + 1, y2), ⟨hlt, ?_⟩, by simp only; omega, by simp [upd, eset], ⟨[], by simp⟩⟩
    rw [List.take_succ_eq_append_getElem hvi, hge]
    exact hy2
  · have hie : i = l.length := by
      have : ¬ (0 : Int) ≤ (l.length : Int) - 1 - i := by simpa using h
      omega
    rw [show l.length = (visB l).length from hvl.symm] at hie
    subst hie
    rw [List.take_length] at hy
    (repeat simp -dsimp only [zrRoute21, xnils, xnilm, xrange, xmakeMap, xslice3, h, RB, TB, keep164, tab164, xindexAddr, xindex, xslice, xconvert, xlen, ewOp, FreeW, StabW, SameW, ChangeW, AddW, BaseW, limBytes, simprocAttr, ne_eq])
    refine RetW.keep false ?_ ?_ ?_ ?_
    · rw [e1]; exact Nat.le_refl _
    · exact hH1
    · intro x hx; cases hx
    exact ⟨y, hy, rfl⟩
/-- A CALL OF A FUNCTION THAT RANGES OVER A LIST FROM ITS END. -/
theorem ofBack {f : FuncId} {fn : Func} {c : Code} {args : List V} {H : List Ob} {R : V → List Ob → Prop} (hf : Try.prog.funcs[f]? = some fn) (hb : fn.body = some c) (hcall : ∀ args w, (callFunc f args).run Try.prog w = .ok (.enter f args) w)
    {n : Nat} (hn : fn.ntmps = n) (hargs : args.length ≤ n) {rs : List ResultVar} (hrs : fn.results = rs.toArray)
    (k : List Unit) {c1 ch post assign body : Code} {bid : Nat} {tg : Operand} {ps : Array Tmp} (hh : headC k c = c1) (ht : tailC k c = .seq (.seq ch (.block bid (.rangeFunc tg ps assign body))) post) (hl : longC k c = true)
    (keep : Nat → List Nat) (tab : Nat → List Nat × List Nat) (hok : okC n tab c1 = true) (hok2 : okC n tab ch = true)
    {env : Env} {cc : Nat} (l : List Int) (hsz : l.length ≤ 1000000) {ι : Type} (hs : ι → List Ob) (ok : List (Nat × Int) → ι → Prop) (x0 : ι) (eM : Nat × Int → Nat → Env) (M : Nat × Int → Nat → List Ob)
    (hhead : ewC Try.prog T false H.length n keep tab c1 (thenE (ewC Try.prog T false H.length n keep tab ch (thenE (UpTo H.length fun e h => e = env ∧ h = hs x0) (fun _ _ _ => False))) (fun _ _ _ => False)) (argEnv 0 args) H)
    (hg : evl env tg = .fn (.func 164) [] [.ref cc 0]) (hc : ∀ x, (hs x)[cc]? = some (.var [.slice (l.map vi)]))
    (h0 : ok [] x0) (hlen : ∀ x, (hs x).length = (hs x0).length) (hlt : ∀ pre x, ok pre x → HLt (hs x0).length (hs x)) (hp2 : ps.size = 2) (hps : ∀ t ∈ ps.toList, t < n) (hkn : ∀ p ∈ env, p.1 < n)
    (hassign : ∀ pre a post x R, visB l = pre ++ a :: post → ok pre x → EWn Try.prog (hs x ++ R).length n assign (thenE (fun e h => e = eM a (hs x ++ R).length ∧ h = hs x ++ R ++ M a (hs x ++ R).length) (fun _ _ _ => False)) (updP env (ps.toList.zip (encB a))) (hs x ++ R))
    (hbody : ∀ pre a post x R, visB l = pre ++ a :: post → ok pre x → HLt (hs x ++ R).length (hs x ++ R) → EWn Try.prog (hs x ++ R).length n body (fun e => UpTo (hs x ++ R).length (fun _ h => e = .normal ∧ ∃ x', ok (pre ++ [a]) x' ∧ h = hs x' ++ R)) (eM a (hs x ++ R).length) (hs x ++ R ++ M a (hs x ++ R).length))
    (hpost : ∀ D l' y vs cs x', ok (visB l) x' → EWn Try.prog H.length n post (RetD T rs H (hs x0).length D R) env (hs x' ++ [.raw D dfr [] [], .raw l' y vs cs])) : SCall Try.prog f args H R :=
  SCall.of_range Tok mixed hf hb hcall hn hargs hrs k hh ht hl keep tab hok hok2 (visB l) encB hs ok x0 eM M hhead Try.call164 hg h0 hlen (fun a => by simp [encB, hp2]) hps hkn
    (fun lo R hY => (back1 hs ok (hs x0).length (fun pre x h => ⟨hlen x, hlt pre x h⟩) lo l cc x0 R hsz h0 (fun pre y _ => hc y) (fun pre a post x L h1 h2 => hY pre a post x L h1 h2)))
    hassign hbody hpost
theorem updP_twoB (env : Env) (p q : Nat) (a : Nat × Int) : updP env (#[p, q].toList.zip (encB a)) = eset (eset env p (.int .i64 a.1)) q (.int .i64 a.2) := rfl
section
variable {H R M : List Ob}
theorem dropRB {n0 : Nat} {Q : Env → List Ob → Prop} {env : Env} (Hx : List Ob) {H L : List Ob} (he : H = Hx ++ L) (h0 : n0 ≤ Hx.length) (hH : HLt Hx.length Hx) (k : UpTo n0 Q [] Hx) : UpTo n0 Q env H := by
  subst he
  exact UpTo.step (Gho.restr []) (UpTo.step (drop_rest h0 hH (by simp [restr])) k)
end
theorem hltRB {H R A : List Ob} (A' : List Ob) (h : HLt (H ++ A ++ R).length (H ++ A ++ R)) (hl : A'.length = A.length) (hA : HLt (H.length + A.length + R.length) A') : HLt (H ++ (A' ++ R)).length (H ++ (A' ++ R)) := by
  have e : (H ++ (A' ++ R)).length = (H ++ A ++ R).length := by simp [hl]
  rw [e]
  rw [HLt_append] at h
  rw [HLt_append] at h
  rw [HLt_append, HLt_append]
  refine ⟨h.1.1, ?_, h.2⟩
  refine hA.le ?_
  simp
  try omega
end Go.Proofs.Ytjplgbalpnlanaa

/- The walks of package route: Path, Calls, of any arena. -/
set_option linter.unusedSimpArgs false
set_option linter.unusedVariables false
set_option maxRecDepth 100000
namespace Go.Proofs.Ytjplgbalpnlanaa
open Go Go.EL
theorem zrRoute31 : type_of% (And.intro (And.intro (And.intro (And.intro (@st_run) (And.intro (@sz_run) (@st1_run))) (And.intro (And.intro (@cl_run) (@st_Str)) (And.intro (@sz_Str) (@st1_Str)))) (And.intro (And.intro (@cl_Str) (And.intro (@st_c) (@sz_c))) (And.intro (And.intro (@st1_c) (@cl_c)) (And.intro (@st_attr) (@sz_attr))))) (And.intro (And.intro (And.intro (@st1_attr) (And.intro (@cl_attr) (@st_hook))) (And.intro (And.intro (@sz_hook) (@st1_hook)) (And.intro (@cl_hook) (@st_node)))) (And.intro (And.intro (@sz_node) (And.intro (@st1_node) (@cl_node))) (And.intro (And.intro (@st_callr) (@sz_callr)) (And.intro (@st1_callr) (@cl_callr)))))) := And.intro (And.intro (And.intro (And.intro (@st_run) (And.intro (@sz_run) (@st1_run))) (And.intro (And.intro (@cl_run) (@st_Str)) (And.intro (@sz_Str) (@st1_Str)))) (And.intro (And.intro (@cl_Str) (And.intro (@st_c) (@sz_c))) (And.intro (And.intro (@st1_c) (@cl_c)) (And.intro (@st_attr) (@sz_attr))))) (And.intro (And.intro (And.intro (@st1_attr) (And.intro (@cl_attr) (@st_hook))) (And.intro (And.intro (@sz_hook) (@st1_hook)) (And.intro (@cl_hook) (@st_node)))) (And.intro (And.intro (@sz_node) (And.intro (@st1_node) (@cl_node))) (And.intro (And.intro (@st_callr) (@sz_callr)) (And.intro (@st1_callr) (@cl_callr)))))
theorem zlRoute31 : type_of% (And.intro (And.intro (And.intro (And.intro (@lt_vi) (And.intro (@lt_str) (@lt_vb))) (And.intro (@ltc_str) (And.intro (@ltc_vi) (@lt_run)))) (And.intro (And.intro (@lt1_run) (And.intro (@ltc_run) (@lt_Str))) (And.intro (And.intro (@lt1_Str) (@ltc_Str)) (And.intro (@lt_c) (@lt1_c))))) (And.intro (And.intro (And.intro (@ltc_c) (And.intro (@lt_attr) (@lt1_attr))) (And.intro (@ltc_attr) (And.intro (@lt_hook) (@lt1_hook)))) (And.intro (And.intro (@ltc_hook) (And.intro (@lt_node) (@lt1_node))) (And.intro (And.intro (@ltc_node) (@lt_callr)) (And.intro (@lt1_callr) (@ltc_callr)))))) := And.intro (And.intro (And.intro (And.intro (@lt_vi) (And.intro (@lt_str) (@lt_vb))) (And.intro (@ltc_str) (And.intro (@ltc_vi) (@lt_run)))) (And.intro (And.intro (@lt1_run) (And.intro (@ltc_run) (@lt_Str))) (And.intro (And.intro (@lt1_Str) (@ltc_Str)) (And.intro (@lt_c) (@lt1_c))))) (And.intro (And.intro (And.intro (@ltc_c) (And.intro (@lt_attr) (@lt1_attr))) (And.intro (@ltc_attr) (And.intro (@lt_hook) (@lt1_hook)))) (And.intro (And.intro (@ltc_hook) (And.intro (@lt_node) (@lt1_node))) (And.intro (And.intro (@ltc_node) (@lt_callr)) (And.intro (@lt1_callr) (@ltc_callr)))))
/-- from the root down to a target, or its component's mount -/
def rPathG (a : Arena) (k : Nat) (target : Int) : List Int :=
  if (nget a.nodes target).isSome = true then pathG a target
  else if target < 0 ∨ target.tdiv 1048576 < 1 ∨ 4 ≤ target.tdiv 1048576 then []
  else if mountG a k (target.tdiv 1048576) = 0 then [] else pathG a (mountG a k (target.tdiv 1048576))
theorem rPath (H : List Ob) (A m : Nat) (a : Arena) (h : arenaAt H A m a) (hok : ∀ p ∈ a.nodes, okN p.2.2) (hN : a.nodes.length ≤ 1000000) (hky : Keyed a.nodes) (k : Nat) (hd : deepG a k 0) (hsz : (idsG a k 0).length ≤ 1000000) (target : Int) (ht : IntKind.i64.wrap (target.tdiv 1048576) = target.tdiv 1048576) : SCall Try.prog 62 [.ref A 0, .int .i64 target] H (fun r H' => r = .slice ((rPathG a k target).map vi) ∧ H' = H) := by
  have lA := (List.getElem?_eq_some_iff.1 h.1).1
  cases hs : (nget a.nodes target).isSome with
  | true =>
    refine SCall.of_good fun hH => ?_
    have hHk := HLt.add hH
    refine SCall.of_code Tok Try.func62 rfl Try.call62 (n := 33) rfl (by simp) (rs := [.tmp 4]) rfl ?_
    refine EWn.to ?_
    refine EWn.of_c Tok mixed (own := false) keep62 tab62 (by kernel_rfl) ?_
    (repeat simp -dsimp only [zrRoute31, xnils, xnilm, xrange, xmakeMap, xslice3, RB, TB, keep62, tab62, xindexAddr, xindex, xslice, xconvert, xlen, ewOp, FreeW, StabW, SameW, ChangeW, AddW, BaseW, limBytes, simprocAttr, ne_eq])
    (refine SCall.then (aHas _ A m a h target) ?_)
    (repeat simp -dsimp only [zrRoute31, xnils, xnilm, xrange, xmakeMap, xslice3, hs, RB, TB, keep62, tab62, xindexAddr, xindex, xslice, xconvert, xlen, ewOp, FreeW, StabW, SameW, ChangeW, AddW, BaseW, limBytes, simprocAttr, ne_eq])
    (refine SCall.then (dPath _ A m a h hok hN hky target) ?_)
    (repeat simp -dsimp only [zrRoute31, xnils, xnilm, xrange, xmakeMap, xslice3, RB, TB, keep62, tab62, xindexAddr, xindex, xslice, xconvert, xlen, ewOp, FreeW, StabW, SameW, ChangeW, AddW, BaseW, limBytes, simprocAttr, ne_eq])
    refine RetW.auto0 false _ (by first | rfl | exact (List.append_nil _).symm) ?_ ?_
    · (simp (maxDischargeDepth := 6) [LTB, HLt_set, ltL_take, ltL_drop, ltL_rep, ltL_set, upd, eset, hH, hHk, zlRoute31] <;> omega)
    (try simp only [wk, wk1, wk0, RB, limBytes, simprocAttr, ne_eq])
    skip
    simp [rPathG, hs]
  | false =>
    refine SCall.of_good fun hH => ?_
    have hHk := HLt.add hH
    refine SCall.of_code Tok Try.func62 rfl Try.call62 (n := 33) rfl (by simp) (rs := [.tmp 4]) rfl ?_
    refine EWn.to ?_
    refine EWn.of_c Tok mixed (own := false) keep62 tab62 (by kernel_rfl) ?_
    (repeat simp -dsimp only [zrRoute31, xnils, xnilm, xrange, xmakeMap, xslice3, RB, TB, keep62, tab62, xindexAddr, xindex, xslice, xconvert, xlen, ewOp, FreeW, StabW, SameW, ChangeW, AddW, BaseW, limBytes, simprocAttr, ne_eq])
    (refine SCall.then (aHas _ A m a h target) ?_)
    (repeat simp -dsimp only [zrRoute31, xnils, xnilm, xrange, xmakeMap, xslice3, hs, ht, RB, TB, keep62, tab62, xindexAddr, xindex, xslice, xconvert, xlen, ewOp, FreeW, StabW, SameW, ChangeW, AddW, BaseW, limBytes, simprocAttr, ne_eq])
    have hp0 : rPathG a k target = if target < 0 ∨ target.tdiv 1048576 < 1 ∨ 4 ≤ target.tdiv 1048576 then [] else if mountG a k (target.tdiv 1048576) = 0 then [] else pathG a (mountG a k (target.tdiv 1048576)) := by
      unfold rPathG
      rw [if_neg (by rw [hs]; simp)]
    rw [hp0]
    generalize target.tdiv 1048576 = q at *
    refine IfW.intro (fun h1 => ?_) (fun h1 => ?_)
    · rw [if_pos (.inl (of_decide_eq_true h1))]
      (repeat simp -dsimp only [zrRoute31, xnils, xnilm, xrange, xmakeMap, xslice3, h1, RB, TB, keep62, tab62, xindexAddr, xindex, xslice, xconvert, xlen, ewOp, FreeW, StabW, SameW, ChangeW, AddW, BaseW, limBytes, simprocAttr, ne_eq])
      refine RetW.auto0 false _ (by first | rfl | exact (List.append_nil _).symm) ?_ ?_
      · (simp (maxDischargeDepth := 6) [LTB, HLt_set, ltL_take, ltL_drop, ltL_rep, ltL_set, upd, eset, hH, hHk, zlRoute31] <;> omega)
      (try simp only [wk, wk1, wk0, RB, limBytes, simprocAttr, ne_eq])
      skip
    · have h1' := of_decide_eq_false h1
      (repeat simp -dsimp only [zrRoute31, xnils, xnilm, xrange, xmakeMap, xslice3, h1, RB, TB, keep62, tab62, xindexAddr, xindex, xslice, xconvert, xlen, ewOp, FreeW, StabW, SameW, ChangeW, AddW, BaseW, limBytes, simprocAttr, ne_eq])
      refine IfW.intro (fun h2 => ?_) (fun h2 => ?_)
      · rw [if_pos (.inr (.inl (of_decide_eq_true h2)))]
        (repeat simp -dsimp only [zrRoute31, xnils, xnilm, xrange, xmakeMap, xslice3, h2, RB, TB, keep62, tab62, xindexAddr, xindex, xslice, xconvert, xlen, ewOp, FreeW, StabW, SameW, ChangeW, AddW, BaseW, limBytes, simprocAttr, ne_eq])
        refine RetW.auto0 false _ (by first | rfl | exact (List.append_nil _).symm) ?_ ?_
        · (simp (maxDischargeDepth := 6) [LTB, HLt_set, ltL_take, ltL_drop, ltL_rep, ltL_set, upd, eset, hH, hHk, zlRoute31] <;> omega)
        (try simp only [wk, wk1, wk0, RB, limBytes, simprocAttr, ne_eq])
        skip
      · have h2' := of_decide_eq_false h2
        (repeat simp -dsimp only [zrRoute31, xnils, xnilm, xrange, xmakeMap, xslice3, h2, RB, TB, keep62, tab62, xindexAddr, xindex, xslice, xconvert, xlen, ewOp, FreeW, StabW, SameW, ChangeW, AddW, BaseW, limBytes, simprocAttr, ne_eq])
        refine IfW.intro (fun h3 => ?_) (fun h3 => ?_)
        · rw [if_pos (.inr (.inr (by simpa using h3)))]
          (repeat simp -dsimp only [zrRoute31, xnils, xnilm, xrange, xmakeMap, xslice3, h3, RB, TB, keep62, tab62, xindexAddr, xindex, xslice, xconvert, xlen, ewOp, FreeW, StabW, SameW, ChangeW, AddW, BaseW, limBytes, simprocAttr, ne_eq])
          refine RetW.auto0 false _ (by first | rfl | exact (List.append_nil _).symm) ?_ ?_
          · (simp (maxDischargeDepth := 6) [LTB, HLt_set, ltL_take, ltL_drop, ltL_rep, ltL_set, upd, eset, hH, hHk, zlRoute31] <;> omega)
          (try simp only [wk, wk1, wk0, RB, limBytes, simprocAttr, ne_eq])
          skip
        · have h3' : ¬ (4 ≤ q) := by simpa using h3
          rw [if_neg (fun e => by rcases e with e | e | e; exact h1' e; exact h2' e; exact h3' e)]
          (repeat simp -dsimp only [zrRoute31, xnils, xnilm, xrange, xmakeMap, xslice3, h3, RB, TB, keep62, tab62, xindexAddr, xindex, xslice, xconvert, xlen, ewOp, FreeW, StabW, SameW, ChangeW, AddW, BaseW, limBytes, simprocAttr, ne_eq])
          (refine SCall.then (sMount _ A m a hok h k hd hsz q) ?_)
          (repeat simp -dsimp only [zrRoute31, xnils, xnilm, xrange, xmakeMap, xslice3, RB, TB, keep62, tab62, xindexAddr, xindex, xslice, xconvert, xlen, ewOp, FreeW, StabW, SameW, ChangeW, AddW, BaseW, limBytes, simprocAttr, ne_eq])
          refine IfW.intro (fun h4 => ?_) (fun h4 => ?_)
          · rw [if_pos (by simpa using h4)]
            (repeat simp -dsimp only [zrRoute31, xnils, xnilm, xrange, xmakeMap, xslice3, h4, RB, TB, keep62, tab62, xindexAddr, xindex, xslice, xconvert, xlen, ewOp, FreeW, StabW, SameW, ChangeW, AddW, BaseW, limBytes, simprocAttr, ne_eq])
            refine RetW.auto0 false _ (by first | rfl | exact (List.append_nil _).symm) ?_ ?_
            · (simp (maxDischargeDepth := 6) [LTB, HLt_set, ltL_take, ltL_drop, ltL_rep, ltL_set, upd, eset, hH, hHk, zlRoute31] <;> omega)
            (try simp only [wk, wk1, wk0, RB, limBytes, simprocAttr, ne_eq])
            skip
          · rw [if_neg (by simpa using h4)]
            (repeat simp -dsimp only [zrRoute31, xnils, xnilm, xrange, xmakeMap, xslice3, h4, RB, TB, keep62, tab62, xindexAddr, xindex, xslice, xconvert, xlen, ewOp, FreeW, StabW, SameW, ChangeW, AddW, BaseW, limBytes, simprocAttr, ne_eq])
            (refine SCall.then (dPath _ A m a h hok hN hky (mountG a k q)) ?_)
            (repeat simp -dsimp only [zrRoute31, xnils, xnilm, xrange, xmakeMap, xslice3, RB, TB, keep62, tab62, xindexAddr, xindex, xslice, xconvert, xlen, ewOp, FreeW, StabW, SameW, ChangeW, AddW, BaseW, limBytes, simprocAttr, ne_eq])
            refine RetW.auto0 false _ (by first | rfl | exact (List.append_nil _).symm) ?_ ?_
            · (simp (maxDischargeDepth := 6) [LTB, HLt_set, ltL_take, ltL_drop, ltL_rep, ltL_set, upd, eset, hH, hHk, zlRoute31] <;> omega)
            (try simp only [wk, wk1, wk0, RB, limBytes, simprocAttr, ne_eq])
            skip
def phB (i many : Nat) (other : Int) : Int := if i + 1 = many then 2 else other
def callsA (a : Arena) (ev : Int) (l : List Int) (cap : Bool) (other : Int) (v : List (Nat × Int)) : List Callr := v.flatMap fun p => toldF (nodeAt a p.2) ev cap (phB p.1 l.length other) (nodeAt a p.2).hooks
def visF (l : List Int) : List (Nat × Int) := l.zipIdx.map fun p => (p.2, p.1)
theorem visF_get (l : List Int) (i : Nat) (h : i < l.length) : (visF l)[i]? = some (i, l[i]) := by
  unfold visF
  rw [List.getElem?_map, List.getElem?_zipIdx, List.getElem?_eq_getElem h]; simp
theorem visF_len (l : List Int) : (visF l).length = l.length := by simp [visF]
theorem callsA_app (a : Arena) (ev : Int) (l : List Int) (cap : Bool) (other : Int) (v w : List (Nat × Int)) : callsA a ev l cap other (v ++ w) = callsA a ev l cap other v ++ callsA a ev l cap other w := by unfold callsA; rw [List.flatMap_append]
theorem callsA_one (a : Arena) (ev : Int) (l : List Int) (cap : Bool) (other : Int) (p : Nat × Int) : callsA a ev l cap other [p] = toldF (nodeAt a p.2) ev cap (phB p.1 l.length other) (nodeAt a p.2).hooks := by simp [callsA]
theorem nodeAt_hooks {a : Arena} {B : Nat} (hB : ∀ p ∈ a.nodes, p.2.2.hooks.length ≤ B) (id : Int) : (nodeAt a id).hooks.length ≤ B := by
  unfold nodeAt
  cases hn : nget a.nodes id with
  | none => simp [nodeZ]
  | some n =>
    obtain ⟨p, hp, rfl⟩ := nget_mem hn
    exact hB p hp
theorem callsA_len {a : Arena} {B : Nat} (hB : ∀ p ∈ a.nodes, p.2.2.hooks.length ≤ B) (ev : Int) (l : List Int) (cap : Bool) (other : Int) : ∀ v : List (Nat × Int), (callsA a ev l cap other v).length ≤ v.length * B
  | [] => by simp [callsA]
  | p :: v => by
    have h1 := callsA_len hB ev l cap other v
    have h2 := toldF_len (nodeAt a p.2) ev cap (phB p.1 l.length other) (nodeAt a p.2).hooks
    have h3 := nodeAt_hooks hB p.2
    rw [show p :: v = [p] ++ v from rfl, callsA_app, callsA_one, List.length_append, List.length_append, List.length_singleton, Nat.add_mul]
    omega
section
variable {H R M : List Ob} {a b c d e f : Ob}
theorem hgetR6 : (H ++ a :: b :: c :: d :: e :: f :: (R ++ M))[H.length + (R.length + 6)]? = M[0]? := by
  have h : H ++ a :: b :: c :: d :: e :: f :: (R ++ M) = (H ++ a :: b :: c :: d :: e :: f :: R) ++ M := by simp
  rw [h, show H.length + (R.length + 6) = (H ++ a :: b :: c :: d :: e :: f :: R).length from by simp, hget0]
theorem hsetR6 {x : Ob} : (H ++ a :: b :: c :: d :: e :: f :: (R ++ M)).set (H.length + (R.length + 6)) x = H ++ a :: b :: c :: d :: e :: f :: (R ++ M.set 0 x) := by
  have h : H ++ a :: b :: c :: d :: e :: f :: (R ++ M) = (H ++ a :: b :: c :: d :: e :: f :: R) ++ M := by simp
  rw [h, show H.length + (R.length + 6) = (H ++ a :: b :: c :: d :: e :: f :: R).length from by simp, hset0]
  simp
end
/-- who is told -/
def callsG (a : Arena) (ev : Int) (l : List Int) : List Callr := callsA a ev l true 1 (visF l) ++ callsA a ev l false 3 (visB l)
theorem rPhB (H : List Ob) (i : Nat) (l : List Int) (other : Int) (hi : i ≤ 1000) (hl : l.length ≤ 1000) : SCall Try.prog 125 [.int .i64 i, .int .i64 (l.map vi).length, .int .i64 other] H (fun r H' => r = .int .i64 (phB i l.length other) ∧ H' = H) := by
  rw [List.length_map]
  refine (rPhase H i l.length other ⟨by omega, by omega⟩).mono fun r H' h => ⟨?_, h.2⟩
  rw [h.1]
  unfold phB
  congr 1
  by_cases e : i + 1 = l.length
  · rw [if_pos e, if_pos (by omega)]
  · rw [if_neg e, if_neg (by omega)]
set_option maxHeartbeats 4000000 in
theorem rCalls (H : List Ob) (A m : Nat) (a : Arena) (h : arenaAt H A m a) (hok : ∀ p ∈ a.nodes, okN p.2.2) (hN : a.nodes.length ≤ 1000000) (hky : Keyed a.nodes) (k : Nat) (hd : deepG a k 0) (hsz : (idsG a k 0).length ≤ 1000000) (target ev : Int) (ht : IntKind.i64.wrap (target.tdiv 1048576) = target.tdiv 1048576)
    (hB : ∀ p ∈ a.nodes, p.2.2.hooks.length ≤ 2000000) (hP : (rPathG a k target).length ≤ 100) : SCall Try.prog 64 [.ref A 0, .int .i64 target, .int .i64 ev] H (fun r H' => r = .slice ((callsG a ev (rPathG a k target)).map callV) ∧ H' = H) := by
  have lA := (List.getElem?_eq_some_iff.1 h.1).1
  obtain ⟨l, hl⟩ : ∃ l, l = rPathG a k target := ⟨_, rfl⟩
  have hpath := fun K => rPath (H ++ K) A m a (arena_app h K) hok hN hky k hd hsz target ht
  rw [← hl] at hP hpath ⊢
  clear hl
  have hlen1 := callsA_len hB ev l true 1 (visF l)
  rw [visF_len] at hlen1
  have hlen1 : (callsA a ev l true 1 (visF l)).length ≤ 200000000 := Nat.le_trans hlen1 (by omega)
  refine SCall.of_good fun hH => ?_
  have hHk := HLt.add hH
  refine ofBack (env := [(3, .ref H.length 0), (5, .ref (H.length + 1) 0), (7, .ref (H.length + 2) 0), (8, .ref (H.length + 3) 0), (44, .fn (.func 164) [] [.ref (H.length + 5) 0])]) (cc := H.length + 5) Try.func64 rfl Try.call64 (n := 63) rfl (by simp) (rs := [.tmp 6]) rfl [(), (), ()] (by simp only [headC]; rfl) (by simp only [tailC]; rfl) (by kernel_rfl) keep64 tab64 (by kernel_rfl) (by kernel_rfl) (l) ((by omega)) (ι := (List Callr) × (Nat)) (fun (x_ : (List Callr) × (Nat)) => match x_ with | (L, ver) => H ++ [.var [.ref A 0], .var [.int .i64 ev], .var [.vec (H.length + 4) ver 0 L.length], .var [.slice (l.map vi)], .vec ver 4 (L.map callV), .var [.slice (l.map vi)]]) (fun pre_ => fun (x_ : (List Callr) × (Nat)) => match x_ with | (L, ver) => L = callsA a ev l true 1 (visF l) ++ callsA a ev l false 3 pre_) ((callsA a ev l true 1 (visF l)), 1 + l.length) (fun a_ N_ => [(3, .ref H.length 0), (5, .ref (H.length + 1) 0), (7, .ref (H.length + 2) 0), (8, .ref (H.length + 3) 0), (13, .int .i64 a_.1), (14, .int .i64 a_.2)]) (fun a_ N_ => []) ?_ rfl (by intro x_; first | (rw [hget0]; rfl) | (rw [hget]; rfl)) ?_ (fun _ => by simp) ?_ rfl (by simp) (by simp) ?_ ?_ ?_
  · (repeat simp -dsimp only [zrRoute31, xnils, xnilm, xrange, xmakeMap, xslice3, RB, TB, keep64, tab64, xindexAddr, xindex, xslice, xconvert, xlen, ewOp, FreeW, StabW, SameW, ChangeW, AddW, BaseW, limBytes, simprocAttr, ne_eq])
    (refine SCall.then (hpath _) ?_)
    (repeat simp -dsimp only [zrRoute31, xnils, xnilm, xrange, xmakeMap, xslice3, RB, TB, keep64, tab64, xindexAddr, xindex, xslice, xconvert, xlen, ewOp, FreeW, StabW, SameW, ChangeW, AddW, BaseW, limBytes, simprocAttr, ne_eq])
    refine EWn.ghost (Gho.adoptCell (H.length + 2) 0 4 (by simp only [RB, hget]; rfl) rfl (by simp)) ?_
    simp only [RB, limBytes, simprocAttr, ne_eq]
    obtain ⟨cd, hcd⟩ : ∃ cd : Nat → List Callr, ∀ i, cd i = callsA a ev l true 1 ((visF l).take i) := ⟨_, fun _ => rfl⟩
    have hcd0 : cd 0 = [] := by rw [hcd]; simp [callsA]
    have hcdn : callsA a ev l true 1 (visF l) = cd l.length := by rw [hcd, ← visF_len, List.take_length]
    have hcds : ∀ i, (hi : i < l.length) → cd (i + 1) = cd i ++ toldF (nodeAt a l[i]) ev true (phB i l.length 1) (nodeAt a l[i]).hooks := fun i hi => by
      have hvi : i < (visF l).length := by rw [visF_len]; exact hi
      have hg := visF_get l i hi
      rw [List.getElem?_eq_getElem hvi] at hg
      rw [hcd, hcd, List.take_succ_eq_append_getElem hvi, callsA_app, Option.some.inj hg, callsA_one]
    have hcdl : ∀ i, (cd i).length ≤ 200000000 := fun i => by
      rw [hcd]
      have h1 := callsA_len hB ev l true 1 ((visF l).take i)
      have h2 : ((visF l).take i).length ≤ 100 := by rw [List.length_take, visF_len]; omega
      have h3 : ((visF l).take i).length * 2000000 ≤ 100 * 2000000 := Nat.mul_le_mul_right _ h2
      omega
    rw [hcdn]
    clear hcd hcdn hlen1
    refine EWn.loopE (ι := (Nat)) (fun (i : (Nat)) => i ≤ l.length) (fun (i : (Nat)) => l.length - i) (fun (i : (Nat)) => [(22, .int .i64 i)]) (fun (i : (Nat)) => H ++ [.var [.ref A 0], .var [.int .i64 ev], .var [.vec (H.length + 4) (1 + i) 0 (cd i).length], .var [.slice (l.map vi)], .vec (1 + i) 4 ((cd i).map callV)]) (0) ?_ ?_ ?_ ?_ ?_
    · first | rfl | (simp [upd, eset]; done) | (simp [upd, eset, hcd0, vi]; done)
    · simp [hcd0, vi]
    · rintro i hok; exact ⟨by first | (simp; done) | (simp; omega), by (simp (maxDischargeDepth := 6) [LTB, HLt_set, ltL_take, ltL_drop, ltL_rep, ltL_set, upd, eset, hH, hHk, zlRoute31] <;> omega), by (simp (maxDischargeDepth := 6) [LTB, HLt_set, ltL_take, ltL_drop, ltL_rep, ltL_set, upd, eset, hH, hHk, zlRoute31] <;> omega)⟩
    · omega
    rintro i hi
    have hcl := hcdl i
    refine EWn.of_c Tok mixed (own := false) keep64 tab64 (by kernel_rfl) ?_
    (repeat simp -dsimp only [zrRoute31, xnils, xnilm, xrange, xmakeMap, xslice3, RB, TB, keep64, tab64, xindexAddr, xindex, xslice, xconvert, xlen, ewOp, FreeW, StabW, SameW, ChangeW, AddW, BaseW, limBytes, simprocAttr, ne_eq])
    refine IfW.intro (fun hs => ?_) (fun hs => ?_)
    · have hlt := lt_of hs
      have hmi := at_map vi l i hlt
      simp only [vi] at hmi
      have hsucc := hcds i hlt
      have hhk := nodeAt_hooks hB l[i]
      (repeat (first | simp -dsimp only [zrRoute31, xnils, xnilm, xrange, xmakeMap, xslice3, hs, hmi, RB, TB, keep64, tab64, xindexAddr, xindex, xslice, xconvert, xlen, ewOp, FreeW, StabW, SameW, ChangeW, AddW, BaseW, limBytes, simprocAttr, ne_eq] | ((with_reducible refine Need.intro ?_ ?_); (omega))))
      (refine SCall.then (aGetF _ A m a (arena_app h _) hok l[i]) ?_)
      (repeat simp -dsimp only [zrRoute31, xnils, xnilm, xrange, xmakeMap, xslice3, nodeV, RB, TB, keep64, tab64, xindexAddr, xindex, xslice, xconvert, xlen, ewOp, FreeW, StabW, SameW, ChangeW, AddW, BaseW, limBytes, simprocAttr, ne_eq])
      refine CallE.intro _ (rPhB _ i l 1 (by omega) (by omega)) ?_
      skip
      refine CallE.intro _ (rTold _ (nodeAt a l[i]) ev true (phB i l.length 1) (by omega)) ?_
      have hl2 := toldF_len (nodeAt a l[i]) ev true (phB i l.length 1) (nodeAt a l[i]).hooks
      generalize toldF (nodeAt a l[i]) ev true (phB i l.length 1) (nodeAt a l[i]).hooks = l2 at *
      have hl2b : l2.length ≤ 2000000 := Nat.le_trans hl2 hhk
      (repeat (first | simp -dsimp only [zrRoute31, xnils, xnilm, xrange, xmakeMap, xslice3, nodeV, RB, TB, keep64, tab64, xindexAddr, xindex, xslice, xconvert, xlen, ewOp, FreeW, StabW, SameW, ChangeW, AddW, BaseW, limBytes, simprocAttr, ne_eq] | ((with_reducible refine Need.intro ?_ ?_); (omega))))
      rw [wrapI (by omega)]
      refine UpTo.here ⟨i + 1, hlt, by simp only; omega, by simp [upd, eset], ⟨_, by simp only [hsucc, List.map_append, List.length_append]; simp; rfl⟩⟩
    · have hi2 : i = l.length := Nat.le_antisymm hi (ge_of hs)
      subst hi2
      (repeat simp -dsimp only [zrRoute31, xnils, xnilm, xrange, xmakeMap, xslice3, hs, RB, TB, keep64, tab64, xindexAddr, xindex, xslice, xconvert, xlen, ewOp, FreeW, StabW, SameW, ChangeW, AddW, BaseW, limBytes, simprocAttr, ne_eq])
      (refine SCall.then (back _ l) ?_)
      (repeat simp -dsimp only [zrRoute31, xnils, xnilm, xrange, xmakeMap, xslice3, RB, TB, keep64, tab64, xindexAddr, xindex, xslice, xconvert, xlen, ewOp, FreeW, StabW, SameW, ChangeW, AddW, BaseW, limBytes, simprocAttr, ne_eq])
      exact UpTo.here ⟨by simp [restr, eget], by simp⟩
  · simp [callsA]
  · rintro pre ⟨L, ver⟩ h
    (simp (maxDischargeDepth := 6) [LTB, HLt_set, ltL_take, ltL_drop, ltL_rep, ltL_set, upd, eset, hH, hHk, zlRoute31] <;> omega)
  · rintro pre a post ⟨L, ver⟩ R hv h
    rw [updP_twoB]
    simp only [eset, limBytes, simprocAttr, ne_eq]
    refine EWn.of_c Tok mixed (own := false) keep64 tab64 (by kernel_rfl) ?_
    (repeat simp -dsimp only [zrRoute31, xnils, xnilm, xrange, xmakeMap, xslice3, RB, TB, keep64, tab64, xindexAddr, xindex, xslice, xconvert, xlen, ewOp, FreeW, StabW, SameW, ChangeW, AddW, BaseW, limBytes, simprocAttr, ne_eq])
  · rintro pre a_ post ⟨L, ver⟩ R hv hq hHR
    have hq : L = callsA a ev l true 1 (visF l) ++ callsA a ev l false 3 pre := hq
    have hvl : pre.length + 1 + post.length = l.length := by rw [← visB_len l, hv]; simp; omega
    have hLl : L.length ≤ 400000000 := by
      have h1 := callsA_len hB ev l false 3 pre
      have h2 : pre.length * 2000000 ≤ 100 * 2000000 := Nat.mul_le_mul_right _ (by omega)
      rw [hq, List.length_append]; omega
    have hsucc : L ++ toldF (nodeAt a a_.2) ev false (phB a_.1 l.length 3) (nodeAt a a_.2).hooks = callsA a ev l true 1 (visF l) ++ callsA a ev l false 3 (pre ++ [a_]) := by rw [hq, callsA_app, callsA_one, List.append_assoc]
    have ha1 : a_.1 ≤ 1000 := by
      have hm : a_ ∈ visB l := by rw [hv]; simp
      unfold visB at hm
      obtain ⟨p, hp, rfl⟩ := List.mem_map.1 hm
      rw [List.mem_reverse] at hp
      obtain ⟨_, h2, _⟩ := List.mem_zipIdx hp
      simp only
      omega
    have hhk := nodeAt_hooks hB a_.2
    clear hq
    refine EWn.of_c Tok mixed (own := false) keep64 tab64 (by kernel_rfl) ?_
    (repeat simp -dsimp only [zrRoute31, xnils, xnilm, xrange, xmakeMap, xslice3, hgetR6, hsetR6, RB, TB, keep64, tab64, xindexAddr, xindex, xslice, xconvert, xlen, ewOp, FreeW, StabW, SameW, ChangeW, AddW, BaseW, limBytes, simprocAttr, ne_eq])
    (refine SCall.then (aGetF _ A m a (arena_app h _) hok a_.2) ?_)
    (repeat simp -dsimp only [zrRoute31, xnils, xnilm, xrange, xmakeMap, xslice3, nodeV, hgetR6, hsetR6, RB, TB, keep64, tab64, xindexAddr, xindex, xslice, xconvert, xlen, ewOp, FreeW, StabW, SameW, ChangeW, AddW, BaseW, limBytes, simprocAttr, ne_eq])
    refine CallE.intro _ (rPhB _ a_.1 l 3 (by omega) (by omega)) ?_
    skip
    refine CallE.intro _ (rTold _ (nodeAt a a_.2) ev false (phB a_.1 l.length 3) (by omega)) ?_
    have hl2 := toldF_len (nodeAt a a_.2) ev false (phB a_.1 l.length 3) (nodeAt a a_.2).hooks
    generalize toldF (nodeAt a a_.2) ev false (phB a_.1 l.length 3) (nodeAt a a_.2).hooks = l2 at *
    have hl2b : l2.length ≤ 2000000 := Nat.le_trans hl2 hhk
    (repeat (first | simp -dsimp only [zrRoute31, xnils, xnilm, xrange, xmakeMap, xslice3, nodeV, hgetR6, hsetR6, RB, TB, keep64, tab64, xindexAddr, xindex, xslice, xconvert, xlen, ewOp, FreeW, StabW, SameW, ChangeW, AddW, BaseW, limBytes, simprocAttr, ne_eq] | ((with_reducible refine Need.intro ?_ ?_); (omega))))
    refine dropRB (H ++ .var [.ref A 0] :: .var [.int .i64 ev] :: .var [.vec (H.length + 4) (ver + 1) 0 (L ++ l2).length] :: .var [.slice (l.map vi)] :: .vec (ver + 1) 4 ((L ++ l2).map callV) :: .var [.slice (l.map vi)] :: R) (by simp; try rfl) (by simp) ?_ (UpTo.here ⟨rfl, (L ++ l2, ver + 1), hsucc, by first | (simp; done) | (simp; rfl)⟩)
    exact hltRB [.var [.ref A 0], .var [.int .i64 ev], .var [.vec (H.length + 4) (ver + 1) 0 (L ++ l2).length], .var [.slice (l.map vi)], .vec (ver + 1) 4 ((L ++ l2).map callV), .var [.slice (l.map vi)]] hHR rfl (by (simp (maxDischargeDepth := 6) [LTB, HLt_set, ltL_take, ltL_drop, ltL_rep, ltL_set, upd, eset, hH, hHk, zlRoute31] <;> omega))
  · rintro D l' y vs cs ⟨L, ver⟩ hq
    have hq : L = callsG a ev l := hq
    subst hq
    refine EWn.of_c Tok mixed (own := false) keep64 tab64 (by kernel_rfl) ?_
    (repeat simp -dsimp only [zrRoute31, xnils, xnilm, xrange, xmakeMap, xslice3, RB, TB, keep64, tab64, xindexAddr, xindex, xslice, xconvert, xlen, ewOp, FreeW, StabW, SameW, ChangeW, AddW, BaseW, limBytes, simprocAttr, ne_eq])
    refine ⟨by (first | rw [hget] | rw [hget0]); rfl, ?_⟩
    (repeat simp -dsimp only [zrRoute31, xnils, xnilm, xrange, xmakeMap, xslice3, hset, RB, TB, keep64, tab64, xindexAddr, xindex, xslice, xconvert, xlen, ewOp, FreeW, StabW, SameW, ChangeW, AddW, BaseW, limBytes, simprocAttr, ne_eq])
    refine RetW.auto0 false _ (by first | rfl | exact (List.append_nil _).symm) ?_ ?_
    · (simp (maxDischargeDepth := 6) [LTB, HLt_set, ltL_take, ltL_drop, ltL_rep, ltL_set, upd, eset, hH, hHk, zlRoute31] <;> omega)
    (try simp only [wk, wk1, wk0, RB, limBytes, simprocAttr, ne_eq])
    (try (rw [List.take_of_length_le]; rotate_left 1; (· first | (simp; done) | (simp; omega) | omega)))
    all_goals simp
end Go.Proofs.Ytjplgbalpnlanaa

/- The example of chapter 29. -/
set_option maxHeartbeats 600000
set_option linter.unusedSimpArgs false
set_option linter.unusedVariables false
set_option maxRecDepth 100000
namespace Go.Proofs.Ytjplgbalpnlanaa
open Go Go.EL
theorem zrRoute41 : type_of% (And.intro (And.intro (And.intro (And.intro (@st_run) (And.intro (@sz_run) (@st1_run))) (And.intro (And.intro (@cl_run) (@st_Str)) (And.intro (@sz_Str) (@st1_Str)))) (And.intro (And.intro (@cl_Str) (And.intro (@st_c) (@sz_c))) (And.intro (And.intro (@st1_c) (@cl_c)) (And.intro (@st_attr) (@sz_attr))))) (And.intro (And.intro (And.intro (@st1_attr) (And.intro (@cl_attr) (@st_hook))) (And.intro (And.intro (@sz_hook) (@st1_hook)) (And.intro (@cl_hook) (@st_node)))) (And.intro (And.intro (@sz_node) (And.intro (@st1_node) (@cl_node))) (And.intro (And.intro (@st_callr) (@sz_callr)) (And.intro (@st1_callr) (@cl_callr)))))) := And.intro (And.intro (And.intro (And.intro (@st_run) (And.intro (@sz_run) (@st1_run))) (And.intro (And.intro (@cl_run) (@st_Str)) (And.intro (@sz_Str) (@st1_Str)))) (And.intro (And.intro (@cl_Str) (And.intro (@st_c) (@sz_c))) (And.intro (And.intro (@st1_c) (@cl_c)) (And.intro (@st_attr) (@sz_attr))))) (And.intro (And.intro (And.intro (@st1_attr) (And.intro (@cl_attr) (@st_hook))) (And.intro (And.intro (@sz_hook) (@st1_hook)) (And.intro (@cl_hook) (@st_node)))) (And.intro (And.intro (@sz_node) (And.intro (@st1_node) (@cl_node))) (And.intro (And.intro (@st_callr) (@sz_callr)) (And.intro (@st1_callr) (@cl_callr)))))
theorem zlRoute41 : type_of% (And.intro (And.intro (And.intro (And.intro (@lt_vi) (And.intro (@lt_str) (@lt_vb))) (And.intro (@ltc_str) (And.intro (@ltc_vi) (@lt_run)))) (And.intro (And.intro (@lt1_run) (And.intro (@ltc_run) (@lt_Str))) (And.intro (And.intro (@lt1_Str) (@ltc_Str)) (And.intro (@lt_c) (@lt1_c))))) (And.intro (And.intro (And.intro (@ltc_c) (And.intro (@lt_attr) (@lt1_attr))) (And.intro (@ltc_attr) (And.intro (@lt_hook) (@lt1_hook)))) (And.intro (And.intro (@ltc_hook) (And.intro (@lt_node) (@lt1_node))) (And.intro (And.intro (@ltc_node) (@lt_callr)) (And.intro (@lt1_callr) (@ltc_callr)))))) := And.intro (And.intro (And.intro (And.intro (@lt_vi) (And.intro (@lt_str) (@lt_vb))) (And.intro (@ltc_str) (And.intro (@ltc_vi) (@lt_run)))) (And.intro (And.intro (@lt1_run) (And.intro (@ltc_run) (@lt_Str))) (And.intro (And.intro (@lt1_Str) (@ltc_Str)) (And.intro (@lt_c) (@lt1_c))))) (And.intro (And.intro (And.intro (@ltc_c) (And.intro (@lt_attr) (@lt1_attr))) (And.intro (@ltc_attr) (And.intro (@lt_hook) (@lt1_hook)))) (And.intro (And.intro (@ltc_hook) (And.intro (@lt_node) (@lt1_node))) (And.intro (And.intro (@ltc_node) (@lt_callr)) (And.intro (@lt1_callr) (@ltc_callr)))))
/-- a new arena with one node in the root -/
def inA : Arena := { oneA 1 with nodes := insNodes (oneA 1).nodes 0 1 rootN (madeN 1 1 tagP [] 0) }
def inW : Node := setN (madeN 1 1 tagP [] 0) (parN (madeN 1 1 tagP [] 0) 0)
/-- .. that has a hook -/
def hookA : Arena := { inA with nodes := nset inA.nodes 1 (setN inW { ownN inW with hooks := [⟨2, false, 7⟩] }) }
theorem ok_in : ∀ p ∈ inA.nodes, okN p.2.2 := ok_ins (ok_one 1) okRoot (okN_made okP _ _ _ _) (by simp [rootN])
theorem okInW : okN inW := okN_set (okN_made okP _ _ _ _) (okN_par (okN_made okP _ _ _ _) _)
theorem ok_hook : ∀ p ∈ hookA.nodes, okN p.2.2 := ok_nset (okN_set okInW (by
  obtain ⟨o1, o2, o3, o4, o5, o6⟩ := okN_own okInW
  exact ⟨o1, o2, o3, o4, by simp, o6⟩)) ok_in
theorem hook_path : rPathG hookA 2 1 = [0, 1] := rfl
theorem hook_calls : callsG hookA 2 [0, 1] = [⟨0, 7, 1, 2⟩] := rfl
theorem hook_keys : Keyed hookA.nodes := by
  intro p hp
  have hp : p ∈ [((0 : Int), (0 : Nat), setN rootN (kidN rootN 1)), (1, 1, setN inW { ownN inW with hooks := [⟨2, false, 7⟩] })] := hp
  simp only [List.mem_cons, List.not_mem_nil, or_false] at hp
  rcases hp with rfl | rfl <;> rfl
theorem hook_deep : deepG hookA 2 0 := by
  intro n hn c hc
  have hn : some (setN rootN (kidN rootN 1)) = some n := hn
  injection hn with hn
  subst hn
  have hc : c ∈ [(1 : Int)] := hc
  simp only [List.mem_singleton] at hc
  subst hc
  intro n hn c hc
  have hn : some (setN inW { ownN inW with hooks := [⟨2, false, 7⟩] }) = some n := hn
  injection hn with hn
  subst hn
  have hc : c ∈ ([] : List Int) := hc
  cases hc
theorem alive29 (H : List Ob) : SCall Try.prog 59 [] H (fun r H' => r = .bool true ∧ H' = H) := by
  have hA0 : arenaAt (H ++ [.map (encM newA.nodes) 1, .var (.mapr H.length :: (newA.used.map vi ++ newA.live.map vi))]) (H.length + 1) H.length newA := ⟨by simp, by simp; rfl, rfl, rfl⟩
  have hM : SCall Try.prog 37 [.ref (H.length + 1) 0, .int .i64 0, .int .i64 1, strV tagP, .str [], .int .i64 0] (H ++ [.map (encM newA.nodes) 1, .var (.mapr H.length :: (newA.used.map vi ++ newA.live.map vi))]) (fun r H' => r = .tuple [.int .i64 1, .int .i64 0] ∧ H' = H ++ [.map (encM (oneA 1).nodes) 2, .var [.mapr H.length, .int .i64 1, .int .i64 0, .int .i64 0, .int .i64 0, .int .i64 2, .int .i64 0, .int .i64 0, .int .i64 0]]) := SCall.mono (aMake0 (H ++ [.map (encM newA.nodes) 1, .var (.mapr H.length :: (newA.used.map vi ++ newA.live.map vi))]) (H.length + 1) H.length newA.nodes 1 0 0 0 0 1 0 0 0 hA0 (by omega) (by omega) (by omega) (by omega) 1 ⟨by omega, by omega⟩ tagP okP [] 0 rfl (by omega)) fun r H' h => ⟨h.1, by rw [h.2]; simp; rfl⟩
  have hA1 : arenaAt (H ++ [.map (encM (oneA 1).nodes) 2, .var [.mapr H.length, .int .i64 1, .int .i64 0, .int .i64 0, .int .i64 0, .int .i64 2, .int .i64 0, .int .i64 0, .int .i64 0]]) (H.length + 1) H.length (oneA 1) := ⟨by simp; rfl, by simp; rfl, rfl, rfl⟩
  have hI : SCall Try.prog 68 [.ref (H.length + 1) 0, .int .i64 0, .int .i64 0, .int .i64 1] (H ++ [.map (encM (oneA 1).nodes) 2, .var [.mapr H.length, .int .i64 1, .int .i64 0, .int .i64 0, .int .i64 0, .int .i64 2, .int .i64 0, .int .i64 0, .int .i64 0]]) (fun r H' => r = .int .i64 0 ∧ H' = H ++ [.map (encM inA.nodes) 2, .var [.mapr H.length, .int .i64 1, .int .i64 0, .int .i64 0, .int .i64 0, .int .i64 2, .int .i64 0, .int .i64 0, .int .i64 0]]) := SCall.mono (dInsert _ (H.length + 1) H.length (oneA 1) hA1 (ok_one 1) (by simp [oneA, arena8]) 0 1 rootN (madeN 1 1 tagP [] 0) rfl rfl (by simp [rootN]) (by simp [madeN]) (by omega) rfl rfl rfl (by simp [rootN]) (by omega)) fun r H' h => ⟨h.1, by rw [h.2]; simp; exact ⟨rfl, rfl⟩⟩
  have hA2 : arenaAt (H ++ [.map (encM inA.nodes) 2, .var [.mapr H.length, .int .i64 1, .int .i64 0, .int .i64 0, .int .i64 0, .int .i64 2, .int .i64 0, .int .i64 0, .int .i64 0]]) (H.length + 1) H.length inA := ⟨by simp; rfl, by simp; rfl, rfl, rfl⟩
  have hS : SCall Try.prog 39 [.ref (H.length + 1) 0, .int .i64 1, .slice ([(⟨2, false, 7⟩ : Hook)].map hookV)] (H ++ [.map (encM inA.nodes) 2, .var [.mapr H.length, .int .i64 1, .int .i64 0, .int .i64 0, .int .i64 0, .int .i64 2, .int .i64 0, .int .i64 0, .int .i64 0]]) (fun r H' => r = .int .i64 0 ∧ H' = H ++ [.map (encM hookA.nodes) 2, .var [.mapr H.length, .int .i64 1, .int .i64 0, .int .i64 0, .int .i64 0, .int .i64 2, .int .i64 0, .int .i64 0, .int .i64 0]]) := SCall.mono (dSetHooks _ (H.length + 1) H.length inA hA2 ok_in 1 [⟨2, false, 7⟩] (by simp) inW rfl rfl rfl) fun r H' h => ⟨h.1, by rw [h.2]; simp; exact ⟨rfl, rfl⟩⟩
  have hA3 : arenaAt (H ++ [.map (encM hookA.nodes) 2, .var [.mapr H.length, .int .i64 1, .int .i64 0, .int .i64 0, .int .i64 0, .int .i64 2, .int .i64 0, .int .i64 0, .int .i64 0]]) (H.length + 1) H.length hookA := ⟨by simp; rfl, by simp; rfl, rfl, rfl⟩
  have hC := rCalls _ (H.length + 1) H.length hookA hA3 ok_hook (by simp [hookA, inA, insNodes, oneA, arena8, nset]) hook_keys 2 hook_deep (by show ([0, 1] : List Int).length ≤ _; simp) 1 2 rfl (fun p hp => by
    have hp : p ∈ [((0 : Int), (0 : Nat), setN rootN (kidN rootN 1)), (1, 1, setN inW { ownN inW with hooks := [⟨2, false, 7⟩] })] := hp
    simp only [List.mem_cons, List.not_mem_nil, or_false] at hp
    rcases hp with rfl | rfl <;> simp [setN, kidN, ownN, rootN]) (by rw [hook_path]; simp)
  rw [hook_path, hook_calls] at hC
  refine SCall.of_good fun hH => ?_
  have hHk := HLt.add hH
  refine SCall.of_code Tok Try.func59 rfl Try.call59 (n := 44) rfl (by simp) (rs := [.tmp 0]) rfl ?_
  refine EWn.to ?_
  refine EWn.of_c Tok mixed (own := false) keep59 tab59 (by kernel_rfl) ?_
  (repeat simp -dsimp only [zrRoute41, xnils, xnilm, xrange, xmakeMap, xslice3, RB, TB, keep59, tab59, xindexAddr, xindex, xslice, xconvert, xlen, ewOp, FreeW, StabW, SameW, ChangeW, AddW, BaseW, limBytes, simprocAttr, ne_eq])
  (refine SCall.then (aNew _) ?_)
  (repeat simp -dsimp only [zrRoute41, xnils, xnilm, xrange, xmakeMap, xslice3, RB, TB, keep59, tab59, xindexAddr, xindex, xslice, xconvert, xlen, ewOp, FreeW, StabW, SameW, ChangeW, AddW, BaseW, limBytes, simprocAttr, ne_eq])
  (refine SCall.then (mOf _ _ _) ?_)
  (repeat simp -dsimp only [zrRoute41, xnils, xnilm, xrange, xmakeMap, xslice3, strV, RB, TB, keep59, tab59, xindexAddr, xindex, xslice, xconvert, xlen, ewOp, FreeW, StabW, SameW, ChangeW, AddW, BaseW, limBytes, simprocAttr, ne_eq])
  refine SCall.then hM ?_
  (repeat simp -dsimp only [zrRoute41, xnils, xnilm, xrange, xmakeMap, xslice3, RB, TB, keep59, tab59, xindexAddr, xindex, xslice, xconvert, xlen, ewOp, FreeW, StabW, SameW, ChangeW, AddW, BaseW, limBytes, simprocAttr, ne_eq])
  refine SCall.then hI ?_
  (repeat (first | simp -dsimp only [zrRoute41, xnils, xnilm, xrange, xmakeMap, xslice3, RB, TB, keep59, tab59, xindexAddr, xindex, xslice, xconvert, xlen, ewOp, FreeW, StabW, SameW, ChangeW, AddW, BaseW, limBytes, simprocAttr, ne_eq] | ((with_reducible refine Need.intro ?_ ?_); (trivial))))
  simp only [hookV, List.map_cons, List.map_nil] at hS
  (refine SCall.thenA (hS) (by repeat (first | exact trivial | exact .inl (.inl rfl) | exact .inl (.inr ⟨_, rfl, rfl⟩) | exact .inl rfl | exact .inr ⟨_, rfl, rfl⟩ | refine .inr ⟨_, _, rfl, rfl, ?_⟩ | refine ⟨?_, ?_⟩)) ?_)
  (repeat simp -dsimp only [zrRoute41, xnils, xnilm, xrange, xmakeMap, xslice3, RB, TB, keep59, tab59, xindexAddr, xindex, xslice, xconvert, xlen, ewOp, FreeW, StabW, SameW, ChangeW, AddW, BaseW, limBytes, simprocAttr, ne_eq])
  refine SCall.then hC ?_
  (repeat simp -dsimp only [zrRoute41, xnils, xnilm, xrange, xmakeMap, xslice3, callV, RB, TB, keep59, tab59, xindexAddr, xindex, xslice, xconvert, xlen, ewOp, FreeW, StabW, SameW, ChangeW, AddW, BaseW, limBytes, simprocAttr, ne_eq])
  refine RetW.auto0 false _ (by first | rfl | exact (List.append_nil _).symm) ?_ ?_
  · (simp (maxDischargeDepth := 6) [LTB, HLt_set, ltL_take, ltL_drop, ltL_rep, ltL_set, upd, eset, hH, hHk, zlRoute41] <;> omega)
  (try simp only [wk, wk1, wk0, RB, limBytes, simprocAttr, ne_eq])
  skip
end Go.Proofs.Ytjplgbalpnlanaa

/- The walk of what the laws of chapter 29 build. -/
set_option linter.unusedSimpArgs false
set_option linter.unusedVariables false
set_option maxRecDepth 100000
namespace Go.Proofs.Ytjplgbalpnlanaa
open Go Go.EL
structure OpR where
  at_ : Int
  kind : Int
  owner : Int
  slot : Int
  hooks : List Hook
def opV (o : OpR) : V := .agg [.int .i64 o.at_, .int .i64 o.kind, .int .i64 o.owner, .int .i64 o.slot, .slice (o.hooks.map hookV)]
theorem zrRoute61 : type_of% (And.intro (And.intro (And.intro (And.intro (@st_run) (And.intro (@sz_run) (@st1_run))) (And.intro (And.intro (@cl_run) (@st_Str)) (And.intro (@sz_Str) (@st1_Str)))) (And.intro (And.intro (@cl_Str) (And.intro (@st_c) (@sz_c))) (And.intro (And.intro (@st1_c) (@cl_c)) (And.intro (@st_attr) (@sz_attr))))) (And.intro (And.intro (And.intro (@st1_attr) (And.intro (@cl_attr) (@st_hook))) (And.intro (And.intro (@sz_hook) (@st1_hook)) (And.intro (@cl_hook) (@st_node)))) (And.intro (And.intro (@sz_node) (And.intro (@st1_node) (@cl_node))) (And.intro (And.intro (@st_callr) (@sz_callr)) (And.intro (@st1_callr) (@cl_callr)))))) := And.intro (And.intro (And.intro (And.intro (@st_run) (And.intro (@sz_run) (@st1_run))) (And.intro (And.intro (@cl_run) (@st_Str)) (And.intro (@sz_Str) (@st1_Str)))) (And.intro (And.intro (@cl_Str) (And.intro (@st_c) (@sz_c))) (And.intro (And.intro (@st1_c) (@cl_c)) (And.intro (@st_attr) (@sz_attr))))) (And.intro (And.intro (And.intro (@st1_attr) (And.intro (@cl_attr) (@st_hook))) (And.intro (And.intro (@sz_hook) (@st1_hook)) (And.intro (@cl_hook) (@st_node)))) (And.intro (And.intro (@sz_node) (And.intro (@st1_node) (@cl_node))) (And.intro (And.intro (@st_callr) (@sz_callr)) (And.intro (@st1_callr) (@cl_callr)))))
theorem zlRoute61 : type_of% (And.intro (And.intro (And.intro (And.intro (@lt_vi) (And.intro (@lt_str) (@lt_vb))) (And.intro (@ltc_str) (And.intro (@ltc_vi) (@lt_run)))) (And.intro (And.intro (@lt1_run) (And.intro (@ltc_run) (@lt_Str))) (And.intro (And.intro (@lt1_Str) (@ltc_Str)) (And.intro (@lt_c) (@lt1_c))))) (And.intro (And.intro (And.intro (@ltc_c) (And.intro (@lt_attr) (@lt1_attr))) (And.intro (@ltc_attr) (And.intro (@lt_hook) (@lt1_hook)))) (And.intro (And.intro (@ltc_hook) (And.intro (@lt_node) (@lt1_node))) (And.intro (And.intro (@ltc_node) (@lt_callr)) (And.intro (@lt1_callr) (@ltc_callr)))))) := And.intro (And.intro (And.intro (And.intro (@lt_vi) (And.intro (@lt_str) (@lt_vb))) (And.intro (@ltc_str) (And.intro (@ltc_vi) (@lt_run)))) (And.intro (And.intro (@lt1_run) (And.intro (@ltc_run) (@lt_Str))) (And.intro (And.intro (@lt1_Str) (@ltc_Str)) (And.intro (@lt_c) (@lt1_c))))) (And.intro (And.intro (And.intro (@ltc_c) (And.intro (@lt_attr) (@lt1_attr))) (And.intro (@ltc_attr) (And.intro (@lt_hook) (@lt1_hook)))) (And.intro (And.intro (@ltc_hook) (And.intro (@lt_node) (@lt1_node))) (And.intro (And.intro (@ltc_node) (@lt_callr)) (And.intro (@lt1_callr) (@ltc_callr)))))
theorem lt_opr (n : Nat) (l : List (OpR)) : ltL n (l.map opV) := ltL_map (f := opV) (fun _ => by simp [opV, V.lt, ltL, lt_hook]) l
theorem lt1_opr (n : Nat) (x : OpR) : V.lt n (opV x) := by simp [opV, V.lt, ltL, lt_hook]
theorem ltc_opr {α : Type} (n : Nat) (g : α → OpR) (l : List α) : ltL n (l.map (opV ∘ g)) := ltL_map (f := opV ∘ g) (fun x => lt1_opr n (g x)) l
theorem st_opr (l : List (OpR)) : (∀ x, x ∈ l.map opV → x.storable) = True := eq_true (storable_map (f := opV) (fun _ => trivial) l)
theorem sz_opr (l : List (OpR)) : Sized 5 (l.map opV) = True := eq_true (sizedMapV (f := opV) (fun _ => rfl) l)
theorem st1_opr (x : OpR) : (opV x).storable = True := eq_true trivial
theorem cl_opr (x : OpR) : (opV x).cells.length = 5 := rfl

theorem tmod4 (x : Int) : ∃ k : Nat, k < 4 ∧ (IntKind.i64.wrap (x.tmod 4 + 4)).tmod 4 = (k : Int) := tmodn x 4 (by omega) (by omega)
theorem tmod3' (x : Int) : ∃ k : Nat, k < 3 ∧ (IntKind.i64.wrap (x.tmod 3 + 3)).tmod 3 = (k : Int) := tmodn x 3 (by omega) (by omega)
set_option maxHeartbeats 2000000 in
theorem built29 (H : List Ob) (l : List OpR) (hl : ∀ o ∈ l, o.hooks.length ≤ 1048576) : SCall Try.prog 60 [.slice (l.map opV)] H (fun r H' => ∃ a ids p q, p ≤ 20 ∧ q ≤ 20 ∧ Grown 1048576 p q a ids ∧ r = .tuple [.ref (H.length + 1) 0, .slice (ids.map vi)] ∧ H' = H ++ [.map (encM a.nodes) a.clock, .var (arC H.length a)]) := by
  refine SCall.of_good fun hH => ?_
  have hHk := HLt.add hH
  refine SCall.of_code Tok Try.func60 rfl Try.call60 (n := 76) rfl (by simp) (rs := [.tmp 2, .tmp 3]) rfl ?_
  refine EWn.to ?_
  refine EWn.of_c Tok mixed (own := true) keep60 tab60 (by kernel_rfl) ?_
  (repeat simp -dsimp only [zrRoute61, st_opr, sz_opr, st1_opr, cl_opr, xnils, xnilm, xrange, xmakeMap, xslice3, RB, TB, keep60, tab60, xindexAddr, xindex, xslice, xconvert, xlen, ewOp, FreeW, StabW, SameW, ChangeW, AddW, BaseW, limBytes, simprocAttr, ne_eq])
  (refine SCall.then (aNew _) ?_)
  (repeat (first | simp -dsimp only [zrRoute61, st_opr, sz_opr, st1_opr, cl_opr, xnils, xnilm, xrange, xmakeMap, xslice3, RB, TB, keep60, tab60, xindexAddr, xindex, xslice, xconvert, xlen, ewOp, FreeW, StabW, SameW, ChangeW, AddW, BaseW, limBytes, simprocAttr, ne_eq] | ((with_reducible refine Need.intro ?_ ?_); (trivial))))
  refine EWn.loopE (ι := (Arena) × (List Int) × (Nat) × (Nat)) (fun (x_ : (Arena) × (List Int) × (Nat) × (Nat)) => match x_ with | (a, ids, ver, i) => i ≤ l.length ∧ i ≤ 20 ∧ ∃ p q, p ≤ i ∧ q ≤ i ∧ Grown 1048576 p q a ids) (fun (x_ : (Arena) × (List Int) × (Nat) × (Nat)) => match x_ with | (a, ids, ver, i) => l.length - i) (fun (x_ : (Arena) × (List Int) × (Nat) × (Nat)) => match x_ with | (a, ids, ver, i) => [(4, .ref (H.length + 1) 0), (5, .vec (H.length + 2) ver 0 ids.length), (6, .int .i64 i)]) (fun (x_ : (Arena) × (List Int) × (Nat) × (Nat)) => match x_ with | (a, ids, ver, i) => H ++ [.map (encM a.nodes) a.clock, .var (arC H.length a), .vec ver 1 (ids.map vi)]) (newA, [0], 1, 0) ?_ ?_ ?_ ?_ ?_
  · first | rfl | (simp [upd, eset]; done) | (simp [upd, eset, vi, arC, newA]; done)
  · simp [vi, arC, newA]
  · rintro ⟨a, ids, ver, i⟩ hok; exact ⟨by first | (simp; done) | (simp; omega), by (simp (maxDischargeDepth := 6) [LTB, HLt_set, ltL_take, ltL_drop, ltL_rep, ltL_set, upd, eset, hH, hHk, lt_encM, lt_arC, zlRoute61, lt_opr, lt1_opr, ltc_opr] <;> omega), by (simp (maxDischargeDepth := 6) [LTB, HLt_set, ltL_take, ltL_drop, ltL_rep, ltL_set, upd, eset, hH, hHk, lt_encM, lt_arC, zlRoute61, lt_opr, lt1_opr, ltc_opr] <;> omega)⟩
  · exact ⟨by omega, by omega, 0, 0, by omega, by omega, Grown.new _⟩
  rintro ⟨a, ids, ver, i⟩ ⟨hi, hi2, p, q, hp, hq, g⟩
  have hidl := g.idl
  have hidp : 0 < ids.length := List.length_pos_of_mem g.root
  refine EWn.of_c Tok mixed (own := false) keep60 tab60 (by kernel_rfl) ?_
  (repeat simp -dsimp only [zrRoute61, st_opr, sz_opr, st1_opr, cl_opr, xnils, xnilm, xrange, xmakeMap, xslice3, RB, TB, keep60, tab60, xindexAddr, xindex, xslice, xconvert, xlen, ewOp, FreeW, StabW, SameW, ChangeW, AddW, BaseW, limBytes, simprocAttr, ne_eq])
  refine IfW.intro (fun h => ?_) (fun h => ?_)
  · have hlt := lt_of h
    cases h9 : decide ((i : Int) < 20)
    · (repeat simp -dsimp only [zrRoute61, st_opr, sz_opr, st1_opr, cl_opr, xnils, xnilm, xrange, xmakeMap, xslice3, h, h9, RB, TB, keep60, tab60, xindexAddr, xindex, xslice, xconvert, xlen, ewOp, FreeW, StabW, SameW, ChangeW, AddW, BaseW, limBytes, simprocAttr, ne_eq])
      refine RetW.auto false [.map (encM a.nodes) a.clock, .var (arC H.length a)] _ (by first | rfl | simp) ?_ ?_ ?_
      · (simp (maxDischargeDepth := 6) [LTB, HLt_set, ltL_take, ltL_drop, ltL_rep, ltL_set, upd, eset, hH, hHk, lt_encM, lt_arC, zlRoute61, lt_opr, lt1_opr, ltc_opr] <;> omega)
      · (simp (maxDischargeDepth := 6) [LTB, HLt_set, ltL_take, ltL_drop, ltL_rep, ltL_set, upd, eset, hH, hHk, lt_encM, lt_arC, zlRoute61, lt_opr, lt1_opr, ltc_opr] <;> omega)
      (try simp only [wk, wk1, wk0, RB, limBytes, simprocAttr, ne_eq])
      (try (rw [List.take_of_length_le]; rotate_left 1; (· first | (simp; done) | (simp; omega) | omega)))
      exact ⟨a, ids, p, q, by omega, by omega, g, rfl, rfl⟩
    · have h9' := of_decide_eq_true h9
      have hat := at_map opV l i hlt
      have hho := hl _ (List.getElem_mem hlt)
      generalize l[i] = o at hat hho
      simp only [opV] at hat
      obtain ⟨k, hk, hkw⟩ := tmod4 o.owner
      obtain ⟨k3, hk3, hkw3⟩ := tmod3' o.kind
      have w1 : IntKind.i64.wrap (1 + (k3 : Int)) = 1 + k3 := wrapI (by omega)
      obtain ⟨kd, hkd⟩ : ∃ kd : Int, kd = 1 + k3 := ⟨_, rfl⟩
      rw [← hkd] at w1
      obtain ⟨x, hx, hxw⟩ := tmodn o.at_ ids.length hidp (by omega)
      (repeat (first | simp -dsimp only [zrRoute61, st_opr, sz_opr, st1_opr, cl_opr, xnils, xnilm, xrange, xmakeMap, xslice3, h, h9, hat, hkw, hkw3, w1, ← hkd, RB, TB, keep60, tab60, xindexAddr, xindex, xslice, xconvert, xlen, ewOp, FreeW, StabW, SameW, ChangeW, AddW, BaseW, limBytes, simprocAttr, ne_eq] | ((with_reducible refine Need.intro ?_ ?_); (omega))))
      (refine CallE.intro _ (mOf _ _ _) ?_)
      (repeat simp -dsimp only [zrRoute61, st_opr, sz_opr, st1_opr, cl_opr, xnils, xnilm, xrange, xmakeMap, xslice3, strV, hkw, hkw3, w1, ← hkd, RB, TB, keep60, tab60, xindexAddr, xindex, xslice, xconvert, xlen, ewOp, FreeW, StabW, SameW, ChangeW, AddW, BaseW, limBytes, simprocAttr, ne_eq])
      have hmi := at_map vi ids x hx
      simp only [vi] at hmi
      obtain ⟨g1, hm⟩ := g.made hk (by omega) okP kd [] o.slot
      have hcn := (g.fresh hk (by omega)).2.1
      (refine CallE2.intro _ _ (gMake H _ g k hk (by omega) kd (by omega) tagP okP [] o.slot) ?_)
      (repeat (first | simp -dsimp only [zrRoute61, st_opr, sz_opr, st1_opr, cl_opr, xnils, xnilm, xrange, xmakeMap, xslice3, hxw, hmi, RB, TB, keep60, tab60, xindexAddr, xindex, xslice, xconvert, xlen, ewOp, FreeW, StabW, SameW, ChangeW, AddW, BaseW, limBytes, simprocAttr, ne_eq] | ((with_reducible refine Need.intro ?_ ?_); (first | trivial | omega))))
      have hmk : (makeA a k kd tagP [] o.slot).clock = (makeA a k kd tagP [] o.slot).clock := rfl
      generalize idO a k = c at *
      generalize makeA a k kd tagP [] o.slot = a1 at *
      have hpi : ids[x] ∈ ids := List.getElem_mem hx
      generalize ids[x] = pr at *
      obtain ⟨n, hn⟩ : ∃ n, nget a1.nodes pr = some n := Option.isSome_iff_exists.1 (g1.mem _ hpi)
      obtain ⟨m, hme⟩ : ∃ m, m = madeO k c kd tagP [] o.slot := ⟨_, rfl⟩
      have hmp : m.parent = -1 := by rw [hme]; rfl
      have hmks : m.kids = [] := by rw [hme]; rfl
      have hmkd : m.kind = kd := by rw [hme]; rfl
      rw [← hme] at hm
      clear hme
      by_cases hkn : n.kind = 2
      · (refine SCall.then (gInsertK H _ g1 (by omega) hn hm hkn 0) ?_)
        (repeat simp -dsimp only [zrRoute61, st_opr, sz_opr, st1_opr, cl_opr, xnils, xnilm, xrange, xmakeMap, xslice3, RB, TB, keep60, tab60, xindexAddr, xindex, xslice, xconvert, xlen, ewOp, FreeW, StabW, SameW, ChangeW, AddW, BaseW, limBytes, simprocAttr, ne_eq])
        rw [wrapI (by omega)]
        refine UpTo.here ⟨(a1, ids, ver, i + 1), ⟨hlt, by omega, p + 1, q, by omega, by omega, g1⟩, by simp only; omega, by simp [upd, eset], ⟨_, by simp; rfl⟩⟩
      · (refine SCall.then (gInsert H _ g1 (by omega) (by omega) hpi hcn hn hm hkn hmp 0 (by omega) 0 rfl) ?_)
        (repeat simp -dsimp only [zrRoute61, st_opr, sz_opr, st1_opr, cl_opr, xnils, xnilm, xrange, xmakeMap, xslice3, RB, TB, keep60, tab60, xindexAddr, xindex, xslice, xconvert, xlen, ewOp, FreeW, StabW, SameW, ChangeW, AddW, BaseW, limBytes, simprocAttr, ne_eq])
        obtain ⟨g2, hm2⟩ := g1.ins (q := 0) hpi hcn hn hm hmks (by omega) (by omega)
        obtain ⟨m2, hme2⟩ : ∃ m2, m2 = setN m (parN m pr) := ⟨_, rfl⟩
        have hm2k : m2.kind = kd := by rw [hme2]; exact hmkd
        rw [← hme2] at hm2
        obtain ⟨a2, ha2⟩ : ∃ a2 : Arena, a2 = { a1 with nodes := insAtN a1.nodes pr c 0 n m } := ⟨_, rfl⟩
        have e1 : insAtN a1.nodes pr c 0 n m = a2.nodes := by rw [ha2]
        have e2 : a1.clock = a2.clock := by rw [ha2]
        have e3 : arC H.length a1 = arC H.length a2 := by rw [ha2]; rfl
        rw [← ha2] at g2
        rw [e1] at hm2
        rw [e1, e2, e3]
        clear ha2 e1 e2 e3 hme2
        by_cases hk1 : kd = 1
        · (refine SCall.then (gSetHooks H _ g2 hm2 o.hooks (by omega) (by rw [hm2k]; exact hk1)) ?_)
          (repeat (first | simp -dsimp only [zrRoute61, st_opr, sz_opr, st1_opr, cl_opr, xnils, xnilm, xrange, xmakeMap, xslice3, RB, TB, keep60, tab60, xindexAddr, xindex, xslice, xconvert, xlen, ewOp, FreeW, StabW, SameW, ChangeW, AddW, BaseW, limBytes, simprocAttr, ne_eq] | ((with_reducible refine Need.intro ?_ ?_); (first | trivial | omega))))
          have okm2 : okN m2 := by
            obtain ⟨t, ht, rfl⟩ := nget_mem hm2
            exact g2.oks t ht
          obtain ⟨g3, hm3⟩ := g2.set (m := hookN m2 o.hooks) hm2 rfl rfl rfl (hookN_ok okm2 (by omega)) hho
          rw [wrapI (by omega)]
          refine UpTo.here ⟨({ a2 with nodes := nset a2.nodes c (hookN m2 o.hooks) }, ids ++ [c], ver + 1, i + 1), ⟨hlt, by omega, p + 1, q + 1, by omega, by omega, g3⟩, by simp only; omega, by simp [upd, eset], ⟨_, by simp [vi, arC]; rfl⟩⟩
        · (refine SCall.then (gSetHooksK H _ g2 hm2 o.hooks (by rw [hm2k]; exact hk1)) ?_)
          (repeat (first | simp -dsimp only [zrRoute61, st_opr, sz_opr, st1_opr, cl_opr, xnils, xnilm, xrange, xmakeMap, xslice3, RB, TB, keep60, tab60, xindexAddr, xindex, xslice, xconvert, xlen, ewOp, FreeW, StabW, SameW, ChangeW, AddW, BaseW, limBytes, simprocAttr, ne_eq] | ((with_reducible refine Need.intro ?_ ?_); (first | trivial | omega))))
          rw [wrapI (by omega)]
          refine UpTo.here ⟨(a2, ids ++ [c], ver + 1, i + 1), ⟨hlt, by omega, p + 1, q + 1, by omega, by omega, g2⟩, by simp only; omega, by simp [upd, eset], ⟨_, by simp [vi]; rfl⟩⟩
  · (repeat simp -dsimp only [zrRoute61, st_opr, sz_opr, st1_opr, cl_opr, xnils, xnilm, xrange, xmakeMap, xslice3, h, RB, TB, keep60, tab60, xindexAddr, xindex, xslice, xconvert, xlen, ewOp, FreeW, StabW, SameW, ChangeW, AddW, BaseW, limBytes, simprocAttr, ne_eq])
    refine RetW.auto false [.map (encM a.nodes) a.clock, .var (arC H.length a)] _ (by first | rfl | simp) ?_ ?_ ?_
    · (simp (maxDischargeDepth := 6) [LTB, HLt_set, ltL_take, ltL_drop, ltL_rep, ltL_set, upd, eset, hH, hHk, lt_encM, lt_arC, zlRoute61, lt_opr, lt1_opr, ltc_opr] <;> omega)
    · (simp (maxDischargeDepth := 6) [LTB, HLt_set, ltL_take, ltL_drop, ltL_rep, ltL_set, upd, eset, hH, hHk, lt_encM, lt_arC, zlRoute61, lt_opr, lt1_opr, ltc_opr] <;> omega)
    (try simp only [wk, wk1, wk0, RB, limBytes, simprocAttr, ne_eq])
    (try (rw [List.take_of_length_le]; rotate_left 1; (· first | (simp; done) | (simp; omega) | omega)))
    exact ⟨a, ids, p, q, by omega, by omega, g, rfl, rfl⟩
end Go.Proofs.Ytjplgbalpnlanaa

/- The walks of the reference of chapter 29: path, calls. -/
set_option linter.unusedSimpArgs false
set_option linter.unusedVariables false
set_option maxRecDepth 100000
namespace Go.Proofs.Ytjplgbalpnlanaa
open Go Go.EL
theorem zrRoute71 : type_of% (And.intro (And.intro (And.intro (And.intro (And.intro (@st_run) (@sz_run)) (And.intro (@st1_run) (@cl_run))) (And.intro (And.intro (@st_Str) (@sz_Str)) (And.intro (@st1_Str) (@cl_Str)))) (And.intro (And.intro (And.intro (@st_c) (@sz_c)) (And.intro (@st1_c) (@cl_c))) (And.intro (And.intro (@st_attr) (@sz_attr)) (And.intro (@st1_attr) (@cl_attr))))) (And.intro (And.intro (And.intro (And.intro (@st_hook) (@sz_hook)) (And.intro (@st1_hook) (@cl_hook))) (And.intro (And.intro (@st_node) (@sz_node)) (And.intro (@st1_node) (@cl_node)))) (And.intro (And.intro (And.intro (@st_callr) (@sz_callr)) (And.intro (@st1_callr) (@cl_callr))) (And.intro (And.intro (@st_opr) (@sz_opr)) (And.intro (@st1_opr) (@cl_opr)))))) := And.intro (And.intro (And.intro (And.intro (And.intro (@st_run) (@sz_run)) (And.intro (@st1_run) (@cl_run))) (And.intro (And.intro (@st_Str) (@sz_Str)) (And.intro (@st1_Str) (@cl_Str)))) (And.intro (And.intro (And.intro (@st_c) (@sz_c)) (And.intro (@st1_c) (@cl_c))) (And.intro (And.intro (@st_attr) (@sz_attr)) (And.intro (@st1_attr) (@cl_attr))))) (And.intro (And.intro (And.intro (And.intro (@st_hook) (@sz_hook)) (And.intro (@st1_hook) (@cl_hook))) (And.intro (And.intro (@st_node) (@sz_node)) (And.intro (@st1_node) (@cl_node)))) (And.intro (And.intro (And.intro (@st_callr) (@sz_callr)) (And.intro (@st1_callr) (@cl_callr))) (And.intro (And.intro (@st_opr) (@sz_opr)) (And.intro (@st1_opr) (@cl_opr)))))
theorem zlRoute71 : type_of% (And.intro (And.intro (And.intro (And.intro (@lt_vi) (And.intro (@lt_str) (@lt_vb))) (And.intro (And.intro (@ltc_str) (@ltc_vi)) (And.intro (@lt_run) (@lt1_run)))) (And.intro (And.intro (@ltc_run) (And.intro (@lt_Str) (@lt1_Str))) (And.intro (And.intro (@ltc_Str) (@lt_c)) (And.intro (@lt1_c) (@ltc_c))))) (And.intro (And.intro (And.intro (@lt_attr) (And.intro (@lt1_attr) (@ltc_attr))) (And.intro (And.intro (@lt_hook) (@lt1_hook)) (And.intro (@ltc_hook) (@lt_node)))) (And.intro (And.intro (And.intro (@lt1_node) (@ltc_node)) (And.intro (@lt_callr) (@lt1_callr))) (And.intro (And.intro (@ltc_callr) (@lt_opr)) (And.intro (@lt1_opr) (@ltc_opr)))))) := And.intro (And.intro (And.intro (And.intro (@lt_vi) (And.intro (@lt_str) (@lt_vb))) (And.intro (And.intro (@ltc_str) (@ltc_vi)) (And.intro (@lt_run) (@lt1_run)))) (And.intro (And.intro (@ltc_run) (And.intro (@lt_Str) (@lt1_Str))) (And.intro (And.intro (@ltc_Str) (@lt_c)) (And.intro (@lt1_c) (@ltc_c))))) (And.intro (And.intro (And.intro (@lt_attr) (And.intro (@lt1_attr) (@ltc_attr))) (And.intro (And.intro (@lt_hook) (@lt1_hook)) (And.intro (@ltc_hook) (@lt_node)))) (And.intro (And.intro (And.intro (@lt1_node) (@ltc_node)) (And.intro (@lt_callr) (@lt1_callr))) (And.intro (And.intro (@ltc_callr) (@lt_opr)) (And.intro (@lt1_opr) (@ltc_opr)))))
theorem inSp (t : Int) (s : Nat) (hs : 1 ≤ s) : ((s : Int) * 1048576 ≤ t ∧ t < (s + 1 : Int) * 1048576) ↔ (0 ≤ t ∧ t.tdiv 1048576 = s) := by
  by_cases h : 0 ≤ t
  · rw [Int.tdiv_eq_ediv_of_nonneg h]
    omega
  · constructor
    · rintro ⟨h1, _⟩; omega
    · rintro ⟨h1, _⟩; omega
set_option maxHeartbeats 2000000 in
theorem lPath (H : List Ob) (A m : Nat) (a : Arena) (h : arenaAt H A m a) (hok : ∀ p ∈ a.nodes, okN p.2.2) (hN : a.nodes.length ≤ 1000000) (hky : Keyed a.nodes) (k : Nat) (hd : deepG a k 0) (hsz : (idsG a k 0).length ≤ 1000000) (t : Int) : SCall Try.prog 61 [.ref A 0, .int .i64 t] H (fun r H' => r = .slice ((rPathG a k t).map vi) ∧ H' = H) := by
  have lA := (List.getElem?_eq_some_iff.1 h.1).1
  cases hs : (nget a.nodes t).isSome with
  | true =>
    refine SCall.of_good fun hH => ?_
    have hHk := HLt.add hH
    refine SCall.of_code Tok Try.func61 rfl Try.call61 (n := 38) rfl (by simp) (rs := [.tmp 4]) rfl ?_
    refine EWn.to ?_
    refine EWn.of_c Tok mixed (own := false) keep61 tab61 (by kernel_rfl) ?_
    (repeat simp -dsimp only [zrRoute71, xnils, xnilm, xrange, xmakeMap, xslice3, RB, TB, keep61, tab61, xindexAddr, xindex, xslice, xconvert, xlen, ewOp, FreeW, StabW, SameW, ChangeW, AddW, BaseW, limBytes, simprocAttr, ne_eq])
    (refine SCall.then (aHas _ A m a h t) ?_)
    (repeat simp -dsimp only [zrRoute71, xnils, xnilm, xrange, xmakeMap, xslice3, hs, RB, TB, keep61, tab61, xindexAddr, xindex, xslice, xconvert, xlen, ewOp, FreeW, StabW, SameW, ChangeW, AddW, BaseW, limBytes, simprocAttr, ne_eq])
    (refine SCall.then (dPath _ A m a h hok hN hky t) ?_)
    (repeat simp -dsimp only [zrRoute71, xnils, xnilm, xrange, xmakeMap, xslice3, RB, TB, keep61, tab61, xindexAddr, xindex, xslice, xconvert, xlen, ewOp, FreeW, StabW, SameW, ChangeW, AddW, BaseW, limBytes, simprocAttr, ne_eq])
    refine RetW.auto0 false _ (by first | rfl | exact (List.append_nil _).symm) ?_ ?_
    · (simp (maxDischargeDepth := 6) [LTB, HLt_set, ltL_take, ltL_drop, ltL_rep, ltL_set, upd, eset, hH, hHk, zlRoute71] <;> omega)
    (try simp only [wk, wk1, wk0, RB, limBytes, simprocAttr, ne_eq])
    skip
    simp [rPathG, hs]
  | false =>
    have hp0 : rPathG a k t = if t < 0 ∨ t.tdiv 1048576 < 1 ∨ 4 ≤ t.tdiv 1048576 then [] else if mountG a k (t.tdiv 1048576) = 0 then [] else pathG a (mountG a k (t.tdiv 1048576)) := by
      unfold rPathG
      rw [if_neg (by rw [hs]; simp)]
    refine SCall.of_good fun hH => ?_
    have hHk := HLt.add hH
    refine SCall.of_code Tok Try.func61 rfl Try.call61 (n := 38) rfl (by simp) (rs := [.tmp 4]) rfl ?_
    refine EWn.to ?_
    refine EWn.of_c Tok mixed (own := false) keep61 tab61 (by kernel_rfl) ?_
    (repeat simp -dsimp only [zrRoute71, xnils, xnilm, xrange, xmakeMap, xslice3, RB, TB, keep61, tab61, xindexAddr, xindex, xslice, xconvert, xlen, ewOp, FreeW, StabW, SameW, ChangeW, AddW, BaseW, limBytes, simprocAttr, ne_eq])
    (refine SCall.then (aHas _ A m a h t) ?_)
    (repeat simp -dsimp only [zrRoute71, xnils, xnilm, xrange, xmakeMap, xslice3, hs, RB, TB, keep61, tab61, xindexAddr, xindex, xslice, xconvert, xlen, ewOp, FreeW, StabW, SameW, ChangeW, AddW, BaseW, limBytes, simprocAttr, ne_eq])
    refine EWn.loopE (ι := (Nat)) (fun (s : (Nat)) => 1 ≤ s ∧ s ≤ 4 ∧ ∀ q : Nat, 1 ≤ q → q < s → 0 ≤ t → t.tdiv 1048576 = q → mountG a k q = 0) (fun (s : (Nat)) => 4 - s) (fun (s : (Nat)) => [(5, .int .i64 s)]) (fun (s : (Nat)) => H) (1) ?_ ?_ ?_ ?_ ?_
    · first | rfl | simp [upd, eset]
    · first | rfl | (simp; done) | exact (set_same (by assumption)).symm
    · rintro s hok; exact ⟨by first | (simp; done) | (simp; omega), by (simp (maxDischargeDepth := 6) [LTB, HLt_set, ltL_take, ltL_drop, ltL_rep, ltL_set, upd, eset, hH, hHk, zlRoute71] <;> omega), by (simp (maxDischargeDepth := 6) [LTB, HLt_set, ltL_take, ltL_drop, ltL_rep, ltL_set, upd, eset, hH, hHk, zlRoute71] <;> omega)⟩
    · exact ⟨by omega, by omega, fun q h1 h2 => by omega⟩
    rintro s ⟨hs1, hs4, hno⟩
    refine EWn.of_c Tok mixed (own := false) keep61 tab61 (by kernel_rfl) ?_
    (repeat simp -dsimp only [zrRoute71, xnils, xnilm, xrange, xmakeMap, xslice3, RB, TB, keep61, tab61, xindexAddr, xindex, xslice, xconvert, xlen, ewOp, FreeW, StabW, SameW, ChangeW, AddW, BaseW, limBytes, simprocAttr, ne_eq])
    refine IfW.intro (fun h4 => ?_) (fun h4 => ?_)
    · have h4' := of_decide_eq_true h4
      have w1 : IntKind.i64.wrap ((s : Int) * 1048576) = s * 1048576 := wrapI (by omega)
      have w2 : IntKind.i64.wrap ((s : Int) + 1) = s + 1 := wrapI (by omega)
      have w3 : IntKind.i64.wrap (((s : Int) + 1) * 1048576) = (s + 1) * 1048576 := wrapI (by omega)
      (repeat simp -dsimp only [zrRoute71, xnils, xnilm, xrange, xmakeMap, xslice3, h4, RB, TB, keep61, tab61, xindexAddr, xindex, xslice, xconvert, xlen, ewOp, FreeW, StabW, SameW, ChangeW, AddW, BaseW, limBytes, simprocAttr, ne_eq])
      (refine SCall.then (sMount _ A m a hok h k hd hsz s) ?_)
      (repeat simp -dsimp only [zrRoute71, xnils, xnilm, xrange, xmakeMap, xslice3, w1, w2, w3, RB, TB, keep61, tab61, xindexAddr, xindex, xslice, xconvert, xlen, ewOp, FreeW, StabW, SameW, ChangeW, AddW, BaseW, limBytes, simprocAttr, ne_eq])
      have hi := inSp t s hs1
      have hnext : ¬ ((0 ≤ t ∧ t.tdiv 1048576 = s) ∧ mountG a k s ≠ 0) → ∀ q : Nat, 1 ≤ q → q < s + 1 → 0 ≤ t → t.tdiv 1048576 = q → mountG a k q = 0 := fun hn q h1 h2 h3 h5 => by
        by_cases e : q = s
        · subst e
          by_cases e2 : mountG a k q = 0
          · exact e2
          · exact absurd ⟨⟨h3, h5⟩, e2⟩ hn
        · exact hno q h1 (by omega) h3 h5
      by_cases c1 : (s : Int) * 1048576 ≤ t
      · by_cases c2 : t < (s + 1 : Int) * 1048576
        · by_cases c3 : mountG a k s = 0
          · (repeat simp -dsimp only [zrRoute71, xnils, xnilm, xrange, xmakeMap, xslice3, w2, w3, show decide (t ≥ (s : Int) * 1048576) = true from decide_eq_true c1, show decide (t < ((s : Int) + 1) * 1048576) = true from decide_eq_true c2, c3, RB, TB, keep61, tab61, xindexAddr, xindex, xslice, xconvert, xlen, ewOp, FreeW, StabW, SameW, ChangeW, AddW, BaseW, limBytes, simprocAttr, ne_eq])
            refine UpTo.here ⟨s + 1, ⟨by omega, by omega, hnext (fun e => e.2 c3)⟩, by simp only; omega, by simp [upd, eset, w2], ⟨_, by simp; try rfl⟩⟩
          · (repeat simp -dsimp only [zrRoute71, xnils, xnilm, xrange, xmakeMap, xslice3, w2, w3, show decide (t ≥ (s : Int) * 1048576) = true from decide_eq_true c1, show decide (t < ((s : Int) + 1) * 1048576) = true from decide_eq_true c2, show (mountG a k s == 0) = false from by simpa using c3, RB, TB, keep61, tab61, xindexAddr, xindex, xslice, xconvert, xlen, ewOp, FreeW, StabW, SameW, ChangeW, AddW, BaseW, limBytes, simprocAttr, ne_eq])
            (refine SCall.then (dPath _ A m a h hok hN hky (mountG a k s)) ?_)
            (repeat simp -dsimp only [zrRoute71, xnils, xnilm, xrange, xmakeMap, xslice3, RB, TB, keep61, tab61, xindexAddr, xindex, xslice, xconvert, xlen, ewOp, FreeW, StabW, SameW, ChangeW, AddW, BaseW, limBytes, simprocAttr, ne_eq])
            refine RetW.auto0 false _ (by first | rfl | exact (List.append_nil _).symm) ?_ ?_
            · (simp (maxDischargeDepth := 6) [LTB, HLt_set, ltL_take, ltL_drop, ltL_rep, ltL_set, upd, eset, hH, hHk, zlRoute71] <;> omega)
            (try simp only [wk, wk1, wk0, RB, limBytes, simprocAttr, ne_eq])
            skip
            obtain ⟨d1, d2⟩ := hi.1 ⟨c1, c2⟩
            rw [hp0, d2, if_neg (by omega), if_neg c3]
        · (repeat simp -dsimp only [zrRoute71, xnils, xnilm, xrange, xmakeMap, xslice3, w2, w3, show decide (t ≥ (s : Int) * 1048576) = true from decide_eq_true c1, show decide (t < ((s : Int) + 1) * 1048576) = false from decide_eq_false c2, RB, TB, keep61, tab61, xindexAddr, xindex, xslice, xconvert, xlen, ewOp, FreeW, StabW, SameW, ChangeW, AddW, BaseW, limBytes, simprocAttr, ne_eq])
          refine UpTo.here ⟨s + 1, ⟨by omega, by omega, hnext (fun e => c2 (hi.2 e.1).2)⟩, by simp only; omega, by simp [upd, eset, w2], ⟨_, by simp; try rfl⟩⟩
      · (repeat simp -dsimp only [zrRoute71, xnils, xnilm, xrange, xmakeMap, xslice3, w2, w3, show decide (t ≥ (s : Int) * 1048576) = false from decide_eq_false c1, RB, TB, keep61, tab61, xindexAddr, xindex, xslice, xconvert, xlen, ewOp, FreeW, StabW, SameW, ChangeW, AddW, BaseW, limBytes, simprocAttr, ne_eq])
        refine UpTo.here ⟨s + 1, ⟨by omega, by omega, hnext (fun e => c1 (hi.2 e.1).1)⟩, by simp only; omega, by simp [upd, eset, w2], ⟨_, by simp; try rfl⟩⟩
    · have h4' := of_decide_eq_false h4
      (repeat simp -dsimp only [zrRoute71, xnils, xnilm, xrange, xmakeMap, xslice3, h4, RB, TB, keep61, tab61, xindexAddr, xindex, xslice, xconvert, xlen, ewOp, FreeW, StabW, SameW, ChangeW, AddW, BaseW, limBytes, simprocAttr, ne_eq])
      refine RetW.auto0 false _ (by first | rfl | exact (List.append_nil _).symm) ?_ ?_
      · (simp (maxDischargeDepth := 6) [LTB, HLt_set, ltL_take, ltL_drop, ltL_rep, ltL_set, upd, eset, hH, hHk, zlRoute71] <;> omega)
      (try simp only [wk, wk1, wk0, RB, limBytes, simprocAttr, ne_eq])
      skip
      rw [hp0]
      split
      · rfl
      · rename_i hc
        rw [if_pos]
        · rfl
        · have e : t.tdiv 1048576 = ((t.tdiv 1048576).toNat : Int) := by omega
          rw [e]
          exact hno (t.tdiv 1048576).toNat (by omega) (by omega) (by omega) e
end Go.Proofs.Ytjplgbalpnlanaa

/- The walk of the reference of chapter 29: calls. -/
set_option linter.unusedSimpArgs false
set_option linter.unusedVariables false
set_option maxRecDepth 100000
namespace Go.Proofs.Ytjplgbalpnlanaa
open Go Go.EL
theorem zrRoute81 : type_of% (And.intro (And.intro (And.intro (And.intro (And.intro (@st_run) (@sz_run)) (And.intro (@st1_run) (@cl_run))) (And.intro (And.intro (@st_Str) (@sz_Str)) (And.intro (@st1_Str) (@cl_Str)))) (And.intro (And.intro (And.intro (@st_c) (@sz_c)) (And.intro (@st1_c) (@cl_c))) (And.intro (And.intro (@st_attr) (@sz_attr)) (And.intro (@st1_attr) (@cl_attr))))) (And.intro (And.intro (And.intro (And.intro (@st_hook) (@sz_hook)) (And.intro (@st1_hook) (@cl_hook))) (And.intro (And.intro (@st_node) (@sz_node)) (And.intro (@st1_node) (@cl_node)))) (And.intro (And.intro (And.intro (@st_callr) (@sz_callr)) (And.intro (@st1_callr) (@cl_callr))) (And.intro (And.intro (@st_opr) (@sz_opr)) (And.intro (@st1_opr) (@cl_opr)))))) := And.intro (And.intro (And.intro (And.intro (And.intro (@st_run) (@sz_run)) (And.intro (@st1_run) (@cl_run))) (And.intro (And.intro (@st_Str) (@sz_Str)) (And.intro (@st1_Str) (@cl_Str)))) (And.intro (And.intro (And.intro (@st_c) (@sz_c)) (And.intro (@st1_c) (@cl_c))) (And.intro (And.intro (@st_attr) (@sz_attr)) (And.intro (@st1_attr) (@cl_attr))))) (And.intro (And.intro (And.intro (And.intro (@st_hook) (@sz_hook)) (And.intro (@st1_hook) (@cl_hook))) (And.intro (And.intro (@st_node) (@sz_node)) (And.intro (@st1_node) (@cl_node)))) (And.intro (And.intro (And.intro (@st_callr) (@sz_callr)) (And.intro (@st1_callr) (@cl_callr))) (And.intro (And.intro (@st_opr) (@sz_opr)) (And.intro (@st1_opr) (@cl_opr)))))
theorem zlRoute81 : type_of% (And.intro (And.intro (And.intro (And.intro (@lt_vi) (And.intro (@lt_str) (@lt_vb))) (And.intro (And.intro (@ltc_str) (@ltc_vi)) (And.intro (@lt_run) (@lt1_run)))) (And.intro (And.intro (@ltc_run) (And.intro (@lt_Str) (@lt1_Str))) (And.intro (And.intro (@ltc_Str) (@lt_c)) (And.intro (@lt1_c) (@ltc_c))))) (And.intro (And.intro (And.intro (@lt_attr) (And.intro (@lt1_attr) (@ltc_attr))) (And.intro (And.intro (@lt_hook) (@lt1_hook)) (And.intro (@ltc_hook) (@lt_node)))) (And.intro (And.intro (And.intro (@lt1_node) (@ltc_node)) (And.intro (@lt_callr) (@lt1_callr))) (And.intro (And.intro (@ltc_callr) (@lt_opr)) (And.intro (@lt1_opr) (@ltc_opr)))))) := And.intro (And.intro (And.intro (And.intro (@lt_vi) (And.intro (@lt_str) (@lt_vb))) (And.intro (And.intro (@ltc_str) (@ltc_vi)) (And.intro (@lt_run) (@lt1_run)))) (And.intro (And.intro (@ltc_run) (And.intro (@lt_Str) (@lt1_Str))) (And.intro (And.intro (@ltc_Str) (@lt_c)) (And.intro (@lt1_c) (@ltc_c))))) (And.intro (And.intro (And.intro (@lt_attr) (And.intro (@lt1_attr) (@ltc_attr))) (And.intro (And.intro (@lt_hook) (@lt1_hook)) (And.intro (@ltc_hook) (@lt_node)))) (And.intro (And.intro (And.intro (@lt1_node) (@ltc_node)) (And.intro (@lt_callr) (@lt1_callr))) (And.intro (And.intro (@ltc_callr) (@lt_opr)) (And.intro (@lt1_opr) (@ltc_opr)))))
theorem visB_eq (l : List Int) : visB l = (visF l).reverse := by unfold visB visF; rw [List.map_reverse]
set_option maxHeartbeats 4000000 in
theorem lCalls (H : List Ob) (A m : Nat) (a : Arena) (h : arenaAt H A m a) (hok : ∀ p ∈ a.nodes, okN p.2.2) (hB : ∀ p ∈ a.nodes, p.2.2.hooks.length ≤ 2000000) (l : List Int) (ev : Int) (hl : l.length ≤ 100) : SCall Try.prog 65 [.ref A 0, .slice (l.map vi), .int .i64 ev] H (fun r H' => r = .slice ((callsG a ev l).map callV) ∧ H' = H) := by
  have lA := (List.getElem?_eq_some_iff.1 h.1).1
  obtain ⟨dn, hdn⟩ : ∃ dn : Nat → List Callr, ∀ i, dn i = callsA a ev l true 1 ((visF l).take i) := ⟨_, fun _ => rfl⟩
  obtain ⟨un, hun⟩ : ∃ un : Nat → List Callr, ∀ i, un i = callsA a ev l false 3 ((visF l).take i).reverse := ⟨_, fun _ => rfl⟩
  have dn0 : dn 0 = [] := by rw [hdn]; simp [callsA]
  have un0 : un 0 = [] := by rw [hun]; simp [callsA]
  have hfin : callsG a ev l = dn l.length ++ un l.length := by
    unfold callsG
    rw [hdn, hun, ← visF_len, List.take_length, visB_eq]
  have hvg : ∀ i, (hi : i < l.length) → (visF l)[i]'(by rw [visF_len]; exact hi) = (i, l[i]) := fun i hi => by
    have hg := visF_get l i hi
    rw [List.getElem?_eq_getElem (by rw [visF_len]; exact hi)] at hg
    exact Option.some.inj hg
  have dns : ∀ i, (hi : i < l.length) → dn (i + 1) = dn i ++ toldF (nodeAt a l[i]) ev true (phB i l.length 1) (nodeAt a l[i]).hooks := fun i hi => by
    rw [hdn, hdn, List.take_succ_eq_append_getElem (by rw [visF_len]; exact hi), callsA_app, hvg i hi, callsA_one]
  have uns : ∀ i, (hi : i < l.length) → un (i + 1) = toldF (nodeAt a l[i]) ev false (phB i l.length 3) (nodeAt a l[i]).hooks ++ un i := fun i hi => by
    rw [hun, hun, List.take_succ_eq_append_getElem (by rw [visF_len]; exact hi), List.reverse_append, callsA_app, hvg i hi]
    simp only [List.reverse_cons, List.reverse_nil, List.nil_append, callsA_one]
  have hlen : ∀ (cap : Bool) (o : Int) (w : List (Nat × Int)), w.length ≤ 100 → (callsA a ev l cap o w).length ≤ 200000000 := fun cap o w hw => by
    have h1 := callsA_len hB ev l cap o w
    have h3 : w.length * 2000000 ≤ 100 * 2000000 := Nat.mul_le_mul_right _ hw
    omega
  have dnl : ∀ i, (dn i).length ≤ 200000000 := fun i => by
    rw [hdn]; exact hlen _ _ _ (by rw [List.length_take, visF_len]; omega)
  have unl : ∀ i, (un i).length ≤ 200000000 := fun i => by
    rw [hun]; exact hlen _ _ _ (by rw [List.length_reverse, List.length_take, visF_len]; omega)
  rw [hfin]
  clear hdn hun hfin hvg hlen
  refine SCall.of_good fun hH => ?_
  have hHk := HLt.add hH
  refine SCall.of_code Tok Try.func65 rfl Try.call65 (n := 81) rfl (by simp) (rs := [.tmp 6]) rfl ?_
  refine EWn.to ?_
  refine EWn.of_c Tok mixed (own := false) keep65 tab65 (by kernel_rfl) ?_
  (repeat simp -dsimp only [zrRoute81, xnils, xnilm, xrange, xmakeMap, xslice3, RB, TB, keep65, tab65, xindexAddr, xindex, xslice, xconvert, xlen, ewOp, FreeW, StabW, SameW, ChangeW, AddW, BaseW, limBytes, simprocAttr, ne_eq])
  refine EWn.ghost (Gho.adopt 7 4 rfl) ?_
  simp only [RB, limBytes, simprocAttr, ne_eq]
  refine EWn.ghost (Gho.weakEnv (eset_G CvA.rfl' (t := 8) (x := .fslice []) (y := .slice []) (.inl (.inl (.inr ⟨_, rfl, rfl⟩))) (by simp) rfl)) ?_
  simp only [RB, limBytes, simprocAttr, ne_eq]
  refine EWn.loopE (ι := (Nat) × (Nat)) (fun (x_ : (Nat) × (Nat)) => match x_ with | (i, v) => i ≤ l.length) (fun (x_ : (Nat) × (Nat)) => match x_ with | (i, v) => l.length - i) (fun (x_ : (Nat) × (Nat)) => match x_ with | (i, v) => [(7, .vec H.length v 0 (dn i).length), (8, .slice ((un i).map callV)), (9, .int .i64 i)]) (fun (x_ : (Nat) × (Nat)) => match x_ with | (i, v) => H ++ [.vec v 4 ((dn i).map callV)]) (0, 1) ?_ ?_ ?_ ?_ ?_
  · first | rfl | (simp [upd, eset]; done) | (simp [upd, eset, dn0, un0]; done)
  · simp [dn0, un0]
  · rintro ⟨i, v⟩ hok; exact ⟨by first | (simp; done) | (simp; omega), by (simp (maxDischargeDepth := 6) [LTB, HLt_set, ltL_take, ltL_drop, ltL_rep, ltL_set, upd, eset, hH, hHk, ltL_nodeC, zlRoute81] <;> omega), by (simp (maxDischargeDepth := 6) [LTB, HLt_set, ltL_take, ltL_drop, ltL_rep, ltL_set, upd, eset, hH, hHk, ltL_nodeC, zlRoute81] <;> omega)⟩
  · omega
  rintro ⟨i, v⟩ hi
  refine EWn.of_c Tok mixed (own := false) keep65 tab65 (by kernel_rfl) ?_
  (repeat simp -dsimp only [zrRoute81, xnils, xnilm, xrange, xmakeMap, xslice3, RB, TB, keep65, tab65, xindexAddr, xindex, xslice, xconvert, xlen, ewOp, FreeW, StabW, SameW, ChangeW, AddW, BaseW, limBytes, simprocAttr, ne_eq])
  refine IfW.intro (fun hs => ?_) (fun hs => ?_)
  · have hlt := lt_of hs
    have hmi := at_map vi l i hlt
    simp only [vi] at hmi
    have d1 := dns i hlt
    have u1 := uns i hlt
    have hhk := nodeAt_hooks hB l[i]
    have hd0 := dnl i
    have hu0 := unl i
    (repeat (first | simp -dsimp only [zrRoute81, xnils, xnilm, xrange, xmakeMap, xslice3, hs, hmi, RB, TB, keep65, tab65, xindexAddr, xindex, xslice, xconvert, xlen, ewOp, FreeW, StabW, SameW, ChangeW, AddW, BaseW, limBytes, simprocAttr, ne_eq] | ((with_reducible refine Need.intro ?_ ?_); (omega))))
    (refine SCall.then (aGetF _ A m a (arena_app h _) hok l[i]) ?_)
    (repeat simp -dsimp only [zrRoute81, xnils, xnilm, xrange, xmakeMap, xslice3, nodeV, RB, TB, keep65, tab65, xindexAddr, xindex, xslice, xconvert, xlen, ewOp, FreeW, StabW, SameW, ChangeW, AddW, BaseW, limBytes, simprocAttr, ne_eq])
    generalize nodeAt a l[i] = n at *
    generalize dn i = D at *
    generalize un i = U at *
    refine EWn.ghost (Gho.adopt 12 4 rfl) ?_
    simp only [RB, limBytes, simprocAttr, ne_eq]
    refine EWn.loopE (ι := (Nat) × (Nat) × (Nat)) (fun (x_ : (Nat) × (Nat) × (Nat)) => match x_ with | (k, v1, v2) => k ≤ n.hooks.length) (fun (x_ : (Nat) × (Nat) × (Nat)) => match x_ with | (k, v1, v2) => n.hooks.length - k) (fun (x_ : (Nat) × (Nat) × (Nat)) => match x_ with | (k, v1, v2) => [(7, .vec H.length v1 0 (D ++ toldF n ev true (phB i l.length 1) (n.hooks.take k)).length), (12, .vec (H.length + 2) v2 0 (toldF n ev false (phB i l.length 3) (n.hooks.take k)).length), (13, .int .i64 k)]) (fun (x_ : (Nat) × (Nat) × (Nat)) => match x_ with | (k, v1, v2) => H ++ [.vec v1 4 ((D ++ toldF n ev true (phB i l.length 1) (n.hooks.take k)).map callV), .var (nodeV n).cells, .vec v2 4 ((toldF n ev false (phB i l.length 3) (n.hooks.take k)).map callV)]) (0, v, 1) ?_ ?_ ?_ ?_ ?_
    · first | rfl | (simp [upd, eset]; done) | (simp [upd, eset, toldF, nodeV, V.cells]; done)
    · simp [toldF, nodeV, V.cells]
    · rintro ⟨k, v1, v2⟩ hok; exact ⟨by first | (simp; done) | (simp; omega), by (simp (maxDischargeDepth := 6) [LTB, HLt_set, ltL_take, ltL_drop, ltL_rep, ltL_set, upd, eset, hH, hHk, ltL_nodeC, zlRoute81] <;> omega), by (simp (maxDischargeDepth := 6) [LTB, HLt_set, ltL_take, ltL_drop, ltL_rep, ltL_set, upd, eset, hH, hHk, ltL_nodeC, zlRoute81] <;> omega)⟩
    · omega
    rintro ⟨k, v1, v2⟩ hk
    refine EWn.of_c Tok mixed (own := false) keep65 tab65 (by kernel_rfl) ?_
    (repeat simp -dsimp only [zrRoute81, xnils, xnilm, xrange, xmakeMap, xslice3, nodeV, RB, TB, keep65, tab65, xindexAddr, xindex, xslice, xconvert, xlen, ewOp, FreeW, StabW, SameW, ChangeW, AddW, BaseW, limBytes, simprocAttr, ne_eq])
    refine IfW.intro (fun h1 => ?_) (fun h1 => ?_)
    · have hlt2 := lt_of h1
      have hat2 := at_map hookV n.hooks k hlt2
      have t1 := toldF_succ n ev true (phB i l.length 1) hlt2
      have t2 := toldF_succ n ev false (phB i l.length 3) hlt2
      have tl1 := toldF_len n ev true (phB i l.length 1) (n.hooks.take k)
      have tl2 := toldF_len n ev false (phB i l.length 3) (n.hooks.take k)
      rw [List.length_take] at tl1 tl2
      generalize n.hooks[k] = hx at hat2 t1 t2
      simp only [hookV] at hat2
      generalize toldF n ev true (phB i l.length 1) (n.hooks.take k) = E1 at *
      generalize toldF n ev false (phB i l.length 3) (n.hooks.take k) = E2 at *
      have wl : IntKind.i64.wrap ((l.length : Int) - 1) = l.length - 1 := wrapI (by omega)
      have wk : IntKind.i64.wrap ((k : Int) + 1) = ((k + 1 : Nat) : Int) := by rw [wrapI (by omega)]; omega
      (repeat (first | simp -dsimp only [zrRoute81, xnils, xnilm, xrange, xmakeMap, xslice3, h1, hat2, RB, TB, keep65, tab65, xindexAddr, xindex, xslice, xconvert, xlen, ewOp, FreeW, StabW, SameW, ChangeW, AddW, BaseW, limBytes, simprocAttr, ne_eq] | ((with_reducible refine Need.intro ?_ ?_); (omega))))
      refine IfW.intro (fun h2 => ?_) (fun h2 => ?_)
      · rw [h2] at t1 t2
        (repeat (first | simp -dsimp only [zrRoute81, xnils, xnilm, xrange, xmakeMap, xslice3, h2, RB, TB, keep65, tab65, xindexAddr, xindex, xslice, xconvert, xlen, ewOp, FreeW, StabW, SameW, ChangeW, AddW, BaseW, limBytes, simprocAttr, ne_eq] | ((with_reducible refine Need.intro ?_ ?_); (trivial))))
        cases hc : hx.cap
        · simp only [hc, Bool.true_and, beq_true, beq_false, Bool.not_false, Bool.false_eq_true, if_true, if_false, List.append_nil] at t1 t2
          by_cases hi2 : i + 1 = l.length
          · have e1 : ((i : Int) == (l.length : Int) - 1) = true := by simp; omega
            have e2 : phB i l.length 3 = 2 := by unfold phB; rw [if_pos hi2]
            (repeat (first | simp -dsimp only [zrRoute81, xnils, xnilm, xrange, xmakeMap, xslice3, hc, wl, e1, wk, RB, TB, keep65, tab65, xindexAddr, xindex, xslice, xconvert, xlen, ewOp, FreeW, StabW, SameW, ChangeW, AddW, BaseW, limBytes, simprocAttr, ne_eq] | ((with_reducible refine Need.intro ?_ ?_); (first | trivial | omega))))
            refine UpTo.here ⟨(k + 1, v1, v2 + 1), hlt2, by simp only; omega, by simp [upd, eset, t1, t2], ⟨_, by simp only [t1, t2]; simp [e2, callV, nodeV, V.cells]; rfl⟩⟩
          · have e1 : ((i : Int) == (l.length : Int) - 1) = false := by simp; omega
            have e2 : phB i l.length 3 = 3 := by unfold phB; rw [if_neg hi2]
            (repeat (first | simp -dsimp only [zrRoute81, xnils, xnilm, xrange, xmakeMap, xslice3, hc, wl, e1, wk, RB, TB, keep65, tab65, xindexAddr, xindex, xslice, xconvert, xlen, ewOp, FreeW, StabW, SameW, ChangeW, AddW, BaseW, limBytes, simprocAttr, ne_eq] | ((with_reducible refine Need.intro ?_ ?_); (first | trivial | omega))))
            refine UpTo.here ⟨(k + 1, v1, v2 + 1), hlt2, by simp only; omega, by simp [upd, eset, t1, t2], ⟨_, by simp only [t1, t2]; simp [e2, callV, nodeV, V.cells]; rfl⟩⟩
        · simp only [hc, Bool.true_and, beq_true, beq_false, Bool.not_true, Bool.false_eq_true, if_true, if_false, List.append_nil] at t1 t2
          by_cases hi2 : i + 1 = l.length
          · have e1 : ((i : Int) == (l.length : Int) - 1) = true := by simp; omega
            have e2 : phB i l.length 1 = 2 := by unfold phB; rw [if_pos hi2]
            (repeat (first | simp -dsimp only [zrRoute81, xnils, xnilm, xrange, xmakeMap, xslice3, hc, wl, e1, wk, RB, TB, keep65, tab65, xindexAddr, xindex, xslice, xconvert, xlen, ewOp, FreeW, StabW, SameW, ChangeW, AddW, BaseW, limBytes, simprocAttr, ne_eq] | ((with_reducible refine Need.intro ?_ ?_); (first | trivial | omega))))
            refine UpTo.here ⟨(k + 1, v1 + 1, v2), hlt2, by simp only; omega, by simp [upd, eset, t1, t2], ⟨_, by simp only [t1, t2]; simp [e2, callV, nodeV, V.cells]; rfl⟩⟩
          · have e1 : ((i : Int) == (l.length : Int) - 1) = false := by simp; omega
            have e2 : phB i l.length 1 = 1 := by unfold phB; rw [if_neg hi2]
            (repeat (first | simp -dsimp only [zrRoute81, xnils, xnilm, xrange, xmakeMap, xslice3, hc, wl, e1, wk, RB, TB, keep65, tab65, xindexAddr, xindex, xslice, xconvert, xlen, ewOp, FreeW, StabW, SameW, ChangeW, AddW, BaseW, limBytes, simprocAttr, ne_eq] | ((with_reducible refine Need.intro ?_ ?_); (first | trivial | omega))))
            refine UpTo.here ⟨(k + 1, v1 + 1, v2), hlt2, by simp only; omega, by simp [upd, eset, t1, t2], ⟨_, by simp only [t1, t2]; simp [e2, callV, nodeV, V.cells]; rfl⟩⟩
      · rw [h2] at t1 t2
        simp only [Bool.false_and, Bool.false_eq_true, if_false, List.append_nil] at t1 t2
        (repeat simp -dsimp only [zrRoute81, xnils, xnilm, xrange, xmakeMap, xslice3, h2, wk, RB, TB, keep65, tab65, xindexAddr, xindex, xslice, xconvert, xlen, ewOp, FreeW, StabW, SameW, ChangeW, AddW, BaseW, limBytes, simprocAttr, ne_eq])
        refine UpTo.here ⟨(k + 1, v1, v2), hlt2, by simp only; omega, by simp [upd, eset, t1, t2], ⟨_, by simp only [t1, t2]; simp [nodeV, V.cells]; rfl⟩⟩
    · have hk2 : k = n.hooks.length := Nat.le_antisymm hk (ge_of h1)
      subst hk2
      rw [List.take_length]
      have tl1 := toldF_len n ev true (phB i l.length 1) n.hooks
      have tl2 := toldF_len n ev false (phB i l.length 3) n.hooks
      (repeat (first | simp -dsimp only [zrRoute81, xnils, xnilm, xrange, xmakeMap, xslice3, h1, RB, TB, keep65, tab65, xindexAddr, xindex, xslice, xconvert, xlen, ewOp, FreeW, StabW, SameW, ChangeW, AddW, BaseW, limBytes, simprocAttr, ne_eq] | ((with_reducible refine Need.intro ?_ ?_); ((simp; omega)))))
      rw [wrapI (by omega)]
      refine UpTo.step (Gho.frz 8 (by rfl) (by rw [hget]; rfl) (by simp)) (UpTo.here ⟨(i + 1, v1), hlt, by simp only; omega, by simp [upd, eset, u1, d1], ⟨_, by simp [d1]; rfl⟩⟩)
  · have hi2 : i = l.length := Nat.le_antisymm hi (ge_of hs)
    subst hi2
    have b1 := dnl l.length
    have b2 := unl l.length
    (repeat (first | simp -dsimp only [zrRoute81, xnils, xnilm, xrange, xmakeMap, xslice3, hs, RB, TB, keep65, tab65, xindexAddr, xindex, xslice, xconvert, xlen, ewOp, FreeW, StabW, SameW, ChangeW, AddW, BaseW, limBytes, simprocAttr, ne_eq] | ((with_reducible refine Need.intro ?_ ?_); (omega))))
    refine RetW.auto0 false _ (by first | rfl | exact (List.append_nil _).symm) ?_ ?_
    · (simp (maxDischargeDepth := 6) [LTB, HLt_set, ltL_take, ltL_drop, ltL_rep, ltL_set, upd, eset, hH, hHk, ltL_nodeC, zlRoute81] <;> omega)
    (try simp only [wk, wk1, wk0, RB, limBytes, simprocAttr, ne_eq])
    (try (rw [List.take_of_length_le]; rotate_left 1; (· first | (simp; done) | (simp; omega) | omega)))
    simp
end Go.Proofs.Ytjplgbalpnlanaa

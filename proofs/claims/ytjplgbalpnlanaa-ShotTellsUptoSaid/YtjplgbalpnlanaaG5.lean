import Derived.Test.YtjplgbalpnlanaaG4
import Derived.Shelf.Spec.SlicesInsertGrow
/- slices.Clone and own again: what they return is the caller's own. -/
set_option maxHeartbeats 600000
set_option linter.unusedSimpArgs false
set_option linter.unusedVariables false
set_option maxRecDepth 100000
namespace Go.Proofs.Ytjplgbalpnlanaa
open Go Go.EL
theorem zrArena51 : type_of% (And.intro (And.intro (And.intro (And.intro (@st_run) (And.intro (@sz_run) (@st1_run))) (And.intro (@cl_run) (And.intro (@st_Str) (@sz_Str)))) (And.intro (And.intro (@st1_Str) (And.intro (@cl_Str) (@st_c))) (And.intro (@sz_c) (And.intro (@st1_c) (@cl_c))))) (And.intro (And.intro (And.intro (@st_attr) (And.intro (@sz_attr) (@st1_attr))) (And.intro (@cl_attr) (And.intro (@st_hook) (@sz_hook)))) (And.intro (And.intro (@st1_hook) (And.intro (@cl_hook) (@st_node))) (And.intro (@sz_node) (And.intro (@st1_node) (@cl_node)))))) := And.intro (And.intro (And.intro (And.intro (@st_run) (And.intro (@sz_run) (@st1_run))) (And.intro (@cl_run) (And.intro (@st_Str) (@sz_Str)))) (And.intro (And.intro (@st1_Str) (And.intro (@cl_Str) (@st_c))) (And.intro (@sz_c) (And.intro (@st1_c) (@cl_c))))) (And.intro (And.intro (And.intro (@st_attr) (And.intro (@sz_attr) (@st1_attr))) (And.intro (@cl_attr) (And.intro (@st_hook) (@sz_hook)))) (And.intro (And.intro (@st1_hook) (And.intro (@cl_hook) (@st_node))) (And.intro (@sz_node) (And.intro (@st1_node) (@cl_node)))))
theorem zlArena51 : type_of% (And.intro (And.intro (And.intro (And.intro (@lt_vi) (@lt_str)) (And.intro (@lt_vb) (And.intro (@ltc_str) (@ltc_vi)))) (And.intro (And.intro (@lt_run) (And.intro (@lt1_run) (@ltc_run))) (And.intro (@lt_Str) (And.intro (@lt1_Str) (@ltc_Str))))) (And.intro (And.intro (And.intro (@lt_c) (And.intro (@lt1_c) (@ltc_c))) (And.intro (@lt_attr) (And.intro (@lt1_attr) (@ltc_attr)))) (And.intro (And.intro (@lt_hook) (And.intro (@lt1_hook) (@ltc_hook))) (And.intro (@lt_node) (And.intro (@lt1_node) (@ltc_node)))))) := And.intro (And.intro (And.intro (And.intro (@lt_vi) (@lt_str)) (And.intro (@lt_vb) (And.intro (@ltc_str) (@ltc_vi)))) (And.intro (And.intro (@lt_run) (And.intro (@lt1_run) (@ltc_run))) (And.intro (@lt_Str) (And.intro (@lt1_Str) (@ltc_Str))))) (And.intro (And.intro (And.intro (@lt_c) (And.intro (@lt1_c) (@ltc_c))) (And.intro (@lt_attr) (And.intro (@lt1_attr) (@ltc_attr)))) (And.intro (And.intro (@lt_hook) (And.intro (@lt1_hook) (@ltc_hook))) (And.intro (@lt_node) (And.intro (@lt1_node) (@ltc_node)))))
theorem cloneHV0 (H : List Ob) (l : List Hook) (hl : l.length ≤ 1000000000000) : SCall Try.prog 112 [.slice (l.map hookV)] H (fun r H' => (l = [] ∧ r = .fslice [] ∧ H' = H) ∨ (r = .vec H.length 1 0 l.length ∧ H' = H ++ [.vec 1 3 (l.map hookV)])) := by
  refine SCall.of_good fun hH => ?_
  have hHk := HLt.add hH
  refine SCall.of_code Tok Try.func112 rfl Try.call112 (n := 8) rfl (by simp) (rs := [.tmp 2]) rfl ?_
  refine EWn.to ?_
  refine EWn.of_c Tok mixed (own := false) keep112 tab112 (by kernel_rfl) ?_
  (repeat simp -dsimp only [zrArena51, xnils, xnilm, xrange, xmakeMap, RB, TB, keep112, tab112, xindexAddr, xindex, xslice, xconvert, xlen, ewOp, FreeW, StabW, SameW, ChangeW, AddW, BaseW, limBytes, simprocAttr, ne_eq])
  refine AnyB.intro fun b hb => ?_
  (repeat simp -dsimp only [zrArena51, xnils, xnilm, xrange, xmakeMap, RB, TB, keep112, tab112, xindexAddr, xindex, xslice, xconvert, xlen, ewOp, FreeW, StabW, SameW, ChangeW, AddW, BaseW, limBytes, simprocAttr, ne_eq])
  refine IfW.intro (fun h => ?_) (fun h => ?_)
  · subst h
    have h0 : l = [] := by cases l with
      | nil => rfl
      | cons x l => exact absurd (hb (by simp)) (by simp)
    subst h0
    (repeat simp -dsimp only [zrArena51, xnils, xnilm, xrange, xmakeMap, RB, TB, keep112, tab112, xindexAddr, xindex, xslice, xconvert, xlen, ewOp, FreeW, StabW, SameW, ChangeW, AddW, BaseW, limBytes, simprocAttr, ne_eq])
    refine RetW.auto0 true _ (by first | rfl | exact (List.append_nil _).symm) ?_ ?_
    · (simp (maxDischargeDepth := 6) [LTB, HLt_set, ltL_take, ltL_drop, ltL_rep, ltL_set, upd, eset, hH, hHk, zlArena51] <;> omega)
    (try simp only [wk, wk1, wk0, RB, if_true, limBytes, simprocAttr, ne_eq])
    skip
  · subst h
    (repeat (first | simp -dsimp only [zrArena51, xnils, xnilm, xrange, xmakeMap, RB, TB, keep112, tab112, xindexAddr, xindex, xslice, xconvert, xlen, ewOp, FreeW, StabW, SameW, ChangeW, AddW, BaseW, limBytes, simprocAttr, ne_eq] | ((with_reducible refine Need.intro ?_ ?_); (omega))))
    refine RetW.auto false [.vec 1 3 (l.map hookV)] _ (by first | rfl | simp) ?_ ?_ ?_
    · (simp (maxDischargeDepth := 6) [LTB, HLt_set, ltL_take, ltL_drop, ltL_rep, ltL_set, upd, eset, hH, hHk, zlArena51] <;> omega)
    · (simp (maxDischargeDepth := 6) [LTB, HLt_set, ltL_take, ltL_drop, ltL_rep, ltL_set, upd, eset, hH, hHk, zlArena51] <;> omega)
    (try simp only [wk, wk1, wk0, RB, limBytes, simprocAttr, ne_eq])
    (try (rw [List.take_of_length_le]; rotate_left 1; (· first | (simp; done) | (simp; omega) | omega)))
    first | (simp; done) | (refine .inr ⟨?_, ?_⟩ <;> simp; done) | trace_state
theorem cloneHV (H : List Ob) (l : List Hook) (hl : l.length ≤ 1000000000000) : SCall Try.prog 112 [.slice (l.map hookV)] H (fun r H' => r = .vec H.length 1 0 l.length ∧ H' = H ++ [.vec 1 3 (l.map hookV)]) := by
  refine (cloneHV0 H l hl).ghoE fun r H' h => ?_
  rcases h with ⟨rfl, rfl, rfl⟩ | ⟨rfl, rfl⟩
  · refine ⟨_, _, Gho.adopt (n0 := H'.length) (env := [(0, .fslice [])]) 0 3 rfl, And.intro rfl rfl⟩
  · exact ⟨_, _, Gho.refl _ _ _, And.intro rfl rfl⟩
end Go.Proofs.Ytjplgbalpnlanaa

/- slices.Insert of ints at the end of the caller's own list. -/
set_option maxHeartbeats 600000
set_option linter.unusedSimpArgs false
set_option linter.unusedVariables false
set_option maxRecDepth 100000
namespace Go.Proofs.Ytjplgbalpnlanaa
open Go Go.EL
theorem zrDom21 : type_of% (And.intro (And.intro (And.intro (And.intro (@st_run) (And.intro (@sz_run) (@st1_run))) (And.intro (@cl_run) (And.intro (@st_Str) (@sz_Str)))) (And.intro (And.intro (@st1_Str) (And.intro (@cl_Str) (@st_c))) (And.intro (@sz_c) (And.intro (@st1_c) (@cl_c))))) (And.intro (And.intro (And.intro (@st_attr) (And.intro (@sz_attr) (@st1_attr))) (And.intro (@cl_attr) (And.intro (@st_hook) (@sz_hook)))) (And.intro (And.intro (@st1_hook) (And.intro (@cl_hook) (@st_node))) (And.intro (@sz_node) (And.intro (@st1_node) (@cl_node)))))) := And.intro (And.intro (And.intro (And.intro (@st_run) (And.intro (@sz_run) (@st1_run))) (And.intro (@cl_run) (And.intro (@st_Str) (@sz_Str)))) (And.intro (And.intro (@st1_Str) (And.intro (@cl_Str) (@st_c))) (And.intro (@sz_c) (And.intro (@st1_c) (@cl_c))))) (And.intro (And.intro (And.intro (@st_attr) (And.intro (@sz_attr) (@st1_attr))) (And.intro (@cl_attr) (And.intro (@st_hook) (@sz_hook)))) (And.intro (And.intro (@st1_hook) (And.intro (@cl_hook) (@st_node))) (And.intro (@sz_node) (And.intro (@st1_node) (@cl_node)))))
theorem zlDom21 : type_of% (And.intro (And.intro (And.intro (And.intro (@lt_vi) (@lt_str)) (And.intro (@lt_vb) (And.intro (@ltc_str) (@ltc_vi)))) (And.intro (And.intro (@lt_run) (And.intro (@lt1_run) (@ltc_run))) (And.intro (@lt_Str) (And.intro (@lt1_Str) (@ltc_Str))))) (And.intro (And.intro (And.intro (@lt_c) (And.intro (@lt1_c) (@ltc_c))) (And.intro (@lt_attr) (And.intro (@lt1_attr) (@ltc_attr)))) (And.intro (And.intro (@lt_hook) (And.intro (@lt1_hook) (@ltc_hook))) (And.intro (@lt_node) (And.intro (@lt1_node) (@ltc_node)))))) := And.intro (And.intro (And.intro (And.intro (@lt_vi) (@lt_str)) (And.intro (@lt_vb) (And.intro (@ltc_str) (@ltc_vi)))) (And.intro (And.intro (@lt_run) (And.intro (@lt1_run) (@ltc_run))) (And.intro (@lt_Str) (And.intro (@lt1_Str) (@ltc_Str))))) (And.intro (And.intro (And.intro (@lt_c) (And.intro (@lt1_c) (@ltc_c))) (And.intro (@lt_attr) (And.intro (@lt1_attr) (@ltc_attr)))) (And.intro (And.intro (@lt_hook) (And.intro (@lt1_hook) (@ltc_hook))) (And.intro (@lt_node) (And.intro (@lt1_node) (@ltc_node)))))
theorem insI (H : List Ob) (o ver : Nat) (l : List Int) (x : Int) (ho : H[o]? = some (.vec ver 1 (l.map vi))) (hl : l.length ≤ 1000000000) : SCall Try.prog 131 [.vec o ver 0 l.length, .int .i64 l.length, .slice [vi x]] H (fun r H' => r = .vec o (ver + 1) 0 (l.length + 1) ∧ H' = H.set o (.vec (ver + 1) 1 ((l ++ [x]).map vi))) := by
  have lo : o < H.length := (List.getElem?_eq_some_iff.1 ho).1
  have hK := fun K => show (H ++ K)[o]? = some (.vec ver 1 (l.map vi)) by rw [List.getElem?_append_left lo]; exact ho
  refine SCall.of_good fun hH => ?_
  have hHk := HLt.add hH
  refine SCall.of_code Tok Try.func131 rfl Try.call131 (n := 95) rfl (by simp) (rs := [.tmp 6]) rfl ?_
  refine EWn.to ?_
  refine EWn.of_c Tok mixed (own := false) keep131 tab131 (by kernel_rfl) ?_
  (repeat (first | simp -dsimp only [zrDom21, ho, hK, RB, TB, keep131, tab131, xindexAddr, xindex, xslice, xconvert, xlen, ewOp, FreeW, StabW, SameW, ChangeW, AddW, BaseW, limBytes, simprocAttr, ne_eq] | ((with_reducible refine Need.intro ?_ ?_); (omega))))
  skip
  refine Need.intro ⟨by first | trivial | (simp [vi, V.storable]), by first | rfl | (simp [vi, V.cells]), by omega⟩ ?_
  (repeat simp -dsimp only [zrDom21, ho, hK, RB, TB, keep131, tab131, xindexAddr, xindex, xslice, xconvert, xlen, ewOp, FreeW, StabW, SameW, ChangeW, AddW, BaseW, limBytes, simprocAttr, ne_eq])
  refine RetW.cutK false (H.set o (.vec (ver + 1) 1 ((l ++ [x]).map vi))) [] (by simp) (by simp) ?_ ?_ ?_
  · rw [List.length_set]
    exact HLt_set hH (lt_vi _ _)
  · simp [okW, okW1, okW0, V.lt, lo]
    intro h; omega
  · simp only [List.length_set, wk, wk1, wk0]
    rw [if_neg (by omega)]
    exact ⟨rfl, trivial⟩
end Go.Proofs.Ytjplgbalpnlanaa

/- The walks of package dom: Inside, Insert at the end. -/
set_option linter.unusedSimpArgs false
set_option linter.unusedVariables false
set_option maxRecDepth 100000
namespace Go.EL
open Go
theorem SCall.goodA {P : Program} {f : FuncId} {args : List V} {H : List Ob} {R : V → List Ob → Prop} (h : SCall P f args H R) : SCall P f args H (fun r H' => R r H' ∧ HLt H'.length H') := by
  intro g w cargs hG ha
  exact (h g w cargs hG ha).mono fun v w' ⟨r, H', g', h1, h2, h3, h4⟩ => ⟨r, H', g', h1, h2, h3, h4, fun x hx => by obtain ⟨i, hi⟩ := List.getElem?_of_mem hx; exact h1.lt hi⟩
theorem CvO.rflA {z : Option (Nat × Nat × List V)} (u : Ob) : CvO z u u := by
  cases u with
  | gone => trivial
  | hole => trivial
  | var cs => exact All2.rfl' (fun _ => .inl (.inl rfl)) _
  | vec v e l => exact ⟨rfl, rfl, All2.rfl' CvA.rfl' _⟩
  | raw _ _ _ _ => exact ⟨rfl, rfl, rfl, rfl⟩
  | map _ _ => exact ⟨rfl, All2.rfl' (fun _ => ⟨rfl, rfl, CvA.rfl' _⟩) _⟩
  | iter _ _ _ _ => exact ⟨rfl, rfl, rfl, rfl⟩
/-- a list of one's own, in a struct that is handed over, is given up -/
theorem SCall.freezeA {P : Program} (i : Nat) {f : FuncId} {args : List V} {H : List Ob} {R : V → List Ob → Prop} {o ver es : Nat} {l cs cs' : List V} (ho : H[o]? = some (.vec ver es l)) (ha : args[i]? = some (.agg cs)) (hc : All2 (CvB (some (o, ver, l))) cs cs') (h : SCall P f (args.set i (.agg cs')) (H.set o .gone) R) : SCall P f args H R := by
  have hlt := (List.getElem?_eq_some_iff.1 ho).1
  refine SCall.ghost (Gho.conv (some (o, ver, l)) (fun _ _ _ e => by cases e; exact ⟨⟨es, ho⟩, List.getElem?_set_self hlt⟩) (by simp) (fun j x hx hz => ⟨x, ?_, CvO.rflA x⟩) (argEnv_G (R := CvA (some (o, ver, l))) CvA.rfl' (.inr ⟨cs, cs', rfl, rfl, hc⟩) args i 0 ha)) (by simp) h
  rw [List.getElem?_set_ne (by rintro rfl; simp [isZ] at hz)]
  exact hx
theorem SCall.truncA {P : Program} {f : FuncId} {args : List V} {H : List Ob} {R : V → List Ob → Prop} (o n : Nat) {ver es : Nat} {l : List V} (ho : H[o]? = some (.vec ver es l)) (h : SCall P f args (H.set o (.vec ver es (l.take n))) R) : SCall P f args H R :=
  SCall.ghost (Gho.trunc o n ho) rfl h
end Go.EL
namespace Go.Proofs.Ytjplgbalpnlanaa
open Go Go.EL
theorem zrDom31 : type_of% (And.intro (And.intro (And.intro (And.intro (@st_run) (And.intro (@sz_run) (@st1_run))) (And.intro (@cl_run) (And.intro (@st_Str) (@sz_Str)))) (And.intro (And.intro (@st1_Str) (And.intro (@cl_Str) (@st_c))) (And.intro (@sz_c) (And.intro (@st1_c) (@cl_c))))) (And.intro (And.intro (And.intro (@st_attr) (And.intro (@sz_attr) (@st1_attr))) (And.intro (@cl_attr) (And.intro (@st_hook) (@sz_hook)))) (And.intro (And.intro (@st1_hook) (And.intro (@cl_hook) (@st_node))) (And.intro (@sz_node) (And.intro (@st1_node) (@cl_node)))))) := And.intro (And.intro (And.intro (And.intro (@st_run) (And.intro (@sz_run) (@st1_run))) (And.intro (@cl_run) (And.intro (@st_Str) (@sz_Str)))) (And.intro (And.intro (@st1_Str) (And.intro (@cl_Str) (@st_c))) (And.intro (@sz_c) (And.intro (@st1_c) (@cl_c))))) (And.intro (And.intro (And.intro (@st_attr) (And.intro (@sz_attr) (@st1_attr))) (And.intro (@cl_attr) (And.intro (@st_hook) (@sz_hook)))) (And.intro (And.intro (@st1_hook) (And.intro (@cl_hook) (@st_node))) (And.intro (@sz_node) (And.intro (@st1_node) (@cl_node)))))
theorem zlDom31 : type_of% (And.intro (And.intro (And.intro (And.intro (@lt_vi) (@lt_str)) (And.intro (@lt_vb) (And.intro (@ltc_str) (@ltc_vi)))) (And.intro (And.intro (@lt_run) (And.intro (@lt1_run) (@ltc_run))) (And.intro (@lt_Str) (And.intro (@lt1_Str) (@ltc_Str))))) (And.intro (And.intro (And.intro (@lt_c) (And.intro (@lt1_c) (@ltc_c))) (And.intro (@lt_attr) (And.intro (@lt1_attr) (@ltc_attr)))) (And.intro (And.intro (@lt_hook) (And.intro (@lt1_hook) (@ltc_hook))) (And.intro (@lt_node) (And.intro (@lt1_node) (@ltc_node)))))) := And.intro (And.intro (And.intro (And.intro (@lt_vi) (@lt_str)) (And.intro (@lt_vb) (And.intro (@ltc_str) (@ltc_vi)))) (And.intro (And.intro (@lt_run) (And.intro (@lt1_run) (@ltc_run))) (And.intro (@lt_Str) (And.intro (@lt1_Str) (@ltc_Str))))) (And.intro (And.intro (And.intro (@lt_c) (And.intro (@lt1_c) (@ltc_c))) (And.intro (@lt_attr) (And.intro (@lt1_attr) (@ltc_attr)))) (And.intro (And.intro (@lt_hook) (And.intro (@lt1_hook) (@ltc_hook))) (And.intro (@lt_node) (And.intro (@lt1_node) (@ltc_node)))))
theorem get_appD {H L : List Ob} {j : Nat} {x : Ob} (h : H[j]? = some x) : (H ++ L)[j]? = some x := by rw [List.getElem?_append_left (List.getElem?_eq_some_iff.1 h).1]; exact h
/-- what Get tells -/
def nodeAt (a : Arena) (id : Int) : Node := match nget a.nodes id with | some n => ownN n | none => nodeZ
theorem aGetF (G : List Ob) (A m : Nat) (a : Arena) (h : arenaAt G A m a) (hok : ∀ p ∈ a.nodes, okN p.2.2) (id : Int) : SCall Try.prog 40 [.ref A 0, .int .i64 id] G (fun r H' => r = .tuple [nodeV (nodeAt a id), .bool (nget a.nodes id).isSome] ∧ H' = G) := by
  have := aGet G A m a h hok id
  unfold nodeAt
  cases hn : nget a.nodes id with
  | none => rw [hn] at this; exact this
  | some n => rw [hn] at this; exact this
theorem aGetV (G : List Ob) (A m : Nat) (a : Arena) (h : arenaAt G A m a) (hok : ∀ p ∈ a.nodes, okN p.2.2) (id : Int) (n : Node) (hn : nget a.nodes id = some n) : SCall Try.prog 40 [.ref A 0, .int .i64 id] G (fun r H' => ∃ o L, r = .tuple [nodeK (ownN n) o 1, .bool true] ∧ H' = G ++ L ∧ G.length ≤ o ∧ H'[o]? = some (.vec 1 1 (n.kids.map vi))) := by
  have hg := mget_enc id a.nodes
  have hK := fun K => (arena_app h K).1
  have hM := fun K => (arena_app h K).2.1
  rw [hn] at hg
  simp only [Option.map_some] at hg
  obtain ⟨p, hp, rfl⟩ := nget_mem hn
  refine SCall.of_good fun hH => ?_
  have hHk := HLt.add hH
  refine SCall.of_code Tok Try.func40 rfl Try.call40 (n := 18) rfl (by simp) (rs := [.cell 4 60, .tmp 5]) rfl ?_
  refine EWn.to ?_
  refine EWn.of_c Tok mixed (own := false) keep40 tab40 (by kernel_rfl) ?_
  (repeat simp -dsimp only [zrDom31, xnils, xnilm, xrange, xmakeMap, xslice3, RB, TB, keep40, tab40, xindexAddr, xindex, xslice, xconvert, xlen, ewOp, FreeW, StabW, SameW, ChangeW, AddW, BaseW, limBytes, simprocAttr, ne_eq])
  (refine SCall.then (aHas _ A m a (arena_app h _) id) ?_)
  (repeat (first | simp -dsimp only [zrDom31, xnils, xnilm, xrange, xmakeMap, xslice3, hn, Option.isSome_some, hK, hM, hg, RB, TB, keep40, tab40, xindexAddr, xindex, xslice, xconvert, xlen, ewOp, FreeW, StabW, SameW, ChangeW, AddW, BaseW, limBytes, simprocAttr, ne_eq] | ((with_reducible refine Need.intro ?_ ?_); (omega))))
  refine SCall.mono (aOwnV _ p.2.2 (hok p hp)).goodA ?_
  rintro _ G2 ⟨⟨o, L, rfl, rfl, hle, ho⟩, hG2⟩
  have lo := (List.getElem?_eq_some_iff.1 ho).1
  (repeat simp -dsimp only [zrDom31, xnils, xnilm, xrange, xmakeMap, xslice3, nodeK, RB, TB, keep40, tab40, xindexAddr, xindex, xslice, xconvert, xlen, ewOp, FreeW, StabW, SameW, ChangeW, AddW, BaseW, limBytes, simprocAttr, ne_eq])
  have e : ∀ X : Ob, (G ++ X :: L) = (G ++ [Ob.var [.int .i64 0, .int .i64 0, .int .i64 0, .int .i64 0, .str [], .fslice [], .str [], .int .i64 0, .fslice [], .fslice [], .fslice [], .str [], .fslice []]] ++ L).set G.length X := fun X => by simp
  have hle2 : G.length + 1 ≤ o := by simpa using hle
  refine RetW.keep false (by simp) ?_ ?_ ?_
  · rw [e, List.length_set]
    refine HLt_set hG2 ?_
    simp only [Ob.lt, ltL, V.lt, and_true, true_and]
    exact ⟨lt_run _ _, lt_attr _ _, lt_hook _ _, lo, lt_run _ _⟩
  · have lo2 : o < (G ++ Ob.gone :: L).length := by simpa using lo
    simp [okW, okW1, okW0, V.lt, ltL, lt_run, lt_hook, lt_attr]
    intro hh
    simp at lo2
    omega
  · refine ⟨o, _, ?_, rfl, by omega, ?_⟩
    · have lo3 : ¬ (G.length + (L.length + 1) ≤ o) := by simp at lo; omega
      simp [wk, wk1, wk0, lo3]
    · rw [e, List.getElem?_set_ne (by omega)]; exact ho
theorem containsIB (H : List Ob) (l : List Int) (v : Int) (x : V) (hx : Bo H x (.slice (l.map vi))) : SCall Try.prog 128 [x, .int .i64 v] H (fun r H' => r = .bool (decide (v ∈ l)) ∧ H' = H) := by
  have e : (l.any fun x => v == x) = decide (v ∈ l) := by
    rw [Bool.eq_iff_iff]; simp
  refine SCall.borrow (args' := [.slice (l.map vi), .int .i64 v]) ⟨hx, ⟨rfl, trivial⟩, trivial⟩ ?_
  refine (containsI [] l v).mono ?_
  rintro r H' ⟨rfl, _⟩
  exact ⟨by rw [e], trivial⟩
/-- does a node lead up to another one? -/
def insideG (a : Arena) (top : Int) : Nat → Int → List Int → Bool
  | 0, _, _ => false
  | k + 1, id, met => match nget a.nodes id with
    | none => false
    | some n => if n.id ∈ met then false else if n.id = top then true else insideG a top k n.parent (met ++ [n.id])
theorem insideG_succ (a : Arena) (top : Int) (k : Nat) (id : Int) (met : List Int) : insideG a top (k + 1) id met = (match nget a.nodes id with | none => false | some n => if n.id ∈ met then false else if n.id = top then true else insideG a top k n.parent (met ++ [n.id])) := rfl
theorem nget_len {id : Int} {n : Node} {l : List Ent} (h : nget l id = some n) : n.id ∈ l.map fun p => p.2.2.id := by
  obtain ⟨p, hp, rfl⟩ := nget_mem h
  exact List.mem_map.2 ⟨p, hp, rfl⟩
theorem nodup_sub : ∀ (l m : List Int), l.Nodup → (∀ x ∈ l, x ∈ m) → l.length ≤ m.length
  | [], m, _, _ => by simp
  | x :: l, m, hn, hs => by
    have hx := hs x (by simp)
    rw [List.nodup_cons] at hn
    have := nodup_sub l (m.erase x) hn.2 (fun y hy => (List.mem_erase_of_ne (fun (e : y = x) => hn.1 (e ▸ hy))).2 (hs y (by simp [hy])))
    rw [List.length_erase_of_mem hx] at this
    have hp := List.length_pos_of_mem hx
    simp only [List.length_cons]
    omega
set_option maxHeartbeats 2000000 in
theorem dInside (H : List Ob) (A m : Nat) (a : Arena) (h : arenaAt H A m a) (hok : ∀ p ∈ a.nodes, okN p.2.2) (hN : a.nodes.length ≤ 1000000) (id top : Int) : SCall Try.prog 87 [.ref A 0, .int .i64 id, .int .i64 top] H (fun r H' => r = .bool (insideG a top (a.nodes.length + 1) id []) ∧ H' = H) := by
  have lA := (List.getElem?_eq_some_iff.1 h.1).1
  refine SCall.of_good fun hH => ?_
  have hHk := HLt.add hH
  refine SCall.of_code Tok Try.func87 rfl Try.call87 (n := 41) rfl (by simp) (rs := [.tmp 6]) rfl ?_
  refine EWn.to ?_
  refine EWn.of_c Tok mixed (own := false) keep87 tab87 (by kernel_rfl) ?_
  (repeat simp -dsimp only [zrDom31, xnils, xnilm, xrange, xmakeMap, xslice3, RB, TB, keep87, tab87, xindexAddr, xindex, xslice, xconvert, xlen, ewOp, FreeW, StabW, SameW, ChangeW, AddW, BaseW, limBytes, simprocAttr, ne_eq])
  (refine SCall.then (aGetF _ A m a h hok id) ?_)
  (repeat simp -dsimp only [zrDom31, xnils, xnilm, xrange, xmakeMap, xslice3, nodeV, RB, TB, keep87, tab87, xindexAddr, xindex, xslice, xconvert, xlen, ewOp, FreeW, StabW, SameW, ChangeW, AddW, BaseW, limBytes, simprocAttr, ne_eq])
  refine EWn.ghost (Gho.adopt 7 1 rfl) ?_
  simp only [RB, limBytes, simprocAttr, ne_eq]
  have ltc : ∀ (k : Nat) (x : Node), ltL k (nodeV x).cells := fun k x => by have := lt1_node k x; simp only [nodeV, V.lt] at this; exact this
  refine EWn.loopE (ι := (Int) × (List Int) × (Nat) × (Nat) × (Nat) × (List Ob)) (fun (x_ : (Int) × (List Int) × (Nat) × (Nat) × (Nat) × (List Ob)) => match x_ with | (cur, met, v, o, b, G) => HLt G.length G ∧ G[o]? = some (.vec v 1 (met.map vi)) ∧ G[b]? = some (.var (nodeV (nodeAt a cur)).cells) ∧ H.length ≤ b ∧ H.length ≤ o ∧ b ≠ o ∧ met.Nodup ∧ (∀ x ∈ met, x ∈ a.nodes.map fun p => p.2.2.id) ∧ insideG a top (a.nodes.length + 1) id [] = insideG a top (a.nodes.length + 1 - met.length) cur met ∧ ∃ L, G = H ++ L) (fun (x_ : (Int) × (List Int) × (Nat) × (Nat) × (Nat) × (List Ob)) => match x_ with | (cur, met, v, o, b, G) => a.nodes.length + 1 - met.length) (fun (x_ : (Int) × (List Int) × (Nat) × (Nat) × (Nat) × (List Ob)) => match x_ with | (cur, met, v, o, b, G) => [(7, .vec o v 0 met.length), (8, .ref b 0), (9, .bool (nget a.nodes cur).isSome)]) (fun (x_ : (Int) × (List Int) × (Nat) × (Nat) × (Nat) × (List Ob)) => match x_ with | (cur, met, v, o, b, G) => G) (id, [], 1, (H.length + 1), H.length, (H ++ [.var (nodeV (nodeAt a id)).cells, .vec 1 1 []])) ?_ ?_ ?_ ?_ ?_
  · first | rfl | simp [upd, eset]
  · first | rfl | (simp; done) | exact (set_same (by assumption)).symm
  · rintro ⟨cur, met, v, o, b, G⟩ ⟨hG, ho, hb, hb1, ho1, hbo, _, _, _, L, hL⟩
    have lo := (List.getElem?_eq_some_iff.1 ho).1
    have lb := (List.getElem?_eq_some_iff.1 hb).1
    exact ⟨by rw [hL]; simp, hG, by (simp (maxDischargeDepth := 6) [LTB, HLt_set, ltL_take, ltL_drop, ltL_rep, ltL_set, upd, eset, hH, hHk, zlDom31] <;> omega)⟩
  · refine ⟨?_, by rw [hget]; rfl, by rw [hget0]; rfl, by omega, by omega, by omega, by simp, by simp, by simp, _, rfl⟩
    rw [HLt_append]
    refine ⟨by rw [List.length_append]; exact hHk _, ?_⟩
    rw [HLt_cons, HLt_cons]
    exact ⟨ltc _ _, trivial, HLt_nil⟩
  rintro ⟨cur, met, v, o, b, G⟩ ⟨hG, ho, hb, hb1, ho1, hbo, hnd, hsub, hin, L, hL⟩
  have hml := nodup_sub met _ hnd hsub
  rw [List.length_map] at hml
  have lo := (List.getElem?_eq_some_iff.1 ho).1
  have lb := (List.getElem?_eq_some_iff.1 hb).1
  have hb2 : ∀ K, (G ++ K)[b]? = some (.var (nodeV (nodeAt a cur)).cells) := fun K => get_appD (L := K) hb
  have ho2 : ∀ K, (G ++ K)[o]? = some (.vec v 1 (met.map vi)) := fun K => get_appD (L := K) ho
  have hb3 : ∀ X, (G.set o X)[b]? = some (.var (nodeV (nodeAt a cur)).cells) := fun X => by rw [List.getElem?_set_ne (Ne.symm hbo)]; exact hb
  have hat2 : ∀ X K, arenaAt (G.set o X ++ K) A m a := fun X K => by
    rw [hL, List.set_append_right _ _ ho1]
    exact arena_app (arena_app h _) _
  have hGk := HLt.add hG
  have hat : arenaAt G A m a := by rw [hL]; exact arena_app h _
  refine EWn.of_c Tok mixed (own := false) keep87 tab87 (by kernel_rfl) ?_
  (repeat simp -dsimp only [zrDom31, xnils, xnilm, xrange, xmakeMap, xslice3, hb, ho, nodeV, RB, TB, keep87, tab87, xindexAddr, xindex, xslice, xconvert, xlen, ewOp, FreeW, StabW, SameW, ChangeW, AddW, BaseW, limBytes, simprocAttr, ne_eq])
  cases hc : nget a.nodes cur with
  | none =>
    (repeat simp -dsimp only [zrDom31, xnils, xnilm, xrange, xmakeMap, xslice3, hc, Option.isSome_none, RB, TB, keep87, tab87, xindexAddr, xindex, xslice, xconvert, xlen, ewOp, FreeW, StabW, SameW, ChangeW, AddW, BaseW, limBytes, simprocAttr, ne_eq])
    rw [hL]
    refine RetW.auto0 false _ (by first | rfl | exact (List.append_nil _).symm) ?_ ?_
    · (simp (maxDischargeDepth := 6) [LTB, HLt_set, ltL_take, ltL_drop, ltL_rep, ltL_set, upd, eset, hH, hHk, zlDom31] <;> omega)
    (try simp only [wk, wk1, wk0, RB, limBytes, simprocAttr, ne_eq])
    skip
    rw [hin, show a.nodes.length + 1 - met.length = (a.nodes.length - met.length) + 1 from by omega, insideG_succ, hc]
  | some n =>
    have hna : nodeAt a cur = ownN n := by unfold nodeAt; rw [hc]
    have hin2 := hin
    have hs2 := insideG_succ a top (a.nodes.length - met.length) cur met
    rw [hc] at hs2
    rw [show a.nodes.length + 1 - met.length = (a.nodes.length - met.length) + 1 from by omega, hs2] at hin2
    simp only at hin2
    have hid : (ownN n).id = n.id := rfl
    (repeat simp -dsimp only [zrDom31, xnils, xnilm, xrange, xmakeMap, xslice3, hc, Option.isSome_some, hna, hb, ho, nodeV, hid, RB, TB, keep87, tab87, xindexAddr, xindex, xslice, xconvert, xlen, ewOp, FreeW, StabW, SameW, ChangeW, AddW, BaseW, limBytes, simprocAttr, ne_eq])
    (refine SCall.then (containsIB _ met n.id _ (Bo.vec (ver := v) (es := 1) (l := met.map vi) ho (by simp) (ltL_map (f := vi) (fun _ => trivial) met))) ?_)
    (repeat simp -dsimp only [zrDom31, xnils, xnilm, xrange, xmakeMap, xslice3, hna, hb, ho, nodeV, hid, RB, TB, keep87, tab87, xindexAddr, xindex, xslice, xconvert, xlen, ewOp, FreeW, StabW, SameW, ChangeW, AddW, BaseW, limBytes, simprocAttr, ne_eq])
    refine IfW.intro (fun h1 => ?_) (fun h1 => ?_)
    · have h1' := of_decide_eq_true h1
      rw [if_pos h1'] at hin2
      (repeat simp -dsimp only [zrDom31, xnils, xnilm, xrange, xmakeMap, xslice3, h1, RB, TB, keep87, tab87, xindexAddr, xindex, xslice, xconvert, xlen, ewOp, FreeW, StabW, SameW, ChangeW, AddW, BaseW, limBytes, simprocAttr, ne_eq])
      rw [hL]
      refine RetW.auto0 false _ (by first | rfl | exact (List.append_nil _).symm) ?_ ?_
      · (simp (maxDischargeDepth := 6) [LTB, HLt_set, ltL_take, ltL_drop, ltL_rep, ltL_set, upd, eset, hH, hHk, zlDom31] <;> omega)
      (try simp only [wk, wk1, wk0, RB, limBytes, simprocAttr, ne_eq])
      skip
      exact congrArg V.bool hin2.symm
    · have h1' := of_decide_eq_false h1
      rw [if_neg h1'] at hin2
      (repeat simp -dsimp only [zrDom31, xnils, xnilm, xrange, xmakeMap, xslice3, h1, hna, hb, ho, nodeV, hid, RB, TB, keep87, tab87, xindexAddr, xindex, xslice, xconvert, xlen, ewOp, FreeW, StabW, SameW, ChangeW, AddW, BaseW, limBytes, simprocAttr, ne_eq])
      refine IfW.intro (fun h2 => ?_) (fun h2 => ?_)
      · have h2' : n.id = top := by simpa using h2
        rw [if_pos h2'] at hin2
        (repeat simp -dsimp only [zrDom31, xnils, xnilm, xrange, xmakeMap, xslice3, h2, RB, TB, keep87, tab87, xindexAddr, xindex, xslice, xconvert, xlen, ewOp, FreeW, StabW, SameW, ChangeW, AddW, BaseW, limBytes, simprocAttr, ne_eq])
        rw [hL]
        refine RetW.auto0 false _ (by first | rfl | exact (List.append_nil _).symm) ?_ ?_
        · (simp (maxDischargeDepth := 6) [LTB, HLt_set, ltL_take, ltL_drop, ltL_rep, ltL_set, upd, eset, hH, hHk, zlDom31] <;> omega)
        (try simp only [wk, wk1, wk0, RB, limBytes, simprocAttr, ne_eq])
        skip
        exact congrArg V.bool hin2.symm
      · have h2' : ¬ n.id = top := by simpa using h2
        rw [if_neg h2'] at hin2
        have hpar : (ownN n).parent = n.parent := rfl
        (repeat (first | simp -dsimp only [zrDom31, xnils, xnilm, xrange, xmakeMap, xslice3, h2, hna, hb, hb2, ho, hb3, nodeV, hid, hpar, RB, TB, keep87, tab87, xindexAddr, xindex, xslice, xconvert, xlen, ewOp, FreeW, StabW, SameW, ChangeW, AddW, BaseW, limBytes, simprocAttr, ne_eq] | ((with_reducible refine Need.intro ?_ ?_); (first | trivial | omega))))
        (refine SCall.then (aGetF _ A m a (hat2 _ _) hok n.parent) ?_)
        (repeat simp -dsimp only [zrDom31, xnils, xnilm, xrange, xmakeMap, xslice3, hna, hb, hb2, ho, hb3, nodeV, RB, TB, keep87, tab87, xindexAddr, xindex, xslice, xconvert, xlen, ewOp, FreeW, StabW, SameW, ChangeW, AddW, BaseW, limBytes, simprocAttr, ne_eq])
        have hmem : n.id ∈ a.nodes.map fun p => p.2.2.id := nget_len hc
        have hnd2 : (met ++ [n.id]).Nodup := by
          rw [List.nodup_append]
          exact ⟨hnd, by simp, fun x hx y hy => by simp at hy; rw [hy]; exact fun e => h1' (e ▸ hx)⟩
        have hml2 := nodup_sub (met ++ [n.id]) _ hnd2 (fun x hx => by rcases List.mem_append.1 hx with hx | hx; exact hsub x hx; simp at hx; rw [hx]; exact hmem)
        rw [List.length_map, List.length_append, List.length_singleton] at hml2
        refine UpTo.here ⟨(n.parent, met ++ [n.id], v + 1, o, G.length, G.set o (.vec (v + 1) 1 ((met ++ [n.id]).map vi)) ++ [.var (nodeV (nodeAt a n.parent)).cells]), ⟨?_, ?_, ?_, by rw [hL]; simp, ho1, by omega, hnd2, ?_, ?_, ?_⟩, by simp only [List.length_append, List.length_singleton]; omega, by simp [upd, eset], ⟨[], by simp [nodeV, vi, V.cells]⟩⟩
        · rw [List.length_append, List.length_set, HLt_append]
          refine ⟨HLt_set (hGk _) (lt_vi _ _), ?_⟩
          rw [HLt_cons]
          exact ⟨ltc _ _, HLt_nil⟩
        · rw [List.getElem?_append_left (by simpa using lo), List.getElem?_set_self lo]
        · rw [List.getElem?_append_right (by simp)]; simp
        · intro x hx
          rcases List.mem_append.1 hx with hx | hx
          · exact hsub x hx
          · simp at hx; rw [hx]; exact hmem
        · rw [hin2]; congr 1; simp only [List.length_append, List.length_singleton]; omega
        · exact ⟨_, by rw [hL, List.set_append_right _ _ ho1, List.append_assoc]⟩
end Go.Proofs.Ytjplgbalpnlanaa

/- slices.Reverse of the caller's own ints; dom.Path. -/
set_option linter.unusedSimpArgs false
set_option linter.unusedVariables false
set_option maxRecDepth 100000
namespace Go.EL
open Go
/-- a list of one's own is what is returned; nothing else stays -/
theorem retOwn {H0 H : List Ob} {o v n es : Nat} {l : List V} {R : V → List Ob → Prop} (hp : ∃ L, H = H0 ++ L) (ho : H[o]? = some (.vec v es l)) (hlo : H0.length ≤ o) (hlt : ltL H0.length l) (hn : n = l.length) (hR : R (.slice l) H0) : RetW H0.length H0 R (.vec o v 0 n) H := by
  obtain ⟨L, rfl⟩ := hp
  subst hn
  refine RetW.auto0 false L rfl ?_ ?_
  · simp only [okW, okW1, okW0, ho]
    exact fun _ => ⟨by first | rfl | trivial, by first | omega | simp, hlt⟩
  · simp only [wk, wk1, wk0, ho]
    rw [if_pos hlo, List.drop_zero, List.take_length]
    exact hR
end Go.EL
namespace Go.Proofs.Ytjplgbalpnlanaa
open Go Go.EL
theorem zrPath11 : type_of% (And.intro (And.intro (And.intro (And.intro (@st_run) (And.intro (@sz_run) (@st1_run))) (And.intro (@cl_run) (And.intro (@st_Str) (@sz_Str)))) (And.intro (And.intro (@st1_Str) (And.intro (@cl_Str) (@st_c))) (And.intro (@sz_c) (And.intro (@st1_c) (@cl_c))))) (And.intro (And.intro (And.intro (@st_attr) (And.intro (@sz_attr) (@st1_attr))) (And.intro (@cl_attr) (And.intro (@st_hook) (@sz_hook)))) (And.intro (And.intro (@st1_hook) (And.intro (@cl_hook) (@st_node))) (And.intro (@sz_node) (And.intro (@st1_node) (@cl_node)))))) := And.intro (And.intro (And.intro (And.intro (@st_run) (And.intro (@sz_run) (@st1_run))) (And.intro (@cl_run) (And.intro (@st_Str) (@sz_Str)))) (And.intro (And.intro (@st1_Str) (And.intro (@cl_Str) (@st_c))) (And.intro (@sz_c) (And.intro (@st1_c) (@cl_c))))) (And.intro (And.intro (And.intro (@st_attr) (And.intro (@sz_attr) (@st1_attr))) (And.intro (@cl_attr) (And.intro (@st_hook) (@sz_hook)))) (And.intro (And.intro (@st1_hook) (And.intro (@cl_hook) (@st_node))) (And.intro (@sz_node) (And.intro (@st1_node) (@cl_node)))))
theorem zlPath11 : type_of% (And.intro (And.intro (And.intro (And.intro (@lt_vi) (@lt_str)) (And.intro (@lt_vb) (And.intro (@ltc_str) (@ltc_vi)))) (And.intro (And.intro (@lt_run) (And.intro (@lt1_run) (@ltc_run))) (And.intro (@lt_Str) (And.intro (@lt1_Str) (@ltc_Str))))) (And.intro (And.intro (And.intro (@lt_c) (And.intro (@lt1_c) (@ltc_c))) (And.intro (@lt_attr) (And.intro (@lt1_attr) (@ltc_attr)))) (And.intro (And.intro (@lt_hook) (And.intro (@lt1_hook) (@ltc_hook))) (And.intro (@lt_node) (And.intro (@lt1_node) (@ltc_node)))))) := And.intro (And.intro (And.intro (And.intro (@lt_vi) (@lt_str)) (And.intro (@lt_vb) (And.intro (@ltc_str) (@ltc_vi)))) (And.intro (And.intro (@lt_run) (And.intro (@lt1_run) (@ltc_run))) (And.intro (@lt_Str) (And.intro (@lt1_Str) (@ltc_Str))))) (And.intro (And.intro (And.intro (@lt_c) (And.intro (@lt1_c) (@ltc_c))) (And.intro (@lt_attr) (And.intro (@lt1_attr) (@ltc_attr)))) (And.intro (And.intro (@lt_hook) (And.intro (@lt1_hook) (@ltc_hook))) (And.intro (@lt_node) (And.intro (@lt1_node) (@ltc_node)))))
/-- a list whose first and last i are reversed -/
def revI (l : List Int) (i : Nat) : List Int := (List.range l.length).map fun k => if k < i ∨ l.length ≤ k + i then l.getD (l.length - 1 - k) 0 else l.getD k 0
theorem revI_len (l : List Int) (i : Nat) : (revI l i).length = l.length := by simp [revI]
theorem revI_get (l : List Int) (i k : Nat) (hk : k < l.length) : (revI l i)[k]'(by rw [revI_len]; exact hk) = if k < i ∨ l.length ≤ k + i then l.getD (l.length - 1 - k) 0 else l.getD k 0 := by simp [revI]
theorem revI_zero (l : List Int) : revI l 0 = l := by
  apply List.ext_getElem (revI_len l 0)
  intro k h1 h2
  rw [revI_get l 0 k h2, if_neg (by omega)]
  simp [List.getD, h2]
theorem revI_end (l : List Int) (i : Nat) (h : l.length ≤ 2 * i + 1) : revI l i = l.reverse := by
  apply List.ext_getElem (by rw [revI_len, List.length_reverse])
  intro k h1 h2
  rw [List.length_reverse] at h2
  rw [revI_get l i k h2, List.getElem_reverse]
  by_cases hk : k < i ∨ l.length ≤ k + i
  · rw [if_pos hk]
    rw [List.getD_eq_getElem?_getD, List.getElem?_eq_getElem (by omega)]; rfl
  · rw [if_neg hk]
    rw [List.getD_eq_getElem?_getD, List.getElem?_eq_getElem (by omega), Option.getD_some]
    congr 1; omega
theorem revI_step (l : List Int) (i : Nat) (h : 2 * i + 1 < l.length) : ((revI l i).set i (l.getD (l.length - 1 - i) 0)).set (l.length - 1 - i) (l.getD i 0) = revI l (i + 1) := by
  apply List.ext_getElem (by simp [revI_len])
  intro k h1 h2
  rw [revI_len] at h2
  rw [revI_get l (i + 1) k h2, List.getElem_set, List.getElem_set]
  by_cases e1 : l.length - 1 - i = k
  · rw [if_pos e1, if_pos (by omega)]
    congr 1; omega
  · rw [if_neg e1]
    by_cases e2 : i = k
    · rw [if_pos e2, if_pos (by omega), e2]
    · rw [if_neg e2, revI_get l i k h2]
      by_cases hk : k < i ∨ l.length ≤ k + i
      · rw [if_pos hk, if_pos (by omega)]
      · rw [if_neg hk, if_neg (by omega)]
theorem revI_at (l : List Int) (i k : Nat) (h1 : i ≤ k) (h2 : k + i < l.length) : (revI l i)[k]'(by rw [revI_len]; omega) = l.getD k 0 := by rw [revI_get l i k (by omega), if_neg (by omega)]
theorem rev (H : List Ob) (o v : Nat) (l : List Int) (ho : H[o]? = some (.vec v 1 (l.map vi))) (hl : l.length ≤ 1000000000) : SCall Try.prog 127 [.vec o v 0 l.length] H (fun r H' => r = .tuple [] ∧ H' = H.set o (.vec v 1 (l.reverse.map vi))) := by
  have lo := (List.getElem?_eq_some_iff.1 ho).1
  have hso : ∀ X, (H.set o X)[o]? = some X := fun X => List.getElem?_set_self lo
  have hss : ∀ X Y, (H.set o X).set o Y = H.set o Y := fun X Y => by rw [List.set_set]
  have w0 : IntKind.i64.wrap ((l.length : Int) - 1) = (l.length : Int) - 1 := wrapI (by omega)
  have ho0 : H[o]? = some (.vec v 1 ((revI l 0).map vi)) := by rw [revI_zero]; exact ho
  refine SCall.of_good fun hH => ?_
  have hHk := HLt.add hH
  refine SCall.of_code Tok Try.func127 rfl Try.call127 (n := 28) rfl (by simp) (rs := []) rfl ?_
  refine EWn.to ?_
  refine EWn.of_c Tok mixed (own := false) keep127 tab127 (by kernel_rfl) ?_
  (repeat simp -dsimp only [zrPath11, xnils, xnilm, xrange, xmakeMap, xslice3, ho, w0, RB, TB, keep127, tab127, xindexAddr, xindex, xslice, xconvert, xlen, ewOp, FreeW, StabW, SameW, ChangeW, AddW, BaseW, limBytes, simprocAttr, ne_eq])
  refine EWn.loopE (ι := (Nat)) (fun (i : (Nat)) => 2 * i ≤ l.length + 1) (fun (i : (Nat)) => l.length - i) (fun (i : (Nat)) => [(2, .int .i64 i), (3, .int .i64 ((l.length : Int) - 1 - i))]) (fun (i : (Nat)) => H.set o (.vec v 1 ((revI l i).map vi))) (0) ?_ ?_ ?_ ?_ ?_
  · first | rfl | simp [upd, eset]
  · first | rfl | (simp; done) | exact (set_same (by assumption)).symm
  · rintro i hi
    refine ⟨by simp, ?_, by (simp (maxDischargeDepth := 6) [LTB, HLt_set, ltL_take, ltL_drop, ltL_rep, ltL_set, upd, eset, hH, hHk, zlPath11] <;> omega)⟩
    rw [List.length_set]
    exact HLt_set hH (by simp only [Ob.lt]; exact lt_vi _ _)
  · omega
  rintro i hi
  refine EWn.of_c Tok mixed (own := false) keep127 tab127 (by kernel_rfl) ?_
  (repeat simp -dsimp only [zrPath11, xnils, xnilm, xrange, xmakeMap, xslice3, hso, hss, RB, TB, keep127, tab127, xindexAddr, xindex, xslice, xconvert, xlen, ewOp, FreeW, StabW, SameW, ChangeW, AddW, BaseW, limBytes, simprocAttr, ne_eq])
  refine IfW.intro (fun h => ?_) (fun h => ?_)
  · have hlt : (i : Int) < (l.length : Int) - 1 - i := by simpa using h
    have hj : ((l.length : Int) - 1 - i).toNat = l.length - 1 - i := by omega
    have hn := revI_len l i
    have a1 := at_map vi (revI l i) i (by rw [hn]; omega)
    have a2 := at_map vi (revI l i) (l.length - 1 - i) (by rw [hn]; omega)
    rw [revI_at l i i (by omega) (by omega)] at a1
    rw [revI_at l i (l.length - 1 - i) (by omega) (by omega)] at a2
    have hst := revI_step l i (by omega)
    simp only [vi] at a1 a2
    have w1 : IntKind.i64.wrap ((i : Int) + 1) = ((i + 1 : Nat) : Int) := by rw [wrapI (by omega)]; omega
    have w2 : IntKind.i64.wrap ((l.length : Int) - 1 - i - 1) = (l.length : Int) - 1 - ((i + 1 : Nat) : Int) := by rw [wrapI (by omega)]; omega
    have a3 : ((List.map vi (revI l i)).set i (V.int .i64 (l.getD (l.length - 1 - i) 0))).getD (l.length - 1 - i) V.dead = .int .i64 (l.getD (l.length - 1 - i) 0) := by
      rw [← a2, List.getD_eq_getElem?_getD, List.getElem?_set_ne (by omega), ← List.getD_eq_getElem?_getD]
    (repeat (first | simp -dsimp only [zrPath11, xnils, xnilm, xrange, xmakeMap, xslice3, h, hso, hss, hj, a1, a2, a3, hn, w1, w2, RB, TB, keep127, tab127, xindexAddr, xindex, xslice, xconvert, xlen, ewOp, FreeW, StabW, SameW, ChangeW, AddW, BaseW, limBytes, simprocAttr, ne_eq] | ((with_reducible refine Need.intro ?_ ?_); (omega))))
    refine UpTo.here ⟨i + 1, by omega, by simp only; omega, by simp [upd, eset], [], ?_⟩
    rw [List.append_nil]
    show _ = H.set o (.vec v 1 ((revI l (i + 1)).map vi))
    rw [← hst]
    simp only [List.map_set, vi]
  · have hge : ¬ ((i : Int) < (l.length : Int) - 1 - i) := by simpa using h
    have he := revI_end l i (by omega)
    rw [he]
    (repeat simp -dsimp only [zrPath11, xnils, xnilm, xrange, xmakeMap, xslice3, h, RB, TB, keep127, tab127, xindexAddr, xindex, xslice, xconvert, xlen, ewOp, FreeW, StabW, SameW, ChangeW, AddW, BaseW, limBytes, simprocAttr, ne_eq])
    refine RetW.keep false (by simp) ?_ (by simp [okW]) ⟨by simp [wk, wk1, wk0], rfl⟩
    rw [List.length_set]
    exact HLt_set hH (by simp only [Ob.lt]; exact lt_vi _ _)
/-- the path to a node, from the root down -/
def upG (a : Arena) : Nat → Int → List Int → Option (List Int)
  | 0, _, _ => none
  | k + 1, id, out => match nget a.nodes id with
    | none => none
    | some n => if n.id = 0 then some (out ++ [n.id]).reverse else if n.parent ∈ out ++ [n.id] then none else upG a k n.parent (out ++ [n.id])
theorem upG_succ (a : Arena) (k : Nat) (id : Int) (out : List Int) : upG a (k + 1) id out = (match nget a.nodes id with | none => none | some n => if n.id = 0 then some (out ++ [n.id]).reverse else if n.parent ∈ out ++ [n.id] then none else upG a k n.parent (out ++ [n.id])) := rfl
def pathG (a : Arena) (id : Int) : List Int := (upG a (a.nodes.length + 1) id []).getD []
/-- each node's number is its key -/
def Keyed (ns : List Ent) : Prop := ∀ p ∈ ns, p.2.2.id = p.1
theorem nget_key {ns : List Ent} (hk : Keyed ns) {id : Int} {n : Node} (h : nget ns id = some n) : n.id = id := by
  induction ns with
  | nil => simp [nget] at h
  | cons q l ih =>
    simp only [nget] at h
    split at h
    · rename_i e
      injection h with h
      rw [← h, hk q (by simp), e]
    · exact ih (fun p hp => hk p (by simp [hp])) h
set_option maxHeartbeats 2000000 in
theorem dPath (H : List Ob) (A m : Nat) (a : Arena) (h : arenaAt H A m a) (hok : ∀ p ∈ a.nodes, okN p.2.2) (hN : a.nodes.length ≤ 1000000) (hky : Keyed a.nodes) (id : Int) : SCall Try.prog 66 [.ref A 0, .int .i64 id] H (fun r H' => r = .slice ((pathG a id).map vi) ∧ H' = H) := by
  have lA := (List.getElem?_eq_some_iff.1 h.1).1
  refine SCall.of_good fun hH => ?_
  have hHk := HLt.add hH
  refine SCall.of_code Tok Try.func66 rfl Try.call66 (n := 38) rfl (by simp) (rs := [.tmp 4]) rfl ?_
  refine EWn.to ?_
  refine EWn.of_c Tok mixed (own := false) keep66 tab66 (by kernel_rfl) ?_
  (repeat simp -dsimp only [zrPath11, xnils, xnilm, xrange, xmakeMap, xslice3, RB, TB, keep66, tab66, xindexAddr, xindex, xslice, xconvert, xlen, ewOp, FreeW, StabW, SameW, ChangeW, AddW, BaseW, limBytes, simprocAttr, ne_eq])
  (refine SCall.then (aGetF _ A m a h hok id) ?_)
  (repeat simp -dsimp only [zrPath11, xnils, xnilm, xrange, xmakeMap, xslice3, nodeV, RB, TB, keep66, tab66, xindexAddr, xindex, xslice, xconvert, xlen, ewOp, FreeW, StabW, SameW, ChangeW, AddW, BaseW, limBytes, simprocAttr, ne_eq])
  refine EWn.ghost (Gho.adopt 5 1 rfl) ?_
  simp only [RB, limBytes, simprocAttr, ne_eq]
  have ltc : ∀ (k : Nat) (x : Node), ltL k (nodeV x).cells := fun k x => by have := lt1_node k x; simp only [nodeV, V.lt] at this; exact this
  refine EWn.loopE (ι := (Int) × (List Int) × (Nat) × (Nat) × (Nat) × (List Ob)) (fun (x_ : (Int) × (List Int) × (Nat) × (Nat) × (Nat) × (List Ob)) => match x_ with | (cur, met, v, o, b, G) => HLt G.length G ∧ G[o]? = some (.vec v 1 (met.map vi)) ∧ G[b]? = some (.var (nodeV (nodeAt a cur)).cells) ∧ H.length ≤ b ∧ H.length ≤ o ∧ b ≠ o ∧ met.Nodup ∧ cur ∉ met ∧ (∀ x ∈ met, x ∈ a.nodes.map fun p => p.2.2.id) ∧ pathG a id = (upG a (a.nodes.length + 1 - met.length) cur met).getD [] ∧ ∃ L, G = H ++ L) (fun (x_ : (Int) × (List Int) × (Nat) × (Nat) × (Nat) × (List Ob)) => match x_ with | (cur, met, v, o, b, G) => a.nodes.length + 1 - met.length) (fun (x_ : (Int) × (List Int) × (Nat) × (Nat) × (Nat) × (List Ob)) => match x_ with | (cur, met, v, o, b, G) => [(5, .vec o v 0 met.length), (6, .ref b 0), (7, .bool (nget a.nodes cur).isSome)]) (fun (x_ : (Int) × (List Int) × (Nat) × (Nat) × (Nat) × (List Ob)) => match x_ with | (cur, met, v, o, b, G) => G) (id, [], 1, (H.length + 1), H.length, (H ++ [.var (nodeV (nodeAt a id)).cells, .vec 1 1 []])) ?_ ?_ ?_ ?_ ?_
  · first | rfl | simp [upd, eset]
  · first | rfl | (simp; done) | exact (set_same (by assumption)).symm
  · rintro ⟨cur, met, v, o, b, G⟩ ⟨hG, ho, hb, hb1, ho1, hbo, _, _, _, _, L, hL⟩
    have lo := (List.getElem?_eq_some_iff.1 ho).1
    have lb := (List.getElem?_eq_some_iff.1 hb).1
    exact ⟨by rw [hL]; simp, hG, by (simp (maxDischargeDepth := 6) [LTB, HLt_set, ltL_take, ltL_drop, ltL_rep, ltL_set, upd, eset, hH, hHk, zlPath11] <;> omega)⟩
  · refine ⟨?_, by rw [hget]; rfl, by rw [hget0]; rfl, by omega, by omega, by omega, by simp, by simp, by simp, rfl, _, rfl⟩
    rw [HLt_append]
    refine ⟨by rw [List.length_append]; exact hHk _, ?_⟩
    rw [HLt_cons, HLt_cons]
    exact ⟨ltc _ _, trivial, HLt_nil⟩
  rintro ⟨cur, met, v, o, b, G⟩ ⟨hG, ho, hb, hb1, ho1, hbo, hnd, hnm, hsub, hin, L, hL⟩
  have hml := nodup_sub met _ hnd hsub
  rw [List.length_map] at hml
  have lo := (List.getElem?_eq_some_iff.1 ho).1
  have lb := (List.getElem?_eq_some_iff.1 hb).1
  have hb2 : ∀ K, (G ++ K)[b]? = some (.var (nodeV (nodeAt a cur)).cells) := fun K => get_appD (L := K) hb
  have ho2 : ∀ K, (G ++ K)[o]? = some (.vec v 1 (met.map vi)) := fun K => get_appD (L := K) ho
  have hb3 : ∀ X, (G.set o X)[b]? = some (.var (nodeV (nodeAt a cur)).cells) := fun X => by rw [List.getElem?_set_ne (Ne.symm hbo)]; exact hb
  have hat2 : ∀ X K, arenaAt (G.set o X ++ K) A m a := fun X K => by
    rw [hL, List.set_append_right _ _ ho1]
    exact arena_app (arena_app h _) _
  have hGk := HLt.add hG
  refine EWn.of_c Tok mixed (own := false) keep66 tab66 (by kernel_rfl) ?_
  (repeat simp -dsimp only [zrPath11, xnils, xnilm, xrange, xmakeMap, xslice3, hb, ho, nodeV, RB, TB, keep66, tab66, xindexAddr, xindex, xslice, xconvert, xlen, ewOp, FreeW, StabW, SameW, ChangeW, AddW, BaseW, limBytes, simprocAttr, ne_eq])
  cases hc : nget a.nodes cur with
  | none =>
    (repeat simp -dsimp only [zrPath11, xnils, xnilm, xrange, xmakeMap, xslice3, hc, Option.isSome_none, RB, TB, keep66, tab66, xindexAddr, xindex, xslice, xconvert, xlen, ewOp, FreeW, StabW, SameW, ChangeW, AddW, BaseW, limBytes, simprocAttr, ne_eq])
    rw [hL]
    refine RetW.auto0 false _ (by first | rfl | exact (List.append_nil _).symm) ?_ ?_
    · (simp (maxDischargeDepth := 6) [LTB, HLt_set, ltL_take, ltL_drop, ltL_rep, ltL_set, upd, eset, hH, hHk, zlPath11] <;> omega)
    (try simp only [wk, wk1, wk0, RB, limBytes, simprocAttr, ne_eq])
    skip
    rw [hin, show a.nodes.length + 1 - met.length = (a.nodes.length - met.length) + 1 from by omega, upG_succ, hc]
    rfl
  | some n =>
    have hna : nodeAt a cur = ownN n := by unfold nodeAt; rw [hc]
    have hin2 := hin
    have hs2 := upG_succ a (a.nodes.length - met.length) cur met
    rw [hc] at hs2
    rw [show a.nodes.length + 1 - met.length = (a.nodes.length - met.length) + 1 from by omega, hs2] at hin2
    simp only at hin2
    have hid : (ownN n).id = n.id := rfl
    have hnid : n.id = cur := nget_key hky hc
    have hgo : ∀ X, (G.set o X)[o]? = some X := fun X => List.getElem?_set_self lo
    have hmem : n.id ∈ a.nodes.map fun p => p.2.2.id := nget_len hc
    have hnd2 : (met ++ [n.id]).Nodup := by
      rw [List.nodup_append]
      exact ⟨hnd, by simp, fun x hx y hy => by simp at hy; rw [hy, hnid]; exact fun e => hnm (e ▸ hx)⟩
    have hml2 := nodup_sub (met ++ [n.id]) _ hnd2 (fun x hx => by rcases List.mem_append.1 hx with hx | hx; exact hsub x hx; simp at hx; rw [hx]; exact hmem)
    rw [List.length_map, List.length_append, List.length_singleton] at hml2
    (repeat (first | simp -dsimp only [zrPath11, xnils, xnilm, xrange, xmakeMap, xslice3, hc, Option.isSome_some, hna, hb, hb3, ho, nodeV, hid, RB, TB, keep66, tab66, xindexAddr, xindex, xslice, xconvert, xlen, ewOp, FreeW, StabW, SameW, ChangeW, AddW, BaseW, limBytes, simprocAttr, ne_eq] | ((with_reducible refine Need.intro ?_ ?_); (first | trivial | omega))))
    refine IfW.intro (fun h2 => ?_) (fun h2 => ?_)
    · have h2' : n.id = 0 := by simpa using h2
      rw [if_pos h2'] at hin2
      have hlm : met.length + 1 = (met ++ [n.id]).length := by simp
      have hgv : ∀ X, (G.set o (.vec (v + 1) 1 ((met ++ [n.id]).map vi)) ++ X)[o]? = some (.vec (v + 1) 1 ((met ++ [n.id]).map vi)) := fun X => get_appD (hgo _)
      have hmv : met.map vi ++ [.int .i64 n.id] = (met ++ [n.id]).map vi := by simp [vi]
      (repeat simp -dsimp only [zrPath11, xnils, xnilm, xrange, xmakeMap, xslice3, h2, hmv, RB, TB, keep66, tab66, xindexAddr, xindex, xslice, xconvert, xlen, ewOp, FreeW, StabW, SameW, ChangeW, AddW, BaseW, limBytes, simprocAttr, ne_eq])
      rw [hlm]
      (refine SCall.then (rev _ o (v + 1) (met ++ [n.id]) (hgo _) (by omega)) ?_)
      (repeat simp -dsimp only [zrPath11, xnils, xnilm, xrange, xmakeMap, xslice3, RB, TB, keep66, tab66, xindexAddr, xindex, xslice, xconvert, xlen, ewOp, FreeW, StabW, SameW, ChangeW, AddW, BaseW, limBytes, simprocAttr, ne_eq])
      refine retOwn ⟨_, by rw [List.set_set, hL, List.set_append_right _ _ ho1]⟩ (List.getElem?_set_self (by simpa using lo)) ho1 (lt_vi _ _) (by simp) ⟨?_, rfl⟩
      rw [hin2]; rfl
    · have h2' : ¬ n.id = 0 := by simpa using h2
      rw [if_neg h2'] at hin2
      have hpar : (ownN n).parent = n.parent := rfl
      have hmv : met.map vi ++ [.int .i64 n.id] = (met ++ [n.id]).map vi := by simp [vi]
      (repeat simp -dsimp only [zrPath11, xnils, xnilm, xrange, xmakeMap, xslice3, h2, hmv, hna, hb, hb2, ho, hb3, nodeV, hid, hpar, RB, TB, keep66, tab66, xindexAddr, xindex, xslice, xconvert, xlen, ewOp, FreeW, StabW, SameW, ChangeW, AddW, BaseW, limBytes, simprocAttr, ne_eq])
      (refine SCall.then (containsIB _ (met ++ [n.id]) n.parent _ (Bo.vec (ver := v + 1) (es := 1) (l := (met ++ [n.id]).map vi) (hgo _) (by simp) (ltL_map (f := vi) (fun _ => trivial) _))) ?_)
      (repeat simp -dsimp only [zrPath11, xnils, xnilm, xrange, xmakeMap, xslice3, hmv, hna, hb, hb2, ho, hb3, nodeV, hid, hpar, RB, TB, keep66, tab66, xindexAddr, xindex, xslice, xconvert, xlen, ewOp, FreeW, StabW, SameW, ChangeW, AddW, BaseW, limBytes, simprocAttr, ne_eq])
      refine IfW.intro (fun h1 => ?_) (fun h1 => ?_)
      · have h1' := of_decide_eq_true h1
        rw [if_pos h1'] at hin2
        (repeat simp -dsimp only [zrPath11, xnils, xnilm, xrange, xmakeMap, xslice3, h1, RB, TB, keep66, tab66, xindexAddr, xindex, xslice, xconvert, xlen, ewOp, FreeW, StabW, SameW, ChangeW, AddW, BaseW, limBytes, simprocAttr, ne_eq])
        rw [hL, List.set_append_right _ _ ho1]
        refine RetW.auto0 false _ (by first | rfl | exact (List.append_nil _).symm) ?_ ?_
        · (simp (maxDischargeDepth := 6) [LTB, HLt_set, ltL_take, ltL_drop, ltL_rep, ltL_set, upd, eset, hH, hHk, zlPath11] <;> omega)
        (try simp only [wk, wk1, wk0, RB, limBytes, simprocAttr, ne_eq])
        skip
        rw [hin2]; rfl
      · have h1' := of_decide_eq_false h1
        rw [if_neg h1'] at hin2
        (repeat simp -dsimp only [zrPath11, xnils, xnilm, xrange, xmakeMap, xslice3, h1, hna, hb, hb2, ho, hb3, nodeV, hid, hpar, RB, TB, keep66, tab66, xindexAddr, xindex, xslice, xconvert, xlen, ewOp, FreeW, StabW, SameW, ChangeW, AddW, BaseW, limBytes, simprocAttr, ne_eq])
        (refine SCall.then (aGetF _ A m a (hat2 _ _) hok n.parent) ?_)
        (repeat simp -dsimp only [zrPath11, xnils, xnilm, xrange, xmakeMap, xslice3, hna, hb, hb2, ho, hb3, nodeV, RB, TB, keep66, tab66, xindexAddr, xindex, xslice, xconvert, xlen, ewOp, FreeW, StabW, SameW, ChangeW, AddW, BaseW, limBytes, simprocAttr, ne_eq])
        refine UpTo.here ⟨(n.parent, met ++ [n.id], v + 1, o, G.length, G.set o (.vec (v + 1) 1 ((met ++ [n.id]).map vi)) ++ [.var (nodeV (nodeAt a n.parent)).cells]), ⟨?_, ?_, ?_, by rw [hL]; simp, ho1, by omega, hnd2, h1', ?_, ?_, ?_⟩, by simp only [List.length_append, List.length_singleton]; omega, by simp [upd, eset], ⟨[], by simp [nodeV, vi, V.cells]⟩⟩
        · rw [List.length_append, List.length_set, HLt_append]
          refine ⟨HLt_set (hGk _) (lt_vi _ _), ?_⟩
          rw [HLt_cons]
          exact ⟨ltc _ _, HLt_nil⟩
        · rw [List.getElem?_append_left (by simpa using lo), List.getElem?_set_self lo]
        · rw [List.getElem?_append_right (by simp)]; simp
        · intro x hx
          rcases List.mem_append.1 hx with hx | hx
          · exact hsub x hx
          · simp at hx; rw [hx]; exact hmem
        · rw [hin2]; congr 2; simp only [List.length_append, List.length_singleton]; omega
        · exact ⟨_, by rw [hL, List.set_append_right _ _ ho1, List.append_assoc]⟩
end Go.Proofs.Ytjplgbalpnlanaa

/- The walks of package shot: Ids, Mount. -/
set_option linter.unusedSimpArgs false
set_option linter.unusedVariables false
set_option maxRecDepth 100000
namespace Go.Proofs.Ytjplgbalpnlanaa
open Go Go.EL
theorem zrShot11 : type_of% (And.intro (And.intro (And.intro (And.intro (@st_run) (And.intro (@sz_run) (@st1_run))) (And.intro (@cl_run) (And.intro (@st_Str) (@sz_Str)))) (And.intro (And.intro (@st1_Str) (And.intro (@cl_Str) (@st_c))) (And.intro (@sz_c) (And.intro (@st1_c) (@cl_c))))) (And.intro (And.intro (And.intro (@st_attr) (And.intro (@sz_attr) (@st1_attr))) (And.intro (@cl_attr) (And.intro (@st_hook) (@sz_hook)))) (And.intro (And.intro (@st1_hook) (And.intro (@cl_hook) (@st_node))) (And.intro (@sz_node) (And.intro (@st1_node) (@cl_node)))))) := And.intro (And.intro (And.intro (And.intro (@st_run) (And.intro (@sz_run) (@st1_run))) (And.intro (@cl_run) (And.intro (@st_Str) (@sz_Str)))) (And.intro (And.intro (@st1_Str) (And.intro (@cl_Str) (@st_c))) (And.intro (@sz_c) (And.intro (@st1_c) (@cl_c))))) (And.intro (And.intro (And.intro (@st_attr) (And.intro (@sz_attr) (@st1_attr))) (And.intro (@cl_attr) (And.intro (@st_hook) (@sz_hook)))) (And.intro (And.intro (@st1_hook) (And.intro (@cl_hook) (@st_node))) (And.intro (@sz_node) (And.intro (@st1_node) (@cl_node)))))
theorem zlShot11 : type_of% (And.intro (And.intro (And.intro (And.intro (@lt_vi) (@lt_str)) (And.intro (@lt_vb) (And.intro (@ltc_str) (@ltc_vi)))) (And.intro (And.intro (@lt_run) (And.intro (@lt1_run) (@ltc_run))) (And.intro (@lt_Str) (And.intro (@lt1_Str) (@ltc_Str))))) (And.intro (And.intro (And.intro (@lt_c) (And.intro (@lt1_c) (@ltc_c))) (And.intro (@lt_attr) (And.intro (@lt1_attr) (@ltc_attr)))) (And.intro (And.intro (@lt_hook) (And.intro (@lt1_hook) (@ltc_hook))) (And.intro (@lt_node) (And.intro (@lt1_node) (@ltc_node)))))) := And.intro (And.intro (And.intro (And.intro (@lt_vi) (@lt_str)) (And.intro (@lt_vb) (And.intro (@ltc_str) (@ltc_vi)))) (And.intro (And.intro (@lt_run) (And.intro (@lt1_run) (@ltc_run))) (And.intro (@lt_Str) (And.intro (@lt1_Str) (@ltc_Str))))) (And.intro (And.intro (And.intro (@lt_c) (And.intro (@lt1_c) (@ltc_c))) (And.intro (@lt_attr) (And.intro (@lt1_attr) (@ltc_attr)))) (And.intro (And.intro (@lt_hook) (And.intro (@lt1_hook) (@ltc_hook))) (And.intro (@lt_node) (And.intro (@lt1_node) (@ltc_node)))))
/-- a node, and all within it -/
def idsG (a : Arena) : Nat → Int → List Int
  | 0, _ => []
  | k + 1, id => match nget a.nodes id with
    | none => []
    | some n => id :: n.kids.flatMap (idsG a k)
/-- a node's depth is less than k -/
def deepG (a : Arena) : Nat → Int → Prop
  | 0, _ => False
  | k + 1, id => ∀ n, nget a.nodes id = some n → ∀ c ∈ n.kids, deepG a k c
theorem idsG_some {a : Arena} {k : Nat} {id : Int} {n : Node} (h : nget a.nodes id = some n) : idsG a (k + 1) id = id :: n.kids.flatMap (idsG a k) := by rw [idsG, h]
theorem idsG_none {a : Arena} {k : Nat} {id : Int} (h : nget a.nodes id = none) : idsG a (k + 1) id = [] := by rw [idsG, h]
theorem flatMap_succ {α β : Type} (f : α → List β) {l : List α} {i : Nat} (h : i < l.length) : (l.take (i + 1)).flatMap f = (l.take i).flatMap f ++ f l[i] := by
  rw [List.take_succ_eq_append_getElem h, List.flatMap_append]; simp
theorem flatMap_le {α β : Type} (f : α → List β) {l : List α} {i : Nat} : ((l.take i).flatMap f).length ≤ (l.flatMap f).length := by
  conv => rhs; rw [← List.take_append_drop i l]
  rw [List.flatMap_append, List.length_append]
  omega
theorem flatMap_mem_le {α β : Type} (f : α → List β) {l : List α} {x : α} (h : x ∈ l) : (f x).length ≤ (l.flatMap f).length := by
  induction l with
  | nil => cases h
  | cons y l ih =>
    rw [List.flatMap_cons, List.length_append]
    rcases List.mem_cons.1 h with rfl | h
    · omega
    · have := ih h; omega
set_option maxHeartbeats 2000000 in
theorem sIds (A m : Nat) (a : Arena) (hok : ∀ p ∈ a.nodes, okN p.2.2) : ∀ (k : Nat) (id : Int) (H : List Ob), arenaAt H A m a → deepG a k id → (idsG a k id).length ≤ 1000000 → SCall Try.prog 47 [.ref A 0, .int .i64 id] H (fun r H' => r = .slice ((idsG a k id).map vi) ∧ H' = H) := by
  intro k
  induction k with
  | zero => intro id H _ h; exact h.elim
  | succ k ih =>
    intro id H h hd hsz
    have lA := (List.getElem?_eq_some_iff.1 h.1).1
    cases hn : nget a.nodes id with
    | none =>
      rw [idsG_none hn]
      refine SCall.of_good fun hH => ?_
      have hHk := HLt.add hH
      refine SCall.of_code Tok Try.func47 rfl Try.call47 (n := 34) rfl (by simp) (rs := [.tmp 4]) rfl ?_
      refine EWn.to ?_
      refine EWn.of_c Tok mixed (own := true) keep47 tab47 (by kernel_rfl) ?_
      (repeat simp -dsimp only [zrShot11, xnils, xnilm, xrange, xmakeMap, xslice3, RB, TB, keep47, tab47, xindexAddr, xindex, xslice, xconvert, xlen, ewOp, FreeW, StabW, SameW, ChangeW, AddW, BaseW, limBytes, simprocAttr, ne_eq])
      (refine SCall.then (aGetN _ A m a h hok id hn) ?_)
      (repeat simp -dsimp only [zrShot11, xnils, xnilm, xrange, xmakeMap, xslice3, nodeV, RB, TB, keep47, tab47, xindexAddr, xindex, xslice, xconvert, xlen, ewOp, FreeW, StabW, SameW, ChangeW, AddW, BaseW, limBytes, simprocAttr, ne_eq])
      refine RetW.auto0 false _ (by first | rfl | exact (List.append_nil _).symm) ?_ ?_
      · (simp (maxDischargeDepth := 6) [LTB, HLt_set, ltL_take, ltL_drop, ltL_rep, ltL_set, upd, eset, hH, hHk, zlShot11] <;> omega)
      (try simp only [wk, wk1, wk0, RB, limBytes, simprocAttr, ne_eq])
      skip
    | some n =>
      have hdk := hd n hn
      rw [idsG_some hn] at hsz ⊢
      rw [List.length_cons] at hsz
      have hkids : (ownN n).kids = n.kids := rfl
      have hkl : n.kids.length ≤ 1000000000000 := by
        obtain ⟨p, hp, hp2⟩ := nget_mem hn
        exact hp2 ▸ (hok p hp).2.2.2.2.2
      obtain ⟨out, hout⟩ : ∃ out : Nat → List Int, ∀ i, out i = id :: (n.kids.take i).flatMap (idsG a k) := ⟨_, fun _ => rfl⟩
      have hout0 : out 0 = [id] := by rw [hout]; simp
      have houtn : id :: n.kids.flatMap (idsG a k) = out n.kids.length := by rw [hout, List.take_length]
      have houtl : ∀ i, (out i).length ≤ 1000000 := fun i => by
        have hfl := flatMap_le (idsG a k) (l := n.kids) (i := i)
        rw [hout, List.length_cons]; omega
      rw [houtn]
      refine SCall.of_good fun hH => ?_
      have hHk := HLt.add hH
      refine SCall.of_code Tok Try.func47 rfl Try.call47 (n := 34) rfl (by simp) (rs := [.tmp 4]) rfl ?_
      refine EWn.to ?_
      refine EWn.of_c Tok mixed (own := true) keep47 tab47 (by kernel_rfl) ?_
      (repeat simp -dsimp only [zrShot11, xnils, xnilm, xrange, xmakeMap, xslice3, RB, TB, keep47, tab47, xindexAddr, xindex, xslice, xconvert, xlen, ewOp, FreeW, StabW, SameW, ChangeW, AddW, BaseW, limBytes, simprocAttr, ne_eq])
      (refine SCall.then (aGetS _ A m a h hok id n hn) ?_)
      (repeat (first | simp -dsimp only [zrShot11, xnils, xnilm, xrange, xmakeMap, xslice3, nodeV, hkids, RB, TB, keep47, tab47, xindexAddr, xindex, xslice, xconvert, xlen, ewOp, FreeW, StabW, SameW, ChangeW, AddW, BaseW, limBytes, simprocAttr, ne_eq] | ((with_reducible refine Need.intro ?_ ?_); (trivial))))
      have ltc : ∀ (k : Nat) (x : Node), ltL k (nodeV x).cells := fun k x => by have := lt1_node k x; simp only [nodeV, V.lt] at this; exact this
      refine EWn.loopE (ι := (Nat) × (Nat)) (fun (x_ : (Nat) × (Nat)) => match x_ with | (i, v) => i ≤ n.kids.length) (fun (x_ : (Nat) × (Nat)) => match x_ with | (i, v) => n.kids.length - i) (fun (x_ : (Nat) × (Nat)) => match x_ with | (i, v) => [(7, .vec (H.length + 1) v 0 (out i).length), (23, .int .i64 i)]) (fun (x_ : (Nat) × (Nat)) => match x_ with | (i, v) => H ++ [.var (nodeV (ownN n)).cells, .vec v 1 ((out i).map vi)]) (0, 1) ?_ ?_ ?_ ?_ ?_
      · first | rfl | (simp [upd, eset]; done) | (simp [upd, eset, hout0, vi, nodeV, hkids, V.cells]; done)
      · simp [hout0, vi, nodeV, hkids, V.cells]
      · rintro ⟨i, v⟩ hi
        refine ⟨by simp, ?_, ?_⟩
        · rw [HLt_append]
          refine ⟨by rw [List.length_append]; exact hHk _, ?_⟩
          rw [HLt_cons, HLt_cons]
          exact ⟨ltc _ _, lt_vi _ _, HLt_nil⟩
        · (simp (maxDischargeDepth := 6) [LTB, HLt_set, ltL_take, ltL_drop, ltL_rep, ltL_set, upd, eset, hH, hHk, zlShot11] <;> omega)
      · omega
      rintro ⟨i, v⟩ hi
      have hol := houtl i
      refine EWn.of_c Tok mixed (own := false) keep47 tab47 (by kernel_rfl) ?_
      (repeat simp -dsimp only [zrShot11, xnils, xnilm, xrange, xmakeMap, xslice3, RB, TB, keep47, tab47, xindexAddr, xindex, xslice, xconvert, xlen, ewOp, FreeW, StabW, SameW, ChangeW, AddW, BaseW, limBytes, simprocAttr, ne_eq])
      refine IfW.intro (fun hs => ?_) (fun hs => ?_)
      · have hlt := lt_of hs
        have hsucc : out (i + 1) = out i ++ idsG a k n.kids[i] := by rw [hout, hout, flatMap_succ (idsG a k) hlt]; rfl
        have hol2 := houtl (i + 1)
        rw [hsucc, List.length_append] at hol2
        have hmi := at_map vi n.kids i hlt
        simp only [vi] at hmi
        (repeat (first | simp -dsimp only [zrShot11, xnils, xnilm, xrange, xmakeMap, xslice3, hs, hmi, RB, TB, keep47, tab47, xindexAddr, xindex, xslice, xconvert, xlen, ewOp, FreeW, StabW, SameW, ChangeW, AddW, BaseW, limBytes, simprocAttr, ne_eq] | ((with_reducible refine Need.intro ?_ ?_); (omega))))
        refine SCall.then (ih n.kids[i] _ (arena_app h _) (hdk _ (List.getElem_mem hlt)) (by omega)) ?_
        generalize idsG a k n.kids[i] = l2 at *
        (repeat (first | simp -dsimp only [zrShot11, xnils, xnilm, xrange, xmakeMap, xslice3, hs, RB, TB, keep47, tab47, xindexAddr, xindex, xslice, xconvert, xlen, ewOp, FreeW, StabW, SameW, ChangeW, AddW, BaseW, limBytes, simprocAttr, ne_eq] | ((with_reducible refine Need.intro ?_ ?_); (omega))))
        rw [wrapI (by omega)]
        refine UpTo.here ⟨(i + 1, v + 1), hlt, by simp only; omega, by simp only [hsucc, List.length_append]; simp [upd, eset], ⟨[], by simp only [hsucc, List.map_append, List.append_nil]⟩⟩
      · (repeat simp -dsimp only [zrShot11, xnils, xnilm, xrange, xmakeMap, xslice3, hs, RB, TB, keep47, tab47, xindexAddr, xindex, xslice, xconvert, xlen, ewOp, FreeW, StabW, SameW, ChangeW, AddW, BaseW, limBytes, simprocAttr, ne_eq])
        have hi2 : i = n.kids.length := Nat.le_antisymm hi (ge_of hs)
        subst hi2
        refine RetW.auto0 false _ (by first | rfl | exact (List.append_nil _).symm) ?_ ?_
        · (simp (maxDischargeDepth := 6) [LTB, HLt_set, ltL_take, ltL_drop, ltL_rep, ltL_set, upd, eset, hH, hHk, zlShot11] <;> omega)
        (try simp only [wk, wk1, wk0, RB, limBytes, simprocAttr, ne_eq])
        (try (rw [List.take_of_length_le]; rotate_left 1; (· first | (simp; done) | (simp; omega) | omega)))
        simp
theorem sMountF (G : List Ob) (A m : Nat) (a : Arena) (hok : ∀ p ∈ a.nodes, okN p.2.2) (h : arenaAt G A m a) (id slot : Int) (b c : Nat) (hb : G[b]? = some (.var [.ref A 0])) (hc : G[c]? = some (.var [.int .i64 slot])) : SCall Try.prog 120 [.int .i64 id, .ref b 0, .ref c 0] G (fun r H' => r = .bool ((nodeAt a id).kind == 3 && (nodeAt a id).slot == slot) ∧ H' = G) := by
  have lb := (List.getElem?_eq_some_iff.1 hb).1
  have lc := (List.getElem?_eq_some_iff.1 hc).1
  have hbK := fun K => get_appD (L := K) hb
  have hcK := fun K => get_appD (L := K) hc
  refine SCall.of_good fun hH => ?_
  have hHk := HLt.add hH
  refine SCall.of_code Tok Try.func120 rfl Try.call120 (n := 22) rfl (by simp) (rs := [.tmp 4]) rfl ?_
  refine EWn.to ?_
  refine EWn.of_c Tok mixed (own := false) keep120 tab120 (by kernel_rfl) ?_
  (repeat simp -dsimp only [zrShot11, xnils, xnilm, xrange, xmakeMap, xslice3, hb, hc, hbK, hcK, RB, TB, keep120, tab120, xindexAddr, xindex, xslice, xconvert, xlen, ewOp, FreeW, StabW, SameW, ChangeW, AddW, BaseW, limBytes, simprocAttr, ne_eq])
  (refine SCall.then (aGetF _ A m a h hok id) ?_)
  (repeat simp -dsimp only [zrShot11, xnils, xnilm, xrange, xmakeMap, xslice3, nodeV, hb, hc, hbK, hcK, RB, TB, keep120, tab120, xindexAddr, xindex, xslice, xconvert, xlen, ewOp, FreeW, StabW, SameW, ChangeW, AddW, BaseW, limBytes, simprocAttr, ne_eq])
  refine IfW.intro (fun h1 => ?_) (fun h1 => ?_)
  · (repeat simp -dsimp only [zrShot11, xnils, xnilm, xrange, xmakeMap, xslice3, h1, hb, hc, hbK, hcK, nodeV, RB, TB, keep120, tab120, xindexAddr, xindex, xslice, xconvert, xlen, ewOp, FreeW, StabW, SameW, ChangeW, AddW, BaseW, limBytes, simprocAttr, ne_eq])
    refine RetW.auto0 false _ (by first | rfl | exact (List.append_nil _).symm) ?_ ?_
    · (simp (maxDischargeDepth := 6) [LTB, HLt_set, ltL_take, ltL_drop, ltL_rep, ltL_set, upd, eset, hH, hHk, zlShot11] <;> omega)
    (try simp only [wk, wk1, wk0, RB, limBytes, simprocAttr, ne_eq])
    skip
    all_goals first | rfl | (rw [h1]; rfl)
  · (repeat simp -dsimp only [zrShot11, xnils, xnilm, xrange, xmakeMap, xslice3, h1, hb, hc, hbK, hcK, nodeV, RB, TB, keep120, tab120, xindexAddr, xindex, xslice, xconvert, xlen, ewOp, FreeW, StabW, SameW, ChangeW, AddW, BaseW, limBytes, simprocAttr, ne_eq])
    refine RetW.auto0 false _ (by first | rfl | exact (List.append_nil _).symm) ?_ ?_
    · (simp (maxDischargeDepth := 6) [LTB, HLt_set, ltL_take, ltL_drop, ltL_rep, ltL_set, upd, eset, hH, hHk, zlShot11] <;> omega)
    (try simp only [wk, wk1, wk0, RB, limBytes, simprocAttr, ne_eq])
    skip
    all_goals first | rfl | (rw [h1]; rfl)
theorem indexFunc_int (H : List Ob) (l : List (Int)) (k : FuncId) (fi ca : List V) (p : Int → Bool) (hf : ∀ x ∈ l, SCall Try.prog k (fi ++ vi x :: ca) H (fun r H' => r = .bool (p x) ∧ H' = H)) (hlf : ltL H.length fi ∧ ltL H.length ca) : SCall Try.prog 119 [.slice (l.map vi), .fn (.func k) fi ca] H (fun r H' => r = .int .i64 (ix p l) ∧ H' = H) := by
  obtain ⟨hl1, hl2⟩ := hlf
  refine SCall.sized 0 rfl fun hl => ?_
  rw [List.length_map, maxLen_eq] at hl
  refine SCall.of_good fun hH => ?_
  have hHk := HLt.add hH
  refine SCall.of_code Tok Try.func119 rfl Try.call119 (n := 19) rfl (by simp) (rs := [.tmp 4]) rfl ?_
  refine EWn.to ?_
  refine EWn.of_c Tok mixed (own := false) keep119 tab119 (by kernel_rfl) ?_
  (repeat simp -dsimp only [zrShot11, xnils, xnilm, xrange, xmakeMap, xslice3, RB, TB, keep119, tab119, xindexAddr, xindex, xslice, xconvert, xlen, ewOp, FreeW, StabW, SameW, ChangeW, AddW, BaseW, limBytes, simprocAttr, ne_eq])
  refine EWn.loopE (ι := (Nat)) (fun (i : (Nat)) => i ≤ l.length ∧ ∀ x ∈ l.take i, p x = false) (fun (i : (Nat)) => l.length - i) (fun (i : (Nat)) => [(8, .int .i64 i)]) (fun (i : (Nat)) => H) (0) ?_ ?_ ?_ ?_ ?_
  · first | rfl | simp [upd, eset]
  · first | rfl | (simp; done) | exact (set_same (by assumption)).symm
  · rintro i hok; exact ⟨by first | (simp; done) | (simp; omega), by (simp (maxDischargeDepth := 6) [LTB, HLt_set, ltL_take, ltL_drop, ltL_rep, ltL_set, upd, eset, hH, hHk, hl1, hl2, zlShot11] <;> omega), by (simp (maxDischargeDepth := 6) [LTB, HLt_set, ltL_take, ltL_drop, ltL_rep, ltL_set, upd, eset, hH, hHk, hl1, hl2, zlShot11] <;> omega)⟩
  · simp
  rintro i ⟨hi, hno⟩
  refine EWn.of_c Tok mixed (own := false) keep119 tab119 (by kernel_rfl) ?_
  (repeat simp -dsimp only [zrShot11, xnils, xnilm, xrange, xmakeMap, xslice3, RB, TB, keep119, tab119, xindexAddr, xindex, xslice, xconvert, xlen, ewOp, FreeW, StabW, SameW, ChangeW, AddW, BaseW, limBytes, simprocAttr, ne_eq])
  refine IfW.intro (fun h => ?_) (fun h => ?_)
  · have hlt := lt_of h
    (repeat (first | simp -dsimp only [zrShot11, xnils, xnilm, xrange, xmakeMap, xslice3, h, at_map vi l i hlt, vi, RB, TB, keep119, tab119, xindexAddr, xindex, xslice, xconvert, xlen, ewOp, FreeW, StabW, SameW, ChangeW, AddW, BaseW, limBytes, simprocAttr, ne_eq] | ((with_reducible refine Need.intro ?_ ?_); (omega))))
    refine SCall.then (hf l[i] (List.getElem_mem hlt)) ?_
    (repeat simp -dsimp only [zrShot11, xnils, xnilm, xrange, xmakeMap, xslice3, RB, TB, keep119, tab119, xindexAddr, xindex, xslice, xconvert, xlen, ewOp, FreeW, StabW, SameW, ChangeW, AddW, BaseW, limBytes, simprocAttr, ne_eq])
    refine IfW.intro (fun hb => ?_) (fun hb => ?_)
    · (repeat simp -dsimp only [zrShot11, xnils, xnilm, xrange, xmakeMap, xslice3, hb, RB, TB, keep119, tab119, xindexAddr, xindex, xslice, xconvert, xlen, ewOp, FreeW, StabW, SameW, ChangeW, AddW, BaseW, limBytes, simprocAttr, ne_eq])
      refine RetW.auto0 false _ (by first | rfl | exact (List.append_nil _).symm) ?_ ?_
      · (simp (maxDischargeDepth := 6) [LTB, HLt_set, ltL_take, ltL_drop, ltL_rep, ltL_set, upd, eset, hH, hHk, hl1, hl2, zlShot11] <;> omega)
      (try simp only [wk, wk1, wk0, RB, limBytes, simprocAttr, ne_eq])
      skip
      rw [ix_hit hlt hb hno]
    · (repeat simp -dsimp only [zrShot11, xnils, xnilm, xrange, xmakeMap, xslice3, hb, RB, TB, keep119, tab119, xindexAddr, xindex, xslice, xconvert, xlen, ewOp, FreeW, StabW, SameW, ChangeW, AddW, BaseW, limBytes, simprocAttr, ne_eq])
      rw [wrapI (by omega)]
      refine UpTo.here ⟨(i + 1), ?_, by first | omega | (simp only [List.length_append, List.length_cons, List.length_nil]; omega), by simp [upd, eset], ⟨_, by simp; try rfl⟩⟩
      exact ⟨hlt, take_step hlt hb hno⟩
  · (repeat simp -dsimp only [zrShot11, xnils, xnilm, xrange, xmakeMap, xslice3, h, RB, TB, keep119, tab119, xindexAddr, xindex, xslice, xconvert, xlen, ewOp, FreeW, StabW, SameW, ChangeW, AddW, BaseW, limBytes, simprocAttr, ne_eq])
    refine RetW.auto0 false _ (by first | rfl | exact (List.append_nil _).symm) ?_ ?_
    · (simp (maxDischargeDepth := 6) [LTB, HLt_set, ltL_take, ltL_drop, ltL_rep, ltL_set, upd, eset, hH, hHk, hl1, hl2, zlShot11] <;> omega)
    (try simp only [wk, wk1, wk0, RB, limBytes, simprocAttr, ne_eq])
    skip
    rw [ix_none (take_all (ge_of h) hno)]
theorem indexFunc_int_vec (H : List Ob) (l : List (Int)) (k : FuncId) (fi ca : List V) (p : Int → Bool) (hf : ∀ x ∈ l, SCall Try.prog k (fi ++ vi x :: ca) H (fun r H' => r = .bool (p x) ∧ H' = H)) (hlf : ltL H.length fi ∧ ltL H.length ca) (o ver n : Nat) (ho : H[o]? = some (.vec ver 1 (l.map vi))) (hn : n = l.length) (hl : l.length ≤ 1000000000000) : SCall Try.prog 119 [.vec o ver 0 n, .fn (.func k) fi ca] H (fun r H' => r = .int .i64 (ix p l) ∧ H' = H) := by
  subst hn
  obtain ⟨hl1, hl2⟩ := hlf
  have holt := lt_of_get ho
  refine SCall.of_good fun hH => ?_
  have hHk := HLt.add hH
  refine SCall.of_code Tok Try.func119 rfl Try.call119 (n := 19) rfl (by simp) (rs := [.tmp 4]) rfl ?_
  refine EWn.to ?_
  refine EWn.of_c Tok mixed (own := false) keep119 tab119 (by kernel_rfl) ?_
  (repeat simp -dsimp only [zrShot11, xnils, xnilm, xrange, xmakeMap, xslice3, ho, RB, TB, keep119, tab119, xindexAddr, xindex, xslice, xconvert, xlen, ewOp, FreeW, StabW, SameW, ChangeW, AddW, BaseW, limBytes, simprocAttr, ne_eq])
  refine EWn.loopE (ι := (Nat)) (fun (i : (Nat)) => i ≤ l.length ∧ ∀ x ∈ l.take i, p x = false) (fun (i : (Nat)) => l.length - i) (fun (i : (Nat)) => [(8, .int .i64 i)]) (fun (i : (Nat)) => H) (0) ?_ ?_ ?_ ?_ ?_
  · first | rfl | simp [upd, eset]
  · first | rfl | (simp; done) | exact (set_same (by assumption)).symm
  · rintro i hok; exact ⟨by first | (simp; done) | (simp; omega), by (simp (maxDischargeDepth := 6) [LTB, HLt_set, ltL_take, ltL_drop, ltL_rep, ltL_set, upd, eset, hH, hHk, hl1, hl2, holt, zlShot11] <;> omega), by (simp (maxDischargeDepth := 6) [LTB, HLt_set, ltL_take, ltL_drop, ltL_rep, ltL_set, upd, eset, hH, hHk, hl1, hl2, holt, zlShot11] <;> omega)⟩
  · simp
  rintro i ⟨hi, hno⟩
  refine EWn.of_c Tok mixed (own := false) keep119 tab119 (by kernel_rfl) ?_
  (repeat simp -dsimp only [zrShot11, xnils, xnilm, xrange, xmakeMap, xslice3, ho, RB, TB, keep119, tab119, xindexAddr, xindex, xslice, xconvert, xlen, ewOp, FreeW, StabW, SameW, ChangeW, AddW, BaseW, limBytes, simprocAttr, ne_eq])
  refine IfW.intro (fun h => ?_) (fun h => ?_)
  · have hlt := lt_of h
    (repeat (first | simp -dsimp only [zrShot11, xnils, xnilm, xrange, xmakeMap, xslice3, h, ho, at_map vi l i hlt, vi, RB, TB, keep119, tab119, xindexAddr, xindex, xslice, xconvert, xlen, ewOp, FreeW, StabW, SameW, ChangeW, AddW, BaseW, limBytes, simprocAttr, ne_eq] | ((with_reducible refine Need.intro ?_ ?_); (first | trivial | omega))))
    refine SCall.then (hf l[i] (List.getElem_mem hlt)) ?_
    (repeat simp -dsimp only [zrShot11, xnils, xnilm, xrange, xmakeMap, xslice3, RB, TB, keep119, tab119, xindexAddr, xindex, xslice, xconvert, xlen, ewOp, FreeW, StabW, SameW, ChangeW, AddW, BaseW, limBytes, simprocAttr, ne_eq])
    refine IfW.intro (fun hb => ?_) (fun hb => ?_)
    · (repeat simp -dsimp only [zrShot11, xnils, xnilm, xrange, xmakeMap, xslice3, hb, RB, TB, keep119, tab119, xindexAddr, xindex, xslice, xconvert, xlen, ewOp, FreeW, StabW, SameW, ChangeW, AddW, BaseW, limBytes, simprocAttr, ne_eq])
      refine RetW.auto0 false _ (by first | rfl | exact (List.append_nil _).symm) ?_ ?_
      · (simp (maxDischargeDepth := 6) [LTB, HLt_set, ltL_take, ltL_drop, ltL_rep, ltL_set, upd, eset, hH, hHk, hl1, hl2, holt, zlShot11] <;> omega)
      (try simp only [wk, wk1, wk0, RB, limBytes, simprocAttr, ne_eq])
      skip
      rw [ix_hit hlt hb hno]
    · (repeat simp -dsimp only [zrShot11, xnils, xnilm, xrange, xmakeMap, xslice3, hb, RB, TB, keep119, tab119, xindexAddr, xindex, xslice, xconvert, xlen, ewOp, FreeW, StabW, SameW, ChangeW, AddW, BaseW, limBytes, simprocAttr, ne_eq])
      rw [wrapI (by omega)]
      refine UpTo.here ⟨(i + 1), ?_, by first | omega | (simp only [List.length_append, List.length_cons, List.length_nil]; omega), by simp [upd, eset], ⟨_, by simp; try rfl⟩⟩
      exact ⟨hlt, take_step hlt hb hno⟩
  · (repeat simp -dsimp only [zrShot11, xnils, xnilm, xrange, xmakeMap, xslice3, h, RB, TB, keep119, tab119, xindexAddr, xindex, xslice, xconvert, xlen, ewOp, FreeW, StabW, SameW, ChangeW, AddW, BaseW, limBytes, simprocAttr, ne_eq])
    refine RetW.auto0 false _ (by first | rfl | exact (List.append_nil _).symm) ?_ ?_
    · (simp (maxDischargeDepth := 6) [LTB, HLt_set, ltL_take, ltL_drop, ltL_rep, ltL_set, upd, eset, hH, hHk, hl1, hl2, holt, zlShot11] <;> omega)
    (try simp only [wk, wk1, wk0, RB, limBytes, simprocAttr, ne_eq])
    skip
    rw [ix_none (take_all (ge_of h) hno)]

/-- the first slot of a number; 0: none -/
def mountG (a : Arena) (k : Nat) (slot : Int) : Int := ((idsG a k 0).find? fun id => (nodeAt a id).kind == 3 && (nodeAt a id).slot == slot).getD 0
theorem find_ix (p : Int → Bool) : ∀ l : List Int, (l.find? p = none ∧ ix p l = -1) ∨ ∃ i, ∃ h : i < l.length, ix p l = i ∧ l.find? p = some l[i] := fun l => by
  cases hf : l.find? p with
  | none =>
    left
    refine ⟨rfl, ix_none fun x hx => ?_⟩
    have := List.find?_eq_none.1 hf x hx
    simpa using this
  | some x =>
    right
    have hany : ∃ y ∈ l, p y = true := ⟨x, List.mem_of_find?_eq_some hf, List.find?_some hf⟩
    have hlt := List.findIdx_lt_length.2 hany
    refine ⟨l.findIdx p, hlt, ix_hit hlt List.findIdx_getElem (fun y hy => ?_), ?_⟩
    · obtain ⟨j, hj, rfl⟩ := List.mem_take_iff_getElem.1 hy
      have := List.not_of_lt_findIdx (p := p) (xs := l) (i := j) (by omega)
      simpa using this
    · rw [← hf, List.find?_eq_some_iff_getElem.2 ⟨List.findIdx_getElem (w := hlt), l.findIdx p, hlt, rfl, fun j hj => by
        have := List.not_of_lt_findIdx (p := p) (xs := l) (i := j) hj
        simpa using this⟩]
theorem sMount (H : List Ob) (A m : Nat) (a : Arena) (hok : ∀ p ∈ a.nodes, okN p.2.2) (h : arenaAt H A m a) (k : Nat) (hd : deepG a k 0) (hsz : (idsG a k 0).length ≤ 1000000) (slot : Int) : SCall Try.prog 48 [.ref A 0, .int .i64 slot] H (fun r H' => r = .int .i64 (mountG a k slot) ∧ H' = H) := by
  have lA := (List.getElem?_eq_some_iff.1 h.1).1
  refine SCall.of_good fun hH => ?_
  have hHk := HLt.add hH
  refine SCall.of_code Tok Try.func48 rfl Try.call48 (n := 18) rfl (by simp) (rs := [.tmp 4]) rfl ?_
  refine EWn.to ?_
  refine EWn.of_c Tok mixed (own := false) keep48 tab48 (by kernel_rfl) ?_
  (repeat simp -dsimp only [zrShot11, xnils, xnilm, xrange, xmakeMap, xslice3, RB, TB, keep48, tab48, xindexAddr, xindex, xslice, xconvert, xlen, ewOp, FreeW, StabW, SameW, ChangeW, AddW, BaseW, limBytes, simprocAttr, ne_eq])
  (refine SCall.then (sIds A m a hok k 0 _ (arena_app h _) hd hsz) ?_)
  (repeat simp -dsimp only [zrShot11, xnils, xnilm, xrange, xmakeMap, xslice3, RB, TB, keep48, tab48, xindexAddr, xindex, xslice, xconvert, xlen, ewOp, FreeW, StabW, SameW, ChangeW, AddW, BaseW, limBytes, simprocAttr, ne_eq])
  (refine SCall.then (indexFunc_int _ (idsG a k 0) _ [] [.ref H.length 0, .ref (H.length + 1) 0] _ (fun x _ => sMountF _ A m a hok (arena_app h _) x slot H.length (H.length + 1) (by rw [hget0]; rfl) (by rw [hget]; rfl)) (by simp [ltL, V.lt])) ?_)
  (repeat simp -dsimp only [zrShot11, xnils, xnilm, xrange, xmakeMap, xslice3, RB, TB, keep48, tab48, xindexAddr, xindex, xslice, xconvert, xlen, ewOp, FreeW, StabW, SameW, ChangeW, AddW, BaseW, limBytes, simprocAttr, ne_eq])
  rcases find_ix (fun id => (nodeAt a id).kind == 3 && (nodeAt a id).slot == slot) (idsG a k 0) with ⟨h1, h2⟩ | ⟨i, hi, h1, h2⟩
  · rw [h2]
    (repeat simp -dsimp only [zrShot11, xnils, xnilm, xrange, xmakeMap, xslice3, RB, TB, keep48, tab48, xindexAddr, xindex, xslice, xconvert, xlen, ewOp, FreeW, StabW, SameW, ChangeW, AddW, BaseW, limBytes, simprocAttr, ne_eq])
    refine RetW.auto0 false _ (by first | rfl | exact (List.append_nil _).symm) ?_ ?_
    · (simp (maxDischargeDepth := 6) [LTB, HLt_set, ltL_take, ltL_drop, ltL_rep, ltL_set, upd, eset, hH, hHk, zlShot11] <;> omega)
    (try simp only [wk, wk1, wk0, RB, limBytes, simprocAttr, ne_eq])
    skip
    simp [mountG, h1]
  · rw [h1]
    have hneg : decide ((i : Int) < 0) = false := decide_eq_false (by omega)
    have hmi := at_map vi (idsG a k 0) i hi
    simp only [vi] at hmi
    (repeat (first | simp -dsimp only [zrShot11, xnils, xnilm, xrange, xmakeMap, xslice3, hneg, hmi, RB, TB, keep48, tab48, xindexAddr, xindex, xslice, xconvert, xlen, ewOp, FreeW, StabW, SameW, ChangeW, AddW, BaseW, limBytes, simprocAttr, ne_eq] | ((with_reducible refine Need.intro ?_ ?_); (omega))))
    refine RetW.auto0 false _ (by first | rfl | exact (List.append_nil _).symm) ?_ ?_
    · (simp (maxDischargeDepth := 6) [LTB, HLt_set, ltL_take, ltL_drop, ltL_rep, ltL_set, upd, eset, hH, hHk, zlShot11] <;> omega)
    (try simp only [wk, wk1, wk0, RB, limBytes, simprocAttr, ne_eq])
    skip
    simp [mountG, h2]
end Go.Proofs.Ytjplgbalpnlanaa

/- The walk of package dom: Insert, of a child that is behind all others. -/
set_option linter.unusedSimpArgs false
set_option linter.unusedVariables false
set_option maxRecDepth 100000
namespace Go.Proofs.Ytjplgbalpnlanaa
open Go Go.EL
theorem zrDom41 : type_of% (And.intro (And.intro (And.intro (And.intro (@st_run) (And.intro (@sz_run) (@st1_run))) (And.intro (@cl_run) (And.intro (@st_Str) (@sz_Str)))) (And.intro (And.intro (@st1_Str) (And.intro (@cl_Str) (@st_c))) (And.intro (@sz_c) (And.intro (@st1_c) (@cl_c))))) (And.intro (And.intro (And.intro (@st_attr) (And.intro (@sz_attr) (@st1_attr))) (And.intro (@cl_attr) (And.intro (@st_hook) (@sz_hook)))) (And.intro (And.intro (@st1_hook) (And.intro (@cl_hook) (@st_node))) (And.intro (@sz_node) (And.intro (@st1_node) (@cl_node)))))) := And.intro (And.intro (And.intro (And.intro (@st_run) (And.intro (@sz_run) (@st1_run))) (And.intro (@cl_run) (And.intro (@st_Str) (@sz_Str)))) (And.intro (And.intro (@st1_Str) (And.intro (@cl_Str) (@st_c))) (And.intro (@sz_c) (And.intro (@st1_c) (@cl_c))))) (And.intro (And.intro (And.intro (@st_attr) (And.intro (@sz_attr) (@st1_attr))) (And.intro (@cl_attr) (And.intro (@st_hook) (@sz_hook)))) (And.intro (And.intro (@st1_hook) (And.intro (@cl_hook) (@st_node))) (And.intro (@sz_node) (And.intro (@st1_node) (@cl_node)))))
theorem zlDom41 : type_of% (And.intro (And.intro (And.intro (And.intro (@lt_vi) (@lt_str)) (And.intro (@lt_vb) (And.intro (@ltc_str) (@ltc_vi)))) (And.intro (And.intro (@lt_run) (And.intro (@lt1_run) (@ltc_run))) (And.intro (@lt_Str) (And.intro (@lt1_Str) (@ltc_Str))))) (And.intro (And.intro (And.intro (@lt_c) (And.intro (@lt1_c) (@ltc_c))) (And.intro (@lt_attr) (And.intro (@lt1_attr) (@ltc_attr)))) (And.intro (And.intro (@lt_hook) (And.intro (@lt1_hook) (@ltc_hook))) (And.intro (@lt_node) (And.intro (@lt1_node) (@ltc_node)))))) := And.intro (And.intro (And.intro (And.intro (@lt_vi) (@lt_str)) (And.intro (@lt_vb) (And.intro (@ltc_str) (@ltc_vi)))) (And.intro (And.intro (@lt_run) (And.intro (@lt1_run) (@ltc_run))) (And.intro (@lt_Str) (And.intro (@lt1_Str) (@ltc_Str))))) (And.intro (And.intro (And.intro (@lt_c) (And.intro (@lt1_c) (@ltc_c))) (And.intro (@lt_attr) (And.intro (@lt1_attr) (@ltc_attr)))) (And.intro (And.intro (@lt_hook) (And.intro (@lt1_hook) (@ltc_hook))) (And.intro (@lt_node) (And.intro (@lt1_node) (@ltc_node)))))
theorem sgen {f : FuncId} {args : List V} {H : List Ob} {R : V → List Ob → Prop} (h : ∀ G, G = H → SCall Try.prog f args G R) : SCall Try.prog f args H R := h H rfl
theorem pre_app {G H : List Ob} (hl : G.length ≤ H.length) (h : ∀ j, j < G.length → H[j]? = G[j]?) : ∃ L, H = G ++ L := by
  refine ⟨H.drop G.length, ?_⟩
  have : H.take G.length = G := by
    apply List.ext_getElem?
    intro j
    rcases Nat.lt_or_ge j G.length with hj | hj
    · rw [List.getElem?_take_of_lt hj, h j hj]
    · rw [List.getElem?_eq_none (by rw [List.length_take]; omega), List.getElem?_eq_none hj]
  conv => lhs; rw [← List.take_append_drop G.length H]
  rw [this]
/-- a parent with one more kid -/
def kidN (p : Node) (child : Int) : Node := { ownN p with kids := p.kids ++ [child] }
def parN (c : Node) (parent : Int) : Node := { ownN c with parent := parent }
def insNodes (ns : List Ent) (parent child : Int) (p c : Node) : List Ent := nset (nset ns parent (setN p (kidN p child))) child (setN c (parN c parent))
theorem nget_nset (ns : List Ent) (id j : Int) (x : Node) : nget (nset ns id x) j = if j = id then (if (nget ns id).isSome then some x else none) else nget ns j := by
  induction ns with
  | nil => simp [nset, nget]
  | cons q l ih =>
    simp only [nset]
    by_cases h : id = q.1
    · rw [if_pos h]
      simp only [nget, h]
      by_cases hj : j = q.1
      · simp [hj]
      · simp [hj]
    · rw [if_neg h]
      simp only [nget, if_neg h]
      by_cases hj : j = q.1
      · rw [if_pos hj, if_pos hj, if_neg (fun e : j = id => h (by rw [← e]; exact hj))]
      · rw [if_neg hj, if_neg hj, ih]
set_option maxHeartbeats 2000000 in
theorem dInsert (G : List Ob) (A m : Nat) (a : Arena) (h : arenaAt G A m a) (hok : ∀ p ∈ a.nodes, okN p.2.2) (hN : a.nodes.length ≤ 1000000) (parent child : Int) (p c : Node) (hp : nget a.nodes parent = some p) (hc : nget a.nodes child = some c)
    (hpk : p.kind ≠ 2) (hcp : c.parent < 0) (hc0 : child ≠ 0) (hpid : p.id = parent) (hcid : c.id = child) (hin : insideG a child (a.nodes.length + 1) parent [] = false) (hkl : p.kids.length ≤ 1000000) (hAm : A ≠ m) :
    SCall Try.prog 68 [.ref A 0, .int .i64 parent, .int .i64 p.kids.length, .int .i64 child] G (fun r H' => r = .int .i64 0 ∧ H' = G.set m (.map (encM (insNodes a.nodes parent child p c)) a.clock)) := by
  subst hpid hcid
  have hne : c.id ≠ p.id := fun e => by
    have := insideG_succ a c.id a.nodes.length p.id []
    rw [hin, hp, e] at this
    simp at this
  have e1 : (p.kind == 2) = false := by simpa using hpk
  have e2 : decide (c.parent ≥ 0) = false := decide_eq_false (by omega)
  have e3 : (c.id == 0) = false := by simpa using hc0
  have e4 : decide ((p.kids.length : Int) < 0) = false := decide_eq_false (by omega)
  have e5 : decide ((p.kids.length : Int) > p.kids.length) = false := decide_eq_false (by omega)
  have f1 : (ownN p).kind = p.kind := rfl
  have f2 : (ownN c).parent = c.parent := rfl
  have f3 : (ownN p).kids = p.kids := rfl
  have lA := (List.getElem?_eq_some_iff.1 h.1).1
  have lm := (List.getElem?_eq_some_iff.1 h.2.1).1
  refine SCall.of_good fun hH => ?_
  have hHk := HLt.add hH
  refine SCall.of_code Tok Try.func68 rfl Try.call68 (n := 74) rfl (by simp) (rs := [.tmp 8]) rfl ?_
  refine EWn.to ?_
  refine EWn.of_c Tok mixed (own := false) keep68 tab68 (by kernel_rfl) ?_
  (repeat simp -dsimp only [zrDom41, xnils, xnilm, xrange, xmakeMap, xslice3, RB, TB, keep68, tab68, xindexAddr, xindex, xslice, xconvert, xlen, ewOp, FreeW, StabW, SameW, ChangeW, AddW, BaseW, limBytes, simprocAttr, ne_eq])
  refine SCall.mono (aGetV G A m a h hok p.id p hp).goodA ?_
  rintro _ G1 ⟨⟨o, L1, rfl, hG1e, hle, ho⟩, hG1⟩
  have hat : ∀ K, arenaAt (G1 ++ K) A m a := fun K => by rw [hG1e]; exact arena_app (arena_app h _) _
  have lo := (List.getElem?_eq_some_iff.1 ho).1
  have ho2 : ∀ K, (G1 ++ K)[o]? = some (.vec 1 1 (p.kids.map vi)) := fun K => get_appD (L := K) ho
  have hsO : ∀ (K : List Ob) (x : Ob), (G1 ++ K).set o x = G1.set o x ++ K := fun K x => List.set_append_left _ _ lo
  have hgO : ∀ (K : List Ob) (x : Ob), (G1.set o x ++ K)[o]? = some x := fun K x => by rw [List.getElem?_append_left (by simpa using lo), List.getElem?_set_self lo]
  (repeat simp -dsimp only [zrDom41, xnils, xnilm, xrange, xmakeMap, xslice3, nodeK, RB, TB, keep68, tab68, xindexAddr, xindex, xslice, xconvert, xlen, ewOp, FreeW, StabW, SameW, ChangeW, AddW, BaseW, limBytes, simprocAttr, ne_eq])
  (refine SCall.then (aGetS _ A m a (hat _) hok c.id c hc) ?_)
  (repeat simp -dsimp only [zrDom41, xnils, xnilm, xrange, xmakeMap, xslice3, nodeV, e1, e2, e3, e4, e5, f1, f2, f3, RB, TB, keep68, tab68, xindexAddr, xindex, xslice, xconvert, xlen, ewOp, FreeW, StabW, SameW, ChangeW, AddW, BaseW, limBytes, simprocAttr, ne_eq])
  (refine SCall.then (dInside _ A m a (hat _) hok hN p.id c.id) ?_)
  (repeat (first | simp -dsimp only [zrDom41, xnils, xnilm, xrange, xmakeMap, xslice3, hin, e1, e2, e3, e4, e5, f1, f2, f3, ho2, RB, TB, keep68, tab68, xindexAddr, xindex, xslice, xconvert, xlen, ewOp, FreeW, StabW, SameW, ChangeW, AddW, BaseW, limBytes, simprocAttr, ne_eq] | ((with_reducible refine Need.intro ?_ ?_); (trivial))))
  (refine SCall.thenA (insI _ o 1 p.kids c.id (ho2 _) (by omega)) (by repeat (first | exact trivial | exact .inl (.inl rfl) | exact .inl (.inr ⟨_, rfl, rfl⟩) | exact .inl rfl | exact .inr ⟨_, rfl, rfl⟩ | refine .inr ⟨_, _, rfl, rfl, ?_⟩ | refine ⟨?_, ?_⟩)) ?_)
  (repeat simp -dsimp only [zrDom41, xnils, xnilm, xrange, xmakeMap, xslice3, hsO, hgO, f3, RB, TB, keep68, tab68, xindexAddr, xindex, xslice, xconvert, xlen, ewOp, FreeW, StabW, SameW, ChangeW, AddW, BaseW, limBytes, simprocAttr, ne_eq])
  refine sgen fun G2 hG2 => ?_
  have hl1 : G.length ≤ G1.length := by rw [hG1e]; simp
  have hG2o : G2[o]? = some (.vec 2 1 ((p.kids ++ [c.id]).map vi)) := by rw [hG2]; exact hgO _ _
  have hG2c : G2[G1.length + 1]? = some (.var (nodeV (ownN c)).cells) := by rw [hG2, List.getElem?_append_right (by simp)]; simp; rfl
  have hG2l : G2.length = G1.length + 2 := by rw [hG2]; simp
  have hG2p : ∀ j, j < G.length → G2[j]? = G[j]? := fun j hj => by
    rw [hG2, List.getElem?_append_left (by simp; omega), List.getElem?_set_ne (by omega), hG1e, List.getElem?_append_left hj]
  refine SCall.freezeA 1 (cs' := (nodeV (kidN p c.id)).cells) hG2o rfl ?_ ?_
  · refine ⟨.inl (.inl rfl), .inl (.inl rfl), .inl (.inl rfl), .inl (.inl rfl), .inl (.inl rfl), .inl (.inl rfl), .inl (.inl rfl), .inl (.inl rfl), .inl (.inl rfl), .inl (.inl rfl), .inr ⟨o, 2, _, 0, _, rfl, rfl, ?_, ?_⟩, .inl (.inl rfl), .inl (.inl rfl), trivial⟩
    · simp
    · rw [List.drop_zero, List.take_of_length_le (by simp)]; rfl
  refine sgen fun G3 hG3 => ?_
  have hG3l : G3.length = G1.length + 2 := by rw [hG3]; simpa using hG2l
  have hG3p : ∀ j, j < G.length → G3[j]? = G[j]? := fun j hj => by rw [hG3, List.getElem?_set_ne (by omega)]; exact hG2p j hj
  have hG3c : G3[G1.length + 1]? = some (.var (nodeV (ownN c)).cells) := by rw [hG3, List.getElem?_set_ne (by omega)]; exact hG2c
  have hat3 : arenaAt G3 A m a := by
    obtain ⟨L, hL⟩ := pre_app (by omega) hG3p
    rw [hL]; exact arena_app h _
  obtain ⟨q, hq, hqe⟩ := nget_mem hp
  obtain ⟨q2, hq2, hqe2⟩ := nget_mem hc
  have okp : okN p := hqe ▸ hok q hq
  have okc : okN c := hqe2 ▸ hok q2 hq2
  have okk : okN (kidN p c.id) := by
    obtain ⟨o1, o2, o3, o4, o5, o6⟩ := okN_own okp
    exact ⟨o1, o2, o3, o4, o5, by simp [kidN]; omega⟩
  have okk2 : okN (parN c p.id) := by
    obtain ⟨o1, o2, o3, o4, o5, o6⟩ := okN_own okc
    exact ⟨o1, o2, o3, o4, o5, o6⟩
  refine SCall.mono (aSet G3 A m a hat3 (kidN p c.id) p hp okk) ?_
  rintro _ G4 ⟨rfl, hG4⟩
  have hid : (kidN p c.id).id = p.id := rfl
  rw [hid] at hG4
  have hG4l : G4.length = G1.length + 2 := by rw [hG4]; simpa using hG3l
  have hG4c : G4[G1.length + 1]? = some (.var (nodeV (ownN c)).cells) := by rw [hG4, List.getElem?_set_ne (by omega)]; exact hG3c
  have hG4x : ∀ X, (G4.set (G1.length + 1) X)[G1.length + 1]? = some X := fun X => List.getElem?_set_self (by omega)
  (repeat simp -dsimp only [zrDom41, xnils, xnilm, xrange, xmakeMap, xslice3, hG4c, hG4x, nodeV, V.cells, RB, TB, keep68, tab68, xindexAddr, xindex, xslice, xconvert, xlen, ewOp, FreeW, StabW, SameW, ChangeW, AddW, BaseW, limBytes, simprocAttr, ne_eq])
  refine sgen fun G5 hG5 => ?_
  have hat5 : arenaAt G5 A m { a with nodes := nset a.nodes p.id (setN p (kidN p c.id)) } := by
    refine ⟨?_, ?_, h.2.2.1, h.2.2.2⟩
    · rw [hG5, List.getElem?_set_ne (by omega), hG4, List.getElem?_set_ne (Ne.symm hAm)]; exact hat3.1
    · rw [hG5, List.getElem?_set_ne (by omega), hG4, List.getElem?_set_self (by omega)]
  have hc2 : nget (nset a.nodes p.id (setN p (kidN p c.id))) c.id = some c := by rw [nget_nset, if_neg hne]; exact hc
  refine SCall.mono (aSet G5 A m _ hat5 (parN c p.id) c hc2 okk2).goodA ?_
  rintro _ G6 ⟨⟨rfl, hG6⟩, hG6h⟩
  (repeat simp -dsimp only [zrDom41, xnils, xnilm, xrange, xmakeMap, xslice3, RB, TB, keep68, tab68, xindexAddr, xindex, xslice, xconvert, xlen, ewOp, FreeW, StabW, SameW, ChangeW, AddW, BaseW, limBytes, simprocAttr, ne_eq])
  have hG5l : G5.length = G1.length + 2 := by rw [hG5]; simpa using hG4l
  obtain ⟨L6, hL6⟩ : ∃ L6, G6 = G.set m (.map (encM (insNodes a.nodes p.id c.id p c)) a.clock) ++ L6 := by
    refine pre_app (by rw [hG6]; simp; omega) fun j hj => ?_
    rw [List.length_set] at hj
    rw [hG6]
    by_cases e : j = m
    · rw [e, List.getElem?_set_self (by omega), List.getElem?_set_self lm]; rfl
    · rw [List.getElem?_set_ne (Ne.symm e), List.getElem?_set_ne (Ne.symm e), hG5, List.getElem?_set_ne (by omega), hG4, List.getElem?_set_ne (Ne.symm e)]
      exact hG3p j hj
  refine RetW.cutK false (G.set m (.map (encM (insNodes a.nodes p.id c.id p c)) a.clock)) L6 hL6 (by simp) ?_ ?_ ?_
  · rw [List.length_set]
    exact HLt_set hH (lt_encM _ _)
  · simp [okW, okW1, okW0, V.lt]
  · simp [wk, wk1, wk0]
end Go.Proofs.Ytjplgbalpnlanaa

/- slices.Insert of ints at any place of the caller's own list: by the library's contract. -/
set_option maxHeartbeats 600000
set_option linter.unusedSimpArgs false
set_option linter.unusedVariables false
set_option maxRecDepth 100000
namespace Go.EL
open Go
/-- a row of one's own is another one from now on -/
theorem own_again {g : Nat → Option Key} {H : List Ob} {w : World} (hG : Good g H w) {o ver es : Nat} {l l' : List V} (ho : H[o]? = some (.vec ver es l)) {q : Key} (hk : g o = some q) (hv : q.ver = ver) (w' : World)
    (hos : w'.os = w.os) (hout : w'.output = w.output) (htape : w'.tape = w.tape) (hsize : w.heap.size ≤ w'.heap.size) (hheap : ∀ b, b < w.heap.size → q.blk ≠ some b → w'.heap[b]? = w.heap[b]?)
    {b2 cap : Nat} {cur : Array Value} {et : TypeId} {fr : Nat × Nat} (hb2 : w.heap.size ≤ b2 ∨ q.blk = some b2) (hh : w'.heap[b2]? = some (.cells cur et fr)) (hsz : cur.size = cap * es) (hcm : cap ≤ maxLen) (hu : unfrozen fr cur.size) (hone : ∀ v ∈ cur.toList, v.oneCell' = true)
    {cl : List Value} (hr : RepF (cxOf g H.length w) es l' cl) (hcl : ∀ j v, cl[j]? = some v → w'.cell? ⟨b2, j, none⟩ = some v) (hcap : l'.length ≤ cap) :
    ∃ g', Good g' (H.set o (.vec (ver + 1) es l')) w' ∧ Ext g H.length w g' (H.set o (.vec (ver + 1) es l')).length w' ∧ RepV (cxOf g' (H.set o (.vec (ver + 1) es l')).length w') (.vec o (ver + 1) 0 l'.length) (.slice (some ⟨b2, 0, none⟩) l'.length cap) := by
  have hlo := lt_of_get ho
  have hst := step_one hG o (setKey g o (some ⟨ver + 1, some b2, es, cap⟩)) (H.set o (.vec (ver + 1) es l')) w' hos hout htape
    (fun o' ho' => set_get_ne ho') (fun o' ho' => setKey_other ho') (by simp) hsize
    (fun b hb hne => hheap b hb (hne q hk))
    (fun k' b hk' hb => by
      rw [setKey_same] at hk'; injection hk' with e; subst e
      injection hb with hb; subst hb
      rcases hb2 with h | h
      · exact .inl h
      · exact .inr ⟨q, hk, h⟩)
    (fun _ k' hk' => by rw [setKey_same] at hk'; injection hk' with e; subst e; exact ⟨q, hk, by simp only []; omega, fun e => by simp only [] at e; omega⟩)
    (fun m => by
      rw [setKey_same, set_get_eq ho]
      refine ⟨_, rfl, rfl, rfl, by omega, hcm, hcap, .inr ⟨b2, cur, et, fr, rfl, hh, hsz, ?_, hu, hone⟩⟩
      exact (hr.mono m).repE fun j v hj => by rw [Nat.zero_add]; exact hcl j v hj)
  refine ⟨_, hst.1, hst.2, RepV.mk_leaf ?_ (by simp) (by simp)⟩
  simp only [RepC]
  refine ⟨has_set (by simpa using hlo) (.inr (by simp)), _, rfl, rfl, fun k hk2 => ?_⟩
  have hk2 : setKey g o (some ⟨ver + 1, some b2, es, cap⟩) o = some k := hk2
  rw [setKey_same] at hk2
  injection hk2 with hk2
  subst hk2
  exact ⟨Nat.le_refl _, fun _ => ⟨by simpa using hcap, _, rfl, fun _ => ⟨b2, rfl, by simp⟩⟩⟩
theorem intF (c : Cx) : ∀ l : List Int, RepF c 1 (l.map vi) (l.map (Value.int .i64))
  | [] => rfl
  | x :: l => ⟨[.int .i64 x], _, rfl, ⟨trivial, by simp only [vi, RepC]⟩, rfl, intF c l⟩
theorem intF_eq {c : Cx} : ∀ {l : List Int} {cl : List Value}, RepF c 1 (l.map vi) cl → cl = l.map (Value.int .i64)
  | [], _, h => h
  | x :: l, _, ⟨vs, cl', h1, h2, h3, h4⟩ => by
    have e := intF_eq h4
    have h5 := h2.2
    simp only [vi, RepC] at h5
    subst h1 h5 e
    rfl
/-- what a row of ints of one's own is, in the world -/
theorem own_ints {g : Nat → Option Key} {H : List Ob} {w : World} (hG : Good g H w) {o ver : Nat} {l : List Int} (ho : H[o]? = some (.vec ver 1 (l.map vi))) (hl : 0 < l.length) {cv : Value} (hrv : RepV (cxOf g H.length w) (.vec o ver 0 l.length) cv) :
    ∃ q b cur et fr, g o = some q ∧ q.ver = ver ∧ q.blk = some b ∧ q.cap ≤ maxLen ∧ l.length ≤ q.cap ∧ cv = .slice (some ⟨b, 0, none⟩) l.length q.cap ∧ w.heap[b]? = some (.cells cur et fr) ∧ cur.size = q.cap ∧ unfrozen fr cur.size ∧ (∀ v ∈ cur.toList, v.oneCell' = true) ∧
      ∀ j v, (l.map (Value.int .i64))[j]? = some v → w.cell? ⟨b, j, none⟩ = some v := by
  obtain ⟨q, hk, hver, hes, hv1, hcm, hcap, hbk⟩ := hG.vec ho
  have h := hrv.leaf (by simp) (by simp)
  simp only [RepC] at h
  obtain ⟨k1, uu, huu, k2, k3⟩ := h
  injection huu with huu
  subst huu
  obtain ⟨k4, k5⟩ := k3 q hk
  obtain ⟨k6, ad, rfl, k7⟩ := k5 hver
  rw [List.length_map] at hcap
  obtain ⟨b, m1, rfl⟩ := k7 (by omega)
  rcases hbk with ⟨h0, _⟩ | ⟨b', cur, et, fr, hblk, hh, hcsz, hr, hun, hone⟩
  · rw [h0] at m1; cases m1
  rw [hblk] at m1
  injection m1 with m1
  subst m1
  rw [hes] at hr hcsz
  obtain ⟨cl, d1, d2⟩ := hr.flat
  have hcl := intF_eq d1
  subst hcl
  refine ⟨q, b', cur, et, fr, hk, hver, hblk, hcm, hcap, by rw [Nat.zero_mul, Nat.sub_zero], hh, by omega, hun, hone, fun j v hj => ?_⟩
  have := d2 j v hj
  rw [Nat.zero_add] at this
  exact this
end Go.EL
namespace Go.Proofs.Ytjplgbalpnlanaa
open Go Go.EL
def insRen : Go.Shelf.Ren := ⟨fun | 21 => 131 | 27 => 165 | 28 => 166 | 35 => 179 | 39 => 127 | n => n, fun | 22 => 58 | n => n, fun n => n⟩
theorem insLays : Go.Proofs.Lays2.n21 Try.prog insRen where
  mixed := by kernel_rfl
  f21 := Try.func131.trans (congrArg some (by kernel_rfl))
  f27 := Try.func165.trans (congrArg some (by kernel_rfl))
  f28 := Try.func166.trans (congrArg some (by kernel_rfl))
  f35 := Try.func179.trans (congrArg some (by kernel_rfl))
  f39 := Try.func127.trans (congrArg some (by kernel_rfl))
  t0 := Try.underlying0
  a0 := Try.isAgg0
  z0 := Try.sizeOf0
  v0 := Try.zeroValue0
  t3 := Try.underlying3
  a3 := Try.isAgg3
  z3 := Try.sizeOf3
  v3 := Try.zeroValue3
  t4 := Try.underlying4
  a4 := Try.isAgg4
  z4 := Try.sizeOf4
  v4 := Try.zeroValue4
  t22 := Try.underlying58
  a22 := Try.isAgg58
  z22 := Try.sizeOf58
  v22 := Try.zeroValue58
  i3 := by kernel_rfl
theorem insAt (H : List Ob) (o ver o2 i : Nat) (l : List Int) (x : Int) (ho : H[o]? = some (.vec ver 1 (l.map vi))) (ho2 : H[o2]? = some (.vec 1 1 [vi x])) (hne : o ≠ o2) (hi : i < l.length) (hl : l.length ≤ 1000000000) :
    SCall Try.prog 131 [.vec o ver 0 l.length, .int .i64 i, .vec o2 1 0 1] H (fun r H' => r = .vec o (ver + 1) 0 (l.length + 1) ∧ H' = H.set o (.vec (ver + 1) 1 ((l.take i ++ x :: l.drop i).map vi))) := by
  intro g w cargs hG ha
  obtain ⟨c0, c1, c2, hcs, h0, h1, h2⟩ : ∃ c0 c1 c2, cargs = #[c0, c1, c2] ∧ RepV (cxOf g H.length w) (.vec o ver 0 l.length) c0 ∧ RepV (cxOf g H.length w) (.int .i64 i) c1 ∧ RepV (cxOf g H.length w) (.vec o2 1 0 1) c2 := by
    rcases cargs with ⟨L⟩
    match L, ha with
    | [a, b, c], ha => exact ⟨a, b, c, rfl, ha.1, ha.2.1, ha.2.2.1⟩
  subst hcs
  have h1 := h1.int
  subst h1
  obtain ⟨q, b, cur, et, fr, hk, hver, hblk, hcm, hcap, rfl, hh, hsz, hun, hone, hcells⟩ := own_ints hG ho (by omega) h0
  obtain ⟨q2, b2, cur2, et2, fr2, hk2, hver2, hblk2, hcm2, hcap2, rfl, hh2, hsz2, hun2, hone2, hcells2⟩ := own_ints (l := [x]) hG ho2 (by simp) h2
  have hbb : b2 ≠ b := fun e => hne (hG.inj o o2 q q2 b hk hk2 hblk (by rw [hblk2, e]))
  have hbs : b < w.heap.size := (Array.getElem?_eq_some_iff.1 hh).1
  unfold CallR
  rw [Try.call131]
  simp only []
  have hmx : maxLen = 9223372036854775807 := rfl
  have hcs1 : ∀ v ∈ l.map (Value.int .i64), v.oneCell' = true := fun v hv => by obtain ⟨n, _, rfl⟩ := List.mem_map.1 hv; rfl
  have hvs1 : ∀ v ∈ [Value.int .i64 x], v.oneCell' = true := fun v hv => by simp at hv; subst hv; rfl
  have hlen : (l.take i ++ x :: l.drop i).length = l.length + 1 := by simp; omega
  have hF := intF (cxOf g H.length w) (l.take i ++ x :: l.drop i)
  have hget : ∀ j v, ((l.take i ++ x :: l.drop i).map (Value.int .i64))[j]? = some v → (j < i ∧ (l.map (Value.int .i64))[j]? = some v) ∨ (j = i ∧ v = .int .i64 x) ∨ (i < j ∧ ((l.map (Value.int .i64)).drop i)[j - (i + 1)]? = some v) := fun j v hj => by
    rw [List.map_append, List.map_cons, List.map_take, List.map_drop] at hj
    rcases Nat.lt_trichotomy j i with h | h | h
    · left
      rw [List.getElem?_append_left (by simp; omega), List.getElem?_take_of_lt h] at hj
      exact ⟨h, hj⟩
    · right; left
      subst h
      rw [List.getElem?_append_right (by simp; omega)] at hj
      simp only [List.length_take, List.length_map] at hj
      rw [Nat.min_eq_left (by omega), Nat.sub_self] at hj
      simp at hj
      exact ⟨rfl, hj.symm⟩
    · right; right
      rw [List.getElem?_append_right (by simp; omega)] at hj
      simp only [List.length_take, List.length_map] at hj
      rw [Nat.min_eq_left (by omega), show j - i = (j - (i + 1)) + 1 from by omega, List.getElem?_cons_succ] at hj
      exact ⟨h, hj⟩
  by_cases hroom : l.length + 1 ≤ q.cap
  · have hfz : ∀ j, j < l.length + 1 → w.frozen? ⟨b, 0 + j, none⟩ = false := fun j hj => by
      have := hun j (by omega)
      simp only [World.frozen?, hh, Nat.zero_add]
      simpa using this
    have hcl0 : ∀ j, j < l.length + 1 → (w.cell? ⟨b, 0 + j, none⟩).isSome = true := fun j hj => by
      rw [cell?_row hh, List.getElem?_eq_getElem (by simp; omega)]; rfl
    refine (Go.Proofs.Any2.slices_Insert_int_shift insLays b 0 l.length q.cap i b2 0 1 q2.cap (l.map (Value.int .i64)) [.int .i64 x] w hi (by omega) hroom (by omega) hbb (by simp) rfl (fun j v hj => by rw [Nat.zero_add]; exact hcells j v hj) hcl0 hfz (fun j v hj => by rw [Nat.zero_add]; exact hcells2 j v hj) hcs1 hvs1
      et2 et cur2.size cur.size (by simp [World.shape?, hh2]) (by simp [World.shape?, hh]) (by omega) (by
        have := hun2 0 (by omega)
        simp only [World.frozen?, hh2]; simpa using this) (by
        have := hun2 cur2.size (by omega)
        simp only [World.frozen?, hh2]; simpa using this)).mono ?_
    rintro e w' ⟨rfl, rfl⟩
    rw [Nat.zero_add, Nat.zero_add]
    have hhd : w.drew.heap[b]? = some (.cells cur et fr) := hh
    have hdl : ((l.map (Value.int .i64)).drop i).length = l.length - i := by simp
    have hp1 := heap_setCells ((l.map (Value.int .i64)).drop i) (i + 1) w.drew cur hhd (by omega)
    have hp2 := heap_setCells [Value.int .i64 x] i _ _ hp1 (by simp; omega)
    have hr1 := rest_setCells b ((l.map (Value.int .i64)).drop i) (i + 1) w.drew
    have hr2 := rest_setCells b [Value.int .i64 x] i (w.drew.setCells b (i + 1) ((l.map (Value.int .i64)).drop i))
    refine ⟨_, rfl, .vec o (ver + 1) 0 (l.length + 1), H.set o (.vec (ver + 1) 1 ((l.take i ++ x :: l.drop i).map vi)), ?_⟩
    obtain ⟨g', k1, k2, k3⟩ := own_again (l' := (l.take i ++ x :: l.drop i).map vi) hG ho hk hver ((w.drew.setCells b (i + 1) ((l.map (Value.int .i64)).drop i)).setCells b i [.int .i64 x]) (hr2.1.trans hr1.1) (hr2.2.1.trans hr1.2.1) (hr2.2.2.1.trans hr1.2.2.1)
      (by rw [size_setCells, size_setCells]; exact Nat.le_refl _) (fun b' _ hne' => by
        have e : b' ≠ b := fun e => hne' (by rw [e]; exact hblk)
        rw [heap_setCells_ne e, heap_setCells_ne e]; rfl) (.inr hblk) hp2 (cap := q.cap) (by simp; omega) hcm (by
          have hs : (((cur.toList.take (i + 1) ++ (l.map (Value.int .i64)).drop i ++ cur.toList.drop (i + 1 + ((l.map (Value.int .i64)).drop i).length)).toArray.toList.take i ++ [Value.int .i64 x] ++ (cur.toList.take (i + 1) ++ (l.map (Value.int .i64)).drop i ++ cur.toList.drop (i + 1 + ((l.map (Value.int .i64)).drop i).length)).toArray.toList.drop (i + [Value.int .i64 x].length)).toArray).size = cur.size := by simp; omega
          rw [hs]; exact hun) (fun v hv => by
            simp only [List.mem_append] at hv
            rcases hv with (hv | hv) | hv
            · have := List.mem_of_mem_take hv
              simp only [List.mem_append] at this
              rcases this with (h | h) | h
              · exact hone v (List.mem_of_mem_take h)
              · exact hcs1 v (List.mem_of_mem_drop h)
              · exact hone v (List.mem_of_mem_drop h)
            · exact hvs1 v hv
            · have := List.mem_of_mem_drop hv
              simp only [List.mem_append] at this
              rcases this with (h | h) | h
              · exact hone v (List.mem_of_mem_take h)
              · exact hcs1 v (List.mem_of_mem_drop h)
              · exact hone v (List.mem_of_mem_drop h)) hF (fun j v hj => by
                have ho1 : ∀ k, i ≤ k → k < i + 1 + ((l.map (Value.int .i64)).drop i).length → True := fun _ _ _ => trivial
                rcases hget j v hj with ⟨h, hv⟩ | ⟨rfl, rfl⟩ | ⟨h, hv⟩
                · rw [World.cell?_setCells_out b _ _ _ _ (fun _ _ => .inl h), World.cell?_setCells_out b _ _ _ _ (fun _ _ => .inl (by show j < i + 1; omega))]
                  exact hcells j v hv
                · have := World.cell?_setCells_in b [Value.int .i64 x] j (w.drew.setCells b (j + 1) ((l.map (Value.int .i64)).drop j)) (fun k hk => by
                    simp at hk; subst hk
                    rw [World.cell?_setCells_out b _ _ _ _ (fun _ _ => .inl (by simp))]
                    have := hcl0 j (by omega)
                    rw [Nat.zero_add] at this
                    exact this) 0 (by simp)
                  simpa using this
                · rw [World.cell?_setCells_out b _ _ _ _ (fun _ _ => .inr (by simp; omega))]
                  have hlt := (List.getElem?_eq_some_iff.1 hv).1
                  have := World.cell?_setCells_in b ((l.map (Value.int .i64)).drop i) (i + 1) w.drew (fun k hk => by
                    have := hcl0 (i + 1 + k) (by omega)
                    rw [Nat.zero_add] at this
                    exact this) (j - (i + 1)) hlt
                  rw [show i + 1 + (j - (i + 1)) = j from by omega] at this
                  rw [this, ← hv, List.getElem?_eq_getElem hlt]) (by simp; omega)
    refine ⟨g', k1, k2, ?_, rfl, rfl⟩
    rw [List.length_map, hlen] at k3
    exact k3
  · have hcapn : q.cap = l.length := by omega
    refine (Go.Proofs.Any2.slices_Insert_int_grow insLays b 0 l.length q.cap i b2 0 1 q2.cap (l.map (Value.int .i64)) [.int .i64 x] w hi (by omega) (by omega) (by omega) (by omega) (by simp) rfl (fun j v hj => by rw [Nat.zero_add]; exact hcells j v hj) (fun j v hj => by rw [Nat.zero_add]; exact hcells2 j v hj) hcs1 hvs1).mono ?_
    rintro e w' ⟨rfl, rfl⟩
    have hGe := grownCap_ge w (l.length + 1) q.cap (insRen.t 3)
    have hGm := grownCap_le_maxLen w (l.length + 1) q.cap (insRen.t 3) (by rw [hmx]; omega)
    generalize grownCap w (l.length + 1) q.cap (insRen.t 3) = G at hGe hGm ⊢
    obtain ⟨ROW, hROW⟩ : ∃ ROW, ROW = ((l.map (Value.int .i64)).take i).toArray ++ Builtin.zeroCells (Value.int .i64 0).cells (l.length + 1 - i) ++ Builtin.zeroCells (Value.int .i64 0).cells (G - (l.length + 1)) := ⟨_, rfl⟩
    have hRl : ROW.size = G := by
      rw [hROW]
      simp [Builtin.zeroCells, Value.cells]
      omega
    have hR1 : ∀ v ∈ ROW.toList, v.oneCell' = true := fun v hv => by
      rw [hROW] at hv
      simp only [Array.toList_append, List.mem_append] at hv
      rcases hv with (h | h) | h
      · exact hcs1 v (List.mem_of_mem_take h)
      · have := mem_zeroCells h; simp [Value.cells] at this; subst this; rfl
      · have := mem_zeroCells h; simp [Value.cells] at this; subst this; rfl
    have hR2 : ∀ j v, j < i → (l.map (Value.int .i64))[j]? = some v → ROW.toList[j]? = some v := fun j v hj hv => by
      rw [hROW]
      simp only [Array.toList_append, List.append_assoc]
      rw [List.getElem?_append_left (by simp; omega), List.getElem?_take_of_lt hj]
      exact hv
    rw [← hROW]
    clear hROW
    obtain ⟨w1, hw1⟩ : ∃ w1, w1 = (w.alloc (.cells ROW (insRen.t 3))).drew := ⟨_, rfl⟩
    have h1h : w1.heap = w.heap.push (.cells ROW (insRen.t 3)) := by rw [hw1]; rfl
    have h1b : w1.heap[w.heap.size]? = some (.cells ROW (insRen.t 3) (0, 0)) := by rw [h1h]; simp
    have h1o : w1.os = w.os ∧ w1.output = w.output ∧ w1.tape = w.tape := by rw [hw1]; exact ⟨rfl, rfl, rfl⟩
    rw [← hw1]
    clear hw1
    have hdl : ((l.map (Value.int .i64)).drop i).length = l.length - i := by simp
    have hp1 := heap_setCells [Value.int .i64 x] i w1 ROW h1b (by simp; omega)
    have hp2 := heap_setCells ((l.map (Value.int .i64)).drop i) (i + 1) (w1.setCells w.heap.size i [.int .i64 x]).drew _ hp1 (by simp; omega)
    have hr1 := rest_setCells w.heap.size [Value.int .i64 x] i w1
    have hr2 := rest_setCells w.heap.size ((l.map (Value.int .i64)).drop i) (i + 1) (w1.setCells w.heap.size i [.int .i64 x]).drew
    refine ⟨_, rfl, .vec o (ver + 1) 0 (l.length + 1), H.set o (.vec (ver + 1) 1 ((l.take i ++ x :: l.drop i).map vi)), ?_⟩
    obtain ⟨g', k1, k2, k3⟩ := own_again (l' := (l.take i ++ x :: l.drop i).map vi) hG ho hk hver ((w1.setCells w.heap.size i [.int .i64 x]).drew.setCells w.heap.size (i + 1) ((l.map (Value.int .i64)).drop i)) (hr2.1.trans (hr1.1.trans h1o.1)) (hr2.2.1.trans (hr1.2.1.trans h1o.2.1)) (hr2.2.2.1.trans (hr1.2.2.1.trans h1o.2.2))
      (by rw [size_setCells]; show _ ≤ (w1.setCells w.heap.size i [.int .i64 x]).heap.size; rw [size_setCells, h1h]; simp) (fun b' hb' hne' => by
        have e : b' ≠ w.heap.size := by omega
        rw [heap_setCells_ne e]
        show (w1.setCells w.heap.size i [.int .i64 x]).heap[b']? = _
        rw [heap_setCells_ne e, h1h, Array.getElem?_push, if_neg e]) (.inl (Nat.le_refl _)) hp2 (cap := G) (by simp; omega) hGm (fun j _ h => by omega) (fun v hv => by
            simp only [List.mem_append] at hv
            rcases hv with (hv | hv) | hv
            · have := List.mem_of_mem_take hv
              simp only [List.mem_append] at this
              rcases this with (h | h) | h
              · exact hR1 v (List.mem_of_mem_take h)
              · exact hvs1 v h
              · exact hR1 v (List.mem_of_mem_drop h)
            · exact hcs1 v (List.mem_of_mem_drop hv)
            · have := List.mem_of_mem_drop hv
              simp only [List.mem_append] at this
              rcases this with (h | h) | h
              · exact hR1 v (List.mem_of_mem_take h)
              · exact hvs1 v h
              · exact hR1 v (List.mem_of_mem_drop h)) hF (fun j v hj => by
                have hsome : ∀ k, k < G → (w1.cell? ⟨w.heap.size, k, none⟩).isSome = true := fun k hk => by rw [cell?_row h1b, List.getElem?_eq_getElem (by simp; omega)]; rfl
                have hc2 : ∀ k, (w1.setCells w.heap.size i [Value.int .i64 x]).drew.cell? ⟨w.heap.size, k, none⟩ = (w1.setCells w.heap.size i [Value.int .i64 x]).cell? ⟨w.heap.size, k, none⟩ := fun k => rfl
                rcases hget j v hj with ⟨h, hv⟩ | ⟨rfl, rfl⟩ | ⟨h, hv⟩
                · rw [World.cell?_setCells_out w.heap.size _ _ _ _ (fun _ _ => .inl (by show j < i + 1; omega)), hc2, World.cell?_setCells_out w.heap.size _ _ _ _ (fun _ _ => .inl h), cell?_row h1b]
                  exact hR2 j v h hv
                · rw [World.cell?_setCells_out w.heap.size _ _ _ _ (fun _ _ => .inl (by show j < j + 1; omega)), hc2]
                  have := World.cell?_setCells_in w.heap.size [Value.int .i64 x] j w1 (fun k hk => by
                    simp at hk; subst hk
                    exact hsome j (by omega)) 0 (by simp)
                  simpa using this
                · have hlt := (List.getElem?_eq_some_iff.1 hv).1
                  have := World.cell?_setCells_in w.heap.size ((l.map (Value.int .i64)).drop i) (i + 1) (w1.setCells w.heap.size i [Value.int .i64 x]).drew (fun k hk => by
                    rw [hc2, World.cell?_setCells_out w.heap.size _ _ _ _ (fun _ _ => .inr (by show i + 1 ≤ i + 1 + k; omega))]
                    exact hsome _ (by omega)) (j - (i + 1)) hlt
                  rw [show i + 1 + (j - (i + 1)) = j from by omega] at this
                  rw [this, ← hv, List.getElem?_eq_getElem hlt]) (by simp; omega)
    refine ⟨g', k1, k2, ?_, rfl, rfl⟩
    rw [List.length_map, hlen] at k3
    exact k3
end Go.Proofs.Ytjplgbalpnlanaa

/- The walk of package dom: Insert, at any place. -/
set_option linter.unusedSimpArgs false
set_option linter.unusedVariables false
set_option maxRecDepth 100000
namespace Go.Proofs.Ytjplgbalpnlanaa
open Go Go.EL
theorem zrDomI1 : type_of% (And.intro (And.intro (And.intro (And.intro (@st_run) (And.intro (@sz_run) (@st1_run))) (And.intro (@cl_run) (And.intro (@st_Str) (@sz_Str)))) (And.intro (And.intro (@st1_Str) (And.intro (@cl_Str) (@st_c))) (And.intro (@sz_c) (And.intro (@st1_c) (@cl_c))))) (And.intro (And.intro (And.intro (@st_attr) (And.intro (@sz_attr) (@st1_attr))) (And.intro (@cl_attr) (And.intro (@st_hook) (@sz_hook)))) (And.intro (And.intro (@st1_hook) (And.intro (@cl_hook) (@st_node))) (And.intro (@sz_node) (And.intro (@st1_node) (@cl_node)))))) := And.intro (And.intro (And.intro (And.intro (@st_run) (And.intro (@sz_run) (@st1_run))) (And.intro (@cl_run) (And.intro (@st_Str) (@sz_Str)))) (And.intro (And.intro (@st1_Str) (And.intro (@cl_Str) (@st_c))) (And.intro (@sz_c) (And.intro (@st1_c) (@cl_c))))) (And.intro (And.intro (And.intro (@st_attr) (And.intro (@sz_attr) (@st1_attr))) (And.intro (@cl_attr) (And.intro (@st_hook) (@sz_hook)))) (And.intro (And.intro (@st1_hook) (And.intro (@cl_hook) (@st_node))) (And.intro (@sz_node) (And.intro (@st1_node) (@cl_node)))))
theorem zlDomI1 : type_of% (And.intro (And.intro (And.intro (And.intro (@lt_vi) (@lt_str)) (And.intro (@lt_vb) (And.intro (@ltc_str) (@ltc_vi)))) (And.intro (And.intro (@lt_run) (And.intro (@lt1_run) (@ltc_run))) (And.intro (@lt_Str) (And.intro (@lt1_Str) (@ltc_Str))))) (And.intro (And.intro (And.intro (@lt_c) (And.intro (@lt1_c) (@ltc_c))) (And.intro (@lt_attr) (And.intro (@lt1_attr) (@ltc_attr)))) (And.intro (And.intro (@lt_hook) (And.intro (@lt1_hook) (@ltc_hook))) (And.intro (@lt_node) (And.intro (@lt1_node) (@ltc_node)))))) := And.intro (And.intro (And.intro (And.intro (@lt_vi) (@lt_str)) (And.intro (@lt_vb) (And.intro (@ltc_str) (@ltc_vi)))) (And.intro (And.intro (@lt_run) (And.intro (@lt1_run) (@ltc_run))) (And.intro (@lt_Str) (And.intro (@lt1_Str) (@ltc_Str))))) (And.intro (And.intro (And.intro (@lt_c) (And.intro (@lt1_c) (@ltc_c))) (And.intro (@lt_attr) (And.intro (@lt1_attr) (@ltc_attr)))) (And.intro (And.intro (@lt_hook) (And.intro (@lt1_hook) (@ltc_hook))) (And.intro (@lt_node) (And.intro (@lt1_node) (@ltc_node)))))
theorem insEnd (H : List Ob) (o ver o2 : Nat) (l : List Int) (x : Int) (ho : H[o]? = some (.vec ver 1 (l.map vi))) (ho2 : H[o2]? = some (.vec 1 1 [vi x])) (hne : o ≠ o2) (hl : l.length ≤ 1000000000) : SCall Try.prog 131 [.vec o ver 0 l.length, .int .i64 l.length, .vec o2 1 0 1] H (fun r H' => r = .vec o (ver + 1) 0 (l.length + 1) ∧ H' = H.set o (.vec (ver + 1) 1 ((l ++ [x]).map vi))) := by
  have lo : o < H.length := (List.getElem?_eq_some_iff.1 ho).1
  have hK := fun K => show (H ++ K)[o]? = some (.vec ver 1 (l.map vi)) by rw [List.getElem?_append_left lo]; exact ho
  have hK2 := fun K => show (H ++ K)[o2]? = some (.vec 1 1 [vi x]) by rw [List.getElem?_append_left (List.getElem?_eq_some_iff.1 ho2).1]; exact ho2
  refine SCall.of_good fun hH => ?_
  have hHk := HLt.add hH
  refine SCall.of_code Tok Try.func131 rfl Try.call131 (n := 95) rfl (by simp) (rs := [.tmp 6]) rfl ?_
  refine EWn.to ?_
  refine EWn.of_c Tok mixed (own := false) keep131 tab131 (by kernel_rfl) ?_
  (repeat (first | simp -dsimp only [zrDomI1, xnils, xnilm, xrange, xmakeMap, xslice3, ho, hK, ho2, hK2, RB, TB, keep131, tab131, xindexAddr, xindex, xslice, xconvert, xlen, ewOp, FreeW, StabW, SameW, ChangeW, AddW, BaseW, limBytes, simprocAttr, ne_eq] | ((with_reducible refine Need.intro ?_ ?_); (omega))))
  skip
  first | (refine Need.intro ⟨by first | trivial | (simp [vi, V.storable]), by first | rfl | (simp [vi, V.cells]), by omega⟩ ?_) | trace_state
  (repeat simp -dsimp only [zrDomI1, xnils, xnilm, xrange, xmakeMap, xslice3, ho, hK, ho2, hK2, RB, TB, keep131, tab131, xindexAddr, xindex, xslice, xconvert, xlen, ewOp, FreeW, StabW, SameW, ChangeW, AddW, BaseW, limBytes, simprocAttr, ne_eq])
  refine RetW.cutK false (H.set o (.vec (ver + 1) 1 ((l ++ [x]).map vi))) [] (by simp) (by simp) ?_ ?_ ?_
  · rw [List.length_set]
    exact HLt_set hH (lt_vi _ _)
  · simp [okW, okW1, okW0, V.lt, lo]
    intro h; omega
  · simp only [List.length_set, wk, wk1, wk0]
    rw [if_neg (by omega)]
    exact ⟨rfl, trivial⟩
theorem insAny (H : List Ob) (o ver o2 i : Nat) (l : List Int) (x : Int) (ho : H[o]? = some (.vec ver 1 (l.map vi))) (ho2 : H[o2]? = some (.vec 1 1 [vi x])) (hne : o ≠ o2) (hi : i ≤ l.length) (hl : l.length ≤ 1000000000) :
    SCall Try.prog 131 [.vec o ver 0 l.length, .int .i64 i, .vec o2 1 0 1] H (fun r H' => r = .vec o (ver + 1) 0 (l.length + 1) ∧ H' = H.set o (.vec (ver + 1) 1 ((l.take i ++ x :: l.drop i).map vi))) := by
  rcases Nat.lt_or_ge i l.length with h | h
  · exact insAt H o ver o2 i l x ho ho2 hne h hl
  · have e : i = l.length := Nat.le_antisymm hi h
    subst e
    rw [List.take_length, List.drop_length]
    exact insEnd H o ver o2 l x ho ho2 hne hl
/-- a parent with one more kid, at a place -/
def kidAt (p : Node) (i : Nat) (child : Int) : Node := { ownN p with kids := p.kids.take i ++ child :: p.kids.drop i }
def insAtN (ns : List Ent) (parent child : Int) (i : Nat) (p c : Node) : List Ent := nset (nset ns parent (setN p (kidAt p i child))) child (setN c (parN c parent))
set_option maxHeartbeats 2000000 in
theorem dInsertAt (G : List Ob) (A m : Nat) (a : Arena) (h : arenaAt G A m a) (hok : ∀ p ∈ a.nodes, okN p.2.2) (hN : a.nodes.length ≤ 1000000) (parent child : Int) (i : Nat) (p c : Node) (hp : nget a.nodes parent = some p) (hc : nget a.nodes child = some c)
    (hpk : p.kind ≠ 2) (hcp : c.parent < 0) (hc0 : child ≠ 0) (hpid : p.id = parent) (hcid : c.id = child) (hin : insideG a child (a.nodes.length + 1) parent [] = false) (hkl : p.kids.length ≤ 1000000) (hi : i ≤ p.kids.length) (hAm : A ≠ m) :
    SCall Try.prog 68 [.ref A 0, .int .i64 parent, .int .i64 i, .int .i64 child] G (fun r H' => r = .int .i64 0 ∧ H' = G.set m (.map (encM (insAtN a.nodes parent child i p c)) a.clock)) := by
  subst hpid hcid
  have hne : c.id ≠ p.id := fun e => by
    have := insideG_succ a c.id a.nodes.length p.id []
    rw [hin, hp, e] at this
    simp at this
  have e1 : (p.kind == 2) = false := by simpa using hpk
  have e2 : decide (c.parent ≥ 0) = false := decide_eq_false (by omega)
  have e3 : (c.id == 0) = false := by simpa using hc0
  have e4 : decide ((i : Int) < 0) = false := decide_eq_false (by omega)
  have e5 : decide ((i : Int) > p.kids.length) = false := decide_eq_false (by omega)
  have f1 : (ownN p).kind = p.kind := rfl
  have f2 : (ownN c).parent = c.parent := rfl
  have f3 : (ownN p).kids = p.kids := rfl
  have lA := (List.getElem?_eq_some_iff.1 h.1).1
  have lm := (List.getElem?_eq_some_iff.1 h.2.1).1
  refine SCall.of_good fun hH => ?_
  have hHk := HLt.add hH
  refine SCall.of_code Tok Try.func68 rfl Try.call68 (n := 74) rfl (by simp) (rs := [.tmp 8]) rfl ?_
  refine EWn.to ?_
  refine EWn.of_c Tok mixed (own := true) keep68 tab68 (by kernel_rfl) ?_
  (repeat simp -dsimp only [zrDomI1, xnils, xnilm, xrange, xmakeMap, xslice3, RB, TB, keep68, tab68, xindexAddr, xindex, xslice, xconvert, xlen, ewOp, FreeW, StabW, SameW, ChangeW, AddW, BaseW, limBytes, simprocAttr, ne_eq])
  refine SCall.mono (aGetV G A m a h hok p.id p hp).goodA ?_
  rintro _ G1 ⟨⟨o, L1, rfl, hG1e, hle, ho⟩, hG1⟩
  have hat : ∀ K, arenaAt (G1 ++ K) A m a := fun K => by rw [hG1e]; exact arena_app (arena_app h _) _
  have lo := (List.getElem?_eq_some_iff.1 ho).1
  have ho2 : ∀ K, (G1 ++ K)[o]? = some (.vec 1 1 (p.kids.map vi)) := fun K => get_appD (L := K) ho
  have hsO : ∀ (K : List Ob) (x : Ob), (G1 ++ K).set o x = G1.set o x ++ K := fun K x => List.set_append_left _ _ lo
  have hgO : ∀ (K : List Ob) (x : Ob), (G1.set o x ++ K)[o]? = some x := fun K x => by rw [List.getElem?_append_left (by simpa using lo), List.getElem?_set_self lo]
  (repeat simp -dsimp only [zrDomI1, xnils, xnilm, xrange, xmakeMap, xslice3, nodeK, RB, TB, keep68, tab68, xindexAddr, xindex, xslice, xconvert, xlen, ewOp, FreeW, StabW, SameW, ChangeW, AddW, BaseW, limBytes, simprocAttr, ne_eq])
  (refine SCall.then (aGetS _ A m a (hat _) hok c.id c hc) ?_)
  (repeat simp -dsimp only [zrDomI1, xnils, xnilm, xrange, xmakeMap, xslice3, nodeV, e1, e2, e3, e4, e5, f1, f2, f3, RB, TB, keep68, tab68, xindexAddr, xindex, xslice, xconvert, xlen, ewOp, FreeW, StabW, SameW, ChangeW, AddW, BaseW, limBytes, simprocAttr, ne_eq])
  (refine SCall.then (dInside _ A m a (hat _) hok hN p.id c.id) ?_)
  (repeat (first | simp -dsimp only [zrDomI1, xnils, xnilm, xrange, xmakeMap, xslice3, hin, e1, e2, e3, e4, e5, f1, f2, f3, ho2, RB, TB, keep68, tab68, xindexAddr, xindex, xslice, xconvert, xlen, ewOp, FreeW, StabW, SameW, ChangeW, AddW, BaseW, limBytes, simprocAttr, ne_eq] | ((with_reducible refine Need.intro ?_ ?_); (trivial))))
  (refine SCall.then (insAny _ o 1 (G1.length + 2) i p.kids c.id (ho2 _) (by rw [hget]; rfl) (by omega) hi (by omega)) ?_)
  (repeat simp -dsimp only [zrDomI1, xnils, xnilm, xrange, xmakeMap, xslice3, hsO, hgO, f3, RB, TB, keep68, tab68, xindexAddr, xindex, xslice, xconvert, xlen, ewOp, FreeW, StabW, SameW, ChangeW, AddW, BaseW, limBytes, simprocAttr, ne_eq])
  refine sgen fun G2 hG2 => ?_
  have hl1 : G.length ≤ G1.length := by rw [hG1e]; simp
  have hG2o : G2[o]? = some (.vec 2 1 ((p.kids.take i ++ c.id :: p.kids.drop i).map vi)) := by rw [hG2]; exact hgO _ _
  have hG2c : G2[G1.length + 1]? = some (.var (nodeV (ownN c)).cells) := by rw [hG2, List.getElem?_append_right (by simp)]; simp; rfl
  have hG2l : G2.length = G1.length + 3 := by rw [hG2]; simp
  have hG2p : ∀ j, j < G.length → G2[j]? = G[j]? := fun j hj => by
    rw [hG2, List.getElem?_append_left (by simp; omega), List.getElem?_set_ne (by omega), hG1e, List.getElem?_append_left hj]
  refine SCall.freezeA 1 (cs' := (nodeV (kidAt p i c.id)).cells) hG2o rfl ?_ ?_
  · refine ⟨.inl (.inl rfl), .inl (.inl rfl), .inl (.inl rfl), .inl (.inl rfl), .inl (.inl rfl), .inl (.inl rfl), .inl (.inl rfl), .inl (.inl rfl), .inl (.inl rfl), .inl (.inl rfl), .inr ⟨o, 2, _, 0, _, rfl, rfl, ?_, ?_⟩, .inl (.inl rfl), .inl (.inl rfl), trivial⟩
    · simp; omega
    · rw [List.drop_zero, List.take_of_length_le (by simp; omega)]; rfl
  refine sgen fun G3 hG3 => ?_
  have hG3l : G3.length = G1.length + 3 := by rw [hG3]; simpa using hG2l
  have hG3p : ∀ j, j < G.length → G3[j]? = G[j]? := fun j hj => by rw [hG3, List.getElem?_set_ne (by omega)]; exact hG2p j hj
  have hG3c : G3[G1.length + 1]? = some (.var (nodeV (ownN c)).cells) := by rw [hG3, List.getElem?_set_ne (by omega)]; exact hG2c
  have hat3 : arenaAt G3 A m a := by
    obtain ⟨L, hL⟩ := pre_app (by omega) hG3p
    rw [hL]; exact arena_app h _
  obtain ⟨q, hq, hqe⟩ := nget_mem hp
  obtain ⟨q2, hq2, hqe2⟩ := nget_mem hc
  have okp : okN p := hqe ▸ hok q hq
  have okc : okN c := hqe2 ▸ hok q2 hq2
  have okk : okN (kidAt p i c.id) := by
    obtain ⟨o1, o2, o3, o4, o5, o6⟩ := okN_own okp
    exact ⟨o1, o2, o3, o4, o5, by simp [kidAt]; omega⟩
  have okk2 : okN (parN c p.id) := by
    obtain ⟨o1, o2, o3, o4, o5, o6⟩ := okN_own okc
    exact ⟨o1, o2, o3, o4, o5, o6⟩
  refine SCall.mono (aSet G3 A m a hat3 (kidAt p i c.id) p hp okk) ?_
  rintro _ G4 ⟨rfl, hG4⟩
  have hid : (kidAt p i c.id).id = p.id := rfl
  rw [hid] at hG4
  have hG4l : G4.length = G1.length + 3 := by rw [hG4]; simpa using hG3l
  have hG4c : G4[G1.length + 1]? = some (.var (nodeV (ownN c)).cells) := by rw [hG4, List.getElem?_set_ne (by omega)]; exact hG3c
  have hG4x : ∀ X, (G4.set (G1.length + 1) X)[G1.length + 1]? = some X := fun X => List.getElem?_set_self (by omega)
  (repeat simp -dsimp only [zrDomI1, xnils, xnilm, xrange, xmakeMap, xslice3, hG4c, hG4x, nodeV, V.cells, RB, TB, keep68, tab68, xindexAddr, xindex, xslice, xconvert, xlen, ewOp, FreeW, StabW, SameW, ChangeW, AddW, BaseW, limBytes, simprocAttr, ne_eq])
  refine sgen fun G5 hG5 => ?_
  have hat5 : arenaAt G5 A m { a with nodes := nset a.nodes p.id (setN p (kidAt p i c.id)) } := by
    refine ⟨?_, ?_, h.2.2.1, h.2.2.2⟩
    · rw [hG5, List.getElem?_set_ne (by omega), hG4, List.getElem?_set_ne (Ne.symm hAm)]; exact hat3.1
    · rw [hG5, List.getElem?_set_ne (by omega), hG4, List.getElem?_set_self (by omega)]
  have hc2 : nget (nset a.nodes p.id (setN p (kidAt p i c.id))) c.id = some c := by rw [nget_nset, if_neg hne]; exact hc
  refine SCall.mono (aSet G5 A m _ hat5 (parN c p.id) c hc2 okk2).goodA ?_
  rintro _ G6 ⟨⟨rfl, hG6⟩, hG6h⟩
  (repeat simp -dsimp only [zrDomI1, xnils, xnilm, xrange, xmakeMap, xslice3, RB, TB, keep68, tab68, xindexAddr, xindex, xslice, xconvert, xlen, ewOp, FreeW, StabW, SameW, ChangeW, AddW, BaseW, limBytes, simprocAttr, ne_eq])
  have hG5l : G5.length = G1.length + 3 := by rw [hG5]; simpa using hG4l
  obtain ⟨L6, hL6⟩ : ∃ L6, G6 = G.set m (.map (encM (insAtN a.nodes p.id c.id i p c)) a.clock) ++ L6 := by
    refine pre_app (by rw [hG6]; simp; omega) fun j hj => ?_
    rw [List.length_set] at hj
    rw [hG6]
    by_cases e : j = m
    · rw [e, List.getElem?_set_self (by omega), List.getElem?_set_self lm]; rfl
    · rw [List.getElem?_set_ne (Ne.symm e), List.getElem?_set_ne (Ne.symm e), hG5, List.getElem?_set_ne (by omega), hG4, List.getElem?_set_ne (Ne.symm e)]
      exact hG3p j hj
  refine RetW.cutK false (G.set m (.map (encM (insAtN a.nodes p.id c.id i p c)) a.clock)) L6 hL6 (by simp) ?_ ?_ ?_
  · rw [List.length_set]
    exact HLt_set hH (lt_encM _ _)
  · simp [okW, okW1, okW0, V.lt]
  · simp [wk, wk1, wk0]
end Go.Proofs.Ytjplgbalpnlanaa

/- The walks of package arena: known, most, full, Next, Make of the owners 1 to 3; Make of any owner. -/
set_option maxHeartbeats 600000
set_option linter.unusedSimpArgs false
set_option linter.unusedVariables false
set_option maxRecDepth 100000
namespace Go.Proofs.Ytjplgbalpnlanaa
open Go Go.EL
theorem zrArena61 : type_of% (And.intro (And.intro (And.intro (And.intro (@st_run) (And.intro (@sz_run) (@st1_run))) (And.intro (@cl_run) (And.intro (@st_Str) (@sz_Str)))) (And.intro (And.intro (@st1_Str) (And.intro (@cl_Str) (@st_c))) (And.intro (@sz_c) (And.intro (@st1_c) (@cl_c))))) (And.intro (And.intro (And.intro (@st_attr) (And.intro (@sz_attr) (@st1_attr))) (And.intro (@cl_attr) (And.intro (@st_hook) (@sz_hook)))) (And.intro (And.intro (@st1_hook) (And.intro (@cl_hook) (@st_node))) (And.intro (@sz_node) (And.intro (@st1_node) (@cl_node)))))) := And.intro (And.intro (And.intro (And.intro (@st_run) (And.intro (@sz_run) (@st1_run))) (And.intro (@cl_run) (And.intro (@st_Str) (@sz_Str)))) (And.intro (And.intro (@st1_Str) (And.intro (@cl_Str) (@st_c))) (And.intro (@sz_c) (And.intro (@st1_c) (@cl_c))))) (And.intro (And.intro (And.intro (@st_attr) (And.intro (@sz_attr) (@st1_attr))) (And.intro (@cl_attr) (And.intro (@st_hook) (@sz_hook)))) (And.intro (And.intro (@st1_hook) (And.intro (@cl_hook) (@st_node))) (And.intro (@sz_node) (And.intro (@st1_node) (@cl_node)))))
theorem zlArena61 : type_of% (And.intro (And.intro (And.intro (And.intro (@lt_vi) (@lt_str)) (And.intro (@lt_vb) (And.intro (@ltc_str) (@ltc_vi)))) (And.intro (And.intro (@lt_run) (And.intro (@lt1_run) (@ltc_run))) (And.intro (@lt_Str) (And.intro (@lt1_Str) (@ltc_Str))))) (And.intro (And.intro (And.intro (@lt_c) (And.intro (@lt1_c) (@ltc_c))) (And.intro (@lt_attr) (And.intro (@lt1_attr) (@ltc_attr)))) (And.intro (And.intro (@lt_hook) (And.intro (@lt1_hook) (@ltc_hook))) (And.intro (@lt_node) (And.intro (@lt1_node) (@ltc_node)))))) := And.intro (And.intro (And.intro (And.intro (@lt_vi) (@lt_str)) (And.intro (@lt_vb) (And.intro (@ltc_str) (@ltc_vi)))) (And.intro (And.intro (@lt_run) (And.intro (@lt1_run) (@ltc_run))) (And.intro (@lt_Str) (And.intro (@lt1_Str) (@ltc_Str))))) (And.intro (And.intro (And.intro (@lt_c) (And.intro (@lt1_c) (@ltc_c))) (And.intro (@lt_attr) (And.intro (@lt1_attr) (@ltc_attr)))) (And.intro (And.intro (@lt_hook) (And.intro (@lt1_hook) (@ltc_hook))) (And.intro (@lt_node) (And.intro (@lt1_node) (@ltc_node)))))
def madeOV (k id kind : Int) (tag : Str) (key : List UInt8) (slot : Int) : V := .agg [.int .i64 id, .int .i64 k, .int .i64 (-1), .int .i64 kind, .str (fixS tag).text, .slice ((fixS tag).runs.map runV), .str key, .int .i64 slot, .fslice [], .fslice [], .fslice [], .str [], .fslice []]
def madeO (k id kind : Int) (tag : Str) (key : List UInt8) (slot : Int) : Node := ⟨id, k, -1, kind, fixS tag, key, slot, [], [], [], zeroS⟩
theorem aKnown1 (H : List Ob) : SCall Try.prog 106 [.int .i64 1] H (fun r H' => r = .bool true ∧ H' = H) := by
  refine SCall.of_good fun hH => ?_
  have hHk := HLt.add hH
  refine SCall.of_code Tok Try.func106 rfl Try.call106 (n := 9) rfl (by simp) (rs := [.tmp 2]) rfl ?_
  refine EWn.to ?_
  refine EWn.of_c Tok mixed (own := false) keep106 tab106 (by kernel_rfl) ?_
  (repeat simp -dsimp only [zrArena61, xnils, xnilm, xrange, xmakeMap, xslice3, RB, TB, keep106, tab106, xindexAddr, xindex, xslice, xconvert, xlen, ewOp, FreeW, StabW, SameW, ChangeW, AddW, BaseW, limBytes, simprocAttr, ne_eq])
  refine RetW.auto0 false _ (by first | rfl | exact (List.append_nil _).symm) ?_ ?_
  · (simp (maxDischargeDepth := 6) [LTB, HLt_set, ltL_take, ltL_drop, ltL_rep, ltL_set, upd, eset, hH, hHk, zlArena61] <;> omega)
  (try simp only [wk, wk1, wk0, RB, limBytes, simprocAttr, ne_eq])
  skip
theorem aMost1 (H : List Ob) : SCall Try.prog 160 [.int .i64 1] H (fun r H' => r = .int .i64 32 ∧ H' = H) := by
  refine SCall.of_good fun hH => ?_
  have hHk := HLt.add hH
  refine SCall.of_code Tok Try.func160 rfl Try.call160 (n := 5) rfl (by simp) (rs := [.tmp 2]) rfl ?_
  refine EWn.to ?_
  refine EWn.of_c Tok mixed (own := false) keep160 tab160 (by kernel_rfl) ?_
  (repeat simp -dsimp only [zrArena61, xnils, xnilm, xrange, xmakeMap, xslice3, RB, TB, keep160, tab160, xindexAddr, xindex, xslice, xconvert, xlen, ewOp, FreeW, StabW, SameW, ChangeW, AddW, BaseW, limBytes, simprocAttr, ne_eq])
  refine RetW.auto0 false _ (by first | rfl | exact (List.append_nil _).symm) ?_ ?_
  · (simp (maxDischargeDepth := 6) [LTB, HLt_set, ltL_take, ltL_drop, ltL_rep, ltL_set, upd, eset, hH, hHk, zlArena61] <;> omega)
  (try simp only [wk, wk1, wk0, RB, limBytes, simprocAttr, ne_eq])
  skip
theorem aFull1 (G : List Ob) (A m : Nat) (ns : List Ent) (ck : Nat) (u0 u1 u2 u3 l0 l1 l2 l3 : Int) (h : arenaAt G A m (arena8 ns ck u0 u1 u2 u3 l0 l1 l2 l3)) (hl : l1 < 32) (hu : u1 < 1048575) : SCall Try.prog 107 [.ref A 0, .int .i64 1] G (fun r H' => r = .bool false ∧ H' = G) := by
  have e1 : decide (l1 ≥ 32) = false := decide_eq_false (by omega)
  have e2 : decide (u1 ≥ 1048575) = false := decide_eq_false (by omega)
  obtain ⟨g1, g2⟩ := at8 h
  refine SCall.of_good fun hH => ?_
  have hHk := HLt.add hH
  refine SCall.of_code Tok Try.func107 rfl Try.call107 (n := 23) rfl (by simp) (rs := [.tmp 4]) rfl ?_
  refine EWn.to ?_
  refine EWn.of_c Tok mixed (own := false) keep107 tab107 (by kernel_rfl) ?_
  (repeat simp -dsimp only [zrArena61, xnils, xnilm, xrange, xmakeMap, xslice3, g1, RB, TB, keep107, tab107, xindexAddr, xindex, xslice, xconvert, xlen, ewOp, FreeW, StabW, SameW, ChangeW, AddW, BaseW, limBytes, simprocAttr, ne_eq])
  (refine CallE.intro _ (aMost1 _) ?_)
  (repeat simp -dsimp only [zrArena61, xnils, xnilm, xrange, xmakeMap, xslice3, e1, e2, g1, RB, TB, keep107, tab107, xindexAddr, xindex, xslice, xconvert, xlen, ewOp, FreeW, StabW, SameW, ChangeW, AddW, BaseW, limBytes, simprocAttr, ne_eq])
  refine RetW.auto0 false _ (by first | rfl | exact (List.append_nil _).symm) ?_ ?_
  · (simp (maxDischargeDepth := 6) [LTB, HLt_set, ltL_take, ltL_drop, ltL_rep, ltL_set, upd, eset, hH, hHk, zlArena61] <;> omega)
  (try simp only [wk, wk1, wk0, RB, limBytes, simprocAttr, ne_eq])
  skip
theorem aNext1 (G : List Ob) (A m : Nat) (ns : List Ent) (ck : Nat) (u0 u1 u2 u3 l0 l1 l2 l3 : Int) (h : arenaAt G A m (arena8 ns ck u0 u1 u2 u3 l0 l1 l2 l3)) (hl : l1 < 32) (hu : u1 < 1048575) (h0 : 0 ≤ u1) : SCall Try.prog 108 [.ref A 0, .int .i64 1] G (fun r H' => r = .int .i64 (1048576 + u1 + 1) ∧ H' = G) := by
  obtain ⟨g1, g2⟩ := at8 h
  have w0 : IntKind.i64.wrap 1048576 = 1048576 := rfl
  have w1 : IntKind.i64.wrap (1048576 + u1) = 1048576 + u1 := wrapI (by omega)
  have w2 : IntKind.i64.wrap (1048576 + u1 + 1) = 1048576 + u1 + 1 := wrapI (by omega)
  refine SCall.of_good fun hH => ?_
  have hHk := HLt.add hH
  refine SCall.of_code Tok Try.func108 rfl Try.call108 (n := 28) rfl (by simp) (rs := [.tmp 4]) rfl ?_
  refine EWn.to ?_
  refine EWn.of_c Tok mixed (own := false) keep108 tab108 (by kernel_rfl) ?_
  (repeat simp -dsimp only [zrArena61, xnils, xnilm, xrange, xmakeMap, xslice3, RB, TB, keep108, tab108, xindexAddr, xindex, xslice, xconvert, xlen, ewOp, FreeW, StabW, SameW, ChangeW, AddW, BaseW, limBytes, simprocAttr, ne_eq])
  (refine SCall.then (aIs _ A m _ h) ?_)
  (repeat simp -dsimp only [zrArena61, xnils, xnilm, xrange, xmakeMap, xslice3, RB, TB, keep108, tab108, xindexAddr, xindex, xslice, xconvert, xlen, ewOp, FreeW, StabW, SameW, ChangeW, AddW, BaseW, limBytes, simprocAttr, ne_eq])
  (refine SCall.then (aKnown1 _) ?_)
  (repeat simp -dsimp only [zrArena61, xnils, xnilm, xrange, xmakeMap, xslice3, RB, TB, keep108, tab108, xindexAddr, xindex, xslice, xconvert, xlen, ewOp, FreeW, StabW, SameW, ChangeW, AddW, BaseW, limBytes, simprocAttr, ne_eq])
  (refine SCall.then (aFull1 _ A m ns ck u0 u1 u2 u3 l0 l1 l2 l3 h hl hu) ?_)
  (repeat simp -dsimp only [zrArena61, xnils, xnilm, xrange, xmakeMap, xslice3, g1, w0, w1, w2, RB, TB, keep108, tab108, xindexAddr, xindex, xslice, xconvert, xlen, ewOp, FreeW, StabW, SameW, ChangeW, AddW, BaseW, limBytes, simprocAttr, ne_eq])
  refine RetW.auto0 false _ (by first | rfl | exact (List.append_nil _).symm) ?_ ?_
  · (simp (maxDischargeDepth := 6) [LTB, HLt_set, ltL_take, ltL_drop, ltL_rep, ltL_set, upd, eset, hH, hHk, zlArena61] <;> omega)
  (try simp only [wk, wk1, wk0, RB, limBytes, simprocAttr, ne_eq])
  skip
theorem aMake10 (G : List Ob) (A m : Nat) (ns : List Ent) (ck : Nat) (u0 u1 u2 u3 l0 l1 l2 l3 : Int) (h : arenaAt G A m (arena8 ns ck u0 u1 u2 u3 l0 l1 l2 l3)) (hl : l1 < 32) (hl0 : 0 ≤ l1) (hu : u1 < 1048575) (h0 : 0 ≤ u1)
    (kind : Int) (hk : 1 ≤ kind ∧ kind ≤ 3) (tag : Str) (htag : okS tag) (key : List UInt8) (slot : Int) (hnew : nget ns (1048576 + u1 + 1) = none) (hAm : A ≠ m) :
    SCall Try.prog 37 [.ref A 0, .int .i64 1, .int .i64 kind, strV tag, .str key, .int .i64 slot] G (fun r H' => r = .tuple [.int .i64 (1048576 + u1 + 1), .int .i64 0] ∧
      H' = (G.set A (.var [.mapr m, .int .i64 u0, .int .i64 (u1 + 1), .int .i64 u2, .int .i64 u3, .int .i64 l0, .int .i64 (l1 + 1), .int .i64 l2, .int .i64 l3])).set m (.map (encM ns ++ [((1048576 + u1 + 1), ck, madeOV 1 (1048576 + u1 + 1) kind tag key slot)]) (ck + 1))) := by
  obtain ⟨g1, g2⟩ := at8 h
  have e1 : decide (kind < 1) = false := decide_eq_false (by omega)
  have e2 : decide (kind > 3) = false := decide_eq_false (by omega)
  refine SCall.of_good fun hH => ?_
  have hHk := HLt.add hH
  refine SCall.of_code Tok Try.func37 rfl Try.call37 (n := 71) rfl (by simp) (rs := [.tmp 12, .tmp 13]) rfl ?_
  refine EWn.to ?_
  refine EWn.of_c Tok mixed (own := false) keep37 tab37 (by kernel_rfl) ?_
  (repeat simp -dsimp only [zrArena61, xnils, xnilm, xrange, xmakeMap, xslice3, strV, RB, TB, keep37, tab37, xindexAddr, xindex, xslice, xconvert, xlen, ewOp, FreeW, StabW, SameW, ChangeW, AddW, BaseW, limBytes, simprocAttr, ne_eq])
  (refine SCall.then (aIs _ A m _ (arena_app h _)) ?_)
  (repeat simp -dsimp only [zrArena61, xnils, xnilm, xrange, xmakeMap, xslice3, RB, TB, keep37, tab37, xindexAddr, xindex, xslice, xconvert, xlen, ewOp, FreeW, StabW, SameW, ChangeW, AddW, BaseW, limBytes, simprocAttr, ne_eq])
  (refine SCall.then (aKnown1 _) ?_)
  (repeat simp -dsimp only [zrArena61, xnils, xnilm, xrange, xmakeMap, xslice3, RB, TB, keep37, tab37, xindexAddr, xindex, xslice, xconvert, xlen, ewOp, FreeW, StabW, SameW, ChangeW, AddW, BaseW, limBytes, simprocAttr, ne_eq])
  (refine SCall.then (aFull1 _ A m ns ck u0 u1 u2 u3 l0 l1 l2 l3 (arena_app h _) hl hu) ?_)
  (repeat simp -dsimp only [zrArena61, xnils, xnilm, xrange, xmakeMap, xslice3, e1, e2, RB, TB, keep37, tab37, xindexAddr, xindex, xslice, xconvert, xlen, ewOp, FreeW, StabW, SameW, ChangeW, AddW, BaseW, limBytes, simprocAttr, ne_eq])
  have lA : A < G.length := (List.getElem?_eq_some_iff.1 g1).1
  have lm : m < G.length := (List.getElem?_eq_some_iff.1 g2).1
  have w2 : IntKind.i64.wrap (u1 + 1) = u1 + 1 := wrapI (by omega)
  have w3 : IntKind.i64.wrap (l1 + 1) = l1 + 1 := wrapI (by omega)
  have gA : ∀ L, (G ++ L)[A]? = some (.var [.mapr m, .int .i64 u0, .int .i64 u1, .int .i64 u2, .int .i64 u3, .int .i64 l0, .int .i64 l1, .int .i64 l2, .int .i64 l3]) := fun L => by rw [List.getElem?_append_left lA]; exact g1
  have hsA : ∀ (L : List Ob) (x : Ob), (G ++ L).set A x = G.set A x ++ L := fun L x => List.set_append_left _ _ lA
  have hgA : ∀ (x : Ob) (L : List Ob), (G.set A x ++ L)[A]? = some x := fun x L => by rw [List.getElem?_append_left (by simpa using lA), List.getElem?_set_self lA]
  have hss : ∀ (x y : Ob) (L : List Ob), (G.set A x ++ L).set A y = G.set A y ++ L := fun x y L => by rw [List.set_append_left _ _ (by simpa using lA), List.set_set]
  have hgm : ∀ (x : Ob) (L : List Ob), (G.set A x ++ L)[m]? = some (.map (encM ns) ck) := fun x L => by rw [List.getElem?_append_left (by simpa using lm), List.getElem?_set_ne hAm]; exact g2
  have hsm : ∀ (x y : Ob) (L : List Ob), (G.set A x ++ L).set m y = (G.set A x).set m y ++ L := fun x y L => List.set_append_left _ _ (by simpa using lm)
  (refine SCall.then (aNext1 _ A m ns ck u0 u1 u2 u3 l0 l1 l2 l3 (arena_app h _) hl hu h0) ?_)
  (repeat simp -dsimp only [zrArena61, xnils, xnilm, xrange, xmakeMap, xslice3, gA, hsA, hgA, hss, hgm, hsm, w2, w3, RB, TB, keep37, tab37, xindexAddr, xindex, xslice, xconvert, xlen, ewOp, FreeW, StabW, SameW, ChangeW, AddW, BaseW, limBytes, simprocAttr, ne_eq])
  have hg := mget_enc (1048576 + u1 + 1) ns
  rw [hnew, Option.map_none] at hg
  (refine CallE.intro _ (mFix _ tag htag) ?_)
  (repeat (first | simp -dsimp only [zrArena61, xnils, xnilm, xrange, xmakeMap, xslice3, strV, gA, hsA, hgA, hss, hgm, hsm, w2, w3, EL.mput, hg, Option.isSome_none, RB, TB, keep37, tab37, xindexAddr, xindex, xslice, xconvert, xlen, ewOp, FreeW, StabW, SameW, ChangeW, AddW, BaseW, limBytes, simprocAttr, ne_eq] | ((with_reducible refine Need.intro ?_ ?_); (trivial))))
  refine RetW.cutK false ((G.set A (.var [.mapr m, .int .i64 u0, .int .i64 (u1 + 1), .int .i64 u2, .int .i64 u3, .int .i64 l0, .int .i64 (l1 + 1), .int .i64 l2, .int .i64 l3])).set m (.map (encM ns ++ [((1048576 + u1 + 1), ck, madeOV 1 (1048576 + u1 + 1) kind tag key slot)]) (ck + 1))) _ rfl (by simp) ?_ ?_ ?_
  · have hn : ltL G.length ((encM ns ++ [((1048576 + u1 + 1), ck, madeOV 1 (1048576 + u1 + 1) kind tag key slot)]).map fun p : Int × Nat × V => p.2.2) := by
      rw [List.map_append, ltL_append]
      refine ⟨lt_encM _ _, ?_⟩
      simp only [List.map_cons, List.map_nil, madeOV, ltL, V.lt, and_true, true_and]
      exact lt_run _ _
    rw [List.length_set, List.length_set]
    refine HLt_set (HLt_set hH ?_) hn
    simp only [Ob.lt, ltL, V.lt, and_true]; exact lm
  · simp [okW, okW1, okW0, V.lt]
  · simp [wk, wk1, wk0]
theorem aMake1 (G : List Ob) (A m : Nat) (ns : List Ent) (ck : Nat) (u0 u1 u2 u3 l0 l1 l2 l3 : Int) (h : arenaAt G A m (arena8 ns ck u0 u1 u2 u3 l0 l1 l2 l3)) (hl : l1 < 32) (hl0 : 0 ≤ l1) (hu : u1 < 1048575) (h0 : 0 ≤ u1)
    (kind : Int) (hk : 1 ≤ kind ∧ kind ≤ 3) (tag : Str) (htag : okS tag) (key : List UInt8) (slot : Int) (hnew : nget ns (1048576 + u1 + 1) = none) (hAm : A ≠ m) :
    SCall Try.prog 37 [.ref A 0, .int .i64 1, .int .i64 kind, strV tag, .str key, .int .i64 slot] G (fun r H' => r = .tuple [.int .i64 (1048576 + u1 + 1), .int .i64 0] ∧
      H' = (G.set A (.var [.mapr m, .int .i64 u0, .int .i64 (u1 + 1), .int .i64 u2, .int .i64 u3, .int .i64 l0, .int .i64 (l1 + 1), .int .i64 l2, .int .i64 l3])).set m (.map (encM (ns ++ [((1048576 + u1 + 1), ck, madeO 1 (1048576 + u1 + 1) kind tag key slot)])) (ck + 1))) := by
  refine (aMake10 G A m ns ck u0 u1 u2 u3 l0 l1 l2 l3 h hl hl0 hu h0 kind hk tag htag key slot hnew hAm).gho ?_
  obtain ⟨g1, g2⟩ := at8 h
  have lm : m < G.length := (List.getElem?_eq_some_iff.1 g2).1
  have hcv : CvO none (Ob.map (encM ns ++ [((1048576 + u1 + 1), ck, madeOV 1 (1048576 + u1 + 1) kind tag key slot)]) (ck + 1)) (Ob.map (encM ns ++ [((1048576 + u1 + 1), ck, nodeV (madeO 1 (1048576 + u1 + 1) kind tag key slot))]) (ck + 1)) := by
    refine ⟨rfl, All2.app (All2.rfl' (fun _ => ⟨rfl, rfl, CvA.rfl' _⟩) _) ⟨⟨rfl, rfl, .inr ⟨_, _, rfl, rfl, ?_⟩⟩, trivial⟩⟩
    repeat (first | exact trivial | refine ⟨.inl (.inl rfl), ?_⟩ | refine ⟨.inl (.inr ⟨_, rfl, rfl⟩), ?_⟩)
  have hw := fun (env : Env) (X : List Ob) (hX : X[m]? = some (Ob.map (encM ns ++ [((1048576 + u1 + 1), ck, madeOV 1 (1048576 + u1 + 1) kind tag key slot)]) (ck + 1))) => Gho.weakOb (n0 := G.length) (env := env) m hX hcv
  have := hw [(0, .tuple [.int .i64 (1048576 + u1 + 1), .int .i64 0])] ((G.set A (.var [.mapr m, .int .i64 u0, .int .i64 (u1 + 1), .int .i64 u2, .int .i64 u3, .int .i64 l0, .int .i64 (l1 + 1), .int .i64 l2, .int .i64 l3])).set m (.map (encM ns ++ [((1048576 + u1 + 1), ck, madeOV 1 (1048576 + u1 + 1) kind tag key slot)]) (ck + 1))) (by rw [List.getElem?_set_self (by simpa using lm)])
  rw [List.set_set] at this
  rw [encM_app]
  exact this
theorem aKnown2 (H : List Ob) : SCall Try.prog 106 [.int .i64 2] H (fun r H' => r = .bool true ∧ H' = H) := by
  refine SCall.of_good fun hH => ?_
  have hHk := HLt.add hH
  refine SCall.of_code Tok Try.func106 rfl Try.call106 (n := 9) rfl (by simp) (rs := [.tmp 2]) rfl ?_
  refine EWn.to ?_
  refine EWn.of_c Tok mixed (own := false) keep106 tab106 (by kernel_rfl) ?_
  (repeat simp -dsimp only [zrArena61, xnils, xnilm, xrange, xmakeMap, xslice3, RB, TB, keep106, tab106, xindexAddr, xindex, xslice, xconvert, xlen, ewOp, FreeW, StabW, SameW, ChangeW, AddW, BaseW, limBytes, simprocAttr, ne_eq])
  refine RetW.auto0 false _ (by first | rfl | exact (List.append_nil _).symm) ?_ ?_
  · (simp (maxDischargeDepth := 6) [LTB, HLt_set, ltL_take, ltL_drop, ltL_rep, ltL_set, upd, eset, hH, hHk, zlArena61] <;> omega)
  (try simp only [wk, wk1, wk0, RB, limBytes, simprocAttr, ne_eq])
  skip
theorem aMost2 (H : List Ob) : SCall Try.prog 160 [.int .i64 2] H (fun r H' => r = .int .i64 32 ∧ H' = H) := by
  refine SCall.of_good fun hH => ?_
  have hHk := HLt.add hH
  refine SCall.of_code Tok Try.func160 rfl Try.call160 (n := 5) rfl (by simp) (rs := [.tmp 2]) rfl ?_
  refine EWn.to ?_
  refine EWn.of_c Tok mixed (own := false) keep160 tab160 (by kernel_rfl) ?_
  (repeat simp -dsimp only [zrArena61, xnils, xnilm, xrange, xmakeMap, xslice3, RB, TB, keep160, tab160, xindexAddr, xindex, xslice, xconvert, xlen, ewOp, FreeW, StabW, SameW, ChangeW, AddW, BaseW, limBytes, simprocAttr, ne_eq])
  refine RetW.auto0 false _ (by first | rfl | exact (List.append_nil _).symm) ?_ ?_
  · (simp (maxDischargeDepth := 6) [LTB, HLt_set, ltL_take, ltL_drop, ltL_rep, ltL_set, upd, eset, hH, hHk, zlArena61] <;> omega)
  (try simp only [wk, wk1, wk0, RB, limBytes, simprocAttr, ne_eq])
  skip
theorem aFull2 (G : List Ob) (A m : Nat) (ns : List Ent) (ck : Nat) (u0 u1 u2 u3 l0 l1 l2 l3 : Int) (h : arenaAt G A m (arena8 ns ck u0 u1 u2 u3 l0 l1 l2 l3)) (hl : l2 < 32) (hu : u2 < 1048575) : SCall Try.prog 107 [.ref A 0, .int .i64 2] G (fun r H' => r = .bool false ∧ H' = G) := by
  have e1 : decide (l2 ≥ 32) = false := decide_eq_false (by omega)
  have e2 : decide (u2 ≥ 1048575) = false := decide_eq_false (by omega)
  obtain ⟨g1, g2⟩ := at8 h
  refine SCall.of_good fun hH => ?_
  have hHk := HLt.add hH
  refine SCall.of_code Tok Try.func107 rfl Try.call107 (n := 23) rfl (by simp) (rs := [.tmp 4]) rfl ?_
  refine EWn.to ?_
  refine EWn.of_c Tok mixed (own := false) keep107 tab107 (by kernel_rfl) ?_
  (repeat simp -dsimp only [zrArena61, xnils, xnilm, xrange, xmakeMap, xslice3, g1, RB, TB, keep107, tab107, xindexAddr, xindex, xslice, xconvert, xlen, ewOp, FreeW, StabW, SameW, ChangeW, AddW, BaseW, limBytes, simprocAttr, ne_eq])
  (refine CallE.intro _ (aMost2 _) ?_)
  (repeat simp -dsimp only [zrArena61, xnils, xnilm, xrange, xmakeMap, xslice3, e1, e2, g1, RB, TB, keep107, tab107, xindexAddr, xindex, xslice, xconvert, xlen, ewOp, FreeW, StabW, SameW, ChangeW, AddW, BaseW, limBytes, simprocAttr, ne_eq])
  refine RetW.auto0 false _ (by first | rfl | exact (List.append_nil _).symm) ?_ ?_
  · (simp (maxDischargeDepth := 6) [LTB, HLt_set, ltL_take, ltL_drop, ltL_rep, ltL_set, upd, eset, hH, hHk, zlArena61] <;> omega)
  (try simp only [wk, wk1, wk0, RB, limBytes, simprocAttr, ne_eq])
  skip
theorem aNext2 (G : List Ob) (A m : Nat) (ns : List Ent) (ck : Nat) (u0 u1 u2 u3 l0 l1 l2 l3 : Int) (h : arenaAt G A m (arena8 ns ck u0 u1 u2 u3 l0 l1 l2 l3)) (hl : l2 < 32) (hu : u2 < 1048575) (h0 : 0 ≤ u2) : SCall Try.prog 108 [.ref A 0, .int .i64 2] G (fun r H' => r = .int .i64 (2097152 + u2 + 1) ∧ H' = G) := by
  obtain ⟨g1, g2⟩ := at8 h
  have w0 : IntKind.i64.wrap 2097152 = 2097152 := rfl
  have w1 : IntKind.i64.wrap (2097152 + u2) = 2097152 + u2 := wrapI (by omega)
  have w2 : IntKind.i64.wrap (2097152 + u2 + 1) = 2097152 + u2 + 1 := wrapI (by omega)
  refine SCall.of_good fun hH => ?_
  have hHk := HLt.add hH
  refine SCall.of_code Tok Try.func108 rfl Try.call108 (n := 28) rfl (by simp) (rs := [.tmp 4]) rfl ?_
  refine EWn.to ?_
  refine EWn.of_c Tok mixed (own := false) keep108 tab108 (by kernel_rfl) ?_
  (repeat simp -dsimp only [zrArena61, xnils, xnilm, xrange, xmakeMap, xslice3, RB, TB, keep108, tab108, xindexAddr, xindex, xslice, xconvert, xlen, ewOp, FreeW, StabW, SameW, ChangeW, AddW, BaseW, limBytes, simprocAttr, ne_eq])
  (refine SCall.then (aIs _ A m _ h) ?_)
  (repeat simp -dsimp only [zrArena61, xnils, xnilm, xrange, xmakeMap, xslice3, RB, TB, keep108, tab108, xindexAddr, xindex, xslice, xconvert, xlen, ewOp, FreeW, StabW, SameW, ChangeW, AddW, BaseW, limBytes, simprocAttr, ne_eq])
  (refine SCall.then (aKnown2 _) ?_)
  (repeat simp -dsimp only [zrArena61, xnils, xnilm, xrange, xmakeMap, xslice3, RB, TB, keep108, tab108, xindexAddr, xindex, xslice, xconvert, xlen, ewOp, FreeW, StabW, SameW, ChangeW, AddW, BaseW, limBytes, simprocAttr, ne_eq])
  (refine SCall.then (aFull2 _ A m ns ck u0 u1 u2 u3 l0 l1 l2 l3 h hl hu) ?_)
  (repeat simp -dsimp only [zrArena61, xnils, xnilm, xrange, xmakeMap, xslice3, g1, w0, w1, w2, RB, TB, keep108, tab108, xindexAddr, xindex, xslice, xconvert, xlen, ewOp, FreeW, StabW, SameW, ChangeW, AddW, BaseW, limBytes, simprocAttr, ne_eq])
  refine RetW.auto0 false _ (by first | rfl | exact (List.append_nil _).symm) ?_ ?_
  · (simp (maxDischargeDepth := 6) [LTB, HLt_set, ltL_take, ltL_drop, ltL_rep, ltL_set, upd, eset, hH, hHk, zlArena61] <;> omega)
  (try simp only [wk, wk1, wk0, RB, limBytes, simprocAttr, ne_eq])
  skip
theorem aMake20 (G : List Ob) (A m : Nat) (ns : List Ent) (ck : Nat) (u0 u1 u2 u3 l0 l1 l2 l3 : Int) (h : arenaAt G A m (arena8 ns ck u0 u1 u2 u3 l0 l1 l2 l3)) (hl : l2 < 32) (hl0 : 0 ≤ l2) (hu : u2 < 1048575) (h0 : 0 ≤ u2)
    (kind : Int) (hk : 1 ≤ kind ∧ kind ≤ 3) (tag : Str) (htag : okS tag) (key : List UInt8) (slot : Int) (hnew : nget ns (2097152 + u2 + 1) = none) (hAm : A ≠ m) :
    SCall Try.prog 37 [.ref A 0, .int .i64 2, .int .i64 kind, strV tag, .str key, .int .i64 slot] G (fun r H' => r = .tuple [.int .i64 (2097152 + u2 + 1), .int .i64 0] ∧
      H' = (G.set A (.var [.mapr m, .int .i64 u0, .int .i64 u1, .int .i64 (u2 + 1), .int .i64 u3, .int .i64 l0, .int .i64 l1, .int .i64 (l2 + 1), .int .i64 l3])).set m (.map (encM ns ++ [((2097152 + u2 + 1), ck, madeOV 2 (2097152 + u2 + 1) kind tag key slot)]) (ck + 1))) := by
  obtain ⟨g1, g2⟩ := at8 h
  have e1 : decide (kind < 1) = false := decide_eq_false (by omega)
  have e2 : decide (kind > 3) = false := decide_eq_false (by omega)
  refine SCall.of_good fun hH => ?_
  have hHk := HLt.add hH
  refine SCall.of_code Tok Try.func37 rfl Try.call37 (n := 71) rfl (by simp) (rs := [.tmp 12, .tmp 13]) rfl ?_
  refine EWn.to ?_
  refine EWn.of_c Tok mixed (own := false) keep37 tab37 (by kernel_rfl) ?_
  (repeat simp -dsimp only [zrArena61, xnils, xnilm, xrange, xmakeMap, xslice3, strV, RB, TB, keep37, tab37, xindexAddr, xindex, xslice, xconvert, xlen, ewOp, FreeW, StabW, SameW, ChangeW, AddW, BaseW, limBytes, simprocAttr, ne_eq])
  (refine SCall.then (aIs _ A m _ (arena_app h _)) ?_)
  (repeat simp -dsimp only [zrArena61, xnils, xnilm, xrange, xmakeMap, xslice3, RB, TB, keep37, tab37, xindexAddr, xindex, xslice, xconvert, xlen, ewOp, FreeW, StabW, SameW, ChangeW, AddW, BaseW, limBytes, simprocAttr, ne_eq])
  (refine SCall.then (aKnown2 _) ?_)
  (repeat simp -dsimp only [zrArena61, xnils, xnilm, xrange, xmakeMap, xslice3, RB, TB, keep37, tab37, xindexAddr, xindex, xslice, xconvert, xlen, ewOp, FreeW, StabW, SameW, ChangeW, AddW, BaseW, limBytes, simprocAttr, ne_eq])
  (refine SCall.then (aFull2 _ A m ns ck u0 u1 u2 u3 l0 l1 l2 l3 (arena_app h _) hl hu) ?_)
  (repeat simp -dsimp only [zrArena61, xnils, xnilm, xrange, xmakeMap, xslice3, e1, e2, RB, TB, keep37, tab37, xindexAddr, xindex, xslice, xconvert, xlen, ewOp, FreeW, StabW, SameW, ChangeW, AddW, BaseW, limBytes, simprocAttr, ne_eq])
  have lA : A < G.length := (List.getElem?_eq_some_iff.1 g1).1
  have lm : m < G.length := (List.getElem?_eq_some_iff.1 g2).1
  have w2 : IntKind.i64.wrap (u2 + 1) = u2 + 1 := wrapI (by omega)
  have w3 : IntKind.i64.wrap (l2 + 1) = l2 + 1 := wrapI (by omega)
  have gA : ∀ L, (G ++ L)[A]? = some (.var [.mapr m, .int .i64 u0, .int .i64 u1, .int .i64 u2, .int .i64 u3, .int .i64 l0, .int .i64 l1, .int .i64 l2, .int .i64 l3]) := fun L => by rw [List.getElem?_append_left lA]; exact g1
  have hsA : ∀ (L : List Ob) (x : Ob), (G ++ L).set A x = G.set A x ++ L := fun L x => List.set_append_left _ _ lA
  have hgA : ∀ (x : Ob) (L : List Ob), (G.set A x ++ L)[A]? = some x := fun x L => by rw [List.getElem?_append_left (by simpa using lA), List.getElem?_set_self lA]
  have hss : ∀ (x y : Ob) (L : List Ob), (G.set A x ++ L).set A y = G.set A y ++ L := fun x y L => by rw [List.set_append_left _ _ (by simpa using lA), List.set_set]
  have hgm : ∀ (x : Ob) (L : List Ob), (G.set A x ++ L)[m]? = some (.map (encM ns) ck) := fun x L => by rw [List.getElem?_append_left (by simpa using lm), List.getElem?_set_ne hAm]; exact g2
  have hsm : ∀ (x y : Ob) (L : List Ob), (G.set A x ++ L).set m y = (G.set A x).set m y ++ L := fun x y L => List.set_append_left _ _ (by simpa using lm)
  (refine SCall.then (aNext2 _ A m ns ck u0 u1 u2 u3 l0 l1 l2 l3 (arena_app h _) hl hu h0) ?_)
  (repeat simp -dsimp only [zrArena61, xnils, xnilm, xrange, xmakeMap, xslice3, gA, hsA, hgA, hss, hgm, hsm, w2, w3, RB, TB, keep37, tab37, xindexAddr, xindex, xslice, xconvert, xlen, ewOp, FreeW, StabW, SameW, ChangeW, AddW, BaseW, limBytes, simprocAttr, ne_eq])
  have hg := mget_enc (2097152 + u2 + 1) ns
  rw [hnew, Option.map_none] at hg
  (refine CallE.intro _ (mFix _ tag htag) ?_)
  (repeat (first | simp -dsimp only [zrArena61, xnils, xnilm, xrange, xmakeMap, xslice3, strV, gA, hsA, hgA, hss, hgm, hsm, w2, w3, EL.mput, hg, Option.isSome_none, RB, TB, keep37, tab37, xindexAddr, xindex, xslice, xconvert, xlen, ewOp, FreeW, StabW, SameW, ChangeW, AddW, BaseW, limBytes, simprocAttr, ne_eq] | ((with_reducible refine Need.intro ?_ ?_); (trivial))))
  refine RetW.cutK false ((G.set A (.var [.mapr m, .int .i64 u0, .int .i64 u1, .int .i64 (u2 + 1), .int .i64 u3, .int .i64 l0, .int .i64 l1, .int .i64 (l2 + 1), .int .i64 l3])).set m (.map (encM ns ++ [((2097152 + u2 + 1), ck, madeOV 2 (2097152 + u2 + 1) kind tag key slot)]) (ck + 1))) _ rfl (by simp) ?_ ?_ ?_
  · have hn : ltL G.length ((encM ns ++ [((2097152 + u2 + 1), ck, madeOV 2 (2097152 + u2 + 1) kind tag key slot)]).map fun p : Int × Nat × V => p.2.2) := by
      rw [List.map_append, ltL_append]
      refine ⟨lt_encM _ _, ?_⟩
      simp only [List.map_cons, List.map_nil, madeOV, ltL, V.lt, and_true, true_and]
      exact lt_run _ _
    rw [List.length_set, List.length_set]
    refine HLt_set (HLt_set hH ?_) hn
    simp only [Ob.lt, ltL, V.lt, and_true]; exact lm
  · simp [okW, okW1, okW0, V.lt]
  · simp [wk, wk1, wk0]
theorem aMake2 (G : List Ob) (A m : Nat) (ns : List Ent) (ck : Nat) (u0 u1 u2 u3 l0 l1 l2 l3 : Int) (h : arenaAt G A m (arena8 ns ck u0 u1 u2 u3 l0 l1 l2 l3)) (hl : l2 < 32) (hl0 : 0 ≤ l2) (hu : u2 < 1048575) (h0 : 0 ≤ u2)
    (kind : Int) (hk : 1 ≤ kind ∧ kind ≤ 3) (tag : Str) (htag : okS tag) (key : List UInt8) (slot : Int) (hnew : nget ns (2097152 + u2 + 1) = none) (hAm : A ≠ m) :
    SCall Try.prog 37 [.ref A 0, .int .i64 2, .int .i64 kind, strV tag, .str key, .int .i64 slot] G (fun r H' => r = .tuple [.int .i64 (2097152 + u2 + 1), .int .i64 0] ∧
      H' = (G.set A (.var [.mapr m, .int .i64 u0, .int .i64 u1, .int .i64 (u2 + 1), .int .i64 u3, .int .i64 l0, .int .i64 l1, .int .i64 (l2 + 1), .int .i64 l3])).set m (.map (encM (ns ++ [((2097152 + u2 + 1), ck, madeO 2 (2097152 + u2 + 1) kind tag key slot)])) (ck + 1))) := by
  refine (aMake20 G A m ns ck u0 u1 u2 u3 l0 l1 l2 l3 h hl hl0 hu h0 kind hk tag htag key slot hnew hAm).gho ?_
  obtain ⟨g1, g2⟩ := at8 h
  have lm : m < G.length := (List.getElem?_eq_some_iff.1 g2).1
  have hcv : CvO none (Ob.map (encM ns ++ [((2097152 + u2 + 1), ck, madeOV 2 (2097152 + u2 + 1) kind tag key slot)]) (ck + 1)) (Ob.map (encM ns ++ [((2097152 + u2 + 1), ck, nodeV (madeO 2 (2097152 + u2 + 1) kind tag key slot))]) (ck + 1)) := by
    refine ⟨rfl, All2.app (All2.rfl' (fun _ => ⟨rfl, rfl, CvA.rfl' _⟩) _) ⟨⟨rfl, rfl, .inr ⟨_, _, rfl, rfl, ?_⟩⟩, trivial⟩⟩
    repeat (first | exact trivial | refine ⟨.inl (.inl rfl), ?_⟩ | refine ⟨.inl (.inr ⟨_, rfl, rfl⟩), ?_⟩)
  have hw := fun (env : Env) (X : List Ob) (hX : X[m]? = some (Ob.map (encM ns ++ [((2097152 + u2 + 1), ck, madeOV 2 (2097152 + u2 + 1) kind tag key slot)]) (ck + 1))) => Gho.weakOb (n0 := G.length) (env := env) m hX hcv
  have := hw [(0, .tuple [.int .i64 (2097152 + u2 + 1), .int .i64 0])] ((G.set A (.var [.mapr m, .int .i64 u0, .int .i64 u1, .int .i64 (u2 + 1), .int .i64 u3, .int .i64 l0, .int .i64 l1, .int .i64 (l2 + 1), .int .i64 l3])).set m (.map (encM ns ++ [((2097152 + u2 + 1), ck, madeOV 2 (2097152 + u2 + 1) kind tag key slot)]) (ck + 1))) (by rw [List.getElem?_set_self (by simpa using lm)])
  rw [List.set_set] at this
  rw [encM_app]
  exact this
theorem aKnown3 (H : List Ob) : SCall Try.prog 106 [.int .i64 3] H (fun r H' => r = .bool true ∧ H' = H) := by
  refine SCall.of_good fun hH => ?_
  have hHk := HLt.add hH
  refine SCall.of_code Tok Try.func106 rfl Try.call106 (n := 9) rfl (by simp) (rs := [.tmp 2]) rfl ?_
  refine EWn.to ?_
  refine EWn.of_c Tok mixed (own := false) keep106 tab106 (by kernel_rfl) ?_
  (repeat simp -dsimp only [zrArena61, xnils, xnilm, xrange, xmakeMap, xslice3, RB, TB, keep106, tab106, xindexAddr, xindex, xslice, xconvert, xlen, ewOp, FreeW, StabW, SameW, ChangeW, AddW, BaseW, limBytes, simprocAttr, ne_eq])
  refine RetW.auto0 false _ (by first | rfl | exact (List.append_nil _).symm) ?_ ?_
  · (simp (maxDischargeDepth := 6) [LTB, HLt_set, ltL_take, ltL_drop, ltL_rep, ltL_set, upd, eset, hH, hHk, zlArena61] <;> omega)
  (try simp only [wk, wk1, wk0, RB, limBytes, simprocAttr, ne_eq])
  skip
theorem aMost3 (H : List Ob) : SCall Try.prog 160 [.int .i64 3] H (fun r H' => r = .int .i64 32 ∧ H' = H) := by
  refine SCall.of_good fun hH => ?_
  have hHk := HLt.add hH
  refine SCall.of_code Tok Try.func160 rfl Try.call160 (n := 5) rfl (by simp) (rs := [.tmp 2]) rfl ?_
  refine EWn.to ?_
  refine EWn.of_c Tok mixed (own := false) keep160 tab160 (by kernel_rfl) ?_
  (repeat simp -dsimp only [zrArena61, xnils, xnilm, xrange, xmakeMap, xslice3, RB, TB, keep160, tab160, xindexAddr, xindex, xslice, xconvert, xlen, ewOp, FreeW, StabW, SameW, ChangeW, AddW, BaseW, limBytes, simprocAttr, ne_eq])
  refine RetW.auto0 false _ (by first | rfl | exact (List.append_nil _).symm) ?_ ?_
  · (simp (maxDischargeDepth := 6) [LTB, HLt_set, ltL_take, ltL_drop, ltL_rep, ltL_set, upd, eset, hH, hHk, zlArena61] <;> omega)
  (try simp only [wk, wk1, wk0, RB, limBytes, simprocAttr, ne_eq])
  skip
theorem aFull3 (G : List Ob) (A m : Nat) (ns : List Ent) (ck : Nat) (u0 u1 u2 u3 l0 l1 l2 l3 : Int) (h : arenaAt G A m (arena8 ns ck u0 u1 u2 u3 l0 l1 l2 l3)) (hl : l3 < 32) (hu : u3 < 1048575) : SCall Try.prog 107 [.ref A 0, .int .i64 3] G (fun r H' => r = .bool false ∧ H' = G) := by
  have e1 : decide (l3 ≥ 32) = false := decide_eq_false (by omega)
  have e2 : decide (u3 ≥ 1048575) = false := decide_eq_false (by omega)
  obtain ⟨g1, g2⟩ := at8 h
  refine SCall.of_good fun hH => ?_
  have hHk := HLt.add hH
  refine SCall.of_code Tok Try.func107 rfl Try.call107 (n := 23) rfl (by simp) (rs := [.tmp 4]) rfl ?_
  refine EWn.to ?_
  refine EWn.of_c Tok mixed (own := false) keep107 tab107 (by kernel_rfl) ?_
  (repeat simp -dsimp only [zrArena61, xnils, xnilm, xrange, xmakeMap, xslice3, g1, RB, TB, keep107, tab107, xindexAddr, xindex, xslice, xconvert, xlen, ewOp, FreeW, StabW, SameW, ChangeW, AddW, BaseW, limBytes, simprocAttr, ne_eq])
  (refine CallE.intro _ (aMost3 _) ?_)
  (repeat simp -dsimp only [zrArena61, xnils, xnilm, xrange, xmakeMap, xslice3, e1, e2, g1, RB, TB, keep107, tab107, xindexAddr, xindex, xslice, xconvert, xlen, ewOp, FreeW, StabW, SameW, ChangeW, AddW, BaseW, limBytes, simprocAttr, ne_eq])
  refine RetW.auto0 false _ (by first | rfl | exact (List.append_nil _).symm) ?_ ?_
  · (simp (maxDischargeDepth := 6) [LTB, HLt_set, ltL_take, ltL_drop, ltL_rep, ltL_set, upd, eset, hH, hHk, zlArena61] <;> omega)
  (try simp only [wk, wk1, wk0, RB, limBytes, simprocAttr, ne_eq])
  skip
theorem aNext3 (G : List Ob) (A m : Nat) (ns : List Ent) (ck : Nat) (u0 u1 u2 u3 l0 l1 l2 l3 : Int) (h : arenaAt G A m (arena8 ns ck u0 u1 u2 u3 l0 l1 l2 l3)) (hl : l3 < 32) (hu : u3 < 1048575) (h0 : 0 ≤ u3) : SCall Try.prog 108 [.ref A 0, .int .i64 3] G (fun r H' => r = .int .i64 (3145728 + u3 + 1) ∧ H' = G) := by
  obtain ⟨g1, g2⟩ := at8 h
  have w0 : IntKind.i64.wrap 3145728 = 3145728 := rfl
  have w1 : IntKind.i64.wrap (3145728 + u3) = 3145728 + u3 := wrapI (by omega)
  have w2 : IntKind.i64.wrap (3145728 + u3 + 1) = 3145728 + u3 + 1 := wrapI (by omega)
  refine SCall.of_good fun hH => ?_
  have hHk := HLt.add hH
  refine SCall.of_code Tok Try.func108 rfl Try.call108 (n := 28) rfl (by simp) (rs := [.tmp 4]) rfl ?_
  refine EWn.to ?_
  refine EWn.of_c Tok mixed (own := false) keep108 tab108 (by kernel_rfl) ?_
  (repeat simp -dsimp only [zrArena61, xnils, xnilm, xrange, xmakeMap, xslice3, RB, TB, keep108, tab108, xindexAddr, xindex, xslice, xconvert, xlen, ewOp, FreeW, StabW, SameW, ChangeW, AddW, BaseW, limBytes, simprocAttr, ne_eq])
  (refine SCall.then (aIs _ A m _ h) ?_)
  (repeat simp -dsimp only [zrArena61, xnils, xnilm, xrange, xmakeMap, xslice3, RB, TB, keep108, tab108, xindexAddr, xindex, xslice, xconvert, xlen, ewOp, FreeW, StabW, SameW, ChangeW, AddW, BaseW, limBytes, simprocAttr, ne_eq])
  (refine SCall.then (aKnown3 _) ?_)
  (repeat simp -dsimp only [zrArena61, xnils, xnilm, xrange, xmakeMap, xslice3, RB, TB, keep108, tab108, xindexAddr, xindex, xslice, xconvert, xlen, ewOp, FreeW, StabW, SameW, ChangeW, AddW, BaseW, limBytes, simprocAttr, ne_eq])
  (refine SCall.then (aFull3 _ A m ns ck u0 u1 u2 u3 l0 l1 l2 l3 h hl hu) ?_)
  (repeat simp -dsimp only [zrArena61, xnils, xnilm, xrange, xmakeMap, xslice3, g1, w0, w1, w2, RB, TB, keep108, tab108, xindexAddr, xindex, xslice, xconvert, xlen, ewOp, FreeW, StabW, SameW, ChangeW, AddW, BaseW, limBytes, simprocAttr, ne_eq])
  refine RetW.auto0 false _ (by first | rfl | exact (List.append_nil _).symm) ?_ ?_
  · (simp (maxDischargeDepth := 6) [LTB, HLt_set, ltL_take, ltL_drop, ltL_rep, ltL_set, upd, eset, hH, hHk, zlArena61] <;> omega)
  (try simp only [wk, wk1, wk0, RB, limBytes, simprocAttr, ne_eq])
  skip
theorem aMake30 (G : List Ob) (A m : Nat) (ns : List Ent) (ck : Nat) (u0 u1 u2 u3 l0 l1 l2 l3 : Int) (h : arenaAt G A m (arena8 ns ck u0 u1 u2 u3 l0 l1 l2 l3)) (hl : l3 < 32) (hl0 : 0 ≤ l3) (hu : u3 < 1048575) (h0 : 0 ≤ u3)
    (kind : Int) (hk : 1 ≤ kind ∧ kind ≤ 3) (tag : Str) (htag : okS tag) (key : List UInt8) (slot : Int) (hnew : nget ns (3145728 + u3 + 1) = none) (hAm : A ≠ m) :
    SCall Try.prog 37 [.ref A 0, .int .i64 3, .int .i64 kind, strV tag, .str key, .int .i64 slot] G (fun r H' => r = .tuple [.int .i64 (3145728 + u3 + 1), .int .i64 0] ∧
      H' = (G.set A (.var [.mapr m, .int .i64 u0, .int .i64 u1, .int .i64 u2, .int .i64 (u3 + 1), .int .i64 l0, .int .i64 l1, .int .i64 l2, .int .i64 (l3 + 1)])).set m (.map (encM ns ++ [((3145728 + u3 + 1), ck, madeOV 3 (3145728 + u3 + 1) kind tag key slot)]) (ck + 1))) := by
  obtain ⟨g1, g2⟩ := at8 h
  have e1 : decide (kind < 1) = false := decide_eq_false (by omega)
  have e2 : decide (kind > 3) = false := decide_eq_false (by omega)
  refine SCall.of_good fun hH => ?_
  have hHk := HLt.add hH
  refine SCall.of_code Tok Try.func37 rfl Try.call37 (n := 71) rfl (by simp) (rs := [.tmp 12, .tmp 13]) rfl ?_
  refine EWn.to ?_
  refine EWn.of_c Tok mixed (own := false) keep37 tab37 (by kernel_rfl) ?_
  (repeat simp -dsimp only [zrArena61, xnils, xnilm, xrange, xmakeMap, xslice3, strV, RB, TB, keep37, tab37, xindexAddr, xindex, xslice, xconvert, xlen, ewOp, FreeW, StabW, SameW, ChangeW, AddW, BaseW, limBytes, simprocAttr, ne_eq])
  (refine SCall.then (aIs _ A m _ (arena_app h _)) ?_)
  (repeat simp -dsimp only [zrArena61, xnils, xnilm, xrange, xmakeMap, xslice3, RB, TB, keep37, tab37, xindexAddr, xindex, xslice, xconvert, xlen, ewOp, FreeW, StabW, SameW, ChangeW, AddW, BaseW, limBytes, simprocAttr, ne_eq])
  (refine SCall.then (aKnown3 _) ?_)
  (repeat simp -dsimp only [zrArena61, xnils, xnilm, xrange, xmakeMap, xslice3, RB, TB, keep37, tab37, xindexAddr, xindex, xslice, xconvert, xlen, ewOp, FreeW, StabW, SameW, ChangeW, AddW, BaseW, limBytes, simprocAttr, ne_eq])
  (refine SCall.then (aFull3 _ A m ns ck u0 u1 u2 u3 l0 l1 l2 l3 (arena_app h _) hl hu) ?_)
  (repeat simp -dsimp only [zrArena61, xnils, xnilm, xrange, xmakeMap, xslice3, e1, e2, RB, TB, keep37, tab37, xindexAddr, xindex, xslice, xconvert, xlen, ewOp, FreeW, StabW, SameW, ChangeW, AddW, BaseW, limBytes, simprocAttr, ne_eq])
  have lA : A < G.length := (List.getElem?_eq_some_iff.1 g1).1
  have lm : m < G.length := (List.getElem?_eq_some_iff.1 g2).1
  have w2 : IntKind.i64.wrap (u3 + 1) = u3 + 1 := wrapI (by omega)
  have w3 : IntKind.i64.wrap (l3 + 1) = l3 + 1 := wrapI (by omega)
  have gA : ∀ L, (G ++ L)[A]? = some (.var [.mapr m, .int .i64 u0, .int .i64 u1, .int .i64 u2, .int .i64 u3, .int .i64 l0, .int .i64 l1, .int .i64 l2, .int .i64 l3]) := fun L => by rw [List.getElem?_append_left lA]; exact g1
  have hsA : ∀ (L : List Ob) (x : Ob), (G ++ L).set A x = G.set A x ++ L := fun L x => List.set_append_left _ _ lA
  have hgA : ∀ (x : Ob) (L : List Ob), (G.set A x ++ L)[A]? = some x := fun x L => by rw [List.getElem?_append_left (by simpa using lA), List.getElem?_set_self lA]
  have hss : ∀ (x y : Ob) (L : List Ob), (G.set A x ++ L).set A y = G.set A y ++ L := fun x y L => by rw [List.set_append_left _ _ (by simpa using lA), List.set_set]
  have hgm : ∀ (x : Ob) (L : List Ob), (G.set A x ++ L)[m]? = some (.map (encM ns) ck) := fun x L => by rw [List.getElem?_append_left (by simpa using lm), List.getElem?_set_ne hAm]; exact g2
  have hsm : ∀ (x y : Ob) (L : List Ob), (G.set A x ++ L).set m y = (G.set A x).set m y ++ L := fun x y L => List.set_append_left _ _ (by simpa using lm)
  (refine SCall.then (aNext3 _ A m ns ck u0 u1 u2 u3 l0 l1 l2 l3 (arena_app h _) hl hu h0) ?_)
  (repeat simp -dsimp only [zrArena61, xnils, xnilm, xrange, xmakeMap, xslice3, gA, hsA, hgA, hss, hgm, hsm, w2, w3, RB, TB, keep37, tab37, xindexAddr, xindex, xslice, xconvert, xlen, ewOp, FreeW, StabW, SameW, ChangeW, AddW, BaseW, limBytes, simprocAttr, ne_eq])
  have hg := mget_enc (3145728 + u3 + 1) ns
  rw [hnew, Option.map_none] at hg
  (refine CallE.intro _ (mFix _ tag htag) ?_)
  (repeat (first | simp -dsimp only [zrArena61, xnils, xnilm, xrange, xmakeMap, xslice3, strV, gA, hsA, hgA, hss, hgm, hsm, w2, w3, EL.mput, hg, Option.isSome_none, RB, TB, keep37, tab37, xindexAddr, xindex, xslice, xconvert, xlen, ewOp, FreeW, StabW, SameW, ChangeW, AddW, BaseW, limBytes, simprocAttr, ne_eq] | ((with_reducible refine Need.intro ?_ ?_); (trivial))))
  refine RetW.cutK false ((G.set A (.var [.mapr m, .int .i64 u0, .int .i64 u1, .int .i64 u2, .int .i64 (u3 + 1), .int .i64 l0, .int .i64 l1, .int .i64 l2, .int .i64 (l3 + 1)])).set m (.map (encM ns ++ [((3145728 + u3 + 1), ck, madeOV 3 (3145728 + u3 + 1) kind tag key slot)]) (ck + 1))) _ rfl (by simp) ?_ ?_ ?_
  · have hn : ltL G.length ((encM ns ++ [((3145728 + u3 + 1), ck, madeOV 3 (3145728 + u3 + 1) kind tag key slot)]).map fun p : Int × Nat × V => p.2.2) := by
      rw [List.map_append, ltL_append]
      refine ⟨lt_encM _ _, ?_⟩
      simp only [List.map_cons, List.map_nil, madeOV, ltL, V.lt, and_true, true_and]
      exact lt_run _ _
    rw [List.length_set, List.length_set]
    refine HLt_set (HLt_set hH ?_) hn
    simp only [Ob.lt, ltL, V.lt, and_true]; exact lm
  · simp [okW, okW1, okW0, V.lt]
  · simp [wk, wk1, wk0]
theorem aMake3 (G : List Ob) (A m : Nat) (ns : List Ent) (ck : Nat) (u0 u1 u2 u3 l0 l1 l2 l3 : Int) (h : arenaAt G A m (arena8 ns ck u0 u1 u2 u3 l0 l1 l2 l3)) (hl : l3 < 32) (hl0 : 0 ≤ l3) (hu : u3 < 1048575) (h0 : 0 ≤ u3)
    (kind : Int) (hk : 1 ≤ kind ∧ kind ≤ 3) (tag : Str) (htag : okS tag) (key : List UInt8) (slot : Int) (hnew : nget ns (3145728 + u3 + 1) = none) (hAm : A ≠ m) :
    SCall Try.prog 37 [.ref A 0, .int .i64 3, .int .i64 kind, strV tag, .str key, .int .i64 slot] G (fun r H' => r = .tuple [.int .i64 (3145728 + u3 + 1), .int .i64 0] ∧
      H' = (G.set A (.var [.mapr m, .int .i64 u0, .int .i64 u1, .int .i64 u2, .int .i64 (u3 + 1), .int .i64 l0, .int .i64 l1, .int .i64 l2, .int .i64 (l3 + 1)])).set m (.map (encM (ns ++ [((3145728 + u3 + 1), ck, madeO 3 (3145728 + u3 + 1) kind tag key slot)])) (ck + 1))) := by
  refine (aMake30 G A m ns ck u0 u1 u2 u3 l0 l1 l2 l3 h hl hl0 hu h0 kind hk tag htag key slot hnew hAm).gho ?_
  obtain ⟨g1, g2⟩ := at8 h
  have lm : m < G.length := (List.getElem?_eq_some_iff.1 g2).1
  have hcv : CvO none (Ob.map (encM ns ++ [((3145728 + u3 + 1), ck, madeOV 3 (3145728 + u3 + 1) kind tag key slot)]) (ck + 1)) (Ob.map (encM ns ++ [((3145728 + u3 + 1), ck, nodeV (madeO 3 (3145728 + u3 + 1) kind tag key slot))]) (ck + 1)) := by
    refine ⟨rfl, All2.app (All2.rfl' (fun _ => ⟨rfl, rfl, CvA.rfl' _⟩) _) ⟨⟨rfl, rfl, .inr ⟨_, _, rfl, rfl, ?_⟩⟩, trivial⟩⟩
    repeat (first | exact trivial | refine ⟨.inl (.inl rfl), ?_⟩ | refine ⟨.inl (.inr ⟨_, rfl, rfl⟩), ?_⟩)
  have hw := fun (env : Env) (X : List Ob) (hX : X[m]? = some (Ob.map (encM ns ++ [((3145728 + u3 + 1), ck, madeOV 3 (3145728 + u3 + 1) kind tag key slot)]) (ck + 1))) => Gho.weakOb (n0 := G.length) (env := env) m hX hcv
  have := hw [(0, .tuple [.int .i64 (3145728 + u3 + 1), .int .i64 0])] ((G.set A (.var [.mapr m, .int .i64 u0, .int .i64 u1, .int .i64 u2, .int .i64 (u3 + 1), .int .i64 l0, .int .i64 l1, .int .i64 l2, .int .i64 (l3 + 1)])).set m (.map (encM ns ++ [((3145728 + u3 + 1), ck, madeOV 3 (3145728 + u3 + 1) kind tag key slot)]) (ck + 1))) (by rw [List.getElem?_set_self (by simpa using lm)])
  rw [List.set_set] at this
  rw [encM_app]
  exact this
def mostO (k : Nat) : Int := if k = 0 then 128 else 32
def addAt (l : List Int) (k : Nat) : List Int := l.set k (l.getD k 0 + 1)
def idO (a : Arena) (k : Nat) : Int := k * 1048576 + a.used.getD k 0 + 1
def makeA (a : Arena) (k : Nat) (kind : Int) (tag : Str) (key : List UInt8) (slot : Int) : Arena := ⟨a.nodes ++ [(idO a k, a.clock, madeO k (idO a k) kind tag key slot)], a.clock + 1, addAt a.used k, addAt a.live k⟩
theorem len4 {l : List Int} (h : l.length = 4) : ∃ a b c d, l = [a, b, c, d] := by
  match l, h with
  | [a, b, c, d], _ => exact ⟨a, b, c, d, rfl⟩
/-- MAKE, OF ANY OWNER -/
theorem aMake (G : List Ob) (A m : Nat) (a : Arena) (h : arenaAt G A m a) (k : Nat) (hk4 : k < 4) (hl : a.live.getD k 0 < mostO k) (hl0 : 0 ≤ a.live.getD k 0) (hu : a.used.getD k 0 < 1048575) (h0 : 0 ≤ a.used.getD k 0)
    (kind : Int) (hk : 1 ≤ kind ∧ kind ≤ 3) (tag : Str) (htag : okS tag) (key : List UInt8) (slot : Int) (hnew : nget a.nodes (idO a k) = none) (hAm : A ≠ m) :
    SCall Try.prog 37 [.ref A 0, .int .i64 k, .int .i64 kind, strV tag, .str key, .int .i64 slot] G (fun r H' => r = .tuple [.int .i64 (idO a k), .int .i64 0] ∧
      H' = (G.set A (.var (.mapr m :: ((makeA a k kind tag key slot).used.map vi ++ (makeA a k kind tag key slot).live.map vi)))).set m (.map (encM (makeA a k kind tag key slot).nodes) (makeA a k kind tag key slot).clock)) := by
  obtain ⟨ns, ck, us, ls⟩ := a
  obtain ⟨u0, u1, u2, u3, rfl⟩ := len4 (l := us) h.2.2.1
  obtain ⟨l0, l1, l2, l3, rfl⟩ := len4 (l := ls) h.2.2.2
  have hkc : k = 0 ∨ k = 1 ∨ k = 2 ∨ k = 3 := by omega
  rcases hkc with rfl | rfl | rfl | rfl
  · have e : idO ⟨ns, ck, [u0, u1, u2, u3], [l0, l1, l2, l3]⟩ 0 = u0 + 1 := by simp [idO]
    have hl' : l0 < 128 := hl
    have hl0' : 0 ≤ l0 := hl0
    have hu' : u0 < 1048575 := hu
    have h0' : 0 ≤ u0 := h0
    rw [e] at hnew
    have hm := aMake0 G A m ns ck u0 u1 u2 u3 l0 l1 l2 l3 h hl' hl0' hu' h0' kind hk tag htag key slot hnew hAm
    refine SCall.mono hm ?_
    rintro r H' ⟨rfl, rfl⟩
    refine ⟨by rw [e], ?_⟩
    simp only [makeA, e]
    first | rfl | (simp [addAt, madeO, madeN]; done) | (simp only [addAt, madeO, madeN]; rfl)
  · have e : idO ⟨ns, ck, [u0, u1, u2, u3], [l0, l1, l2, l3]⟩ 1 = 1048576 + u1 + 1 := by simp [idO]
    have hl' : l1 < 32 := hl
    have hl0' : 0 ≤ l1 := hl0
    have hu' : u1 < 1048575 := hu
    have h0' : 0 ≤ u1 := h0
    rw [e] at hnew
    have hm := aMake1 G A m ns ck u0 u1 u2 u3 l0 l1 l2 l3 h hl' hl0' hu' h0' kind hk tag htag key slot hnew hAm
    refine SCall.mono hm ?_
    rintro r H' ⟨rfl, rfl⟩
    refine ⟨by rw [e], ?_⟩
    simp only [makeA, e]
    first | rfl | (simp [addAt, madeO, madeN]; done) | (simp only [addAt, madeO, madeN]; rfl)
  · have e : idO ⟨ns, ck, [u0, u1, u2, u3], [l0, l1, l2, l3]⟩ 2 = 2097152 + u2 + 1 := by simp [idO]
    have hl' : l2 < 32 := hl
    have hl0' : 0 ≤ l2 := hl0
    have hu' : u2 < 1048575 := hu
    have h0' : 0 ≤ u2 := h0
    rw [e] at hnew
    have hm := aMake2 G A m ns ck u0 u1 u2 u3 l0 l1 l2 l3 h hl' hl0' hu' h0' kind hk tag htag key slot hnew hAm
    refine SCall.mono hm ?_
    rintro r H' ⟨rfl, rfl⟩
    refine ⟨by rw [e], ?_⟩
    simp only [makeA, e]
    first | rfl | (simp [addAt, madeO, madeN]; done) | (simp only [addAt, madeO, madeN]; rfl)
  · have e : idO ⟨ns, ck, [u0, u1, u2, u3], [l0, l1, l2, l3]⟩ 3 = 3145728 + u3 + 1 := by simp [idO]
    have hl' : l3 < 32 := hl
    have hl0' : 0 ≤ l3 := hl0
    have hu' : u3 < 1048575 := hu
    have h0' : 0 ≤ u3 := h0
    rw [e] at hnew
    have hm := aMake3 G A m ns ck u0 u1 u2 u3 l0 l1 l2 l3 h hl' hl0' hu' h0' kind hk tag htag key slot hnew hAm
    refine SCall.mono hm ?_
    rintro r H' ⟨rfl, rfl⟩
    refine ⟨by rw [e], ?_⟩
    simp only [makeA, e]
    first | rfl | (simp [addAt, madeO, madeN]; done) | (simp only [addAt, madeO, madeN]; rfl)
end Go.Proofs.Ytjplgbalpnlanaa

/- Laws of chapter 20: the example. -/
set_option maxHeartbeats 600000
set_option linter.unusedSimpArgs false
set_option linter.unusedVariables false
set_option maxRecDepth 100000
namespace Go.Proofs.Ytjplgbalpnlanaa
open Go Go.EL
theorem zrDom51 : type_of% (And.intro (And.intro (And.intro (And.intro (@st_run) (And.intro (@sz_run) (@st1_run))) (And.intro (@cl_run) (And.intro (@st_Str) (@sz_Str)))) (And.intro (And.intro (@st1_Str) (And.intro (@cl_Str) (@st_c))) (And.intro (@sz_c) (And.intro (@st1_c) (@cl_c))))) (And.intro (And.intro (And.intro (@st_attr) (And.intro (@sz_attr) (@st1_attr))) (And.intro (@cl_attr) (And.intro (@st_hook) (@sz_hook)))) (And.intro (And.intro (@st1_hook) (And.intro (@cl_hook) (@st_node))) (And.intro (@sz_node) (And.intro (@st1_node) (@cl_node)))))) := And.intro (And.intro (And.intro (And.intro (@st_run) (And.intro (@sz_run) (@st1_run))) (And.intro (@cl_run) (And.intro (@st_Str) (@sz_Str)))) (And.intro (And.intro (@st1_Str) (And.intro (@cl_Str) (@st_c))) (And.intro (@sz_c) (And.intro (@st1_c) (@cl_c))))) (And.intro (And.intro (And.intro (@st_attr) (And.intro (@sz_attr) (@st1_attr))) (And.intro (@cl_attr) (And.intro (@st_hook) (@sz_hook)))) (And.intro (And.intro (@st1_hook) (And.intro (@cl_hook) (@st_node))) (And.intro (@sz_node) (And.intro (@st1_node) (@cl_node)))))
theorem zlDom51 : type_of% (And.intro (And.intro (And.intro (And.intro (@lt_vi) (@lt_str)) (And.intro (@lt_vb) (And.intro (@ltc_str) (@ltc_vi)))) (And.intro (And.intro (@lt_run) (And.intro (@lt1_run) (@ltc_run))) (And.intro (@lt_Str) (And.intro (@lt1_Str) (@ltc_Str))))) (And.intro (And.intro (And.intro (@lt_c) (And.intro (@lt1_c) (@ltc_c))) (And.intro (@lt_attr) (And.intro (@lt1_attr) (@ltc_attr)))) (And.intro (And.intro (@lt_hook) (And.intro (@lt1_hook) (@ltc_hook))) (And.intro (@lt_node) (And.intro (@lt1_node) (@ltc_node)))))) := And.intro (And.intro (And.intro (And.intro (@lt_vi) (@lt_str)) (And.intro (@lt_vb) (And.intro (@ltc_str) (@ltc_vi)))) (And.intro (And.intro (@lt_run) (And.intro (@lt1_run) (@ltc_run))) (And.intro (@lt_Str) (And.intro (@lt1_Str) (@ltc_Str))))) (And.intro (And.intro (And.intro (@lt_c) (And.intro (@lt1_c) (@ltc_c))) (And.intro (@lt_attr) (And.intro (@lt1_attr) (@ltc_attr)))) (And.intro (And.intro (@lt_hook) (And.intro (@lt1_hook) (@ltc_hook))) (And.intro (@lt_node) (And.intro (@lt1_node) (@ltc_node)))))
theorem okN_set {x n : Node} (hx : okN x) (hn : okN n) : okN (setN x n) := ⟨hx.1, okS_fix hn.2.1, fun a ha => by
  obtain ⟨b, hb, rfl⟩ := List.mem_map.1 ha
  exact okA_own (hn.2.2.1 b hb), by simpa [setN] using hn.2.2.2.1, hn.2.2.2.2.1, hn.2.2.2.2.2⟩
theorem ok_nset {id : Int} {x : Node} (hx : okN x) : ∀ {ns : List Ent}, (∀ p ∈ ns, okN p.2.2) → ∀ p ∈ nset ns id x, okN p.2.2
  | [], h, p, hp => by simp [nset] at hp
  | q :: l, h, p, hp => by
    simp only [nset] at hp
    split at hp
    · rcases List.mem_cons.1 hp with rfl | hp
      · exact hx
      · exact h p (by simp [hp])
    · rcases List.mem_cons.1 hp with rfl | hp
      · exact h _ (by simp)
      · exact ok_nset hx (fun p hp => h p (by simp [hp])) p hp
theorem okN_kid {p : Node} (h : okN p) (hk : p.kids.length ≤ 1000000) (c : Int) : okN (kidN p c) := by
  obtain ⟨o1, o2, o3, o4, o5, o6⟩ := okN_own h
  exact ⟨o1, o2, o3, o4, o5, by simp [kidN]; omega⟩
theorem okN_par {p : Node} (h : okN p) (c : Int) : okN (parN p c) := by
  obtain ⟨o1, o2, o3, o4, o5, o6⟩ := okN_own h
  exact ⟨o1, o2, o3, o4, o5, o6⟩
theorem ok_ins {ns : List Ent} (h : ∀ p ∈ ns, okN p.2.2) {parent child : Int} {p c : Node} (hp : okN p) (hc : okN c) (hk : p.kids.length ≤ 1000000) : ∀ q ∈ insNodes ns parent child p c, okN q.2.2 :=
  ok_nset (okN_set hc (okN_par hc _)) (ok_nset (okN_set hp (okN_kid hp hk _)) h)
def tagP : Str := ⟨[112], rle [near 0]⟩
theorem okP : okS tagP := by unfold tagP; exact ⟨by simp, by have := rle_len [near 0]; simp at this ⊢; omega⟩
theorem okN_made {tag : Str} (h : okS tag) (id kind : Int) (key : List UInt8) (slot : Int) : okN (madeN id kind tag key slot) := ⟨okS_fix h, ⟨by simp [madeN, zeroS], by simp [madeN, zeroS]⟩, fun a ha => by simp [madeN] at ha, by simp [madeN], by simp [madeN], by simp [madeN]⟩
theorem okRoot : okN rootN := by
  refine ⟨⟨by simp [rootN], ?_⟩, ⟨by simp [rootN, zeroS], by simp [rootN, zeroS]⟩, fun a ha => by simp [rootN] at ha, by simp [rootN], by simp [rootN], by simp [rootN]⟩
  have := rle_len (List.replicate 3 (0 : Int)); simp only [rootN]; exact Nat.le_trans this (by simp)
/-- a new arena with one node more -/
def oneA (kind : Int) : Arena := arena8 [(0, 0, rootN), (1, 1, madeN 1 kind tagP [] 0)] 2 1 0 0 0 2 0 0 0
theorem ok_one (kind : Int) : ∀ p ∈ (oneA kind).nodes, okN p.2.2 := by
  intro p hp
  have hp : p ∈ [((0 : Int), (0 : Nat), rootN), (1, 1, madeN 1 kind tagP [] 0)] := hp
  simp only [List.mem_cons, List.not_mem_nil, or_false] at hp
  rcases hp with rfl | rfl
  · exact okRoot
  · exact okN_made okP _ _ _ _
theorem alive20 (H : List Ob) : SCall Try.prog 35 [] H (fun r H' => r = .bool true ∧ H' = H) := by
  have hA0 : arenaAt (H ++ [.map (encM newA.nodes) 1, .var (.mapr H.length :: (newA.used.map vi ++ newA.live.map vi))]) (H.length + 1) H.length newA := ⟨by simp, by simp; rfl, rfl, rfl⟩
  have ok0 : ∀ p ∈ newA.nodes, okN p.2.2 := fun p hp => by
    have hp : p ∈ [((0 : Int), (0 : Nat), rootN)] := hp
    simp only [List.mem_singleton] at hp
    rw [hp]; exact okRoot
  have hM : SCall Try.prog 37 [.ref (H.length + 1) 0, .int .i64 0, .int .i64 1, strV tagP, .str [], .int .i64 0] (H ++ [.map (encM newA.nodes) 1, .var (.mapr H.length :: (newA.used.map vi ++ newA.live.map vi))]) (fun r H' => r = .tuple [.int .i64 1, .int .i64 0] ∧ H' = H ++ [.map (encM (oneA 1).nodes) 2, .var [.mapr H.length, .int .i64 1, .int .i64 0, .int .i64 0, .int .i64 0, .int .i64 2, .int .i64 0, .int .i64 0, .int .i64 0]]) := SCall.mono (aMake0 (H ++ [.map (encM newA.nodes) 1, .var (.mapr H.length :: (newA.used.map vi ++ newA.live.map vi))]) (H.length + 1) H.length newA.nodes 1 0 0 0 0 1 0 0 0 hA0 (by omega) (by omega) (by omega) (by omega) 1 ⟨by omega, by omega⟩ tagP okP [] 0 rfl (by omega)) fun r H' h => ⟨h.1, by rw [h.2]; simp; rfl⟩
  have hA1 : arenaAt (H ++ [.map (encM (oneA 1).nodes) 2, .var [.mapr H.length, .int .i64 1, .int .i64 0, .int .i64 0, .int .i64 0, .int .i64 2, .int .i64 0, .int .i64 0, .int .i64 0]]) (H.length + 1) H.length (oneA 1) := ⟨by simp; rfl, by simp; rfl, rfl, rfl⟩
  have hI : SCall Try.prog 68 [.ref (H.length + 1) 0, .int .i64 0, .int .i64 0, .int .i64 1] (H ++ [.map (encM (oneA 1).nodes) 2, .var [.mapr H.length, .int .i64 1, .int .i64 0, .int .i64 0, .int .i64 0, .int .i64 2, .int .i64 0, .int .i64 0, .int .i64 0]]) (fun r H' => r = .int .i64 0 ∧ H' = H ++ [.map (encM (insNodes (oneA 1).nodes 0 1 rootN (madeN 1 1 tagP [] 0))) 2, .var [.mapr H.length, .int .i64 1, .int .i64 0, .int .i64 0, .int .i64 0, .int .i64 2, .int .i64 0, .int .i64 0, .int .i64 0]]) := SCall.mono (dInsert _ (H.length + 1) H.length (oneA 1) hA1 (ok_one 1) (by simp [oneA, arena8]) 0 1 rootN (madeN 1 1 tagP [] 0) rfl rfl (by simp [rootN]) (by simp [madeN]) (by omega) rfl rfl rfl (by simp [rootN]) (by omega)) fun r H' h => ⟨h.1, by rw [h.2]; simp; rfl⟩
  have hA2 : arenaAt (H ++ [.map (encM (insNodes (oneA 1).nodes 0 1 rootN (madeN 1 1 tagP [] 0))) 2, .var [.mapr H.length, .int .i64 1, .int .i64 0, .int .i64 0, .int .i64 0, .int .i64 2, .int .i64 0, .int .i64 0, .int .i64 0]]) (H.length + 1) H.length { oneA 1 with nodes := insNodes (oneA 1).nodes 0 1 rootN (madeN 1 1 tagP [] 0) } := ⟨by simp; rfl, by simp; rfl, rfl, rfl⟩
  have hN := dInside _ (H.length + 1) H.length { oneA 1 with nodes := insNodes (oneA 1).nodes 0 1 rootN (madeN 1 1 tagP [] 0) } hA2 (ok_ins (ok_one 1) okRoot (okN_made okP _ _ _ _) (by simp [rootN])) (by simp [insNodes, oneA, arena8, nset]) 1 0
  rw [show insideG { oneA 1 with nodes := insNodes (oneA 1).nodes 0 1 rootN (madeN 1 1 tagP [] 0) } 0 (({ oneA 1 with nodes := insNodes (oneA 1).nodes 0 1 rootN (madeN 1 1 tagP [] 0) } : Arena).nodes.length + 1) 1 [] = true from rfl] at hN
  refine SCall.of_good fun hH => ?_
  have hHk := HLt.add hH
  refine SCall.of_code Tok Try.func35 rfl Try.call35 (n := 31) rfl (by simp) (rs := [.tmp 0]) rfl ?_
  refine EWn.to ?_
  refine EWn.of_c Tok mixed (own := false) keep35 tab35 (by kernel_rfl) ?_
  (repeat simp -dsimp only [zrDom51, xnils, xnilm, xrange, xmakeMap, xslice3, RB, TB, keep35, tab35, xindexAddr, xindex, xslice, xconvert, xlen, ewOp, FreeW, StabW, SameW, ChangeW, AddW, BaseW, limBytes, simprocAttr, ne_eq])
  (refine SCall.then (aNew _) ?_)
  (repeat simp -dsimp only [zrDom51, xnils, xnilm, xrange, xmakeMap, xslice3, RB, TB, keep35, tab35, xindexAddr, xindex, xslice, xconvert, xlen, ewOp, FreeW, StabW, SameW, ChangeW, AddW, BaseW, limBytes, simprocAttr, ne_eq])
  (refine SCall.then (dRemove0 _ (H.length + 1) H.length newA hA0 ok0 rootN rfl) ?_)
  (repeat simp -dsimp only [zrDom51, xnils, xnilm, xrange, xmakeMap, xslice3, RB, TB, keep35, tab35, xindexAddr, xindex, xslice, xconvert, xlen, ewOp, FreeW, StabW, SameW, ChangeW, AddW, BaseW, limBytes, simprocAttr, ne_eq])
  (refine SCall.then (mOf _ _ _) ?_)
  (repeat simp -dsimp only [zrDom51, xnils, xnilm, xrange, xmakeMap, xslice3, strV, RB, TB, keep35, tab35, xindexAddr, xindex, xslice, xconvert, xlen, ewOp, FreeW, StabW, SameW, ChangeW, AddW, BaseW, limBytes, simprocAttr, ne_eq])
  refine SCall.then hM ?_
  (repeat simp -dsimp only [zrDom51, xnils, xnilm, xrange, xmakeMap, xslice3, RB, TB, keep35, tab35, xindexAddr, xindex, xslice, xconvert, xlen, ewOp, FreeW, StabW, SameW, ChangeW, AddW, BaseW, limBytes, simprocAttr, ne_eq])
  refine SCall.then hI ?_
  (repeat simp -dsimp only [zrDom51, xnils, xnilm, xrange, xmakeMap, xslice3, RB, TB, keep35, tab35, xindexAddr, xindex, xslice, xconvert, xlen, ewOp, FreeW, StabW, SameW, ChangeW, AddW, BaseW, limBytes, simprocAttr, ne_eq])
  refine SCall.then hN ?_
  (repeat simp -dsimp only [zrDom51, xnils, xnilm, xrange, xmakeMap, xslice3, RB, TB, keep35, tab35, xindexAddr, xindex, xslice, xconvert, xlen, ewOp, FreeW, StabW, SameW, ChangeW, AddW, BaseW, limBytes, simprocAttr, ne_eq])
  refine RetW.auto0 false _ (by first | rfl | exact (List.append_nil _).symm) ?_ ?_
  · (simp (maxDischargeDepth := 6) [LTB, HLt_set, ltL_take, ltL_drop, ltL_rep, ltL_set, upd, eset, hH, hHk, zlDom51] <;> omega)
  (try simp only [wk, wk1, wk0, RB, limBytes, simprocAttr, ne_eq])
  skip
end Go.Proofs.Ytjplgbalpnlanaa

/- Arenas that are built node by node: what stays so; no program in sight. -/
set_option maxHeartbeats 600000
set_option linter.unusedSimpArgs false
set_option linter.unusedVariables false
set_option maxRecDepth 100000
namespace Go.Proofs.Ytjplgbalpnlanaa
open Go Go.EL
theorem deep_mono {a : Arena} : ∀ {k : Nat} {x : Int}, deepG a k x → deepG a (k + 1) x
  | 0, x, h => h.elim
  | k + 1, x, h => fun n hn c hc => deep_mono (h n hn c hc)
theorem deep_le {a : Arena} {k j : Nat} {x : Int} (h : deepG a k x) (hj : k ≤ j) : deepG a j x := by
  obtain ⟨d, rfl⟩ := Nat.le.dest hj
  clear hj
  induction d with
  | zero => exact h
  | succ d ih => exact deep_mono ih
theorem flatMap_ext {α β : Type} {f g : α → List β} : ∀ {l : List α}, (∀ x ∈ l, f x = g x) → l.flatMap f = l.flatMap g
  | [], _ => rfl
  | x :: l, h => by rw [List.flatMap_cons, List.flatMap_cons, h x (by simp), flatMap_ext fun y hy => h y (by simp [hy])]
theorem ids_fuel {a : Arena} : ∀ {k : Nat} {x : Int}, deepG a k x → idsG a (k + 1) x = idsG a k x
  | 0, x, h => h.elim
  | k + 1, x, h => by
    cases hn : nget a.nodes x with
    | none => rw [idsG_none hn, idsG_none hn]
    | some n => rw [idsG_some hn, idsG_some hn, flatMap_ext fun c hc => ids_fuel (h n hn c hc)]
theorem ids_le {a : Arena} {k j : Nat} {x : Int} (h : deepG a k x) (hj : k ≤ j) : idsG a j x = idsG a k x := by
  obtain ⟨d, rfl⟩ := Nat.le.dest hj
  clear hj
  induction d with
  | zero => rfl
  | succ d ih => rw [← Nat.add_assoc, ids_fuel (deep_le h (Nat.le_add_right _ _)), ih]
def kidsAt (a : Arena) (x : Int) : Option (List Int) := (nget a.nodes x).map (·.kids)
theorem kids_some {a : Arena} {x : Int} {n : Node} (h : nget a.nodes x = some n) : kidsAt a x = some n.kids := by rw [kidsAt, h]; rfl
theorem kids_of {a : Arena} {x : Int} {l : List Int} (h : kidsAt a x = some l) : ∃ n, nget a.nodes x = some n ∧ n.kids = l := by
  unfold kidsAt at h
  obtain ⟨n, h1, h2⟩ := Option.map_eq_some_iff.1 h
  exact ⟨n, h1, h2⟩
theorem kids_none {a : Arena} {x : Int} (h : kidsAt a x = none) : nget a.nodes x = none := by
  unfold kidsAt at h
  exact Option.map_eq_none_iff.1 h
theorem ids_congr {a b : Arena} (h : ∀ x, kidsAt a x = kidsAt b x) : ∀ (k : Nat) (x : Int), idsG a k x = idsG b k x
  | 0, _ => rfl
  | k + 1, x => by
    have hx := h x
    cases hn : nget a.nodes x with
    | none =>
      rw [idsG_none hn, idsG_none (kids_none (by rw [← hx, kidsAt, hn]; rfl))]
    | some n =>
      obtain ⟨m, h1, h2⟩ := kids_of (a := b) (by rw [← hx, kids_some hn])
      rw [idsG_some hn, idsG_some h1, h2, flatMap_ext fun c _ => ids_congr h k c]
theorem deep_congr {a b : Arena} (h : ∀ x, kidsAt a x = kidsAt b x) : ∀ {k : Nat} {x : Int}, deepG a k x → deepG b k x
  | 0, _, hd => hd
  | k + 1, x, hd => fun n hn c hc => by
    obtain ⟨m, h1, h2⟩ := kids_of (a := a) (by rw [h x, kids_some hn])
    exact deep_congr h (hd m h1 c (by rw [h2]; exact hc))
/-- a child without kids comes into a node's kids -/
structure InsK (a b : Arena) (p c : Int) (u v : List Int) : Prop where
  ne : p ≠ c
  par : kidsAt a p = some (u ++ v)
  par' : kidsAt b p = some (u ++ c :: v)
  kid' : kidsAt b c = some []
  other : ∀ x, x ≠ p → x ≠ c → kidsAt b x = kidsAt a x
theorem InsK.deep {a b : Arena} {p c : Int} {u v : List Int} (h : InsK a b p c u v) : ∀ {k : Nat} {x : Int}, deepG a k x → deepG b (k + 1) x
  | 0, _, hd => hd.elim
  | k + 1, x, hd => fun n hn y hy => by
    have hk := kids_some hn
    by_cases e1 : x = c
    · subst e1
      rw [h.kid'] at hk
      injection hk with hk
      rw [← hk] at hy; cases hy
    by_cases e2 : x = p
    · subst e2
      rw [h.par'] at hk
      injection hk with hk
      rw [← hk] at hy
      obtain ⟨m, h1, h2⟩ := kids_of h.par
      by_cases e3 : y = c
      · subst e3
        intro m2 hm2 z hz
        have hk2 := kids_some hm2
        rw [h.kid'] at hk2
        injection hk2 with hk2
        rw [← hk2] at hz; cases hz
      · refine InsK.deep h (hd m h1 y ?_)
        rw [h2]
        simp only [List.mem_append, List.mem_cons] at hy ⊢
        rcases hy with hy | hy | hy
        · exact .inl hy
        · exact absurd hy e3
        · exact .inr hy
    · rw [h.other x e2 e1] at hk
      obtain ⟨m, h1, h2⟩ := kids_of hk
      exact InsK.deep h (hd m h1 y (by rw [h2]; exact hy))
theorem count_flat {f g : Int → List Int} {p c z : Int} : ∀ {l : List Int}, (∀ y ∈ l, (f y).count z = (g y).count z + if z = c then (g y).count p else 0) → (l.flatMap f).count z = (l.flatMap g).count z + if z = c then (l.flatMap g).count p else 0
  | [], _ => by simp
  | y :: l, h => by
    have h1 := h y (by simp)
    have h2 := count_flat (l := l) fun y hy => h y (by simp [hy])
    rw [List.flatMap_cons, List.flatMap_cons, List.count_append, List.count_append, List.count_append, h1, h2]
    by_cases e : z = c
    · simp only [if_pos e]; omega
    · simp only [if_neg e]; omega
theorem InsK.count {a b : Arena} {p c : Int} {u v : List Int} (h : InsK a b p c u v) (hc : ∀ x l, kidsAt a x = some l → c ∉ l) (z : Int) : ∀ {k : Nat} {x : Int}, deepG b k x → x ≠ c → (idsG b k x).count z = (idsG a k x).count z + if z = c then (idsG a k x).count p else 0
  | 0, _, hd, _ => hd.elim
  | k + 1, x, hd, hx => by
    by_cases e2 : x = p
    · subst e2
      obtain ⟨m, h1, h2⟩ := kids_of h.par
      obtain ⟨m', h1', h2'⟩ := kids_of h.par'
      obtain ⟨q, g1, g2⟩ := kids_of h.kid'
      have hdc : deepG b k c := hd m' h1' c (by rw [h2']; simp)
      have hcc : idsG b k c = [c] := by
        cases k with
        | zero => exact hdc.elim
        | succ k => rw [idsG_some g1, g2]; rfl
      have hne : ∀ y ∈ u ++ v, y ≠ c := fun y hy e => hc x _ h.par (e ▸ hy)
      have hk : ∀ y ∈ u ++ v, (idsG b k y).count z = (idsG a k y).count z + if z = c then (idsG a k y).count x else 0 := fun y hy => by
        refine InsK.count h hc z (hd m' h1' y ?_) (hne y hy)
        rw [h2']
        simp only [List.mem_append, List.mem_cons] at hy ⊢
        rcases hy with hy | hy
        · exact .inl hy
        · exact .inr (.inr hy)
      have hu := count_flat (l := u) fun y hy => hk y (by simp [hy])
      have hv := count_flat (l := v) fun y hy => hk y (by simp [hy])
      rw [idsG_some h1, idsG_some h1', h2, h2', List.flatMap_append, List.flatMap_append, List.flatMap_cons, hcc]
      simp only [List.count_cons, List.count_append, List.count_nil, beq_iff_eq, List.cons_append, List.nil_append, hu, hv]
      by_cases e : z = c
      · subst e
        have : (x == z) = false := by simpa using h.ne
        simp only [if_true, if_neg h.ne, if_true]
        omega
      · simp only [if_neg e, if_neg (fun e' : c = z => e e'.symm)]
        omega
    · have ho := h.other x e2 hx
      cases hn : nget a.nodes x with
      | none =>
        rw [idsG_none hn, idsG_none (kids_none (by rw [ho, kidsAt, hn]; rfl))]
        simp
      | some n =>
        obtain ⟨m, h1, h2⟩ := kids_of (a := b) (by rw [ho, kids_some hn])
        have hk : ∀ y ∈ n.kids, (idsG b k y).count z = (idsG a k y).count z + if z = c then (idsG a k y).count p else 0 := fun y hy =>
          InsK.count h hc z (hd m h1 y (by rw [h2]; exact hy)) (fun e => hc x _ (kids_some hn) (e ▸ hy))
        have hf := count_flat hk
        rw [idsG_some hn, idsG_some h1, h2]
        simp only [List.count_cons, hf, beq_iff_eq, if_neg e2]
        by_cases e : z = c
        · simp only [if_pos e]; omega
        · simp only [if_neg e]; omega
/-- an arena after i nodes were made, and j of them put somewhere: the tree's ids -/
structure Grown (B i j : Nat) (a : Arena) (ids : List Int) : Prop where
  keyed : Keyed a.nodes
  ok : ∀ p ∈ a.nodes, okN p.2.2 ∧ p.2.2.hooks.length ≤ B
  len : a.nodes.length ≤ i + 1
  ul : a.used.length = 4
  ll : a.live.length = 4
  used : ∀ k, k < 4 → 0 ≤ a.used.getD k 0 ∧ a.used.getD k 0 ≤ i
  live : ∀ k, k < 4 → 0 ≤ a.live.getD k 0 ∧ a.live.getD k 0 ≤ i + 1
  key : ∀ x, (nget a.nodes x).isSome = true → x = 0 ∨ ∃ k : Nat, k < 4 ∧ (k : Int) * 1048576 < x ∧ x ≤ k * 1048576 + a.used.getD k 0
  kids : ∀ x n, nget a.nodes x = some n → (∀ c ∈ n.kids, c ∈ ids) ∧ n.kids.length ≤ j ∧ (n.parent = -1 ∨ n.parent ∈ ids)
  deep : ∀ x, deepG a (j + 1) x
  cnt : ∀ z, (idsG a (j + 1) 0).count z = ids.count z
  nodup : ids.Nodup
  mem : ∀ x ∈ ids, (nget a.nodes x).isSome = true
  root : 0 ∈ ids
  idl : ids.length ≤ j + 1
  nd : (a.nodes.map (·.1)).Nodup
  own : ∀ p ∈ a.nodes, 0 ≤ p.2.2.owner ∧ p.2.2.owner < 4
theorem nset_keys (x : Int) (m : Node) : ∀ l : List Ent, (nset l x m).map (·.1) = l.map (·.1)
  | [] => rfl
  | p :: l => by
    simp only [nset]
    split
    · rfl
    · rw [List.map_cons, List.map_cons, nset_keys x m l]
theorem nget_none_key {x : Int} : ∀ {l : List Ent}, nget l x = none → x ∉ l.map (·.1)
  | [], _, h => by cases h
  | p :: l, hn, h => by
    simp only [nget] at hn
    split at hn
    · cases hn
    · rename_i e
      rw [List.map_cons] at h
      rcases List.mem_cons.1 h with h | h
      · exact e h
      · exact nget_none_key hn h
theorem nget_of_mem : ∀ {l : List Ent} {p : Ent}, (l.map (·.1)).Nodup → p ∈ l → nget l p.1 = some p.2.2
  | [], _, _, h => by cases h
  | q :: l, p, hn, h => by
    simp only [List.map_cons, List.nodup_cons] at hn
    simp only [nget]
    rcases List.mem_cons.1 h with rfl | h
    · rw [if_pos rfl]
    · rw [if_neg (fun e => hn.1 (by rw [← e]; exact List.mem_map.2 ⟨p, h, rfl⟩))]
      exact nget_of_mem hn.2 h
theorem Grown.new (B : Nat) : Grown B 0 0 newA [0] where
  keyed := fun p hp => by
    have hp : p ∈ [((0 : Int), (0 : Nat), rootN)] := hp
    simp only [List.mem_singleton] at hp
    subst hp; rfl
  ok := fun p hp => by
    have hp : p ∈ [((0 : Int), (0 : Nat), rootN)] := hp
    simp only [List.mem_singleton] at hp
    subst hp; exact ⟨okRoot, by simp [rootN]⟩
  len := by simp [newA]
  ul := rfl
  ll := rfl
  used := fun k hk => by
    have : k = 0 ∨ k = 1 ∨ k = 2 ∨ k = 3 := by omega
    rcases this with rfl | rfl | rfl | rfl <;> simp [newA]
  live := fun k hk => by
    have : k = 0 ∨ k = 1 ∨ k = 2 ∨ k = 3 := by omega
    rcases this with rfl | rfl | rfl | rfl <;> simp [newA]
  key := fun x hx => by
    by_cases e : x = 0
    · exact .inl e
    · simp [newA, nget, e] at hx
  kids := fun x n hn => by
    by_cases e : x = 0
    · subst e
      have : n = rootN := by simp [newA, nget] at hn; exact hn.symm
      subst this
      exact ⟨fun c hc => (by cases hc), Nat.le_refl _, .inl rfl⟩
    · simp [newA, nget, e] at hn
  deep := fun x n hn c hc => by
    by_cases e : x = 0
    · subst e
      have : n = rootN := by simp [newA, nget] at hn; exact hn.symm
      subst this
      cases hc
    · simp [newA, nget, e] at hn
  cnt := fun z => rfl
  nodup := by simp
  mem := fun x hx => by simp at hx; subst hx; rfl
  root := by simp
  idl := by simp
  nd := by simp [newA]
  own := fun p hp => by
    have hp : p ∈ [((0 : Int), (0 : Nat), rootN)] := hp
    simp only [List.mem_singleton] at hp
    subst hp; simp [rootN]
theorem nget_app (l : List Ent) (q : Ent) (x : Int) : nget (l ++ [q]) x = match nget l x with | some n => some n | none => if x = q.1 then some q.2.2 else none := by
  induction l with
  | nil => simp [nget]
  | cons p l ih =>
    simp only [List.cons_append, nget]
    by_cases e : x = p.1
    · simp [e]
    · simp only [if_neg e, ih]
theorem getD_add {l : List Int} {k j : Nat} (hl : l.length = 4) (hk : k < 4) (hj : j < 4) : (addAt l k).getD j 0 = if j = k then l.getD k 0 + 1 else l.getD j 0 := by
  unfold addAt
  rw [List.getD_eq_getElem?_getD, List.getElem?_set]
  by_cases e : j = k
  · subst e
    rw [if_pos rfl, if_pos (by omega), if_pos rfl]
    rfl
  · rw [if_neg (fun e' => e e'.symm), if_neg e, List.getD_eq_getElem?_getD]
section
variable {B i j : Nat} {a : Arena} {ids : List Int}
theorem Grown.fresh (g : Grown B i j a ids) {k : Nat} (hk : k < 4) (hi : i ≤ 1000) : nget a.nodes (idO a k) = none ∧ idO a k ∉ ids ∧ idO a k ≠ 0 ∧ 0 < idO a k := by
  have hu := g.used k hk
  have h0 : nget a.nodes (idO a k) = none := by
    cases hn : nget a.nodes (idO a k) with
    | none => rfl
    | some n =>
      exfalso
      rcases g.key _ (by rw [hn]; rfl) with e | ⟨q, hq, h1, h2⟩
      · unfold idO at e; omega
      · have hu2 := g.used q hq
        unfold idO at h1 h2
        by_cases e : q = k
        · subst e; omega
        · have : q < k ∨ k < q := by omega
          omega
  refine ⟨h0, fun h => ?_, ?_, ?_⟩
  · have := g.mem _ h
    rw [h0] at this; cases this
  · unfold idO; omega
  · unfold idO; omega
theorem Grown.none_neg (g : Grown B i j a ids) {x : Int} (hx : x < 0) : nget a.nodes x = none := by
  cases hn : nget a.nodes x with
  | none => rfl
  | some n =>
    rcases g.key _ (by rw [hn]; rfl) with e | ⟨q, hq, h1, h2⟩
    · omega
    · omega
theorem okN_madeO {tag : Str} (h : okS tag) (k id kind : Int) (key : List UInt8) (slot : Int) : okN (madeO k id kind tag key slot) := ⟨okS_fix h, ⟨by simp [madeO, zeroS], by simp [madeO, zeroS]⟩, fun a ha => by simp [madeO] at ha, by simp [madeO], by simp [madeO], by simp [madeO]⟩
theorem Grown.made (g : Grown B i j a ids) {k : Nat} (hk : k < 4) (hi : i ≤ 1000) {tag : Str} (ht : okS tag) (kind : Int) (key : List UInt8) (slot : Int) :
    Grown B (i + 1) j (makeA a k kind tag key slot) ids ∧ nget (makeA a k kind tag key slot).nodes (idO a k) = some (madeO k (idO a k) kind tag key slot) := by
  obtain ⟨h0, h1, h2, h3⟩ := g.fresh hk hi
  have hget : ∀ x, nget (makeA a k kind tag key slot).nodes x = if x = idO a k then some (madeO k (idO a k) kind tag key slot) else nget a.nodes x := fun x => by
    show nget (a.nodes ++ [(idO a k, a.clock, madeO k (idO a k) kind tag key slot)]) x = _
    rw [nget_app]
    by_cases e : x = idO a k
    · rw [if_pos e, e, h0]; simp
    · rw [if_neg e]
      cases nget a.nodes x with
      | none => simp [e]
      | some n => simp [e]
  have hme : nget (makeA a k kind tag key slot).nodes (idO a k) = some (madeO k (idO a k) kind tag key slot) := by rw [hget, if_pos rfl]
  have hkid : ∀ x ∈ ids, kidsAt (makeA a k kind tag key slot) x = kidsAt a x := fun x hx => by
    unfold kidsAt
    rw [hget, if_neg (fun e : x = idO a k => h1 (e ▸ hx))]
  refine ⟨⟨?_, ?_, ?_, ?_, ?_, ?_, ?_, ?_, ?_, ?_, ?_, g.nodup, ?_, g.root, g.idl, ?_, ?_⟩, hme⟩
  · intro p hp
    have hp : p ∈ a.nodes ++ [(idO a k, a.clock, madeO k (idO a k) kind tag key slot)] := hp
    rcases List.mem_append.1 hp with hp | hp
    · exact g.keyed p hp
    · rw [List.mem_singleton.1 hp]; rfl
  · intro p hp
    have hp : p ∈ a.nodes ++ [(idO a k, a.clock, madeO k (idO a k) kind tag key slot)] := hp
    rcases List.mem_append.1 hp with hp | hp
    · exact g.ok p hp
    · rw [List.mem_singleton.1 hp]; exact ⟨okN_madeO ht _ _ _ _ _, by simp [madeO]⟩
  · show (a.nodes ++ [_]).length ≤ _
    rw [List.length_append, List.length_singleton]
    have := g.len
    omega
  · show (addAt a.used k).length = 4
    rw [addAt, List.length_set]; exact g.ul
  · show (addAt a.live k).length = 4
    rw [addAt, List.length_set]; exact g.ll
  · intro q hq
    show 0 ≤ (addAt a.used k).getD q 0 ∧ (addAt a.used k).getD q 0 ≤ _
    have hu := g.used k hk
    have hu2 := g.used q hq
    rw [getD_add g.ul hk hq]
    split <;> omega
  · intro q hq
    show 0 ≤ (addAt a.live k).getD q 0 ∧ (addAt a.live k).getD q 0 ≤ _
    have hu := g.live k hk
    have hu2 := g.live q hq
    rw [getD_add g.ll hk hq]
    split <;> omega
  · intro x hx
    rw [hget] at hx
    by_cases e : x = idO a k
    · right
      refine ⟨k, hk, ?_, ?_⟩
      · have := g.used k hk
        rw [e]; unfold idO; omega
      · show x ≤ _ + (addAt a.used k).getD k 0
        rw [getD_add g.ul hk hk, if_pos rfl, e]
        unfold idO; omega
    · rw [if_neg e] at hx
      rcases g.key x hx with h | ⟨q, hq, g1, g2⟩
      · exact .inl h
      · refine .inr ⟨q, hq, g1, ?_⟩
        show x ≤ _ + (addAt a.used k).getD q 0
        rw [getD_add g.ul hk hq]
        split
        · rename_i e; subst e; omega
        · omega
  · intro x n hn
    rw [hget] at hn
    by_cases e : x = idO a k
    · rw [if_pos e] at hn
      injection hn with hn
      subst hn
      exact ⟨fun c hc => (by cases hc), Nat.zero_le _, .inl rfl⟩
    · rw [if_neg e] at hn
      exact g.kids x n hn
  · have key : ∀ (q : Nat) (x : Int), deepG a (q + 1) x → deepG (makeA a k kind tag key slot) (q + 1) x := by
      intro q
      induction q with
      | zero =>
        intro x hd n hn c hc
        rw [hget] at hn
        by_cases e : x = idO a k
        · rw [if_pos e] at hn
          injection hn with hn
          subst hn
          cases hc
        · rw [if_neg e] at hn
          exact hd n hn c hc
      | succ q ih =>
        intro x hd n hn c hc
        rw [hget] at hn
        by_cases e : x = idO a k
        · rw [if_pos e] at hn
          injection hn with hn
          subst hn
          cases hc
        · rw [if_neg e] at hn
          exact ih c (hd n hn c hc)
    exact fun x => key j x (g.deep x)
  · intro z
    have key : ∀ (q : Nat) (x : Int), x ∈ ids → idsG (makeA a k kind tag key slot) q x = idsG a q x := by
      intro q
      induction q with
      | zero => intro x _; rfl
      | succ q ih =>
        intro x hx
        have hh := hget x
        rw [if_neg (fun e : x = idO a k => h1 (e ▸ hx))] at hh
        cases hn : nget a.nodes x with
        | none => rw [idsG_none hn, idsG_none (by rw [hh, hn])]
        | some n =>
          rw [idsG_some hn, idsG_some (by rw [hh, hn])]
          rw [flatMap_ext fun c hc => ih c ((g.kids x n hn).1 c hc)]
    rw [key _ 0 g.root]
    exact g.cnt z
  · intro x hx
    rw [hget]
    split
    · rfl
    · exact g.mem x hx
  · show ((a.nodes ++ [(idO a k, a.clock, madeO k (idO a k) kind tag key slot)]).map (·.1)).Nodup
    rw [List.map_append, List.nodup_append]
    refine ⟨g.nd, by simp, ?_⟩
    intro x hx y hy
    simp at hy
    subst hy
    exact fun e => nget_none_key h0 (e ▸ hx)
  · intro p hp
    have hp : p ∈ a.nodes ++ [(idO a k, a.clock, madeO k (idO a k) kind tag key slot)] := hp
    rcases List.mem_append.1 hp with hp | hp
    · exact g.own p hp
    · rw [List.mem_singleton.1 hp]; simp only [madeO]; omega
/-- a node's values change, not its place -/
theorem Grown.set (g : Grown B i j a ids) {x : Int} {n m : Node} (hn : nget a.nodes x = some n) (hk : m.kids = n.kids) (hp : m.parent = n.parent) (hid : m.id = n.id) (how : m.owner = n.owner) (hok : okN m) (hh : m.hooks.length ≤ B) :
    Grown B i j { a with nodes := nset a.nodes x m } ids ∧ nget (nset a.nodes x m) x = some m := by
  have hget : ∀ y, nget (nset a.nodes x m) y = if y = x then some m else nget a.nodes y := fun y => by
    rw [nget_nset]
    by_cases e : y = x
    · rw [if_pos e, if_pos e, hn]; rfl
    · rw [if_neg e, if_neg e]
  have hkid : ∀ y, kidsAt a y = kidsAt { a with nodes := nset a.nodes x m } y := fun y => by
    show (nget a.nodes y).map _ = (nget (nset a.nodes x m) y).map _
    rw [hget]
    by_cases e : y = x
    · rw [if_pos e, e, hn]; simp [hk]
    · rw [if_neg e]
  have hsome : ∀ y, (nget (nset a.nodes x m) y).isSome = (nget a.nodes y).isSome := fun y => by
    rw [hget]
    by_cases e : y = x
    · rw [if_pos e, e, hn]; rfl
    · rw [if_neg e]
  have hmem : ∀ {l : List Ent} {p : Ent}, p ∈ nset l x m → (p ∈ l) ∨ (p.1 = x ∧ p.2.2 = m) := by
    intro l
    induction l with
    | nil => intro p hp; simp [nset] at hp
    | cons q l ih =>
      intro p hp
      simp only [nset] at hp
      by_cases e : x = q.1
      · rw [if_pos e] at hp
        rcases List.mem_cons.1 hp with rfl | hp
        · exact .inr ⟨e.symm, rfl⟩
        · exact .inl (by simp [hp])
      · rw [if_neg e] at hp
        rcases List.mem_cons.1 hp with rfl | hp
        · exact .inl (by simp)
        · rcases ih hp with h | h
          · exact .inl (by simp [h])
          · exact .inr h
  have hlen : ∀ l : List Ent, (nset l x m).length = l.length := by
    intro l
    induction l with
    | nil => rfl
    | cons q l ih => simp only [nset]; split <;> simp [ih]
  have hx : n.id = x := nget_key g.keyed hn
  refine ⟨⟨?_, ?_, ?_, g.ul, g.ll, g.used, g.live, ?_, ?_, ?_, ?_, g.nodup, ?_, g.root, g.idl, ?_, ?_⟩, by rw [hget, if_pos rfl]⟩
  · intro p hp
    rcases hmem hp with h | ⟨h1, h2⟩
    · exact g.keyed p h
    · rw [h2, hid, hx, h1]
  · intro p hp
    rcases hmem hp with h | ⟨h1, h2⟩
    · exact g.ok p h
    · rw [h2]; exact ⟨hok, hh⟩
  · show (nset a.nodes x m).length ≤ _
    rw [hlen]; exact g.len
  · intro y hy
    have hy : (nget (nset a.nodes x m) y).isSome = true := hy
    rw [hsome] at hy
    exact g.key y hy
  · intro y q hq
    have hq : nget (nset a.nodes x m) y = some q := hq
    rw [hget] at hq
    by_cases e : y = x
    · rw [if_pos e] at hq
      injection hq with hq
      subst hq
      rw [hk, hp]
      exact g.kids x n hn
    · rw [if_neg e] at hq
      exact g.kids y q hq
  · exact fun y => deep_congr hkid (g.deep y)
  · intro z
    rw [← ids_congr hkid]
    exact g.cnt z
  · intro y hy
    show (nget (nset a.nodes x m) y).isSome = true
    rw [hsome]; exact g.mem y hy
  · show ((nset a.nodes x m).map (·.1)).Nodup
    rw [nset_keys]; exact g.nd
  · intro p hp
    rcases hmem hp with h | ⟨h1, h2⟩
    · exact g.own p h
    · obtain ⟨t, ht, hte⟩ := nget_mem hn
      rw [h2, how, ← hte]; exact g.own t ht
theorem Grown.inside (g : Grown B i j a ids) {c : Int} (hc : c ∉ ids) : ∀ (k : Nat) (x : Int) (met : List Int), (x = -1 ∨ x ∈ ids) → insideG a c k x met = false
  | 0, _, _, _ => rfl
  | k + 1, x, met, hx => by
    rw [insideG_succ]
    cases hn : nget a.nodes x with
    | none => rfl
    | some n =>
      have hid : n.id = x := nget_key g.keyed hn
      simp only
      have hx' : x ∈ ids := by
        rcases hx with e | e
        · rw [g.none_neg (by omega)] at hn; cases hn
        · exact e
      split
      · rfl
      · rw [if_neg (fun e => hc (by rw [← e, hid]; exact hx'))]
        exact Grown.inside g hc k n.parent _ (g.kids x n hn).2.2
theorem okN_kidAt {p : Node} (h : okN p) (i : Nat) (hk : p.kids.length ≤ 1000000) (c : Int) : okN (kidAt p i c) := by
  obtain ⟨o1, o2, o3, o4, o5, o6⟩ := okN_own h
  refine ⟨o1, o2, o3, o4, o5, ?_⟩
  simp only [kidAt, List.length_append, List.length_take, List.length_cons, List.length_drop]
  omega
/-- a new node is put into another one -/
theorem Grown.ins (g : Grown B i j a ids) {p c : Int} {n m : Node} {q : Nat} (hp : p ∈ ids) (hc : c ∉ ids) (hn : nget a.nodes p = some n) (hm : nget a.nodes c = some m) (hmk : m.kids = []) (hq : q ≤ n.kids.length) (hj : j ≤ 1000) :
    Grown B i (j + 1) { a with nodes := insAtN a.nodes p c q n m } (ids ++ [c]) ∧ nget (insAtN a.nodes p c q n m) c = some (setN m (parN m p)) := by
  have hne : p ≠ c := fun e => hc (e ▸ hp)
  have hpid : n.id = p := nget_key g.keyed hn
  have hcid : m.id = c := nget_key g.keyed hm
  have e1 : nget (nset a.nodes p (setN n (kidAt n q c))) c = some m := by rw [nget_nset, if_neg (fun e => hne e.symm), hm]
  have hget : ∀ y, nget (insAtN a.nodes p c q n m) y = if y = c then some (setN m (parN m p)) else if y = p then some (setN n (kidAt n q c)) else nget a.nodes y := fun y => by
    unfold insAtN
    rw [nget_nset]
    by_cases e : y = c
    · rw [if_pos e, if_pos e, e1]; rfl
    · rw [if_neg e, if_neg e, nget_nset]
      by_cases e' : y = p
      · rw [if_pos e', if_pos e', hn]; rfl
      · rw [if_neg e', if_neg e']
  have hsome : ∀ y, (nget (insAtN a.nodes p c q n m) y).isSome = (nget a.nodes y).isSome := fun y => by
    rw [hget]
    by_cases e : y = c
    · rw [if_pos e, e, hm]; rfl
    · rw [if_neg e]
      by_cases e' : y = p
      · rw [if_pos e', e', hn]; rfl
      · rw [if_neg e']
  have hK : InsK a { a with nodes := insAtN a.nodes p c q n m } p c (n.kids.take q) (n.kids.drop q) := by
    refine ⟨hne, ?_, ?_, ?_, ?_⟩
    · rw [List.take_append_drop]; exact kids_some hn
    · show (nget (insAtN a.nodes p c q n m) p).map _ = _
      rw [hget, if_neg hne, if_pos rfl]; rfl
    · show (nget (insAtN a.nodes p c q n m) c).map _ = _
      rw [hget, if_pos rfl]
      show some m.kids = _
      rw [hmk]
    · intro x h1 h2
      show (nget (insAtN a.nodes p c q n m) x).map _ = _
      rw [hget, if_neg h2, if_neg h1]; rfl
  have hmem : ∀ {l : List Ent} {x : Int} {u : Node} {t : Ent}, t ∈ nset l x u → (t ∈ l) ∨ (t.1 = x ∧ t.2.2 = u) := by
    intro l x u
    induction l with
    | nil => intro t hp; simp [nset] at hp
    | cons r l ih =>
      intro t hp
      simp only [nset] at hp
      by_cases e : x = r.1
      · rw [if_pos e] at hp
        rcases List.mem_cons.1 hp with rfl | hp
        · exact .inr ⟨e.symm, rfl⟩
        · exact .inl (by simp [hp])
      · rw [if_neg e] at hp
        rcases List.mem_cons.1 hp with rfl | hp
        · exact .inl (by simp)
        · rcases ih hp with h | h
          · exact .inl (by simp [h])
          · exact .inr h
  have hlen : ∀ (l : List Ent) (x : Int) (u : Node), (nset l x u).length = l.length := by
    intro l x u
    induction l with
    | nil => rfl
    | cons r l ih => simp only [nset]; split <;> simp [ih]
  obtain ⟨pn, hpn, rfl⟩ := nget_mem hn
  obtain ⟨pm, hpm, rfl⟩ := nget_mem hm
  have okn := g.ok pn hpn
  have okm := g.ok pm hpm
  have hkl := (g.kids p _ hn).2.1
  refine ⟨⟨?_, ?_, ?_, g.ul, g.ll, g.used, g.live, ?_, ?_, ?_, ?_, ?_, ?_, ?_, ?_, ?_, ?_⟩, by rw [hget, if_pos rfl]⟩
  · intro t ht
    rcases hmem ht with ht | ⟨h1, h2⟩
    · rcases hmem ht with ht | ⟨h1, h2⟩
      · exact g.keyed t ht
      · rw [h2, h1]; exact hpid
    · rw [h2, h1]; exact hcid
  · intro t ht
    rcases hmem ht with ht | ⟨h1, h2⟩
    · rcases hmem ht with ht | ⟨h1, h2⟩
      · exact g.ok t ht
      · rw [h2]; exact ⟨okN_set okn.1 (okN_kidAt okn.1 _ (by omega) _), okn.2⟩
    · rw [h2]; exact ⟨okN_set okm.1 (okN_par okm.1 _), okm.2⟩
  · show (nset (nset a.nodes p _) c _).length ≤ _
    rw [hlen, hlen]; exact g.len
  · intro y hy
    have hy : (nget (insAtN a.nodes p c q pn.2.2 pm.2.2) y).isSome = true := hy
    rw [hsome] at hy
    exact g.key y hy
  · intro y u hu
    have hu : nget (insAtN a.nodes p c q pn.2.2 pm.2.2) y = some u := hu
    rw [hget] at hu
    by_cases e : y = c
    · rw [if_pos e] at hu
      injection hu with hu
      subst hu
      refine ⟨fun z hz => ?_, ?_, .inr (by simp [setN, parN, hp])⟩
      · have hz : z ∈ pm.2.2.kids := hz
        rw [hmk] at hz; cases hz
      · show pm.2.2.kids.length ≤ _
        rw [hmk]; exact Nat.zero_le _
    · rw [if_neg e] at hu
      by_cases e' : y = p
      · rw [if_pos e'] at hu
        injection hu with hu
        subst hu
        obtain ⟨k1, k2, k3⟩ := g.kids p _ hn
        refine ⟨fun z hz => ?_, ?_, ?_⟩
        · have hz : z ∈ pn.2.2.kids.take q ++ c :: pn.2.2.kids.drop q := hz
          rw [List.mem_append, List.mem_cons] at hz
          rcases hz with hz | hz | hz
          · simp [k1 z (List.mem_of_mem_take hz)]
          · simp [hz]
          · simp [k1 z (List.mem_of_mem_drop hz)]
        · show (pn.2.2.kids.take q ++ c :: pn.2.2.kids.drop q).length ≤ _
          simp only [List.length_append, List.length_take, List.length_cons, List.length_drop]
          omega
        · have : pn.2.2.parent = -1 ∨ pn.2.2.parent ∈ ids ++ [c] := by
            rcases k3 with h | h
            · exact .inl h
            · exact .inr (by simp [h])
          exact this
      · rw [if_neg e'] at hu
        obtain ⟨k1, k2, k3⟩ := g.kids y u hu
        refine ⟨fun z hz => by simp [k1 z hz], by omega, ?_⟩
        rcases k3 with h | h
        · exact .inl h
        · exact .inr (by simp [h])
  · exact fun x => hK.deep (g.deep x)
  · intro z
    have hck : ∀ x l, kidsAt a x = some l → c ∉ l := fun x l hx hcl => by
      obtain ⟨u, h1, h2⟩ := kids_of hx
      exact hc ((g.kids x u h1).1 c (by rw [h2]; exact hcl))
    have h0 : (0 : Int) ≠ c := fun e => hc (e ▸ g.root)
    rw [hK.count hck z (hK.deep (g.deep 0)) h0, ids_fuel (g.deep 0), g.cnt z, g.cnt p, List.count_append]
    have hp1 : ids.count p = 1 := by
      have h1 := List.nodup_iff_count.1 g.nodup p
      have h2 := List.count_pos_iff.2 hp
      omega
    rw [hp1]
    by_cases e : z = c
    · subst e; simp
    · have h1 : [c].count z = 0 := List.count_eq_zero.2 (by simp [e])
      rw [if_neg e, h1]
  · rw [List.nodup_append]
    refine ⟨g.nodup, by simp, ?_⟩
    intro x hx y hy
    simp at hy
    subst hy
    exact fun e => hc (e ▸ hx)
  · intro x hx
    show (nget (insAtN a.nodes p c q pn.2.2 pm.2.2) x).isSome = true
    rw [hsome]
    rcases List.mem_append.1 hx with hx | hx
    · exact g.mem x hx
    · simp at hx; subst hx; rw [hm]; rfl
  · simp [g.root]
  · rw [List.length_append, List.length_singleton]
    have := g.idl
    omega
  · show ((nset (nset a.nodes p _) c _).map (·.1)).Nodup
    rw [nset_keys, nset_keys]; exact g.nd
  · intro t ht
    rcases hmem ht with ht | ⟨h1, h2⟩
    · rcases hmem ht with ht | ⟨h1, h2⟩
      · exact g.own t ht
      · rw [h2]; exact g.own pn hpn
    · rw [h2]; exact g.own pm hpm
theorem Grown.weak (g : Grown B i j a ids) {i' j' : Nat} (hi : i ≤ i') (hj : j ≤ j') : Grown B i' j' a ids where
  keyed := g.keyed
  ok := g.ok
  len := by have := g.len; omega
  ul := g.ul
  ll := g.ll
  used := fun k hk => by have := g.used k hk; omega
  live := fun k hk => by have := g.live k hk; omega
  key := g.key
  kids := fun x n hn => by obtain ⟨h1, h2, h3⟩ := g.kids x n hn; exact ⟨h1, by omega, h3⟩
  deep := fun x => deep_le (g.deep x) (by omega)
  cnt := fun z => by rw [ids_le (g.deep 0) (by omega)]; exact g.cnt z
  nodup := g.nodup
  mem := g.mem
  root := g.root
  idl := by have := g.idl; omega
  nd := g.nd
  own := g.own
theorem Grown.ids_len (g : Grown B i j a ids) : (idsG a (j + 1) 0).length = ids.length := (List.perm_iff_count.2 g.cnt).length_eq
theorem Grown.ids_nodup (g : Grown B i j a ids) : (idsG a (j + 1) 0).Nodup := (List.perm_iff_count.2 g.cnt).nodup_iff.2 g.nodup
theorem Grown.ids_mem (g : Grown B i j a ids) {x : Int} : x ∈ idsG a (j + 1) 0 ↔ x ∈ ids := (List.perm_iff_count.2 g.cnt).mem_iff
end
end Go.Proofs.Ytjplgbalpnlanaa

/- dom.Insert where it tells an error: nothing changes. -/
set_option linter.unusedSimpArgs false
set_option linter.unusedVariables false
set_option maxRecDepth 100000
namespace Go.Proofs.Ytjplgbalpnlanaa
open Go Go.EL
theorem zrDom71 : type_of% (And.intro (And.intro (And.intro (And.intro (@st_run) (And.intro (@sz_run) (@st1_run))) (And.intro (@cl_run) (And.intro (@st_Str) (@sz_Str)))) (And.intro (And.intro (@st1_Str) (And.intro (@cl_Str) (@st_c))) (And.intro (@sz_c) (And.intro (@st1_c) (@cl_c))))) (And.intro (And.intro (And.intro (@st_attr) (And.intro (@sz_attr) (@st1_attr))) (And.intro (@cl_attr) (And.intro (@st_hook) (@sz_hook)))) (And.intro (And.intro (@st1_hook) (And.intro (@cl_hook) (@st_node))) (And.intro (@sz_node) (And.intro (@st1_node) (@cl_node)))))) := And.intro (And.intro (And.intro (And.intro (@st_run) (And.intro (@sz_run) (@st1_run))) (And.intro (@cl_run) (And.intro (@st_Str) (@sz_Str)))) (And.intro (And.intro (@st1_Str) (And.intro (@cl_Str) (@st_c))) (And.intro (@sz_c) (And.intro (@st1_c) (@cl_c))))) (And.intro (And.intro (And.intro (@st_attr) (And.intro (@sz_attr) (@st1_attr))) (And.intro (@cl_attr) (And.intro (@st_hook) (@sz_hook)))) (And.intro (And.intro (@st1_hook) (And.intro (@cl_hook) (@st_node))) (And.intro (@sz_node) (And.intro (@st1_node) (@cl_node)))))
theorem zlDom71 : type_of% (And.intro (And.intro (And.intro (And.intro (@lt_vi) (@lt_str)) (And.intro (@lt_vb) (And.intro (@ltc_str) (@ltc_vi)))) (And.intro (And.intro (@lt_run) (And.intro (@lt1_run) (@ltc_run))) (And.intro (@lt_Str) (And.intro (@lt1_Str) (@ltc_Str))))) (And.intro (And.intro (And.intro (@lt_c) (And.intro (@lt1_c) (@ltc_c))) (And.intro (@lt_attr) (And.intro (@lt1_attr) (@ltc_attr)))) (And.intro (And.intro (@lt_hook) (And.intro (@lt1_hook) (@ltc_hook))) (And.intro (@lt_node) (And.intro (@lt1_node) (@ltc_node)))))) := And.intro (And.intro (And.intro (And.intro (@lt_vi) (@lt_str)) (And.intro (@lt_vb) (And.intro (@ltc_str) (@ltc_vi)))) (And.intro (And.intro (@lt_run) (And.intro (@lt1_run) (@ltc_run))) (And.intro (@lt_Str) (And.intro (@lt1_Str) (@ltc_Str))))) (And.intro (And.intro (And.intro (@lt_c) (And.intro (@lt1_c) (@ltc_c))) (And.intro (@lt_attr) (And.intro (@lt1_attr) (@ltc_attr)))) (And.intro (And.intro (@lt_hook) (And.intro (@lt1_hook) (@ltc_hook))) (And.intro (@lt_node) (And.intro (@lt1_node) (@ltc_node)))))
def insErr (a : Arena) (parent at_ child : Int) : Int := match nget a.nodes parent with
  | none => 14
  | some p => match nget a.nodes child with
    | none => 14
    | some c => if p.kind = 2 then 12 else if 0 ≤ c.parent ∨ child = 0 then 9 else if insideG a child (a.nodes.length + 1) parent [] = true then 26 else if at_ < 0 ∨ (p.kids.length : Int) < at_ then 4 else 0
theorem nodeAt_some {a : Arena} {id : Int} {n : Node} (h : nget a.nodes id = some n) : nodeAt a id = ownN n := by unfold nodeAt; rw [h]
set_option maxHeartbeats 2000000 in
theorem dInsertErr (G : List Ob) (A m : Nat) (a : Arena) (h : arenaAt G A m a) (hok : ∀ p ∈ a.nodes, okN p.2.2) (hN : a.nodes.length ≤ 1000000) (parent at_ child : Int) (he : insErr a parent at_ child ≠ 0) :
    SCall Try.prog 68 [.ref A 0, .int .i64 parent, .int .i64 at_, .int .i64 child] G (fun r H' => r = .int .i64 (insErr a parent at_ child) ∧ H' = G) := by
  have lA := (List.getElem?_eq_some_iff.1 h.1).1
  cases hp : nget a.nodes parent with
  | none =>
    have e : insErr a parent at_ child = 14 := by unfold insErr; rw [hp]
    rw [e]
    refine SCall.of_good fun hH => ?_
    have hHk := HLt.add hH
    refine SCall.of_code Tok Try.func68 rfl Try.call68 (n := 74) rfl (by simp) (rs := [.tmp 8]) rfl ?_
    refine EWn.to ?_
    refine EWn.of_c Tok mixed (own := false) keep68 tab68 (by kernel_rfl) ?_
    (repeat simp -dsimp only [zrDom71, xnils, xnilm, xrange, xmakeMap, xslice3, RB, TB, keep68, tab68, xindexAddr, xindex, xslice, xconvert, xlen, ewOp, FreeW, StabW, SameW, ChangeW, AddW, BaseW, limBytes, simprocAttr, ne_eq])
    (refine SCall.then (aGetN _ A m a h hok parent hp) ?_)
    (repeat simp -dsimp only [zrDom71, xnils, xnilm, xrange, xmakeMap, xslice3, nodeV, RB, TB, keep68, tab68, xindexAddr, xindex, xslice, xconvert, xlen, ewOp, FreeW, StabW, SameW, ChangeW, AddW, BaseW, limBytes, simprocAttr, ne_eq])
    (refine SCall.then (aGetF _ A m a (arena_app h _) hok child) ?_)
    (repeat simp -dsimp only [zrDom71, xnils, xnilm, xrange, xmakeMap, xslice3, nodeV, RB, TB, keep68, tab68, xindexAddr, xindex, xslice, xconvert, xlen, ewOp, FreeW, StabW, SameW, ChangeW, AddW, BaseW, limBytes, simprocAttr, ne_eq])
    refine RetW.auto0 false _ (by first | rfl | exact (List.append_nil _).symm) ?_ ?_
    · (simp (maxDischargeDepth := 6) [LTB, HLt_set, ltL_take, ltL_drop, ltL_rep, ltL_set, upd, eset, hH, hHk, zlDom71] <;> omega)
    (try simp only [wk, wk1, wk0, RB, limBytes, simprocAttr, ne_eq])
    skip
  | some p =>
    have f1 : (nodeAt a parent).kind = p.kind := by rw [nodeAt_some hp]; rfl
    have f3 : (nodeAt a parent).kids = p.kids := by rw [nodeAt_some hp]; rfl
    cases hc : nget a.nodes child with
    | none =>
      have e : insErr a parent at_ child = 14 := by unfold insErr; rw [hp]; simp only [hc]
      rw [e]
      refine SCall.of_good fun hH => ?_
      have hHk := HLt.add hH
      refine SCall.of_code Tok Try.func68 rfl Try.call68 (n := 74) rfl (by simp) (rs := [.tmp 8]) rfl ?_
      refine EWn.to ?_
      refine EWn.of_c Tok mixed (own := false) keep68 tab68 (by kernel_rfl) ?_
      (repeat simp -dsimp only [zrDom71, xnils, xnilm, xrange, xmakeMap, xslice3, RB, TB, keep68, tab68, xindexAddr, xindex, xslice, xconvert, xlen, ewOp, FreeW, StabW, SameW, ChangeW, AddW, BaseW, limBytes, simprocAttr, ne_eq])
      (refine SCall.then (aGetS _ A m a h hok parent p hp) ?_)
      (repeat simp -dsimp only [zrDom71, xnils, xnilm, xrange, xmakeMap, xslice3, nodeV, RB, TB, keep68, tab68, xindexAddr, xindex, xslice, xconvert, xlen, ewOp, FreeW, StabW, SameW, ChangeW, AddW, BaseW, limBytes, simprocAttr, ne_eq])
      (refine SCall.then (aGetN _ A m a (arena_app h _) hok child hc) ?_)
      (repeat simp -dsimp only [zrDom71, xnils, xnilm, xrange, xmakeMap, xslice3, nodeV, RB, TB, keep68, tab68, xindexAddr, xindex, xslice, xconvert, xlen, ewOp, FreeW, StabW, SameW, ChangeW, AddW, BaseW, limBytes, simprocAttr, ne_eq])
      refine RetW.auto0 false _ (by first | rfl | exact (List.append_nil _).symm) ?_ ?_
      · (simp (maxDischargeDepth := 6) [LTB, HLt_set, ltL_take, ltL_drop, ltL_rep, ltL_set, upd, eset, hH, hHk, zlDom71] <;> omega)
      (try simp only [wk, wk1, wk0, RB, limBytes, simprocAttr, ne_eq])
      skip
    | some c =>
      have f2 : (ownN c).parent = c.parent := rfl
      have f4 : (ownN p).kind = p.kind := rfl
      have f5 : (ownN p).kids = p.kids := rfl
      have e : insErr a parent at_ child = if p.kind = 2 then 12 else if 0 ≤ c.parent ∨ child = 0 then 9 else if insideG a child (a.nodes.length + 1) parent [] = true then 26 else if at_ < 0 ∨ (p.kids.length : Int) < at_ then 4 else 0 := by unfold insErr; rw [hp]; simp only [hc]
      rw [e] at he ⊢
      refine SCall.of_good fun hH => ?_
      have hHk := HLt.add hH
      refine SCall.of_code Tok Try.func68 rfl Try.call68 (n := 74) rfl (by simp) (rs := [.tmp 8]) rfl ?_
      refine EWn.to ?_
      refine EWn.of_c Tok mixed (own := false) keep68 tab68 (by kernel_rfl) ?_
      (repeat simp -dsimp only [zrDom71, xnils, xnilm, xrange, xmakeMap, xslice3, RB, TB, keep68, tab68, xindexAddr, xindex, xslice, xconvert, xlen, ewOp, FreeW, StabW, SameW, ChangeW, AddW, BaseW, limBytes, simprocAttr, ne_eq])
      (refine SCall.then (aGetS _ A m a h hok parent p hp) ?_)
      (repeat simp -dsimp only [zrDom71, xnils, xnilm, xrange, xmakeMap, xslice3, nodeV, RB, TB, keep68, tab68, xindexAddr, xindex, xslice, xconvert, xlen, ewOp, FreeW, StabW, SameW, ChangeW, AddW, BaseW, limBytes, simprocAttr, ne_eq])
      (refine SCall.then (aGetS _ A m a (arena_app h _) hok child c hc) ?_)
      (repeat simp -dsimp only [zrDom71, xnils, xnilm, xrange, xmakeMap, xslice3, nodeV, f4, RB, TB, keep68, tab68, xindexAddr, xindex, xslice, xconvert, xlen, ewOp, FreeW, StabW, SameW, ChangeW, AddW, BaseW, limBytes, simprocAttr, ne_eq])
      refine IfW.intro (fun h1 => ?_) (fun h1 => ?_)
      · rw [if_pos (by simpa using h1)]
        (repeat simp -dsimp only [zrDom71, xnils, xnilm, xrange, xmakeMap, xslice3, h1, RB, TB, keep68, tab68, xindexAddr, xindex, xslice, xconvert, xlen, ewOp, FreeW, StabW, SameW, ChangeW, AddW, BaseW, limBytes, simprocAttr, ne_eq])
        refine RetW.auto0 false _ (by first | rfl | exact (List.append_nil _).symm) ?_ ?_
        · (simp (maxDischargeDepth := 6) [LTB, HLt_set, ltL_take, ltL_drop, ltL_rep, ltL_set, upd, eset, hH, hHk, zlDom71] <;> omega)
        (try simp only [wk, wk1, wk0, RB, limBytes, simprocAttr, ne_eq])
        skip
      · have h1' : ¬ p.kind = 2 := by simpa using h1
        rw [if_neg h1'] at he ⊢
        (repeat simp -dsimp only [zrDom71, xnils, xnilm, xrange, xmakeMap, xslice3, h1, f2, RB, TB, keep68, tab68, xindexAddr, xindex, xslice, xconvert, xlen, ewOp, FreeW, StabW, SameW, ChangeW, AddW, BaseW, limBytes, simprocAttr, ne_eq])
        by_cases h2 : 0 ≤ c.parent ∨ child = 0
        · rw [if_pos h2]
          by_cases h3 : 0 ≤ c.parent
          · (repeat simp -dsimp only [zrDom71, xnils, xnilm, xrange, xmakeMap, xslice3, show decide (c.parent ≥ 0) = true from decide_eq_true h3, RB, TB, keep68, tab68, xindexAddr, xindex, xslice, xconvert, xlen, ewOp, FreeW, StabW, SameW, ChangeW, AddW, BaseW, limBytes, simprocAttr, ne_eq])
            refine RetW.auto0 false _ (by first | rfl | exact (List.append_nil _).symm) ?_ ?_
            · (simp (maxDischargeDepth := 6) [LTB, HLt_set, ltL_take, ltL_drop, ltL_rep, ltL_set, upd, eset, hH, hHk, zlDom71] <;> omega)
            (try simp only [wk, wk1, wk0, RB, limBytes, simprocAttr, ne_eq])
            skip
          · have h4 : (child == 0) = true := by rcases h2 with h | h; exact absurd h h3; simpa using h
            (repeat simp -dsimp only [zrDom71, xnils, xnilm, xrange, xmakeMap, xslice3, show decide (c.parent ≥ 0) = false from decide_eq_false h3, h4, RB, TB, keep68, tab68, xindexAddr, xindex, xslice, xconvert, xlen, ewOp, FreeW, StabW, SameW, ChangeW, AddW, BaseW, limBytes, simprocAttr, ne_eq])
            refine RetW.auto0 false _ (by first | rfl | exact (List.append_nil _).symm) ?_ ?_
            · (simp (maxDischargeDepth := 6) [LTB, HLt_set, ltL_take, ltL_drop, ltL_rep, ltL_set, upd, eset, hH, hHk, zlDom71] <;> omega)
            (try simp only [wk, wk1, wk0, RB, limBytes, simprocAttr, ne_eq])
            skip
        · rw [if_neg h2] at he ⊢
          have h3 : ¬ 0 ≤ c.parent := fun h => h2 (.inl h)
          have h4 : (child == 0) = false := by simpa using fun h => h2 (.inr h)
          (repeat simp -dsimp only [zrDom71, xnils, xnilm, xrange, xmakeMap, xslice3, show decide (c.parent ≥ 0) = false from decide_eq_false h3, h4, RB, TB, keep68, tab68, xindexAddr, xindex, xslice, xconvert, xlen, ewOp, FreeW, StabW, SameW, ChangeW, AddW, BaseW, limBytes, simprocAttr, ne_eq])
          (refine SCall.then (dInside _ A m a (arena_app h _) hok hN parent child) ?_)
          (repeat simp -dsimp only [zrDom71, xnils, xnilm, xrange, xmakeMap, xslice3, RB, TB, keep68, tab68, xindexAddr, xindex, xslice, xconvert, xlen, ewOp, FreeW, StabW, SameW, ChangeW, AddW, BaseW, limBytes, simprocAttr, ne_eq])
          cases h5 : insideG a child (a.nodes.length + 1) parent []
          · rw [h5] at he
            simp only [Bool.false_eq_true, if_false] at he ⊢
            have h6 : at_ < 0 ∨ (p.kids.length : Int) < at_ := by
              by_cases h : at_ < 0 ∨ (p.kids.length : Int) < at_
              · exact h
              · rw [if_neg h] at he; exact absurd rfl he
            rw [if_pos h6]
            (repeat simp -dsimp only [zrDom71, xnils, xnilm, xrange, xmakeMap, xslice3, h5, RB, TB, keep68, tab68, xindexAddr, xindex, xslice, xconvert, xlen, ewOp, FreeW, StabW, SameW, ChangeW, AddW, BaseW, limBytes, simprocAttr, ne_eq])
            by_cases h7 : at_ < 0
            · (repeat simp -dsimp only [zrDom71, xnils, xnilm, xrange, xmakeMap, xslice3, show decide (at_ < 0) = true from decide_eq_true h7, RB, TB, keep68, tab68, xindexAddr, xindex, xslice, xconvert, xlen, ewOp, FreeW, StabW, SameW, ChangeW, AddW, BaseW, limBytes, simprocAttr, ne_eq])
              refine RetW.auto0 false _ (by first | rfl | exact (List.append_nil _).symm) ?_ ?_
              · (simp (maxDischargeDepth := 6) [LTB, HLt_set, ltL_take, ltL_drop, ltL_rep, ltL_set, upd, eset, hH, hHk, zlDom71] <;> omega)
              (try simp only [wk, wk1, wk0, RB, limBytes, simprocAttr, ne_eq])
              skip
            · have h8 : (p.kids.length : Int) < at_ := by rcases h6 with h | h; exact absurd h h7; exact h
              (repeat simp -dsimp only [zrDom71, xnils, xnilm, xrange, xmakeMap, xslice3, show decide (at_ < 0) = false from decide_eq_false h7, f5, show decide (at_ > (p.kids.length : Int)) = true from decide_eq_true h8, RB, TB, keep68, tab68, xindexAddr, xindex, xslice, xconvert, xlen, ewOp, FreeW, StabW, SameW, ChangeW, AddW, BaseW, limBytes, simprocAttr, ne_eq])
              refine RetW.auto0 false _ (by first | rfl | exact (List.append_nil _).symm) ?_ ?_
              · (simp (maxDischargeDepth := 6) [LTB, HLt_set, ltL_take, ltL_drop, ltL_rep, ltL_set, upd, eset, hH, hHk, zlDom71] <;> omega)
              (try simp only [wk, wk1, wk0, RB, limBytes, simprocAttr, ne_eq])
              skip
          · rw [if_pos rfl]
            (repeat simp -dsimp only [zrDom71, xnils, xnilm, xrange, xmakeMap, xslice3, h5, RB, TB, keep68, tab68, xindexAddr, xindex, xslice, xconvert, xlen, ewOp, FreeW, StabW, SameW, ChangeW, AddW, BaseW, limBytes, simprocAttr, ne_eq])
            refine RetW.auto0 false _ (by first | rfl | exact (List.append_nil _).symm) ?_ ?_
            · (simp (maxDischargeDepth := 6) [LTB, HLt_set, ltL_take, ltL_drop, ltL_rep, ltL_set, upd, eset, hH, hHk, zlDom71] <;> omega)
            (try simp only [wk, wk1, wk0, RB, limBytes, simprocAttr, ne_eq])
            skip
end Go.Proofs.Ytjplgbalpnlanaa

/- Arenas that are built node by node, behind one another in the heap: Make, Insert, SetHooks, Get, Has. -/
set_option maxHeartbeats 600000
set_option linter.unusedSimpArgs false
set_option linter.unusedVariables false
set_option maxRecDepth 100000
namespace Go.Proofs.Ytjplgbalpnlanaa
open Go Go.EL
/-- the arena's struct -/
def arC (m : Nat) (a : Arena) : List V := .mapr m :: (a.used.map vi ++ a.live.map vi)
theorem lt_arC (n m : Nat) (a : Arena) (h : m < n) : ltL n (arC m a) := by
  unfold arC
  simp only [ltL, V.lt]
  refine ⟨h, ?_⟩
  rw [ltL_append]
  exact ⟨lt_vi _ _, lt_vi _ _⟩
theorem ltL_nodeC (n : Nat) (x : Node) : ltL n (nodeV x).cells := by have := lt1_node n x; simp only [nodeV, V.lt] at this; exact this
section
variable {B i j : Nat} {a : Arena} {ids : List Int}
theorem Grown.at (g : Grown B i j a ids) (H K : List Ob) : arenaAt (H ++ .map (encM a.nodes) a.clock :: .var (arC H.length a) :: K) (H.length + 1) H.length a := ⟨by simp [arC], by simp, g.ul, g.ll⟩
theorem Grown.oks (g : Grown B i j a ids) : ∀ p ∈ a.nodes, okN p.2.2 := fun p hp => (g.ok p hp).1
theorem Grown.hks (g : Grown B i j a ids) : ∀ p ∈ a.nodes, p.2.2.hooks.length ≤ B := fun p hp => (g.ok p hp).2
theorem gMake (H K : List Ob) (g : Grown B i j a ids) (k : Nat) (hk : k < 4) (hi : i ≤ 30) (kind : Int) (hkd : 1 ≤ kind ∧ kind ≤ 3) (tag : Str) (htag : okS tag) (key : List UInt8) (slot : Int) :
    SCall Try.prog 37 [.ref (H.length + 1) 0, .int .i64 k, .int .i64 kind, strV tag, .str key, .int .i64 slot] (H ++ .map (encM a.nodes) a.clock :: .var (arC H.length a) :: K) (fun r H' => r = .tuple [.int .i64 (idO a k), .int .i64 0] ∧
      H' = H ++ .map (encM (makeA a k kind tag key slot).nodes) (makeA a k kind tag key slot).clock :: .var (arC H.length (makeA a k kind tag key slot)) :: K) := by
  have hu := g.used k hk
  have hl := g.live k hk
  refine SCall.mono (aMake _ (H.length + 1) H.length a (g.at H K) k hk (by unfold mostO; split <;> omega) hl.1 (by omega) hu.1 kind hkd tag htag key slot (g.fresh hk (by omega)).1 (by omega)) fun r H' h => ⟨h.1, ?_⟩
  rw [h.2]
  simp [arC]
theorem gInsert (H K : List Ob) (g : Grown B i j a ids) (hi : i ≤ 1000) (hj : j ≤ 1000) {p c : Int} {n m : Node} (hp : p ∈ ids) (hc : c ∉ ids) (hn : nget a.nodes p = some n) (hm : nget a.nodes c = some m) (hkd : n.kind ≠ 2) (hmp : m.parent = -1) (q : Nat) (hq : q ≤ n.kids.length) (qi : Int) (hqi : qi = q) :
    SCall Try.prog 68 [.ref (H.length + 1) 0, .int .i64 p, .int .i64 qi, .int .i64 c] (H ++ .map (encM a.nodes) a.clock :: .var (arC H.length a) :: K) (fun r H' => r = .int .i64 0 ∧
      H' = H ++ .map (encM (insAtN a.nodes p c q n m)) a.clock :: .var (arC H.length a) :: K) := by
  subst hqi
  have hkl := (g.kids p n hn).2.1
  refine SCall.mono (dInsertAt _ (H.length + 1) H.length a (g.at H K) g.oks (by have := g.len; omega) p c q n m hn hm hkd (by omega) (fun e => hc (e ▸ g.root)) (nget_key g.keyed hn) (nget_key g.keyed hm) (g.inside hc _ _ _ (.inr hp)) (by omega) hq (by omega)) fun r H' h => ⟨h.1, ?_⟩
  rw [h.2]
  simp [arC]
theorem gInsertK (H K : List Ob) (g : Grown B i j a ids) (hi : i ≤ 1000) {p c : Int} {n m : Node} (hn : nget a.nodes p = some n) (hm : nget a.nodes c = some m) (hkd : n.kind = 2) (qi : Int) :
    SCall Try.prog 68 [.ref (H.length + 1) 0, .int .i64 p, .int .i64 qi, .int .i64 c] (H ++ .map (encM a.nodes) a.clock :: .var (arC H.length a) :: K) (fun r H' => r = .int .i64 12 ∧
      H' = H ++ .map (encM a.nodes) a.clock :: .var (arC H.length a) :: K) := by
  have e : insErr a p qi c = 12 := by unfold insErr; rw [hn]; simp only [hm, if_pos hkd]
  have := dInsertErr (H ++ .map (encM a.nodes) a.clock :: .var (arC H.length a) :: K) (H.length + 1) H.length a (g.at H K) g.oks (by have := g.len; omega) p qi c (by rw [e]; decide)
  rw [e] at this
  exact this
def hookN (n : Node) (l : List Hook) : Node := setN n { ownN n with hooks := l }
theorem hookN_ok {n : Node} (h : okN n) {l : List Hook} (hl : l.length ≤ 1000000000) : okN (hookN n l) := okN_set h (by
  obtain ⟨o1, o2, o3, o4, o5, o6⟩ := okN_own h
  exact ⟨o1, o2, o3, o4, by simp; omega, o6⟩)
theorem gSetHooks (H K : List Ob) (g : Grown B i j a ids) {c : Int} {m : Node} (hm : nget a.nodes c = some m) (l : List Hook) (hl : l.length ≤ 1000000000) (hkd : m.kind = 1) :
    SCall Try.prog 39 [.ref (H.length + 1) 0, .int .i64 c, .slice (l.map hookV)] (H ++ .map (encM a.nodes) a.clock :: .var (arC H.length a) :: K) (fun r H' => r = .int .i64 0 ∧
      H' = H ++ .map (encM (nset a.nodes c (hookN m l))) a.clock :: .var (arC H.length a) :: K) := by
  refine SCall.mono (dSetHooks _ (H.length + 1) H.length a (g.at H K) g.oks c l (by omega) m hm hkd (nget_key g.keyed hm)) fun r H' h => ⟨h.1, ?_⟩
  rw [h.2]
  simp [hookN]
theorem gSetHooksK (H K : List Ob) (g : Grown B i j a ids) {c : Int} {m : Node} (hm : nget a.nodes c = some m) (l : List Hook) (hkd : m.kind ≠ 1) :
    SCall Try.prog 39 [.ref (H.length + 1) 0, .int .i64 c, .slice (l.map hookV)] (H ++ .map (encM a.nodes) a.clock :: .var (arC H.length a) :: K) (fun r H' => r = .int .i64 12 ∧
      H' = H ++ .map (encM a.nodes) a.clock :: .var (arC H.length a) :: K) := by
  have e : ofF a c 1 = (nodeZ, 12) := by unfold ofF; rw [hm]; simp [hkd]
  have := dSetHooksE (H ++ .map (encM a.nodes) a.clock :: .var (arC H.length a) :: K) (H.length + 1) H.length a (g.at H K) g.oks c l (by rw [e]; decide)
  rw [e] at this
  exact this
end
/-- a number, turned into a place of a list -/
theorem tmodn (x : Int) (n : Nat) (h0 : 0 < n) (h1 : n ≤ 1000000) : ∃ k : Nat, k < n ∧ (IntKind.i64.wrap (x.tmod n + n)).tmod n = (k : Int) := by
  have h2 := Int.tmod_lt_of_pos x (show (0 : Int) < n by omega)
  have h3 : -(n : Int) < x.tmod n := Int.lt_tmod_of_pos x (show (0 : Int) < n by omega)
  have e : IntKind.i64.wrap (x.tmod n + n) = x.tmod n + n := wrapI (by omega)
  rw [e]
  have h4 := Int.tmod_lt_of_pos (x.tmod n + n) (show (0 : Int) < n by omega)
  have h5 : 0 ≤ (x.tmod n + n).tmod n := Int.tmod_nonneg _ (by omega)
  exact ⟨((x.tmod n + n).tmod n).toNat, by omega, by omega⟩
theorem tmod4 (x : Int) : ∃ k : Nat, k < 4 ∧ (IntKind.i64.wrap (x.tmod 4 + 4)).tmod 4 = (k : Int) := tmodn x 4 (by omega) (by omega)
theorem tmod3' (x : Int) : ∃ k : Nat, k < 3 ∧ (IntKind.i64.wrap (x.tmod 3 + 3)).tmod 3 = (k : Int) := tmodn x 3 (by omega) (by omega)
end Go.Proofs.Ytjplgbalpnlanaa

/- Free of a node, and of all within it. -/
set_option linter.unusedSimpArgs false
set_option linter.unusedVariables false
set_option maxRecDepth 100000
namespace Go.Proofs.Ytjplgbalpnlanaa
open Go Go.EL
theorem zrRem11 : type_of% (And.intro (And.intro (And.intro (And.intro (@st_run) (And.intro (@sz_run) (@st1_run))) (And.intro (@cl_run) (And.intro (@st_Str) (@sz_Str)))) (And.intro (And.intro (@st1_Str) (And.intro (@cl_Str) (@st_c))) (And.intro (@sz_c) (And.intro (@st1_c) (@cl_c))))) (And.intro (And.intro (And.intro (@st_attr) (And.intro (@sz_attr) (@st1_attr))) (And.intro (@cl_attr) (And.intro (@st_hook) (@sz_hook)))) (And.intro (And.intro (@st1_hook) (And.intro (@cl_hook) (@st_node))) (And.intro (@sz_node) (And.intro (@st1_node) (@cl_node)))))) := And.intro (And.intro (And.intro (And.intro (@st_run) (And.intro (@sz_run) (@st1_run))) (And.intro (@cl_run) (And.intro (@st_Str) (@sz_Str)))) (And.intro (And.intro (@st1_Str) (And.intro (@cl_Str) (@st_c))) (And.intro (@sz_c) (And.intro (@st1_c) (@cl_c))))) (And.intro (And.intro (And.intro (@st_attr) (And.intro (@sz_attr) (@st1_attr))) (And.intro (@cl_attr) (And.intro (@st_hook) (@sz_hook)))) (And.intro (And.intro (@st1_hook) (And.intro (@cl_hook) (@st_node))) (And.intro (@sz_node) (And.intro (@st1_node) (@cl_node)))))
theorem zlRem11 : type_of% (And.intro (And.intro (And.intro (And.intro (@lt_vi) (@lt_str)) (And.intro (@lt_vb) (And.intro (@ltc_str) (@ltc_vi)))) (And.intro (And.intro (@lt_run) (And.intro (@lt1_run) (@ltc_run))) (And.intro (@lt_Str) (And.intro (@lt1_Str) (@ltc_Str))))) (And.intro (And.intro (And.intro (@lt_c) (And.intro (@lt1_c) (@ltc_c))) (And.intro (@lt_attr) (And.intro (@lt1_attr) (@ltc_attr)))) (And.intro (And.intro (@lt_hook) (And.intro (@lt1_hook) (@ltc_hook))) (And.intro (@lt_node) (And.intro (@lt1_node) (@ltc_node)))))) := And.intro (And.intro (And.intro (And.intro (@lt_vi) (@lt_str)) (And.intro (@lt_vb) (And.intro (@ltc_str) (@ltc_vi)))) (And.intro (And.intro (@lt_run) (And.intro (@lt1_run) (@ltc_run))) (And.intro (@lt_Str) (And.intro (@lt1_Str) (@ltc_Str))))) (And.intro (And.intro (And.intro (@lt_c) (And.intro (@lt1_c) (@ltc_c))) (And.intro (@lt_attr) (And.intro (@lt1_attr) (@ltc_attr)))) (And.intro (And.intro (@lt_hook) (And.intro (@lt1_hook) (@ltc_hook))) (And.intro (@lt_node) (And.intro (@lt1_node) (@ltc_node)))))
def ndel : List Ent → Int → List Ent
  | [], _ => []
  | p :: l, n => if n = p.1 then l else p :: ndel l n
theorem mdel_enc (id : Int) : ∀ l : List Ent, mdel (encM l) id = encM (ndel l id)
  | [] => rfl
  | p :: l => by
    have ih := mdel_enc id l
    simp only [encM] at ih
    simp only [encM, List.map_cons, mdel, ndel]
    by_cases h : id = p.1
    · rw [if_pos h, if_pos h]
    · rw [if_neg h, if_neg h, List.map_cons, ih]
theorem ndel_sub (id : Int) : ∀ l : List Ent, (ndel l id).Sublist l
  | [] => .slnil
  | p :: l => by
    simp only [ndel]
    split
    · exact .cons _ (List.Sublist.refl _)
    · exact .cons_cons _ (ndel_sub id l)
theorem nget_ndel {id : Int} : ∀ {l : List Ent}, (l.map (·.1)).Nodup → ∀ x, nget (ndel l id) x = if x = id then none else nget l x
  | [], _, x => by simp [ndel, nget]
  | p :: l, hn, x => by
    simp only [List.map_cons, List.nodup_cons] at hn
    have hnone : ∀ y, y = p.1 → nget l y = none := fun y hy => by
      cases h : nget l y with
      | none => rfl
      | some n =>
        exfalso
        refine hn.1 ?_
        clear hn
        induction l with
        | nil => simp [nget] at h
        | cons q l ih =>
          simp only [nget] at h
          by_cases e : y = q.1
          · simp [← e, hy]
          · rw [if_neg e] at h
            simp [ih h]
    simp only [ndel]
    by_cases h : id = p.1
    · rw [if_pos h]
      by_cases e : x = id
      · rw [if_pos e]; exact hnone x (by rw [e, h])
      · rw [if_neg e]; simp only [nget]; rw [if_neg (fun e' => e (by rw [e', h]))]
    · rw [if_neg h]
      simp only [nget]
      rw [nget_ndel hn.2 x]
      by_cases e : x = id
      · rw [if_pos e, if_pos e, if_neg (fun e' => h (by rw [← e, e']))]
      · rw [if_neg e, if_neg e]
theorem ndel_len {id : Int} : ∀ {l : List Ent}, (nget l id).isSome = true → (ndel l id).length + 1 = l.length
  | [], h => by cases h
  | p :: l, h => by
    simp only [nget] at h
    simp only [ndel]
    by_cases e : id = p.1
    · rw [if_pos e]; simp
    · rw [if_neg e] at h ⊢
      simp only [List.length_cons]
      have := ndel_len h
      omega
def subAt (l : List Int) (k : Nat) : List Int := l.set k (l.getD k 0 - 1)
def freed (a : Arena) (id : Int) (x : Node) : Arena := { a with nodes := ndel a.nodes id, live := subAt a.live x.owner.toNat }
def freeG : Nat → Arena → Int → Arena × Int
  | 0, a, _ => (a, 0)
  | k + 1, a, id => if id = 0 then (a, 0) else match nget a.nodes id with
    | none => (a, 0)
    | some x => x.kids.foldl (fun s c => ((freeG k s.1 c).1, s.2 + (freeG k s.1 c).2)) (freed a id x, 1)
def stepF (k : Nat) (s : Arena × Int) (c : Int) : Arena × Int := ((freeG k s.1 c).1, s.2 + (freeG k s.1 c).2)
theorem freeG_some {k : Nat} {a : Arena} {id : Int} {x : Node} (h0 : id ≠ 0) (h : nget a.nodes id = some x) : freeG (k + 1) a id = x.kids.foldl (stepF k) (freed a id x, 1) := by
  rw [freeG, if_neg h0]; simp only [h]; rfl
theorem freeG_none {k : Nat} {a : Arena} {id : Int} (h : id = 0 ∨ nget a.nodes id = none) : freeG k a id = (a, 0) := by
  cases k with
  | zero => rfl
  | succ k =>
    rw [freeG]
    by_cases h0 : id = 0
    · rw [if_pos h0]
    · rw [if_neg h0]
      rcases h with h | h
      · exact absurd h h0
      · simp only [h]
structure FreeOK (a : Arena) : Prop where
  ul : a.used.length = 4
  ll : a.live.length = 4
  keys : (a.nodes.map (·.1)).Nodup
  own : ∀ p ∈ a.nodes, (0 ≤ p.2.2.owner ∧ p.2.2.owner < 4) ∧ p.2.2.kids.length ≤ 1000000
  live : ∀ k, k < 4 → -1000000000 + (a.nodes.length : Int) ≤ a.live.getD k 0 ∧ a.live.getD k 0 ≤ 1000000000
  len : a.nodes.length ≤ 1000000
structure SubA (b a : Arena) : Prop where
  get : ∀ x n, nget b.nodes x = some n → nget a.nodes x = some n
  used : b.used = a.used
  clock : b.clock = a.clock
theorem SubA.rfl' (a : Arena) : SubA a a := ⟨fun _ _ h => h, rfl, rfl⟩
theorem SubA.trans {a b c : Arena} (h : SubA c b) (g : SubA b a) : SubA c a := ⟨fun x n hx => g.get x n (h.get x n hx), h.used.trans g.used, h.clock.trans g.clock⟩
theorem SubA.deep {a b : Arena} (h : SubA b a) : ∀ {k : Nat} {x : Int}, deepG a k x → deepG b k x
  | 0, _, hd => hd
  | k + 1, x, hd => fun n hn c hc => SubA.deep h (hd n (h.get x n hn) c hc)
theorem FreeOK.freed {a : Arena} (h : FreeOK a) {id : Int} {x : Node} (hx : nget a.nodes id = some x) : FreeOK (freed a id x) ∧ SubA (freed a id x) a ∧ (freed a id x).nodes.length + 1 = a.nodes.length := by
  have hl : (ndel a.nodes id).length + 1 = a.nodes.length := ndel_len (by rw [hx]; rfl)
  obtain ⟨p, hp, rfl⟩ := nget_mem hx
  obtain ⟨⟨o1, o2⟩, o3⟩ := h.own p hp
  refine ⟨⟨h.ul, by simp [Proofs.Ytjplgbalpnlanaa.freed, subAt, h.ll], (h.keys.sublist ((ndel_sub id a.nodes).map _)), fun q hq => h.own q ((ndel_sub id a.nodes).subset hq), ?_, by show (ndel a.nodes id).length ≤ _; have := h.len; omega⟩, ⟨?_, rfl, rfl⟩, hl⟩
  · intro k hk
    have h1 := h.live k hk
    have h2 := h.live p.2.2.owner.toNat (by omega)
    show -1000000000 + ((ndel a.nodes id).length : Int) ≤ (subAt a.live p.2.2.owner.toNat).getD k 0 ∧ (subAt a.live p.2.2.owner.toNat).getD k 0 ≤ _
    unfold subAt
    rw [List.getD_eq_getElem?_getD, List.getElem?_set]
    by_cases e : p.2.2.owner.toNat = k
    · rw [if_pos e, if_pos (by rw [h.ll]; omega)]
      simp only [Option.getD_some]
      omega
    · rw [if_neg e, ← List.getD_eq_getElem?_getD]
      omega
  · intro y n hy
    have hy : nget (ndel a.nodes id) y = some n := hy
    rw [nget_ndel h.keys] at hy
    split at hy
    · cases hy
    · exact hy
theorem fold_ok {k : Nat} {a : Arena} (hk : ∀ (b : Arena) (id : Int), FreeOK b → FreeOK (freeG k b id).1 ∧ SubA (freeG k b id).1 b ∧ (freeG k b id).2 + (freeG k b id).1.nodes.length = b.nodes.length ∧ 0 ≤ (freeG k b id).2) :
    ∀ (l : List Int) (s : Arena × Int), FreeOK s.1 → SubA s.1 a → s.2 + s.1.nodes.length = a.nodes.length → 0 ≤ s.2 → FreeOK (l.foldl (stepF k) s).1 ∧ SubA (l.foldl (stepF k) s).1 a ∧ (l.foldl (stepF k) s).2 + (l.foldl (stepF k) s).1.nodes.length = a.nodes.length ∧ 0 ≤ (l.foldl (stepF k) s).2
  | [], s, h1, h2, h3, h4 => ⟨h1, h2, h3, h4⟩
  | c :: l, s, h1, h2, h3, h4 => by
    obtain ⟨g1, g2, g3, g4⟩ := hk s.1 c h1
    rw [List.foldl_cons]
    refine fold_ok hk l _ g1 (g2.trans h2) ?_ ?_
    · simp only [stepF]; omega
    · simp only [stepF]; omega
theorem freeG_ok : ∀ (k : Nat) (a : Arena) (id : Int), FreeOK a → FreeOK (freeG k a id).1 ∧ SubA (freeG k a id).1 a ∧ (freeG k a id).2 + (freeG k a id).1.nodes.length = a.nodes.length ∧ 0 ≤ (freeG k a id).2
  | 0, a, id, h => ⟨h, SubA.rfl' a, by simp [freeG], by simp [freeG]⟩
  | k + 1, a, id, h => by
    by_cases h0 : id = 0
    · rw [freeG_none (.inl h0)]; exact ⟨h, SubA.rfl' a, by simp, by simp⟩
    cases hx : nget a.nodes id with
    | none => rw [freeG_none (.inr hx)]; exact ⟨h, SubA.rfl' a, by simp, by simp⟩
    | some x =>
      rw [freeG_some h0 hx]
      obtain ⟨f1, f2, f3⟩ := h.freed hx
      exact fold_ok (freeG_ok k) x.kids _ f1 f2 (by simp only; omega) (by simp)
/-- the arena's two objects are others -/
abbrev hpA (H : List Ob) (A m : Nat) (a : Arena) : List Ob := (H.set A (.var (arC m a))).set m (.map (encM a.nodes) a.clock)
theorem hpA_len (H : List Ob) (A m : Nat) (a : Arena) : (hpA H A m a).length = H.length := by simp [hpA]
theorem hpA_app {H : List Ob} {A m : Nat} {a b : Arena} (K : List Ob) (hA : A < H.length) (hm : m < H.length) (hAm : A ≠ m) : hpA (hpA H A m a ++ K) A m b = hpA H A m b ++ K := by
  unfold hpA
  rw [List.set_append_left _ _ (by simpa using hA), List.set_append_left _ _ (by simpa using hm), List.set_comm _ _ (Ne.symm hAm), List.set_set, List.set_set]
theorem hpA_at {H : List Ob} {A m : Nat} {a : Arena} (K : List Ob) (hA : A < H.length) (hm : m < H.length) (hAm : A ≠ m) (hu : a.used.length = 4) (hl : a.live.length = 4) : arenaAt (hpA H A m a ++ K) A m a := by
  refine arena_app ⟨?_, ?_, hu, hl⟩ K
  · unfold hpA
    rw [List.getElem?_set_ne (Ne.symm hAm), List.getElem?_set_self hA]; rfl
  · unfold hpA
    rw [List.getElem?_set_self (by simpa using hm)]
theorem hpA_same {H : List Ob} {A m : Nat} {a : Arena} (h : arenaAt H A m a) : hpA H A m a = H := by
  unfold hpA arC
  rw [set_same h.1, set_same h.2.1]
theorem hpA_lt {H : List Ob} {A m n : Nat} {a : Arena} (hH : HLt n H) (hm : m < n) : HLt n (hpA H A m a) := by
  unfold hpA
  exact HLt_set (HLt_set hH (lt_arC n m a hm)) (lt_encM _ _)
set_option maxHeartbeats 2000000 in
theorem aFree (A m : Nat) (hAm : A ≠ m) : ∀ (k : Nat) (id : Int) (H : List Ob) (a : Arena), arenaAt H A m a → FreeOK a → deepG a k id → SCall Try.prog 53 [.ref A 0, .int .i64 id] H (fun r H' => r = .int .i64 (freeG k a id).2 ∧ H' = hpA H A m (freeG k a id).1) := by
  intro k
  induction k with
  | zero => intro id H a _ _ hd; exact hd.elim
  | succ k ih =>
    intro id H a h hok hd
    have lA := (List.getElem?_eq_some_iff.1 h.1).1
    have lm := (List.getElem?_eq_some_iff.1 h.2.1).1
    by_cases h0 : id = 0
    · rw [freeG_none (.inl h0), hpA_same h]
      have e0 : (id == 0) = true := by simpa using h0
      cases hs : (nget a.nodes id).isSome
      · refine SCall.of_good fun hH => ?_
        have hHk := HLt.add hH
        refine SCall.of_code Tok Try.func53 rfl Try.call53 (n := 53) rfl (by simp) (rs := [.tmp 4]) rfl ?_
        refine EWn.to ?_
        refine EWn.of_c Tok mixed (own := false) keep53 tab53 (by kernel_rfl) ?_
        (repeat simp -dsimp only [zrRem11, xnils, xnilm, xrange, xmakeMap, xslice3, RB, TB, keep53, tab53, xindexAddr, xindex, xslice, xconvert, xlen, ewOp, FreeW, StabW, SameW, ChangeW, AddW, BaseW, limBytes, simprocAttr, ne_eq])
        (refine SCall.then (aHas _ A m a h id) ?_)
        (repeat simp -dsimp only [zrRem11, xnils, xnilm, xrange, xmakeMap, xslice3, hs, e0, RB, TB, keep53, tab53, xindexAddr, xindex, xslice, xconvert, xlen, ewOp, FreeW, StabW, SameW, ChangeW, AddW, BaseW, limBytes, simprocAttr, ne_eq])
        refine RetW.auto0 false _ (by first | rfl | exact (List.append_nil _).symm) ?_ ?_
        · (simp (maxDischargeDepth := 6) [LTB, HLt_set, ltL_take, ltL_drop, ltL_rep, ltL_set, upd, eset, hH, hHk, zlRem11] <;> omega)
        (try simp only [wk, wk1, wk0, RB, limBytes, simprocAttr, ne_eq])
        skip
      · refine SCall.of_good fun hH => ?_
        have hHk := HLt.add hH
        refine SCall.of_code Tok Try.func53 rfl Try.call53 (n := 53) rfl (by simp) (rs := [.tmp 4]) rfl ?_
        refine EWn.to ?_
        refine EWn.of_c Tok mixed (own := false) keep53 tab53 (by kernel_rfl) ?_
        (repeat simp -dsimp only [zrRem11, xnils, xnilm, xrange, xmakeMap, xslice3, RB, TB, keep53, tab53, xindexAddr, xindex, xslice, xconvert, xlen, ewOp, FreeW, StabW, SameW, ChangeW, AddW, BaseW, limBytes, simprocAttr, ne_eq])
        (refine SCall.then (aHas _ A m a h id) ?_)
        (repeat simp -dsimp only [zrRem11, xnils, xnilm, xrange, xmakeMap, xslice3, hs, e0, RB, TB, keep53, tab53, xindexAddr, xindex, xslice, xconvert, xlen, ewOp, FreeW, StabW, SameW, ChangeW, AddW, BaseW, limBytes, simprocAttr, ne_eq])
        refine RetW.auto0 false _ (by first | rfl | exact (List.append_nil _).symm) ?_ ?_
        · (simp (maxDischargeDepth := 6) [LTB, HLt_set, ltL_take, ltL_drop, ltL_rep, ltL_set, upd, eset, hH, hHk, zlRem11] <;> omega)
        (try simp only [wk, wk1, wk0, RB, limBytes, simprocAttr, ne_eq])
        skip
    · cases hx : nget a.nodes id with
      | none =>
        rw [freeG_none (.inr hx), hpA_same h]
        refine SCall.of_good fun hH => ?_
        have hHk := HLt.add hH
        refine SCall.of_code Tok Try.func53 rfl Try.call53 (n := 53) rfl (by simp) (rs := [.tmp 4]) rfl ?_
        refine EWn.to ?_
        refine EWn.of_c Tok mixed (own := false) keep53 tab53 (by kernel_rfl) ?_
        (repeat simp -dsimp only [zrRem11, xnils, xnilm, xrange, xmakeMap, xslice3, RB, TB, keep53, tab53, xindexAddr, xindex, xslice, xconvert, xlen, ewOp, FreeW, StabW, SameW, ChangeW, AddW, BaseW, limBytes, simprocAttr, ne_eq])
        (refine SCall.then (aHas _ A m a h id) ?_)
        (repeat simp -dsimp only [zrRem11, xnils, xnilm, xrange, xmakeMap, xslice3, hx, Option.isSome_none, RB, TB, keep53, tab53, xindexAddr, xindex, xslice, xconvert, xlen, ewOp, FreeW, StabW, SameW, ChangeW, AddW, BaseW, limBytes, simprocAttr, ne_eq])
        refine RetW.auto0 false _ (by first | rfl | exact (List.append_nil _).symm) ?_ ?_
        · (simp (maxDischargeDepth := 6) [LTB, HLt_set, ltL_take, ltL_drop, ltL_rep, ltL_set, upd, eset, hH, hHk, zlRem11] <;> omega)
        (try simp only [wk, wk1, wk0, RB, limBytes, simprocAttr, ne_eq])
        skip
      | some x =>
        rw [freeG_some h0 hx]
        have e0 : (id == 0) = false := by simpa using h0
        obtain ⟨f1, f2, f3⟩ := hok.freed hx
        obtain ⟨s, hs⟩ : ∃ s : Nat → Arena × Int, ∀ i, s i = (x.kids.take i).foldl (stepF k) (freed a id x, 1) := ⟨_, fun _ => rfl⟩
        have s0 : s 0 = (freed a id x, 1) := by rw [hs]; rfl
        have sn : x.kids.foldl (stepF k) (freed a id x, 1) = s x.kids.length := by rw [hs, List.take_length]
        have ss : ∀ i, (hi : i < x.kids.length) → s (i + 1) = stepF k (s i) x.kids[i] := fun i hi => by rw [hs, hs, List.take_succ_eq_append_getElem hi, List.foldl_append]; rfl
        have sok : ∀ i, FreeOK (s i).1 ∧ SubA (s i).1 a ∧ (s i).2 + (s i).1.nodes.length = a.nodes.length ∧ 0 ≤ (s i).2 := fun i => by
          rw [hs]
          exact fold_ok (freeG_ok k) _ _ f1 f2 (by simp only; omega) (by simp)
        have hkid := hd x hx
        have hlen := hok.len
        obtain ⟨p, hp, hpe⟩ := nget_mem hx
        obtain ⟨⟨o1, o2⟩, o3⟩ := hok.own p hp
        rw [hpe] at o1 o2 o3
        rw [sn]
        clear hs sn
        refine SCall.of_good fun hH => ?_
        have hHk := HLt.add hH
        refine SCall.of_code Tok Try.func53 rfl Try.call53 (n := 53) rfl (by simp) (rs := [.tmp 4]) rfl ?_
        refine EWn.to ?_
        have hpl : ∀ (q : Nat) (b : Arena), HLt (H.length + q) (hpA H A m b) := fun q b => hpA_lt (hHk q) (by omega)
        have hpl0 : ∀ (b : Arena), HLt H.length (hpA H A m b) := fun b => hpA_lt hH lm
        refine EWn.cutE Tok mixed (own := false) (κ := (Unit)) keep53 tab53 [(), (), (), (), ()] (fun (_u : (Unit)) => True) (fun (_u : (Unit)) => [(0, .ref A 0), (5, .ref H.length 0), (6, .int .i64 1)]) (fun (_u : (Unit)) => hpA H A m (freed a id x) ++ [.var (nodeV x).cells]) (by simp only [headC]; rfl) (by simp only [tailC]; rfl) (by kernel_rfl) (by kernel_rfl) ?_ ?_ ?_
        · rintro _u hok; exact ⟨by first | (simp; done) | (simp; omega), by (simp (maxDischargeDepth := 6) [LTB, HLt_set, ltL_take, ltL_drop, ltL_rep, ltL_set, upd, eset, hH, hHk, hpl, hpl0, hpA_len, ltL_nodeC, lt_encM, lt_arC, zlRem11] <;> omega), by (simp (maxDischargeDepth := 6) [LTB, HLt_set, ltL_take, ltL_drop, ltL_rep, ltL_set, upd, eset, hH, hHk, hpl, hpl0, hpA_len, ltL_nodeC, lt_encM, lt_arC, zlRem11] <;> omega)⟩
        · have hg := mget_enc id a.nodes
          rw [hx, Option.map_some] at hg
          have hdl := mdel_enc id a.nodes
          obtain ⟨u0, u1, u2, u3, hu⟩ := len4 h.2.2.1
          obtain ⟨l0, l1, l2, l3, hl⟩ := len4 h.2.2.2
          have hA0 := h.1
          rw [hu, hl] at hA0
          have hv0 := hok.live 0 (by omega)
          have hv1 := hok.live 1 (by omega)
          have hv2 := hok.live 2 (by omega)
          have hv3 := hok.live 3 (by omega)
          rw [hl] at hv0 hv1 hv2 hv3
          simp only [List.getD_cons_zero, List.getD_cons_succ] at hv0 hv1 hv2 hv3
          have w0 : IntKind.i64.wrap (l0 - 1) = l0 - 1 := wrapI (by omega)
          have w1 : IntKind.i64.wrap (l1 - 1) = l1 - 1 := wrapI (by omega)
          have w2 : IntKind.i64.wrap (l2 - 1) = l2 - 1 := wrapI (by omega)
          have w3 : IntKind.i64.wrap (l3 - 1) = l3 - 1 := wrapI (by omega)
          have hK : ∀ K, (H ++ K)[A]? = some (.var (.mapr m :: ([u0, u1, u2, u3].map vi ++ [l0, l1, l2, l3].map vi))) := fun K => by rw [List.getElem?_append_left lA]; exact hA0
          have hM : ∀ K, (H ++ K)[m]? = some (.map (encM a.nodes) a.clock) := fun K => (arena_app h K).2.1
          have hsM : ∀ (K : List Ob) (x : Ob), (H ++ K).set m x = H.set m x ++ K := fun K x => List.set_append_left _ _ lm
          have hgA : ∀ (K : List Ob) (x : Ob), (H.set m x ++ K)[A]? = some (.var (.mapr m :: ([u0, u1, u2, u3].map vi ++ [l0, l1, l2, l3].map vi))) := fun K x => by
            rw [List.getElem?_append_left (by simpa using lA), List.getElem?_set_ne (Ne.symm hAm)]; exact hA0
          have hsA : ∀ (K : List Ob) (x y : Ob), (H.set m x ++ K).set A y = (H.set m x).set A y ++ K := fun K x y => List.set_append_left _ _ (by simpa using lA)
          simp only [List.map_cons, List.map_nil, List.cons_append, List.nil_append] at hK hgA hA0
          have hM0 := h.2.1
          have hgH : ∀ (K : List Ob) (x y : Ob), ((H.set m x).set A y ++ K)[H.length]? = K[0]? := fun K x y => by rw [List.getElem?_append_right (by simp)]; simp
          have hend : ∀ (kk : Nat) (L : List Int), x.owner = kk → L = subAt a.live kk → (H.set m (.map (encM (ndel a.nodes id)) a.clock)).set A (.var (.mapr m :: (a.used.map vi ++ L.map vi))) = hpA H A m (freed a id x) := fun kk L e1 e2 => by
            unfold hpA arC freed
            simp only [e1, Int.toNat_natCast, e2]
            rw [List.set_comm _ _ (Ne.symm hAm)]
          rw [hu, hl] at hend
          obtain ⟨kk, hk4, hkk⟩ : ∃ kk : Nat, kk < 4 ∧ x.owner = kk := ⟨x.owner.toNat, by omega, by omega⟩
          (repeat simp -dsimp only [zrRem11, xnils, xnilm, xrange, xmakeMap, xslice3, RB, TB, keep53, tab53, xindexAddr, xindex, xslice, xconvert, xlen, ewOp, FreeW, StabW, SameW, ChangeW, AddW, BaseW, limBytes, simprocAttr, ne_eq])
          (refine SCall.then (aHas _ A m a h id) ?_)
          (repeat (first | simp -dsimp only [zrRem11, xnils, xnilm, xrange, xmakeMap, xslice3, hx, Option.isSome_some, e0, hK, hM, hA0, hM0, hg, hdl, nodeV, hsM, hgA, hsA, hkk, RB, TB, keep53, tab53, xindexAddr, xindex, xslice, xconvert, xlen, ewOp, FreeW, StabW, SameW, ChangeW, AddW, BaseW, limBytes, simprocAttr, ne_eq] | ((with_reducible refine Need.intro ?_ ?_); (omega))))
          have : kk = 0 ∨ kk = 1 ∨ kk = 2 ∨ kk = 3 := by omega
          rcases this with rfl | rfl | rfl | rfl
          · (repeat simp -dsimp only [zrRem11, xnils, xnilm, xrange, xmakeMap, xslice3, hK, hM, hgA, hsA, hgH, w0, vi, RB, TB, keep53, tab53, xindexAddr, xindex, xslice, xconvert, xlen, ewOp, FreeW, StabW, SameW, ChangeW, AddW, BaseW, limBytes, simprocAttr, ne_eq])
            refine UpTo.here ⟨(), trivial, by simp, [], ?_⟩
            rw [← hend 0 [l0 - 1, l1, l2, l3] hkk rfl]
            simp [nodeV, V.cells, hkk, vi]
          · (repeat simp -dsimp only [zrRem11, xnils, xnilm, xrange, xmakeMap, xslice3, hK, hM, hgA, hsA, hgH, w1, vi, RB, TB, keep53, tab53, xindexAddr, xindex, xslice, xconvert, xlen, ewOp, FreeW, StabW, SameW, ChangeW, AddW, BaseW, limBytes, simprocAttr, ne_eq])
            refine UpTo.here ⟨(), trivial, by simp, [], ?_⟩
            rw [← hend 1 [l0, l1 - 1, l2, l3] hkk rfl]
            simp [nodeV, V.cells, hkk, vi]
          · (repeat simp -dsimp only [zrRem11, xnils, xnilm, xrange, xmakeMap, xslice3, hK, hM, hgA, hsA, hgH, w2, vi, RB, TB, keep53, tab53, xindexAddr, xindex, xslice, xconvert, xlen, ewOp, FreeW, StabW, SameW, ChangeW, AddW, BaseW, limBytes, simprocAttr, ne_eq])
            refine UpTo.here ⟨(), trivial, by simp, [], ?_⟩
            rw [← hend 2 [l0, l1, l2 - 1, l3] hkk rfl]
            simp [nodeV, V.cells, hkk, vi]
          · (repeat simp -dsimp only [zrRem11, xnils, xnilm, xrange, xmakeMap, xslice3, hK, hM, hgA, hsA, hgH, w3, vi, RB, TB, keep53, tab53, xindexAddr, xindex, xslice, xconvert, xlen, ewOp, FreeW, StabW, SameW, ChangeW, AddW, BaseW, limBytes, simprocAttr, ne_eq])
            refine UpTo.here ⟨(), trivial, by simp, [], ?_⟩
            rw [← hend 3 [l0, l1, l2, l3 - 1] hkk rfl]
            simp [nodeV, V.cells, hkk, vi]
        have hgH2 : ∀ (K : List Ob) (b : Arena), (hpA H A m b ++ K)[H.length]? = K[0]? := fun K b => by rw [List.getElem?_append_right (by simp)]; simp
        rintro _ _
        refine EWn.of_c Tok mixed (own := false) keep53 tab53 (by kernel_rfl) ?_
        (repeat simp -dsimp only [zrRem11, xnils, xnilm, xrange, xmakeMap, xslice3, nodeV, hgH2, RB, TB, keep53, tab53, xindexAddr, xindex, xslice, xconvert, xlen, ewOp, FreeW, StabW, SameW, ChangeW, AddW, BaseW, limBytes, simprocAttr, ne_eq])
        refine EWn.loopE (ι := (Nat)) (fun (i : (Nat)) => i ≤ x.kids.length) (fun (i : (Nat)) => x.kids.length - i) (fun (i : (Nat)) => [(6, .int .i64 (s i).2), (42, .int .i64 i)]) (fun (i : (Nat)) => hpA H A m (s i).1 ++ [.var (nodeV x).cells]) (0) ?_ ?_ ?_ ?_ ?_
        · first | rfl | (simp [upd, eset]; done) | (simp [upd, eset, s0, nodeV, V.cells]; done)
        · simp [s0, nodeV, V.cells]
        · rintro i hok; exact ⟨by first | (simp; done) | (simp; omega), by (simp (maxDischargeDepth := 6) [LTB, HLt_set, ltL_take, ltL_drop, ltL_rep, ltL_set, upd, eset, hH, hHk, hpl, hpl0, hpA_len, ltL_nodeC, lt_encM, lt_arC, zlRem11] <;> omega), by (simp (maxDischargeDepth := 6) [LTB, HLt_set, ltL_take, ltL_drop, ltL_rep, ltL_set, upd, eset, hH, hHk, hpl, hpl0, hpA_len, ltL_nodeC, lt_encM, lt_arC, zlRem11] <;> omega)⟩
        · omega
        rintro i hi
        have hi1 := sok i
        refine EWn.of_c Tok mixed (own := false) keep53 tab53 (by kernel_rfl) ?_
        (repeat simp -dsimp only [zrRem11, xnils, xnilm, xrange, xmakeMap, xslice3, nodeV, hgH2, RB, TB, keep53, tab53, xindexAddr, xindex, xslice, xconvert, xlen, ewOp, FreeW, StabW, SameW, ChangeW, AddW, BaseW, limBytes, simprocAttr, ne_eq])
        refine IfW.intro (fun h1 => ?_) (fun h1 => ?_)
        · have hlt := lt_of h1
          have hmi := at_map vi x.kids i hlt
          simp only [vi] at hmi
          have hst := ss i hlt
          have hi2 := sok (i + 1)
          have hC : SCall Try.prog 53 [.ref A 0, .int .i64 x.kids[i]] (hpA H A m (s i).1 ++ [.var (nodeV x).cells]) (fun r H' => r = .int .i64 (freeG k (s i).1 x.kids[i]).2 ∧ H' = hpA H A m (s (i + 1)).1 ++ [.var (nodeV x).cells]) := by
            refine SCall.mono (ih x.kids[i] _ (s i).1 (hpA_at _ lA lm hAm hi1.1.ul hi1.1.ll) hi1.1 (hi1.2.1.deep (hkid _ (List.getElem_mem hlt)))) fun r H' h => ⟨h.1, ?_⟩
            rw [h.2, hst, hpA_app _ lA lm hAm]
            rfl
          have hw : (s (i + 1)).2 = (s i).2 + (freeG k (s i).1 x.kids[i]).2 := by rw [hst]; rfl
          generalize x.kids[i] = c at hmi hC hw
          (repeat (first | simp -dsimp only [zrRem11, xnils, xnilm, xrange, xmakeMap, xslice3, h1, hmi, RB, TB, keep53, tab53, xindexAddr, xindex, xslice, xconvert, xlen, ewOp, FreeW, StabW, SameW, ChangeW, AddW, BaseW, limBytes, simprocAttr, ne_eq] | ((with_reducible refine Need.intro ?_ ?_); (omega))))
          simp only [nodeV, V.cells] at hC
          (refine SCall.then (hC) ?_)
          (repeat simp -dsimp only [zrRem11, xnils, xnilm, xrange, xmakeMap, xslice3, RB, TB, keep53, tab53, xindexAddr, xindex, xslice, xconvert, xlen, ewOp, FreeW, StabW, SameW, ChangeW, AddW, BaseW, limBytes, simprocAttr, ne_eq])
          rw [wrapI (by omega)]
          rw [wrapI (by omega)]
          refine UpTo.here ⟨i + 1, hlt, by simp only; omega, by simp [upd, eset, hw], ⟨_, by simp [nodeV, V.cells]; rfl⟩⟩
        · have hi3 : i = x.kids.length := Nat.le_antisymm hi (ge_of h1)
          subst hi3
          (repeat simp -dsimp only [zrRem11, xnils, xnilm, xrange, xmakeMap, xslice3, h1, RB, TB, keep53, tab53, xindexAddr, xindex, xslice, xconvert, xlen, ewOp, FreeW, StabW, SameW, ChangeW, AddW, BaseW, limBytes, simprocAttr, ne_eq])
          refine RetW.cutK false (hpA H A m (s x.kids.length).1) _ (by first | rfl | (simp; done) | (simp; rfl)) (by simp) ?_ ?_ ?_
          · (simp (maxDischargeDepth := 6) [LTB, HLt_set, ltL_take, ltL_drop, ltL_rep, ltL_set, upd, eset, hH, hHk, hpl, hpl0, hpA_len, ltL_nodeC, lt_encM, lt_arC, zlRem11] <;> omega)
          · (simp (maxDischargeDepth := 6) [LTB, HLt_set, ltL_take, ltL_drop, ltL_rep, ltL_set, upd, eset, hH, hHk, hpl, hpl0, hpA_len, ltL_nodeC, lt_encM, lt_arC, zlRem11] <;> omega)
          (try simp only [wk, wk1, wk0, RB, limBytes, simprocAttr, ne_eq])
          skip
end Go.Proofs.Ytjplgbalpnlanaa

/- Arenas that are built node by node: what stands at an id. -/
set_option maxHeartbeats 600000
set_option linter.unusedSimpArgs false
set_option linter.unusedVariables false
set_option maxRecDepth 100000
namespace Go.Proofs.Ytjplgbalpnlanaa
open Go Go.EL
theorem nget_ins {ns : List Ent} {p c : Int} {n m : Node} {q : Nat} (hn : nget ns p = some n) (hm : nget ns c = some m) (hne : p ≠ c) (y : Int) : nget (insAtN ns p c q n m) y = if y = c then some (setN m (parN m p)) else if y = p then some (setN n (kidAt n q c)) else nget ns y := by
  have e1 : nget (nset ns p (setN n (kidAt n q c))) c = some m := by rw [nget_nset, if_neg (fun e => hne e.symm), hm]
  unfold insAtN
  rw [nget_nset]
  by_cases e : y = c
  · rw [if_pos e, if_pos e, e1]; rfl
  · rw [if_neg e, if_neg e, nget_nset]
    by_cases e' : y = p
    · rw [if_pos e', if_pos e', hn]; rfl
    · rw [if_neg e', if_neg e']
theorem nget_made {a : Arena} {k : Nat} {kind : Int} {tag : Str} {key : List UInt8} {slot : Int} (h0 : nget a.nodes (idO a k) = none) (x : Int) : nget (makeA a k kind tag key slot).nodes x = if x = idO a k then some (madeO k (idO a k) kind tag key slot) else nget a.nodes x := by
  show nget (a.nodes ++ [(idO a k, a.clock, madeO k (idO a k) kind tag key slot)]) x = _
  rw [nget_app]
  by_cases e : x = idO a k
  · rw [if_pos e, e, h0]; simp
  · rw [if_neg e]
    cases nget a.nodes x with
    | none => simp [e]
    | some n => simp [e]
def insA (a : Arena) (p c : Int) (q : Nat) (n m : Node) : Arena := { a with nodes := insAtN a.nodes p c q n m }
theorem gInsertA (H K : List Ob) {B i j : Nat} {a : Arena} {ids : List Int} (g : Grown B i j a ids) (hi : i ≤ 1000) (hj : j ≤ 1000) {p c : Int} {n m : Node} (hp : p ∈ ids) (hc : c ∉ ids) (hn : nget a.nodes p = some n) (hm : nget a.nodes c = some m) (hkd : n.kind ≠ 2) (hmp : m.parent = -1) (q : Nat) (hq : q ≤ n.kids.length) (qi : Int) (hqi : qi = q) :
    SCall Try.prog 68 [.ref (H.length + 1) 0, .int .i64 p, .int .i64 qi, .int .i64 c] (H ++ .map (encM a.nodes) a.clock :: .var (arC H.length a) :: K) (fun r H' => r = .int .i64 0 ∧
      H' = H ++ .map (encM (insA a p c q n m).nodes) (insA a p c q n m).clock :: .var (arC H.length (insA a p c q n m)) :: K) := gInsert H K g hi hj hp hc hn hm hkd hmp q hq qi hqi
theorem Grown.freeOK {B i j : Nat} {a : Arena} {ids : List Int} (g : Grown B i j a ids) (hi : i ≤ 1000) (hj : j ≤ 1000) : FreeOK a where
  ul := g.ul
  ll := g.ll
  keys := g.nd
  own := fun p hp => ⟨g.own p hp, by have := (g.kids p.1 _ (nget_of_mem g.nd hp)).2.1; omega⟩
  live := fun k hk => by have := g.live k hk; have := g.len; omega
  len := by have := g.len; omega
theorem FreeOK.set {a : Arena} (h : FreeOK a) {x : Int} {n m : Node} (hn : nget a.nodes x = some n) (how : m.owner = n.owner) (hk : m.kids.length ≤ 1000000) : FreeOK { a with nodes := nset a.nodes x m } := by
  have hmem : ∀ {l : List Ent} {p : Ent}, p ∈ nset l x m → (p ∈ l) ∨ p.2.2 = m := by
    intro l
    induction l with
    | nil => intro p hp; simp [nset] at hp
    | cons q l ih =>
      intro p hp
      simp only [nset] at hp
      by_cases e : x = q.1
      · rw [if_pos e] at hp
        rcases List.mem_cons.1 hp with rfl | hp
        · exact .inr rfl
        · exact .inl (by simp [hp])
      · rw [if_neg e] at hp
        rcases List.mem_cons.1 hp with rfl | hp
        · exact .inl (by simp)
        · rcases ih hp with h | h
          · exact .inl (by simp [h])
          · exact .inr h
  have hlen : ∀ l : List Ent, (nset l x m).length = l.length := by
    intro l
    induction l with
    | nil => rfl
    | cons q l ih => simp only [nset]; split <;> simp [ih]
  obtain ⟨t, ht, hte⟩ := nget_mem hn
  refine ⟨h.ul, h.ll, by show ((nset a.nodes x m).map (·.1)).Nodup; rw [nset_keys]; exact h.keys, ?_, ?_, by show (nset a.nodes x m).length ≤ _; rw [hlen]; exact h.len⟩
  · intro p hp
    rcases hmem hp with hp | hp
    · exact h.own p hp
    · rw [hp]
      exact ⟨by rw [how, ← hte]; exact (h.own t ht).1, hk⟩
  · intro k hk4
    show -1000000000 + ((nset a.nodes x m).length : Int) ≤ _ ∧ _
    rw [hlen]
    exact h.live k hk4
end Go.Proofs.Ytjplgbalpnlanaa

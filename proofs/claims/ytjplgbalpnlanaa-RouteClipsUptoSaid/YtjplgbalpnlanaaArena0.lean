/- The walks of package arena: nodes, own, slices.Clone, is, New. -/
import Derived.Test.YtjplgbalpnlanaaAttrs1
set_option maxHeartbeats 600000
set_option linter.unusedSimpArgs false
set_option linter.unusedVariables false
set_option maxRecDepth 100000
namespace Go.Proofs.Ytjplgbalpnlanaa
open Go Go.EL
theorem zrArena01 : type_of% (And.intro (And.intro (And.intro (And.intro (@st_run) (@sz_run)) (And.intro (@st1_run) (@cl_run))) (And.intro (And.intro (@st_Str) (@sz_Str)) (And.intro (@st1_Str) (@cl_Str)))) (And.intro (And.intro (And.intro (@st_c) (@sz_c)) (And.intro (@st1_c) (@cl_c))) (And.intro (And.intro (@st_attr) (@sz_attr)) (And.intro (@st1_attr) (@cl_attr))))) := And.intro (And.intro (And.intro (And.intro (@st_run) (@sz_run)) (And.intro (@st1_run) (@cl_run))) (And.intro (And.intro (@st_Str) (@sz_Str)) (And.intro (@st1_Str) (@cl_Str)))) (And.intro (And.intro (And.intro (@st_c) (@sz_c)) (And.intro (@st1_c) (@cl_c))) (And.intro (And.intro (@st_attr) (@sz_attr)) (And.intro (@st1_attr) (@cl_attr))))
theorem zlArena01 : type_of% (And.intro (And.intro (And.intro (And.intro (@lt_vi) (@lt_str)) (And.intro (@lt_vb) (@ltc_str))) (And.intro (And.intro (@ltc_vi) (@lt_run)) (And.intro (@lt1_run) (@ltc_run)))) (And.intro (And.intro (And.intro (@lt_Str) (@lt1_Str)) (And.intro (@ltc_Str) (@lt_c))) (And.intro (And.intro (@lt1_c) (@ltc_c)) (And.intro (@lt_attr) (And.intro (@lt1_attr) (@ltc_attr)))))) := And.intro (And.intro (And.intro (And.intro (@lt_vi) (@lt_str)) (And.intro (@lt_vb) (@ltc_str))) (And.intro (And.intro (@ltc_vi) (@lt_run)) (And.intro (@lt1_run) (@ltc_run)))) (And.intro (And.intro (And.intro (@lt_Str) (@lt1_Str)) (And.intro (@ltc_Str) (@lt_c))) (And.intro (And.intro (@lt1_c) (@ltc_c)) (And.intro (@lt_attr) (And.intro (@lt1_attr) (@ltc_attr)))))
structure Hook where
  ev : Int
  cap : Bool
  nm : Int
structure Node where
  id : Int
  owner : Int
  parent : Int
  kind : Int
  tag : Str
  key : List UInt8
  slot : Int
  attrs : List Attr
  hooks : List Hook
  kids : List Int
  text : Str
def hookV (h : Hook) : V := .agg [.int .i64 h.ev, .bool h.cap, .int .i64 h.nm]
theorem lt_hook (n : Nat) (l : List (Hook)) : ltL n (l.map hookV) := ltL_map (f := hookV) (fun _ => by simp [hookV, V.lt, ltL]) l
theorem lt1_hook (n : Nat) (x : Hook) : V.lt n (hookV x) := by simp [hookV, V.lt, ltL]
theorem ltc_hook {α : Type} (n : Nat) (g : α → Hook) (l : List α) : ltL n (l.map (hookV ∘ g)) := ltL_map (f := hookV ∘ g) (fun x => lt1_hook n (g x)) l
theorem st_hook (l : List (Hook)) : (∀ x, x ∈ l.map hookV → x.storable) = True := eq_true (storable_map (f := hookV) (fun _ => trivial) l)
theorem sz_hook (l : List (Hook)) : Sized 3 (l.map hookV) = True := eq_true (sizedMapV (f := hookV) (fun _ => rfl) l)
theorem st1_hook (x : Hook) : (hookV x).storable = True := eq_true trivial
theorem cl_hook (x : Hook) : (hookV x).cells.length = 3 := rfl

def nodeV (n : Node) : V := .agg [.int .i64 n.id, .int .i64 n.owner, .int .i64 n.parent, .int .i64 n.kind, .str n.tag.text, .slice (n.tag.runs.map runV), .str n.key, .int .i64 n.slot, .slice (n.attrs.map attrV), .slice (n.hooks.map hookV), .slice (n.kids.map vi), .str n.text.text, .slice (n.text.runs.map runV)]
theorem lt_node (n : Nat) (l : List (Node)) : ltL n (l.map nodeV) := ltL_map (f := nodeV) (fun _ => by simp [nodeV, V.lt, ltL, lt_run, lt_attr, lt_hook, lt_vi]) l
theorem lt1_node (n : Nat) (x : Node) : V.lt n (nodeV x) := by simp [nodeV, V.lt, ltL, lt_run, lt_attr, lt_hook, lt_vi]
theorem ltc_node {α : Type} (n : Nat) (g : α → Node) (l : List α) : ltL n (l.map (nodeV ∘ g)) := ltL_map (f := nodeV ∘ g) (fun x => lt1_node n (g x)) l
theorem st_node (l : List (Node)) : (∀ x, x ∈ l.map nodeV → x.storable) = True := eq_true (storable_map (f := nodeV) (fun _ => trivial) l)
theorem sz_node (l : List (Node)) : Sized 13 (l.map nodeV) = True := eq_true (sizedMapV (f := nodeV) (fun _ => rfl) l)
theorem st1_node (x : Node) : (nodeV x).storable = True := eq_true trivial
theorem cl_node (x : Node) : (nodeV x).cells.length = 13 := rfl

def ownN (n : Node) : Node := { n with tag := fixS n.tag, text := fixS n.text, attrs := n.attrs.map ownA }
def okN (n : Node) : Prop := okS n.tag ∧ okS n.text ∧ (∀ a ∈ n.attrs, okA a) ∧ n.attrs.length ≤ 1000000000000 ∧ n.hooks.length ≤ 1000000000000 ∧ n.kids.length ≤ 1000000000000
theorem cloneH (H : List Ob) (l : List Hook) (hl : l.length ≤ 1000000000000) : SCall Try.prog 112 [.slice (l.map hookV)] H (fun r H' => r = .slice (l.map hookV) ∧ H' = H) := by
  refine SCall.of_good fun hH => ?_
  have hHk := HLt.add hH
  refine SCall.of_code Tok Try.func112 rfl Try.call112 (n := 8) rfl (by simp) (rs := [.tmp 2]) rfl ?_
  refine EWn.to ?_
  refine EWn.of_c Tok mixed (own := false) keep112 tab112 (by kernel_rfl) ?_
  (repeat (first | simp -dsimp only [zrArena01, st_hook, sz_hook, st1_hook, cl_hook, st_node, sz_node, st1_node, cl_node, xnils, xnilm, xrange, xmakeMap, RB, TB, keep112, tab112, xindexAddr, xindex, xslice, xconvert, xlen, ewOp, FreeW, StabW, SameW, ChangeW, AddW, BaseW, limBytes, simprocAttr, ne_eq] | ((with_reducible refine Need.intro ?_ ?_); (first | trivial | exact ⟨_, rfl⟩ | exact ⟨[], (List.append_nil _).symm⟩ | omega | (simp; done) | (simp; omega) | exact ⟨by first | trivial | (simp; done), _, by first | rfl | (simp; rfl)⟩))))
  refine AnyB.intro fun b hb => ?_
  (repeat (first | simp -dsimp only [zrArena01, st_hook, sz_hook, st1_hook, cl_hook, st_node, sz_node, st1_node, cl_node, xnils, xnilm, xrange, xmakeMap, RB, TB, keep112, tab112, xindexAddr, xindex, xslice, xconvert, xlen, ewOp, FreeW, StabW, SameW, ChangeW, AddW, BaseW, limBytes, simprocAttr, ne_eq] | ((with_reducible refine Need.intro ?_ ?_); (first | trivial | exact ⟨_, rfl⟩ | exact ⟨[], (List.append_nil _).symm⟩ | omega | (simp; done) | (simp; omega) | exact ⟨by first | trivial | (simp; done), _, by first | rfl | (simp; rfl)⟩))))
  refine IfW.intro (fun h => ?_) (fun h => ?_)
  · subst h
    have h0 : l = [] := by cases l with
      | nil => rfl
      | cons x l => exact absurd (hb (by simp)) (by simp)
    subst h0
    (repeat (first | simp -dsimp only [zrArena01, st_hook, sz_hook, st1_hook, cl_hook, st_node, sz_node, st1_node, cl_node, xnils, xnilm, xrange, xmakeMap, RB, TB, keep112, tab112, xindexAddr, xindex, xslice, xconvert, xlen, ewOp, FreeW, StabW, SameW, ChangeW, AddW, BaseW, limBytes, simprocAttr, ne_eq] | ((with_reducible refine Need.intro ?_ ?_); (first | trivial | exact ⟨_, rfl⟩ | exact ⟨[], (List.append_nil _).symm⟩ | omega | (simp; done) | (simp; omega) | exact ⟨by first | trivial | (simp; done), _, by first | rfl | (simp; rfl)⟩))))
    refine RetW.auto0 false _ (by first | rfl | exact (List.append_nil _).symm) ?_ ?_
    · (simp (maxDischargeDepth := 6) [LTB, HLt_set, ltL_take, ltL_drop, ltL_rep, ltL_set, upd, eset, hH, hHk, zlArena01, lt_hook, lt1_hook, ltc_hook, lt_node, lt1_node, ltc_node] <;> omega)
    (try simp only [wk, wk1, wk0, RB, limBytes, simprocAttr, ne_eq])
    (try (rw [List.take_of_length_le]; rotate_left 1; (· first | (simp; done) | (simp; omega) | omega)))
  · subst h
    (repeat (first | simp -dsimp only [zrArena01, st_hook, sz_hook, st1_hook, cl_hook, st_node, sz_node, st1_node, cl_node, xnils, xnilm, xrange, xmakeMap, RB, TB, keep112, tab112, xindexAddr, xindex, xslice, xconvert, xlen, ewOp, FreeW, StabW, SameW, ChangeW, AddW, BaseW, limBytes, simprocAttr, ne_eq] | ((with_reducible refine Need.intro ?_ ?_); (first | trivial | exact ⟨_, rfl⟩ | exact ⟨[], (List.append_nil _).symm⟩ | omega | (simp; done) | (simp; omega) | exact ⟨by first | trivial | (simp; done), _, by first | rfl | (simp; rfl)⟩))))
    refine RetW.auto0 false _ (by first | rfl | exact (List.append_nil _).symm) ?_ ?_
    · (simp (maxDischargeDepth := 6) [LTB, HLt_set, ltL_take, ltL_drop, ltL_rep, ltL_set, upd, eset, hH, hHk, zlArena01, lt_hook, lt1_hook, ltc_hook, lt_node, lt1_node, ltc_node] <;> omega)
    (try simp only [wk, wk1, wk0, RB, limBytes, simprocAttr, ne_eq])
    (try (rw [List.take_of_length_le]; rotate_left 1; (· first | (simp; done) | (simp; omega) | omega)))
theorem cloneI (H : List Ob) (l : List Int) (hl : l.length ≤ 1000000000000) : SCall Try.prog 161 [.slice (l.map vi)] H (fun r H' => r = .slice (l.map vi) ∧ H' = H) := by
  refine SCall.of_good fun hH => ?_
  have hHk := HLt.add hH
  refine SCall.of_code Tok Try.func161 rfl Try.call161 (n := 8) rfl (by simp) (rs := [.tmp 2]) rfl ?_
  refine EWn.to ?_
  refine EWn.of_c Tok mixed (own := false) keep161 tab161 (by kernel_rfl) ?_
  (repeat (first | simp -dsimp only [zrArena01, st_hook, sz_hook, st1_hook, cl_hook, st_node, sz_node, st1_node, cl_node, xnils, xnilm, xrange, xmakeMap, RB, TB, keep161, tab161, xindexAddr, xindex, xslice, xconvert, xlen, ewOp, FreeW, StabW, SameW, ChangeW, AddW, BaseW, limBytes, simprocAttr, ne_eq] | ((with_reducible refine Need.intro ?_ ?_); (first | trivial | exact ⟨_, rfl⟩ | exact ⟨[], (List.append_nil _).symm⟩ | omega | (simp; done) | (simp; omega) | exact ⟨by first | trivial | (simp; done), _, by first | rfl | (simp; rfl)⟩))))
  refine AnyB.intro fun b hb => ?_
  (repeat (first | simp -dsimp only [zrArena01, st_hook, sz_hook, st1_hook, cl_hook, st_node, sz_node, st1_node, cl_node, xnils, xnilm, xrange, xmakeMap, RB, TB, keep161, tab161, xindexAddr, xindex, xslice, xconvert, xlen, ewOp, FreeW, StabW, SameW, ChangeW, AddW, BaseW, limBytes, simprocAttr, ne_eq] | ((with_reducible refine Need.intro ?_ ?_); (first | trivial | exact ⟨_, rfl⟩ | exact ⟨[], (List.append_nil _).symm⟩ | omega | (simp; done) | (simp; omega) | exact ⟨by first | trivial | (simp; done), _, by first | rfl | (simp; rfl)⟩))))
  refine IfW.intro (fun h => ?_) (fun h => ?_)
  · subst h
    have h0 : l = [] := by cases l with
      | nil => rfl
      | cons x l => exact absurd (hb (by simp)) (by simp)
    subst h0
    (repeat (first | simp -dsimp only [zrArena01, st_hook, sz_hook, st1_hook, cl_hook, st_node, sz_node, st1_node, cl_node, xnils, xnilm, xrange, xmakeMap, RB, TB, keep161, tab161, xindexAddr, xindex, xslice, xconvert, xlen, ewOp, FreeW, StabW, SameW, ChangeW, AddW, BaseW, limBytes, simprocAttr, ne_eq] | ((with_reducible refine Need.intro ?_ ?_); (first | trivial | exact ⟨_, rfl⟩ | exact ⟨[], (List.append_nil _).symm⟩ | omega | (simp; done) | (simp; omega) | exact ⟨by first | trivial | (simp; done), _, by first | rfl | (simp; rfl)⟩))))
    refine RetW.auto0 false _ (by first | rfl | exact (List.append_nil _).symm) ?_ ?_
    · (simp (maxDischargeDepth := 6) [LTB, HLt_set, ltL_take, ltL_drop, ltL_rep, ltL_set, upd, eset, hH, hHk, zlArena01, lt_hook, lt1_hook, ltc_hook, lt_node, lt1_node, ltc_node] <;> omega)
    (try simp only [wk, wk1, wk0, RB, limBytes, simprocAttr, ne_eq])
    (try (rw [List.take_of_length_le]; rotate_left 1; (· first | (simp; done) | (simp; omega) | omega)))
  · subst h
    (repeat (first | simp -dsimp only [zrArena01, st_hook, sz_hook, st1_hook, cl_hook, st_node, sz_node, st1_node, cl_node, xnils, xnilm, xrange, xmakeMap, RB, TB, keep161, tab161, xindexAddr, xindex, xslice, xconvert, xlen, ewOp, FreeW, StabW, SameW, ChangeW, AddW, BaseW, limBytes, simprocAttr, ne_eq] | ((with_reducible refine Need.intro ?_ ?_); (first | trivial | exact ⟨_, rfl⟩ | exact ⟨[], (List.append_nil _).symm⟩ | omega | (simp; done) | (simp; omega) | exact ⟨by first | trivial | (simp; done), _, by first | rfl | (simp; rfl)⟩))))
    refine RetW.auto0 false _ (by first | rfl | exact (List.append_nil _).symm) ?_ ?_
    · (simp (maxDischargeDepth := 6) [LTB, HLt_set, ltL_take, ltL_drop, ltL_rep, ltL_set, upd, eset, hH, hHk, zlArena01, lt_hook, lt1_hook, ltc_hook, lt_node, lt1_node, ltc_node] <;> omega)
    (try simp only [wk, wk1, wk0, RB, limBytes, simprocAttr, ne_eq])
    (try (rw [List.take_of_length_le]; rotate_left 1; (· first | (simp; done) | (simp; omega) | omega)))
/-- a node; its kids are a list of the caller's own -/
def nodeK (n : Node) (o v : Nat) : V := .agg [.int .i64 n.id, .int .i64 n.owner, .int .i64 n.parent, .int .i64 n.kind, .str n.tag.text, .slice (n.tag.runs.map runV), .str n.key, .int .i64 n.slot, .slice (n.attrs.map attrV), .slice (n.hooks.map hookV), .vec o v 0 n.kids.length, .str n.text.text, .slice (n.text.runs.map runV)]
/-- what a call answers, after a ghost step -/
theorem _root_.Go.EL.SCall.ghoE {f : FuncId} {args : List V} {H : List Ob} {R R2 : V → List Ob → Prop} (h : SCall Try.prog f args H R) (hg : ∀ r H', R r H' → ∃ r2 H2, Gho H.length [(0, r)] H' [(0, r2)] H2 ∧ R2 r2 H2) : SCall Try.prog f args H R2 := by
  intro g w cargs hG ha
  refine (h g w cargs hG ha).mono fun cv w' ⟨r, H', g', k1, k2, k3, hr⟩ => ?_
  obtain ⟨r2, H2, hh, h2⟩ := hg r H' hr
  obtain ⟨g2, j1, j2, j3⟩ := hh g' w' k1
  refine ⟨r2, H2, g2, j1, j2 _ _ k2, ?_, h2⟩
  have := j3 0 cv (by simpa [eget] using k3)
  simpa [eget] using this
theorem cloneIV0 (H : List Ob) (l : List Int) (hl : l.length ≤ 1000000000000) : SCall Try.prog 161 [.slice (l.map vi)] H (fun r H' => (l = [] ∧ r = .fslice [] ∧ H' = H) ∨ (r = .vec H.length 1 0 l.length ∧ H' = H ++ [.vec 1 1 (l.map vi)])) := by
  refine SCall.of_good fun hH => ?_
  have hHk := HLt.add hH
  refine SCall.of_code Tok Try.func161 rfl Try.call161 (n := 8) rfl (by simp) (rs := [.tmp 2]) rfl ?_
  refine EWn.to ?_
  refine EWn.of_c Tok mixed (own := false) keep161 tab161 (by kernel_rfl) ?_
  (repeat (first | simp -dsimp only [zrArena01, st_hook, sz_hook, st1_hook, cl_hook, st_node, sz_node, st1_node, cl_node, xnils, xnilm, xrange, xmakeMap, RB, TB, keep161, tab161, xindexAddr, xindex, xslice, xconvert, xlen, ewOp, FreeW, StabW, SameW, ChangeW, AddW, BaseW, limBytes, simprocAttr, ne_eq] | ((with_reducible refine Need.intro ?_ ?_); (first | trivial | exact ⟨_, rfl⟩ | exact ⟨[], (List.append_nil _).symm⟩ | omega | (simp; done) | (simp; omega) | exact ⟨by first | trivial | (simp; done), _, by first | rfl | (simp; rfl)⟩))))
  refine AnyB.intro fun b hb => ?_
  (repeat (first | simp -dsimp only [zrArena01, st_hook, sz_hook, st1_hook, cl_hook, st_node, sz_node, st1_node, cl_node, xnils, xnilm, xrange, xmakeMap, RB, TB, keep161, tab161, xindexAddr, xindex, xslice, xconvert, xlen, ewOp, FreeW, StabW, SameW, ChangeW, AddW, BaseW, limBytes, simprocAttr, ne_eq] | ((with_reducible refine Need.intro ?_ ?_); (first | trivial | exact ⟨_, rfl⟩ | exact ⟨[], (List.append_nil _).symm⟩ | omega | (simp; done) | (simp; omega) | exact ⟨by first | trivial | (simp; done), _, by first | rfl | (simp; rfl)⟩))))
  refine IfW.intro (fun h => ?_) (fun h => ?_)
  · subst h
    have h0 : l = [] := by cases l with
      | nil => rfl
      | cons x l => exact absurd (hb (by simp)) (by simp)
    subst h0
    (repeat (first | simp -dsimp only [zrArena01, st_hook, sz_hook, st1_hook, cl_hook, st_node, sz_node, st1_node, cl_node, xnils, xnilm, xrange, xmakeMap, RB, TB, keep161, tab161, xindexAddr, xindex, xslice, xconvert, xlen, ewOp, FreeW, StabW, SameW, ChangeW, AddW, BaseW, limBytes, simprocAttr, ne_eq] | ((with_reducible refine Need.intro ?_ ?_); (first | trivial | exact ⟨_, rfl⟩ | exact ⟨[], (List.append_nil _).symm⟩ | omega | (simp; done) | (simp; omega) | exact ⟨by first | trivial | (simp; done), _, by first | rfl | (simp; rfl)⟩))))
    refine RetW.auto0 true _ (by first | rfl | exact (List.append_nil _).symm) ?_ ?_
    · (simp (maxDischargeDepth := 6) [LTB, HLt_set, ltL_take, ltL_drop, ltL_rep, ltL_set, upd, eset, hH, hHk, zlArena01, lt_hook, lt1_hook, ltc_hook, lt_node, lt1_node, ltc_node] <;> omega)
    (try simp only [wk, wk1, wk0, RB, if_true, limBytes, simprocAttr, ne_eq])
    (try (rw [List.take_of_length_le]; rotate_left 1; (· first | (simp; done) | (simp; omega) | omega)))
  · subst h
    (repeat (first | simp -dsimp only [zrArena01, st_hook, sz_hook, st1_hook, cl_hook, st_node, sz_node, st1_node, cl_node, xnils, xnilm, xrange, xmakeMap, RB, TB, keep161, tab161, xindexAddr, xindex, xslice, xconvert, xlen, ewOp, FreeW, StabW, SameW, ChangeW, AddW, BaseW, limBytes, simprocAttr, ne_eq] | ((with_reducible refine Need.intro ?_ ?_); (first | trivial | exact ⟨_, rfl⟩ | exact ⟨[], (List.append_nil _).symm⟩ | omega | (simp; done) | (simp; omega) | exact ⟨by first | trivial | (simp; done), _, by first | rfl | (simp; rfl)⟩))))
    refine RetW.auto false [.vec 1 1 (l.map vi)] _ (by first | rfl | simp) ?_ ?_ ?_
    · (simp (maxDischargeDepth := 6) [LTB, HLt_set, ltL_take, ltL_drop, ltL_rep, ltL_set, upd, eset, hH, hHk, zlArena01, lt_hook, lt1_hook, ltc_hook, lt_node, lt1_node, ltc_node] <;> omega)
    · (simp (maxDischargeDepth := 6) [LTB, HLt_set, ltL_take, ltL_drop, ltL_rep, ltL_set, upd, eset, hH, hHk, zlArena01, lt_hook, lt1_hook, ltc_hook, lt_node, lt1_node, ltc_node] <;> omega)
    (try simp only [wk, wk1, wk0, RB, limBytes, simprocAttr, ne_eq])
    (try (rw [List.take_of_length_le]; rotate_left 1; (· first | (simp; done) | (simp; omega) | omega)))
    first | (simp; done) | (refine .inr ⟨?_, ?_⟩ <;> simp; done) | trace_state
theorem cloneIV (H : List Ob) (l : List Int) (hl : l.length ≤ 1000000000000) : SCall Try.prog 161 [.slice (l.map vi)] H (fun r H' => r = .vec H.length 1 0 l.length ∧ H' = H ++ [.vec 1 1 (l.map vi)]) := by
  refine (cloneIV0 H l hl).ghoE fun r H' h => ?_
  rcases h with ⟨rfl, rfl, rfl⟩ | ⟨rfl, rfl⟩
  · refine ⟨_, _, Gho.adopt (n0 := H'.length) (env := [(0, .fslice [])]) 0 1 rfl, And.intro rfl rfl⟩
  · exact ⟨_, _, Gho.refl _ _ _, And.intro rfl rfl⟩
theorem aOwnV0 (H : List Ob) (n : Node) (hn : okN n) : SCall Try.prog 115 [nodeV n] H (fun r H' => ∃ L v, r = .agg [.int .i64 n.id, .int .i64 n.owner, .int .i64 n.parent, .int .i64 n.kind, .str (fixS n.tag).text, .slice ((fixS n.tag).runs.map runV), .str n.key, .int .i64 n.slot, .vec (H.length + 3) v 0 n.attrs.length, .slice (n.hooks.map hookV), .vec (H.length + 2) 1 0 n.kids.length, .str (fixS n.text).text, .slice ((fixS n.text).runs.map runV)] ∧ H' = H ++ L ∧ L[2]? = some (.vec 1 1 (n.kids.map vi)) ∧ L[3]? = some (.vec v 4 ((n.attrs.map ownA).map attrV))) := by
  obtain ⟨h1, h2, h3, h4, h5, h6⟩ := hn
  unfold nodeV
  refine SCall.of_good fun hH => ?_
  have hHk := HLt.add hH
  refine SCall.of_code Tok Try.func115 rfl Try.call115 (n := 43) rfl (by simp) (rs := [.cell 2 60]) rfl ?_
  refine EWn.to ?_
  refine EWn.of_c Tok mixed (own := false) keep115 tab115 (by kernel_rfl) ?_
  (repeat (first | simp -dsimp only [zrArena01, st_hook, sz_hook, st1_hook, cl_hook, st_node, sz_node, st1_node, cl_node, xnils, xnilm, xrange, xmakeMap, RB, TB, keep115, tab115, xindexAddr, xindex, xslice, xconvert, xlen, ewOp, FreeW, StabW, SameW, ChangeW, AddW, BaseW, limBytes, simprocAttr, ne_eq] | ((with_reducible refine Need.intro ?_ ?_); (first | trivial | exact ⟨_, rfl⟩ | exact ⟨[], (List.append_nil _).symm⟩ | omega | (simp; done) | (simp; omega) | exact ⟨by first | trivial | (simp; done), _, by first | rfl | (simp; rfl)⟩))))
  (first | refine SCall.then (mFix _ n.tag h1) ?_ | refine SCall.thenA (mFix _ n.tag h1) (by repeat (first | exact trivial | exact .inl (.inl rfl) | exact .inl (.inr ⟨_, rfl, rfl⟩) | exact .inl rfl | exact .inr ⟨_, rfl, rfl⟩ | refine .inr ⟨_, _, rfl, rfl, ?_⟩ | refine ⟨?_, ?_⟩)) ?_ | refine CallE.intro _ (mFix _ n.tag h1) ?_ | refine CallE.introA (mFix _ n.tag h1) (by repeat (first | exact trivial | exact .inl (.inl rfl) | exact .inl (.inr ⟨_, rfl, rfl⟩) | exact .inl rfl | exact .inr ⟨_, rfl, rfl⟩ | refine .inr ⟨_, _, rfl, rfl, ?_⟩ | refine ⟨?_, ?_⟩)) ?_ | refine CallE.intro _ (fun _ => mFix _ n.tag h1) ?_ | refine CallE.intro _ (fun _ => SCall.arg (by repeat (first | exact trivial | exact .inl (.inl rfl) | exact .inl (.inr ⟨_, rfl, rfl⟩) | exact .inl rfl | exact .inr ⟨_, rfl, rfl⟩ | refine .inr ⟨_, _, rfl, rfl, ?_⟩ | refine ⟨?_, ?_⟩)) (mFix _ n.tag h1)) ?_ | refine CallE2.intro _ _ (mFix _ n.tag h1) ?_ | refine CallE2.intro _ _ (SCall.arg (by repeat (first | exact trivial | exact .inl (.inl rfl) | exact .inl (.inr ⟨_, rfl, rfl⟩) | exact .inl rfl | exact .inr ⟨_, rfl, rfl⟩ | refine .inr ⟨_, _, rfl, rfl, ?_⟩ | refine ⟨?_, ?_⟩)) (mFix _ n.tag h1)) ?_)
  (repeat (first | simp -dsimp only [zrArena01, st_hook, sz_hook, st1_hook, cl_hook, st_node, sz_node, st1_node, cl_node, xnils, xnilm, xrange, xmakeMap, strV, RB, TB, keep115, tab115, xindexAddr, xindex, xslice, xconvert, xlen, ewOp, FreeW, StabW, SameW, ChangeW, AddW, BaseW, limBytes, simprocAttr, ne_eq] | ((with_reducible refine Need.intro ?_ ?_); (first | trivial | exact ⟨_, rfl⟩ | exact ⟨[], (List.append_nil _).symm⟩ | omega | (simp; done) | (simp; omega) | exact ⟨by first | trivial | (simp; done), _, by first | rfl | (simp; rfl)⟩))))
  (first | refine SCall.then (mFix _ n.text h2) ?_ | refine SCall.thenA (mFix _ n.text h2) (by repeat (first | exact trivial | exact .inl (.inl rfl) | exact .inl (.inr ⟨_, rfl, rfl⟩) | exact .inl rfl | exact .inr ⟨_, rfl, rfl⟩ | refine .inr ⟨_, _, rfl, rfl, ?_⟩ | refine ⟨?_, ?_⟩)) ?_ | refine CallE.intro _ (mFix _ n.text h2) ?_ | refine CallE.introA (mFix _ n.text h2) (by repeat (first | exact trivial | exact .inl (.inl rfl) | exact .inl (.inr ⟨_, rfl, rfl⟩) | exact .inl rfl | exact .inr ⟨_, rfl, rfl⟩ | refine .inr ⟨_, _, rfl, rfl, ?_⟩ | refine ⟨?_, ?_⟩)) ?_ | refine CallE.intro _ (fun _ => mFix _ n.text h2) ?_ | refine CallE.intro _ (fun _ => SCall.arg (by repeat (first | exact trivial | exact .inl (.inl rfl) | exact .inl (.inr ⟨_, rfl, rfl⟩) | exact .inl rfl | exact .inr ⟨_, rfl, rfl⟩ | refine .inr ⟨_, _, rfl, rfl, ?_⟩ | refine ⟨?_, ?_⟩)) (mFix _ n.text h2)) ?_ | refine CallE2.intro _ _ (mFix _ n.text h2) ?_ | refine CallE2.intro _ _ (SCall.arg (by repeat (first | exact trivial | exact .inl (.inl rfl) | exact .inl (.inr ⟨_, rfl, rfl⟩) | exact .inl rfl | exact .inr ⟨_, rfl, rfl⟩ | refine .inr ⟨_, _, rfl, rfl, ?_⟩ | refine ⟨?_, ?_⟩)) (mFix _ n.text h2)) ?_)
  (repeat (first | simp -dsimp only [zrArena01, st_hook, sz_hook, st1_hook, cl_hook, st_node, sz_node, st1_node, cl_node, xnils, xnilm, xrange, xmakeMap, strV, RB, TB, keep115, tab115, xindexAddr, xindex, xslice, xconvert, xlen, ewOp, FreeW, StabW, SameW, ChangeW, AddW, BaseW, limBytes, simprocAttr, ne_eq] | ((with_reducible refine Need.intro ?_ ?_); (first | trivial | exact ⟨_, rfl⟩ | exact ⟨[], (List.append_nil _).symm⟩ | omega | (simp; done) | (simp; omega) | exact ⟨by first | trivial | (simp; done), _, by first | rfl | (simp; rfl)⟩))))
  refine ⟨fun i_ => match i_ with
    | 0 => .ref H.length 9
    | 1 => .slice (n.hooks.map hookV)
    | 2 => .slice (n.hooks.map hookV)
    | 3 => .ref H.length 10
    | 4 => .slice (n.kids.map vi)
    | 5 => .vec (H.length + 2) 1 0 n.kids.length
    | 6 => .ref H.length 9
    | 8 => .ref H.length 10
    | _ => .dead, fun fl => H ++ (.var [.int .i64 n.id, .int .i64 n.owner, .int .i64 n.parent, .int .i64 n.kind, .str (fixS n.tag).text, .slice ((fixS n.tag).runs.map runV), .str n.key, .int .i64 n.slot, .slice (n.attrs.map attrV), .slice (n.hooks.map hookV), if fl 9 = true then .vec (H.length + 2) 1 0 n.kids.length else .slice (n.kids.map vi), .str (fixS n.text).text, .slice ((fixS n.text).runs.map runV)] :: .var [.int .i64 0, .int .i64 0, .int .i64 0, .int .i64 0, .str [], .fslice [], .str [], .int .i64 0, .fslice [], .fslice [], .fslice [], .str [], .fslice []] :: (if fl 5 = true then [.vec 1 1 (n.kids.map vi)] else [])), ?_, ?_, ?_, ?_⟩
  · simp
  · intro fl fl' hfl
    simp only [hfl 5 (by simp), hfl 9 (by simp)]
  · intro i_ o hi fl hcl hil hed
    have q9 := hcl 9 _ rfl
    simp [Region.binds] at q9
    match i_, hi, hil, hed with
    | 0, hi, hil, hed =>
      simp only [List.getElem?_cons_zero, List.getElem?_cons_succ, Option.some.injEq] at hi
      subst hi
      (repeat (first | simp -dsimp only [zrArena01, st_hook, sz_hook, st1_hook, cl_hook, st_node, sz_node, st1_node, cl_node, xnils, xnilm, xrange, xmakeMap, envAt, List.take_succ_cons, List.take_zero, hil, Bool.false_eq_true, if_false, if_true, RB, TB, keep115, tab115, xindexAddr, xindex, xslice, xconvert, xlen, ewOp, FreeW, StabW, SameW, ChangeW, AddW, BaseW, limBytes, simprocAttr, ne_eq] | ((with_reducible refine Need.intro ?_ ?_); (first | trivial | exact ⟨_, rfl⟩ | exact ⟨[], (List.append_nil _).symm⟩ | omega | (simp; done) | (simp; omega) | exact ⟨by first | trivial | (simp; done), _, by first | rfl | (simp; rfl)⟩))))
    | 1, hi, hil, hed =>
      simp only [List.getElem?_cons_zero, List.getElem?_cons_succ, Option.some.injEq] at hi
      subst hi
      (repeat (first | simp -dsimp only [zrArena01, st_hook, sz_hook, st1_hook, cl_hook, st_node, sz_node, st1_node, cl_node, xnils, xnilm, xrange, xmakeMap, envAt, List.take_succ_cons, List.take_zero, hil, Bool.false_eq_true, if_false, if_true, RB, TB, keep115, tab115, xindexAddr, xindex, xslice, xconvert, xlen, ewOp, FreeW, StabW, SameW, ChangeW, AddW, BaseW, limBytes, simprocAttr, ne_eq] | ((with_reducible refine Need.intro ?_ ?_); (first | trivial | exact ⟨_, rfl⟩ | exact ⟨[], (List.append_nil _).symm⟩ | omega | (simp; done) | (simp; omega) | exact ⟨by first | trivial | (simp; done), _, by first | rfl | (simp; rfl)⟩))))
    | 2, hi, hil, hed =>
      simp only [List.getElem?_cons_zero, List.getElem?_cons_succ, Option.some.injEq] at hi
      subst hi
      (repeat (first | simp -dsimp only [zrArena01, st_hook, sz_hook, st1_hook, cl_hook, st_node, sz_node, st1_node, cl_node, xnils, xnilm, xrange, xmakeMap, envAt, List.take_succ_cons, List.take_zero, hil, Bool.false_eq_true, if_false, if_true, RB, TB, keep115, tab115, xindexAddr, xindex, xslice, xconvert, xlen, ewOp, FreeW, StabW, SameW, ChangeW, AddW, BaseW, limBytes, simprocAttr, ne_eq] | ((with_reducible refine Need.intro ?_ ?_); (first | trivial | exact ⟨_, rfl⟩ | exact ⟨[], (List.append_nil _).symm⟩ | omega | (simp; done) | (simp; omega) | exact ⟨by first | trivial | (simp; done), _, by first | rfl | (simp; rfl)⟩))))
      refine SCall.mono (cloneH _ n.hooks h5) ?_
      rintro _ _ ⟨rfl, rfl⟩
      simp
    | 3, hi, hil, hed =>
      simp only [List.getElem?_cons_zero, List.getElem?_cons_succ, Option.some.injEq] at hi
      subst hi
      (repeat (first | simp -dsimp only [zrArena01, st_hook, sz_hook, st1_hook, cl_hook, st_node, sz_node, st1_node, cl_node, xnils, xnilm, xrange, xmakeMap, envAt, List.take_succ_cons, List.take_zero, hil, Bool.false_eq_true, if_false, if_true, RB, TB, keep115, tab115, xindexAddr, xindex, xslice, xconvert, xlen, ewOp, FreeW, StabW, SameW, ChangeW, AddW, BaseW, limBytes, simprocAttr, ne_eq] | ((with_reducible refine Need.intro ?_ ?_); (first | trivial | exact ⟨_, rfl⟩ | exact ⟨[], (List.append_nil _).symm⟩ | omega | (simp; done) | (simp; omega) | exact ⟨by first | trivial | (simp; done), _, by first | rfl | (simp; rfl)⟩))))
    | 4, hi, hil, hed =>
      simp only [List.getElem?_cons_zero, List.getElem?_cons_succ, Option.some.injEq] at hi
      subst hi
      have f9 : fl 9 = false := Bool.eq_false_iff.2 fun h => by have := q9 h; simp [hil] at this
      (repeat (first | simp -dsimp only [zrArena01, st_hook, sz_hook, st1_hook, cl_hook, st_node, sz_node, st1_node, cl_node, xnils, xnilm, xrange, xmakeMap, envAt, List.take_succ_cons, List.take_zero, hil, f9, Bool.false_eq_true, if_false, if_true, RB, TB, keep115, tab115, xindexAddr, xindex, xslice, xconvert, xlen, ewOp, FreeW, StabW, SameW, ChangeW, AddW, BaseW, limBytes, simprocAttr, ne_eq] | ((with_reducible refine Need.intro ?_ ?_); (first | trivial | exact ⟨_, rfl⟩ | exact ⟨[], (List.append_nil _).symm⟩ | omega | (simp; done) | (simp; omega) | exact ⟨by first | trivial | (simp; done), _, by first | rfl | (simp; rfl)⟩))))
    | 5, hi, hil, hed =>
      simp only [List.getElem?_cons_zero, List.getElem?_cons_succ, Option.some.injEq] at hi
      subst hi
      have f9 : fl 9 = false := Bool.eq_false_iff.2 fun h => by have := q9 h; simp [hil] at this
      (repeat (first | simp -dsimp only [zrArena01, st_hook, sz_hook, st1_hook, cl_hook, st_node, sz_node, st1_node, cl_node, xnils, xnilm, xrange, xmakeMap, envAt, List.take_succ_cons, List.take_zero, hil, f9, Bool.false_eq_true, if_false, if_true, RB, TB, keep115, tab115, xindexAddr, xindex, xslice, xconvert, xlen, ewOp, FreeW, StabW, SameW, ChangeW, AddW, BaseW, limBytes, simprocAttr, ne_eq] | ((with_reducible refine Need.intro ?_ ?_); (first | trivial | exact ⟨_, rfl⟩ | exact ⟨[], (List.append_nil _).symm⟩ | omega | (simp; done) | (simp; omega) | exact ⟨by first | trivial | (simp; done), _, by first | rfl | (simp; rfl)⟩))))
      refine SCall.mono (cloneIV _ n.kids h6) ?_
      rintro _ _ ⟨rfl, rfl⟩
      simp [f9]
    | 6, hi, hil, hed =>
      simp only [List.getElem?_cons_zero, List.getElem?_cons_succ, Option.some.injEq] at hi
      subst hi
      (repeat (first | simp -dsimp only [zrArena01, st_hook, sz_hook, st1_hook, cl_hook, st_node, sz_node, st1_node, cl_node, xnils, xnilm, xrange, xmakeMap, envAt, List.take_succ_cons, List.take_zero, hil, Bool.false_eq_true, if_false, if_true, RB, TB, keep115, tab115, xindexAddr, xindex, xslice, xconvert, xlen, ewOp, FreeW, StabW, SameW, ChangeW, AddW, BaseW, limBytes, simprocAttr, ne_eq] | ((with_reducible refine Need.intro ?_ ?_); (first | trivial | exact ⟨_, rfl⟩ | exact ⟨[], (List.append_nil _).symm⟩ | omega | (simp; done) | (simp; omega) | exact ⟨by first | trivial | (simp; done), _, by first | rfl | (simp; rfl)⟩))))
    | 7, hi, hil, hed =>
      simp only [List.getElem?_cons_zero, List.getElem?_cons_succ, Option.some.injEq] at hi
      subst hi
      (repeat (first | simp -dsimp only [zrArena01, st_hook, sz_hook, st1_hook, cl_hook, st_node, sz_node, st1_node, cl_node, xnils, xnilm, xrange, xmakeMap, envAt, List.take_succ_cons, List.take_zero, hil, Bool.false_eq_true, if_false, if_true, RB, TB, keep115, tab115, xindexAddr, xindex, xslice, xconvert, xlen, ewOp, FreeW, StabW, SameW, ChangeW, AddW, BaseW, limBytes, simprocAttr, ne_eq] | ((with_reducible refine Need.intro ?_ ?_); (first | trivial | exact ⟨_, rfl⟩ | exact ⟨[], (List.append_nil _).symm⟩ | omega | (simp; done) | (simp; omega) | exact ⟨by first | trivial | (simp; done), _, by first | rfl | (simp; rfl)⟩))))
    | 8, hi, hil, hed =>
      simp only [List.getElem?_cons_zero, List.getElem?_cons_succ, Option.some.injEq] at hi
      subst hi
      (repeat (first | simp -dsimp only [zrArena01, st_hook, sz_hook, st1_hook, cl_hook, st_node, sz_node, st1_node, cl_node, xnils, xnilm, xrange, xmakeMap, envAt, List.take_succ_cons, List.take_zero, hil, Bool.false_eq_true, if_false, if_true, RB, TB, keep115, tab115, xindexAddr, xindex, xslice, xconvert, xlen, ewOp, FreeW, StabW, SameW, ChangeW, AddW, BaseW, limBytes, simprocAttr, ne_eq] | ((with_reducible refine Need.intro ?_ ?_); (first | trivial | exact ⟨_, rfl⟩ | exact ⟨[], (List.append_nil _).symm⟩ | omega | (simp; done) | (simp; omega) | exact ⟨by first | trivial | (simp; done), _, by first | rfl | (simp; rfl)⟩))))
    | 9, hi, hil, hed =>
      simp only [List.getElem?_cons_zero, List.getElem?_cons_succ, Option.some.injEq] at hi
      subst hi
      have p5 : fl 5 = true := hed ⟨5, .data⟩ (by simp) rfl
      (repeat (first | simp -dsimp only [zrArena01, st_hook, sz_hook, st1_hook, cl_hook, st_node, sz_node, st1_node, cl_node, xnils, xnilm, xrange, xmakeMap, envAt, List.take_succ_cons, List.take_zero, hil, p5, Bool.false_eq_true, if_false, if_true, RB, TB, keep115, tab115, xindexAddr, xindex, xslice, xconvert, xlen, ewOp, FreeW, StabW, SameW, ChangeW, AddW, BaseW, limBytes, simprocAttr, ne_eq] | ((with_reducible refine Need.intro ?_ ?_); (first | trivial | exact ⟨_, rfl⟩ | exact ⟨[], (List.append_nil _).symm⟩ | omega | (simp; done) | (simp; omega) | exact ⟨by first | trivial | (simp; done), _, by first | rfl | (simp; rfl)⟩))))
    | c + 10, hi, hil, hed => simp at hi
  (repeat (first | simp -dsimp only [zrArena01, st_hook, sz_hook, st1_hook, cl_hook, st_node, sz_node, st1_node, cl_node, xnils, xnilm, xrange, xmakeMap, envAt, RB, TB, keep115, tab115, xindexAddr, xindex, xslice, xconvert, xlen, ewOp, FreeW, StabW, SameW, ChangeW, AddW, BaseW, limBytes, simprocAttr, ne_eq] | ((with_reducible refine Need.intro ?_ ?_); (first | trivial | exact ⟨_, rfl⟩ | exact ⟨[], (List.append_nil _).symm⟩ | omega | (simp; done) | (simp; omega) | exact ⟨by first | trivial | (simp; done), _, by first | rfl | (simp; rfl)⟩))))
  refine EWn.ghost (Gho.adopt 3 4 rfl) ?_
  simp only [RB, limBytes, simprocAttr, ne_eq]
  refine EWn.loopE (ι := (Nat)) (fun (i : (Nat)) => i ≤ n.attrs.length) (fun (i : (Nat)) => n.attrs.length - i) (fun (i : (Nat)) => [(3, .vec (H.length + 3) (1 + i) 0 i), (25, .int .i64 i)]) (fun (i : (Nat)) => H ++ [.var [.int .i64 n.id, .int .i64 n.owner, .int .i64 n.parent, .int .i64 n.kind, .str (fixS n.tag).text, .slice ((fixS n.tag).runs.map runV), .str n.key, .int .i64 n.slot, .slice (n.attrs.map attrV), .slice (n.hooks.map hookV), .vec (H.length + 2) 1 0 n.kids.length, .str (fixS n.text).text, .slice ((fixS n.text).runs.map runV)], .var [.int .i64 0, .int .i64 0, .int .i64 0, .int .i64 0, .str [], .fslice [], .str [], .int .i64 0, .fslice [], .fslice [], .fslice [], .str [], .fslice []], .vec 1 1 (n.kids.map vi), .vec (1 + i) 4 (((n.attrs.take i).map ownA).map attrV)]) (0) ?_ ?_ ?_ ?_ ?_
  · first | rfl | simp [upd, eset]
  · first | rfl | (simp; done) | exact (set_same (by assumption)).symm
  · rintro i hok; exact ⟨by first | (simp; done) | (simp; omega), by (simp (maxDischargeDepth := 6) [LTB, HLt_set, ltL_take, ltL_drop, ltL_rep, ltL_set, upd, eset, hH, hHk, zlArena01, lt_hook, lt1_hook, ltc_hook, lt_node, lt1_node, ltc_node] <;> omega), by (simp (maxDischargeDepth := 6) [LTB, HLt_set, ltL_take, ltL_drop, ltL_rep, ltL_set, upd, eset, hH, hHk, zlArena01, lt_hook, lt1_hook, ltc_hook, lt_node, lt1_node, ltc_node] <;> omega)⟩
  · omega
  rintro i hi
  refine EWn.of_c Tok mixed (own := false) keep115 tab115 (by kernel_rfl) ?_
  (repeat (first | simp -dsimp only [zrArena01, st_hook, sz_hook, st1_hook, cl_hook, st_node, sz_node, st1_node, cl_node, xnils, xnilm, xrange, xmakeMap, RB, TB, keep115, tab115, xindexAddr, xindex, xslice, xconvert, xlen, ewOp, FreeW, StabW, SameW, ChangeW, AddW, BaseW, limBytes, simprocAttr, ne_eq] | ((with_reducible refine Need.intro ?_ ?_); (first | trivial | exact ⟨_, rfl⟩ | exact ⟨[], (List.append_nil _).symm⟩ | omega | (simp; done) | (simp; omega) | exact ⟨by first | trivial | (simp; done), _, by first | rfl | (simp; rfl)⟩))))
  refine IfW.intro (fun h => ?_) (fun h => ?_)
  · have hlt := lt_of h
    obtain ⟨o1, o2⟩ := h3 _ (List.getElem_mem hlt)
    (repeat (first | simp -dsimp only [zrArena01, st_hook, sz_hook, st1_hook, cl_hook, st_node, sz_node, st1_node, cl_node, xnils, xnilm, xrange, xmakeMap, h, at_map attrV n.attrs i hlt, attrV, RB, TB, keep115, tab115, xindexAddr, xindex, xslice, xconvert, xlen, ewOp, FreeW, StabW, SameW, ChangeW, AddW, BaseW, limBytes, simprocAttr, ne_eq] | ((with_reducible refine Need.intro ?_ ?_); (first | trivial | exact ⟨_, rfl⟩ | exact ⟨[], (List.append_nil _).symm⟩ | omega | (simp; done) | (simp; omega) | exact ⟨by first | trivial | (simp; done), _, by first | rfl | (simp; rfl)⟩))))
    (first | refine SCall.then (mFix _ n.attrs[i].name o1) ?_ | refine SCall.thenA (mFix _ n.attrs[i].name o1) (by repeat (first | exact trivial | exact .inl (.inl rfl) | exact .inl (.inr ⟨_, rfl, rfl⟩) | exact .inl rfl | exact .inr ⟨_, rfl, rfl⟩ | refine .inr ⟨_, _, rfl, rfl, ?_⟩ | refine ⟨?_, ?_⟩)) ?_ | refine CallE.intro _ (mFix _ n.attrs[i].name o1) ?_ | refine CallE.introA (mFix _ n.attrs[i].name o1) (by repeat (first | exact trivial | exact .inl (.inl rfl) | exact .inl (.inr ⟨_, rfl, rfl⟩) | exact .inl rfl | exact .inr ⟨_, rfl, rfl⟩ | refine .inr ⟨_, _, rfl, rfl, ?_⟩ | refine ⟨?_, ?_⟩)) ?_ | refine CallE.intro _ (fun _ => mFix _ n.attrs[i].name o1) ?_ | refine CallE.intro _ (fun _ => SCall.arg (by repeat (first | exact trivial | exact .inl (.inl rfl) | exact .inl (.inr ⟨_, rfl, rfl⟩) | exact .inl rfl | exact .inr ⟨_, rfl, rfl⟩ | refine .inr ⟨_, _, rfl, rfl, ?_⟩ | refine ⟨?_, ?_⟩)) (mFix _ n.attrs[i].name o1)) ?_ | refine CallE2.intro _ _ (mFix _ n.attrs[i].name o1) ?_ | refine CallE2.intro _ _ (SCall.arg (by repeat (first | exact trivial | exact .inl (.inl rfl) | exact .inl (.inr ⟨_, rfl, rfl⟩) | exact .inl rfl | exact .inr ⟨_, rfl, rfl⟩ | refine .inr ⟨_, _, rfl, rfl, ?_⟩ | refine ⟨?_, ?_⟩)) (mFix _ n.attrs[i].name o1)) ?_)
    (repeat (first | simp -dsimp only [zrArena01, st_hook, sz_hook, st1_hook, cl_hook, st_node, sz_node, st1_node, cl_node, xnils, xnilm, xrange, xmakeMap, strV, RB, TB, keep115, tab115, xindexAddr, xindex, xslice, xconvert, xlen, ewOp, FreeW, StabW, SameW, ChangeW, AddW, BaseW, limBytes, simprocAttr, ne_eq] | ((with_reducible refine Need.intro ?_ ?_); (first | trivial | exact ⟨_, rfl⟩ | exact ⟨[], (List.append_nil _).symm⟩ | omega | (simp; done) | (simp; omega) | exact ⟨by first | trivial | (simp; done), _, by first | rfl | (simp; rfl)⟩))))
    (first | refine SCall.then (mFix _ n.attrs[i].value o2) ?_ | refine SCall.thenA (mFix _ n.attrs[i].value o2) (by repeat (first | exact trivial | exact .inl (.inl rfl) | exact .inl (.inr ⟨_, rfl, rfl⟩) | exact .inl rfl | exact .inr ⟨_, rfl, rfl⟩ | refine .inr ⟨_, _, rfl, rfl, ?_⟩ | refine ⟨?_, ?_⟩)) ?_ | refine CallE.intro _ (mFix _ n.attrs[i].value o2) ?_ | refine CallE.introA (mFix _ n.attrs[i].value o2) (by repeat (first | exact trivial | exact .inl (.inl rfl) | exact .inl (.inr ⟨_, rfl, rfl⟩) | exact .inl rfl | exact .inr ⟨_, rfl, rfl⟩ | refine .inr ⟨_, _, rfl, rfl, ?_⟩ | refine ⟨?_, ?_⟩)) ?_ | refine CallE.intro _ (fun _ => mFix _ n.attrs[i].value o2) ?_ | refine CallE.intro _ (fun _ => SCall.arg (by repeat (first | exact trivial | exact .inl (.inl rfl) | exact .inl (.inr ⟨_, rfl, rfl⟩) | exact .inl rfl | exact .inr ⟨_, rfl, rfl⟩ | refine .inr ⟨_, _, rfl, rfl, ?_⟩ | refine ⟨?_, ?_⟩)) (mFix _ n.attrs[i].value o2)) ?_ | refine CallE2.intro _ _ (mFix _ n.attrs[i].value o2) ?_ | refine CallE2.intro _ _ (SCall.arg (by repeat (first | exact trivial | exact .inl (.inl rfl) | exact .inl (.inr ⟨_, rfl, rfl⟩) | exact .inl rfl | exact .inr ⟨_, rfl, rfl⟩ | refine .inr ⟨_, _, rfl, rfl, ?_⟩ | refine ⟨?_, ?_⟩)) (mFix _ n.attrs[i].value o2)) ?_)
    (repeat (first | simp -dsimp only [zrArena01, st_hook, sz_hook, st1_hook, cl_hook, st_node, sz_node, st1_node, cl_node, xnils, xnilm, xrange, xmakeMap, strV, RB, TB, keep115, tab115, xindexAddr, xindex, xslice, xconvert, xlen, ewOp, FreeW, StabW, SameW, ChangeW, AddW, BaseW, limBytes, simprocAttr, ne_eq] | ((with_reducible refine Need.intro ?_ ?_); (first | trivial | exact ⟨_, rfl⟩ | exact ⟨[], (List.append_nil _).symm⟩ | omega | (simp; done) | (simp; omega) | exact ⟨by first | trivial | (simp; done), _, by first | rfl | (simp; rfl)⟩))))
    rw [wrapI (by omega)]
    have hsucc : (n.attrs.take (i + 1)).map ownA = (n.attrs.take i).map ownA ++ [ownA n.attrs[i]] := by rw [List.take_succ_eq_append_getElem hlt, List.map_append]; rfl
    refine UpTo.here ⟨i + 1, hlt, by simp only; omega, by simp [upd, eset] <;> omega, ⟨_, by simp only [hsucc]; simp [attrV, ownA]; rfl⟩⟩
  · (repeat (first | simp -dsimp only [zrArena01, st_hook, sz_hook, st1_hook, cl_hook, st_node, sz_node, st1_node, cl_node, xnils, xnilm, xrange, xmakeMap, h, RB, TB, keep115, tab115, xindexAddr, xindex, xslice, xconvert, xlen, ewOp, FreeW, StabW, SameW, ChangeW, AddW, BaseW, limBytes, simprocAttr, ne_eq] | ((with_reducible refine Need.intro ?_ ?_); (first | trivial | exact ⟨_, rfl⟩ | exact ⟨[], (List.append_nil _).symm⟩ | omega | (simp; done) | (simp; omega) | exact ⟨by first | trivial | (simp; done), _, by first | rfl | (simp; rfl)⟩))))
    have hi2 : i = n.attrs.length := Nat.le_antisymm hi (ge_of h)
    subst hi2
    rw [List.take_length]
    refine RetW.keep false (by simp) ?_ ?_ ?_
    · (simp (maxDischargeDepth := 6) [LTB, HLt_set, ltL_take, ltL_drop, ltL_rep, ltL_set, upd, eset, hH, hHk, zlArena01, lt_hook, lt1_hook, ltc_hook, lt_node, lt1_node, ltc_node] <;> omega)
    · simp [okW, okW1, okW0, V.lt, ltL, lt_run, lt_hook]
    · simp only [wk, wk1, wk0]
      exact ⟨_, 1 + n.attrs.length, by simp [wk1, wk0], rfl, by simp, by simp⟩
theorem aOwnV (H : List Ob) (n : Node) (hn : okN n) : SCall Try.prog 115 [nodeV n] H (fun r H' => ∃ o L, r = nodeK (ownN n) o 1 ∧ H' = H ++ L ∧ H.length ≤ o ∧ H'[o]? = some (.vec 1 1 (n.kids.map vi))) := by
  refine (aOwnV0 H n hn).ghoE ?_
  rintro r H' ⟨L, v, rfl, rfl, h2, h3⟩
  have l3 := (List.getElem?_eq_some_iff.1 h3).1
  have ho : (H ++ L)[H.length + 3]? = some (.vec v 4 ((n.attrs.map ownA).map attrV)) := by rw [hget]; exact h3
  have e : (H ++ L).set (H.length + 3) .gone = H ++ L.set 3 .gone := by rw [hset]
  refine ⟨nodeK (ownN n) (H.length + 2) 1, H ++ L.set 3 .gone, ?_, H.length + 2, L.set 3 .gone, rfl, rfl, by omega, by rw [hget, List.getElem?_set_ne (by omega)]; exact h2⟩
  rw [← e]
  refine Gho.conv (n0 := H.length) (some (H.length + 3, v, (n.attrs.map ownA).map attrV)) (fun _ _ _ e => by cases e; exact ⟨⟨4, ho⟩, List.getElem?_set_self (by simp; omega)⟩) (by simp) (fun j x hx hz => ⟨x, ?_, ?_⟩) ?_
  · rw [List.getElem?_set_ne (by rintro rfl; simp [isZ] at hz)]
    exact hx
  · cases x with
    | gone => trivial
    | hole => trivial
    | var cs => exact All2.rfl' (fun _ => .inl (.inl rfl)) _
    | vec v e l => exact ⟨rfl, rfl, All2.rfl' CvA.rfl' _⟩
    | raw _ _ _ _ => exact ⟨rfl, rfl, rfl, rfl⟩
    | map _ _ => exact ⟨rfl, All2.rfl' (fun _ => ⟨rfl, rfl, CvA.rfl' _⟩) _⟩
    | iter _ _ _ _ => exact ⟨rfl, rfl, rfl, rfl⟩
  · refine ⟨⟨rfl, .inr (.inr ⟨_, _, rfl, rfl, ?_⟩)⟩, trivial⟩
    refine ⟨.inl (.inl rfl), .inl (.inl rfl), .inl (.inl rfl), .inl (.inl rfl), .inl (.inl rfl), .inl (.inl rfl), .inl (.inl rfl), .inl (.inl rfl), .inr ⟨_, _, _, 0, _, rfl, rfl, ?_, ?_⟩, .inl (.inl rfl), .inl (.inl rfl), .inl (.inl rfl), .inl (.inl rfl), trivial⟩
    · simp
    · rw [List.drop_zero, List.take_of_length_le (by simp)]; rfl
theorem aOwnN (H : List Ob) (n : Node) (hn : okN n) : SCall Try.prog 115 [nodeV n] H (fun r H' => r = nodeV (ownN n) ∧ H' = H) := by
  refine SCall.of_good fun hH => ?_
  refine (aOwnV H n hn).ghoE ?_
  rintro r H' ⟨o, L, rfl, rfl, hle, ho⟩
  have hlt := (List.getElem?_eq_some_iff.1 ho).1
  have e : (H ++ L).set o .gone = H ++ L.set (o - H.length) .gone := List.set_append_right _ _ hle
  refine ⟨_, _, (Gho.conv (n0 := H.length) (some (o, 1, n.kids.map vi)) (H := H ++ L) (H' := (H ++ L).set o .gone) (env := [(0, nodeK (ownN n) o 1)]) (env' := [(0, nodeV (ownN n))]) (fun _ _ _ e => by cases e; exact ⟨⟨1, ho⟩, List.getElem?_set_self hlt⟩) (by simp) (fun j x hx hz => ⟨x, ?_, ?_⟩) ?_).trans ?_, rfl, rfl⟩
  · rw [List.getElem?_set_ne (by rintro rfl; simp [isZ] at hz)]
    exact hx
  · cases x with
    | gone => trivial
    | hole => trivial
    | var cs => exact All2.rfl' (fun _ => .inl (.inl rfl)) _
    | vec v e l => exact ⟨rfl, rfl, All2.rfl' CvA.rfl' _⟩
    | raw _ _ _ _ => exact ⟨rfl, rfl, rfl, rfl⟩
    | map _ _ => exact ⟨rfl, All2.rfl' (fun _ => ⟨rfl, rfl, CvA.rfl' _⟩) _⟩
    | iter _ _ _ _ => exact ⟨rfl, rfl, rfl, rfl⟩
  · refine ⟨⟨rfl, .inr (.inr ⟨_, _, rfl, rfl, ?_⟩)⟩, trivial⟩
    refine ⟨.inl (.inl rfl), .inl (.inl rfl), .inl (.inl rfl), .inl (.inl rfl), .inl (.inl rfl), .inl (.inl rfl), .inl (.inl rfl), .inl (.inl rfl), .inl (.inl rfl), .inl (.inl rfl), .inr ⟨o, 1, _, 0, _, rfl, rfl, ?_, ?_⟩, .inl (.inl rfl), .inl (.inl rfl), trivial⟩
    · simp [ownN]
    · rw [List.drop_zero, List.take_of_length_le (by simp [ownN])]; rfl
  · rw [e]
    exact drop_rest (Nat.le_refl _) hH (by simp [lt1_node])
end Go.Proofs.Ytjplgbalpnlanaa

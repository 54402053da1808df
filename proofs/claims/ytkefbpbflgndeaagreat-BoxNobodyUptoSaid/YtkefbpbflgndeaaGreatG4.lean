/- BoxNobody, where what it reads is of bulk at most 1048576: the law returns true and the arguments read as they did. -/
import Derived.Test.YtkefbpbflgndeaaGreatG3
import Derived.Laws.Externs
import Derived.Test.YtkefbpbflgndeaaGreatRows
import Derived.ProofKit
import Derived.JoinedCond
/- The walks of package arena: nodes, own, slices.Clone, is, New. -/
set_option maxHeartbeats 600000
set_option linter.unusedSimpArgs false
set_option linter.unusedVariables false
set_option maxRecDepth 100000
namespace Go.Proofs.YtkefbpbflgndeaaGreat
open Go Go.EL
theorem zrArena01 : type_of% (And.intro (And.intro (And.intro (And.intro (@st_run) (@sz_run)) (And.intro (@st1_run) (@cl_run))) (And.intro (And.intro (@st_Str) (@sz_Str)) (And.intro (@st1_Str) (@cl_Str)))) (And.intro (And.intro (And.intro (@st_c) (@sz_c)) (And.intro (@st1_c) (@cl_c))) (And.intro (And.intro (@st_attr) (@sz_attr)) (And.intro (@st1_attr) (@cl_attr))))) := And.intro (And.intro (And.intro (And.intro (@st_run) (@sz_run)) (And.intro (@st1_run) (@cl_run))) (And.intro (And.intro (@st_Str) (@sz_Str)) (And.intro (@st1_Str) (@cl_Str)))) (And.intro (And.intro (And.intro (@st_c) (@sz_c)) (And.intro (@st1_c) (@cl_c))) (And.intro (And.intro (@st_attr) (@sz_attr)) (And.intro (@st1_attr) (@cl_attr))))
theorem zlArena01 : type_of% (And.intro (And.intro (And.intro (And.intro (@lt_vi) (@lt_str)) (And.intro (@lt_vb) (@ltc_str))) (And.intro (And.intro (@ltc_vi) (@lt_run)) (And.intro (@lt1_run) (@ltc_run)))) (And.intro (And.intro (And.intro (@lt_Str) (@lt1_Str)) (And.intro (@ltc_Str) (@lt_c))) (And.intro (And.intro (@lt1_c) (@ltc_c)) (And.intro (@lt_attr) (And.intro (@lt1_attr) (@ltc_attr)))))) := And.intro (And.intro (And.intro (And.intro (@lt_vi) (@lt_str)) (And.intro (@lt_vb) (@ltc_str))) (And.intro (And.intro (@ltc_vi) (@lt_run)) (And.intro (@lt1_run) (@ltc_run)))) (And.intro (And.intro (And.intro (@lt_Str) (@lt1_Str)) (And.intro (@ltc_Str) (@lt_c))) (And.intro (And.intro (@lt1_c) (@ltc_c)) (And.intro (@lt_attr) (And.intro (@lt1_attr) (@ltc_attr)))))
structure Hook where
  ev : Int
  cap : Bool
  nm : Int
structure Node where
  id : Int
  owner : Int
  parent : Int
  kind : Int
  tag : Str
  key : List UInt8
  slot : Int
  attrs : List Attr
  hooks : List Hook
  kids : List Int
  text : Str
def hookV (h : Hook) : V := .agg [.int .i64 h.ev, .bool h.cap, .int .i64 h.nm]
theorem lt_hook (n : Nat) (l : List (Hook)) : ltL n (l.map hookV) := ltL_map (f := hookV) (fun _ => by simp [hookV, V.lt, ltL]) l
theorem lt1_hook (n : Nat) (x : Hook) : V.lt n (hookV x) := by simp [hookV, V.lt, ltL]
theorem ltc_hook {α : Type} (n : Nat) (g : α → Hook) (l : List α) : ltL n (l.map (hookV ∘ g)) := ltL_map (f := hookV ∘ g) (fun x => lt1_hook n (g x)) l
theorem st_hook (l : List (Hook)) : (∀ x, x ∈ l.map hookV → x.storable) = True := eq_true (storable_map (f := hookV) (fun _ => trivial) l)
theorem sz_hook (l : List (Hook)) : Sized 3 (l.map hookV) = True := eq_true (sizedMapV (f := hookV) (fun _ => rfl) l)
theorem st1_hook (x : Hook) : (hookV x).storable = True := eq_true trivial
theorem cl_hook (x : Hook) : (hookV x).cells.length = 3 := rfl

def nodeV (n : Node) : V := .agg [.int .i64 n.id, .int .i64 n.owner, .int .i64 n.parent, .int .i64 n.kind, .str n.tag.text, .slice (n.tag.runs.map runV), .str n.key, .int .i64 n.slot, .slice (n.attrs.map attrV), .slice (n.hooks.map hookV), .slice (n.kids.map vi), .str n.text.text, .slice (n.text.runs.map runV)]
theorem lt_node (n : Nat) (l : List (Node)) : ltL n (l.map nodeV) := ltL_map (f := nodeV) (fun _ => by simp [nodeV, V.lt, ltL, lt_run, lt_attr, lt_hook, lt_vi]) l
theorem lt1_node (n : Nat) (x : Node) : V.lt n (nodeV x) := by simp [nodeV, V.lt, ltL, lt_run, lt_attr, lt_hook, lt_vi]
theorem ltc_node {α : Type} (n : Nat) (g : α → Node) (l : List α) : ltL n (l.map (nodeV ∘ g)) := ltL_map (f := nodeV ∘ g) (fun x => lt1_node n (g x)) l
theorem st_node (l : List (Node)) : (∀ x, x ∈ l.map nodeV → x.storable) = True := eq_true (storable_map (f := nodeV) (fun _ => trivial) l)
theorem sz_node (l : List (Node)) : Sized 13 (l.map nodeV) = True := eq_true (sizedMapV (f := nodeV) (fun _ => rfl) l)
theorem st1_node (x : Node) : (nodeV x).storable = True := eq_true trivial
theorem cl_node (x : Node) : (nodeV x).cells.length = 13 := rfl

def ownN (n : Node) : Node := { n with tag := fixS n.tag, text := fixS n.text, attrs := n.attrs.map ownA }
def okN (n : Node) : Prop := okS n.tag ∧ okS n.text ∧ (∀ a ∈ n.attrs, okA a) ∧ n.attrs.length ≤ 1000000000000 ∧ n.hooks.length ≤ 1000000000000 ∧ n.kids.length ≤ 1000000000000
theorem cloneH (H : List Ob) (l : List Hook) (hl : l.length ≤ 1000000000000) : SCall Tryz.prog 48 [.slice (l.map hookV)] H (fun r H' => r = .slice (l.map hookV) ∧ H' = H) := by
  refine SCall.of_good fun hH => ?_
  have hHk := HLt.add hH
  refine SCall.of_code Tok Tryz.func48 rfl Tryz.call48 (n := 8) rfl (by simp) (rs := [.tmp 2]) rfl ?_
  refine EWn.to ?_
  refine EWn.of_c Tok mixed (own := false) keep48 tab48 (by kernel_rfl) ?_
  (repeat (first | simp -dsimp only [zrArena01, st_hook, sz_hook, st1_hook, cl_hook, st_node, sz_node, st1_node, cl_node, xnils, xnilm, xrange, xmakeMap, RB, TB, keep48, tab48, xindexAddr, xindex, xslice, xconvert, xlen, ewOp, FreeW, StabW, SameW, ChangeW, AddW, BaseW, limBytes, simprocAttr, ne_eq] | ((with_reducible refine Need.intro ?_ ?_); (first | trivial | exact ⟨_, rfl⟩ | exact ⟨[], (List.append_nil _).symm⟩ | omega | (simp; done) | (simp; omega) | exact ⟨by first | trivial | (simp; done), _, by first | rfl | (simp; rfl)⟩))))
  refine AnyB.intro fun b hb => ?_
  (repeat (first | simp -dsimp only [zrArena01, st_hook, sz_hook, st1_hook, cl_hook, st_node, sz_node, st1_node, cl_node, xnils, xnilm, xrange, xmakeMap, RB, TB, keep48, tab48, xindexAddr, xindex, xslice, xconvert, xlen, ewOp, FreeW, StabW, SameW, ChangeW, AddW, BaseW, limBytes, simprocAttr, ne_eq] | ((with_reducible refine Need.intro ?_ ?_); (first | trivial | exact ⟨_, rfl⟩ | exact ⟨[], (List.append_nil _).symm⟩ | omega | (simp; done) | (simp; omega) | exact ⟨by first | trivial | (simp; done), _, by first | rfl | (simp; rfl)⟩))))
  refine IfW.intro (fun h => ?_) (fun h => ?_)
  · subst h
    have h0 : l = [] := by cases l with
      | nil => rfl
      | cons x l => exact absurd (hb (by simp)) (by simp)
    subst h0
    (repeat (first | simp -dsimp only [zrArena01, st_hook, sz_hook, st1_hook, cl_hook, st_node, sz_node, st1_node, cl_node, xnils, xnilm, xrange, xmakeMap, RB, TB, keep48, tab48, xindexAddr, xindex, xslice, xconvert, xlen, ewOp, FreeW, StabW, SameW, ChangeW, AddW, BaseW, limBytes, simprocAttr, ne_eq] | ((with_reducible refine Need.intro ?_ ?_); (first | trivial | exact ⟨_, rfl⟩ | exact ⟨[], (List.append_nil _).symm⟩ | omega | (simp; done) | (simp; omega) | exact ⟨by first | trivial | (simp; done), _, by first | rfl | (simp; rfl)⟩))))
    refine RetW.auto0 false _ (by first | rfl | exact (List.append_nil _).symm) ?_ ?_
    · (simp (maxDischargeDepth := 6) [LTB, HLt_set, ltL_take, ltL_drop, ltL_rep, ltL_set, upd, eset, hH, hHk, zlArena01, lt_hook, lt1_hook, ltc_hook, lt_node, lt1_node, ltc_node] <;> omega)
    (try simp only [wk, wk1, wk0, RB, limBytes, simprocAttr, ne_eq])
    (try (rw [List.take_of_length_le]; rotate_left 1; (· first | (simp; done) | (simp; omega) | omega)))
  · subst h
    (repeat (first | simp -dsimp only [zrArena01, st_hook, sz_hook, st1_hook, cl_hook, st_node, sz_node, st1_node, cl_node, xnils, xnilm, xrange, xmakeMap, RB, TB, keep48, tab48, xindexAddr, xindex, xslice, xconvert, xlen, ewOp, FreeW, StabW, SameW, ChangeW, AddW, BaseW, limBytes, simprocAttr, ne_eq] | ((with_reducible refine Need.intro ?_ ?_); (first | trivial | exact ⟨_, rfl⟩ | exact ⟨[], (List.append_nil _).symm⟩ | omega | (simp; done) | (simp; omega) | exact ⟨by first | trivial | (simp; done), _, by first | rfl | (simp; rfl)⟩))))
    refine RetW.auto0 false _ (by first | rfl | exact (List.append_nil _).symm) ?_ ?_
    · (simp (maxDischargeDepth := 6) [LTB, HLt_set, ltL_take, ltL_drop, ltL_rep, ltL_set, upd, eset, hH, hHk, zlArena01, lt_hook, lt1_hook, ltc_hook, lt_node, lt1_node, ltc_node] <;> omega)
    (try simp only [wk, wk1, wk0, RB, limBytes, simprocAttr, ne_eq])
    (try (rw [List.take_of_length_le]; rotate_left 1; (· first | (simp; done) | (simp; omega) | omega)))
theorem cloneI (H : List Ob) (l : List Int) (hl : l.length ≤ 1000000000000) : SCall Tryz.prog 49 [.slice (l.map vi)] H (fun r H' => r = .slice (l.map vi) ∧ H' = H) := by
  refine SCall.of_good fun hH => ?_
  have hHk := HLt.add hH
  refine SCall.of_code Tok Tryz.func49 rfl Tryz.call49 (n := 8) rfl (by simp) (rs := [.tmp 2]) rfl ?_
  refine EWn.to ?_
  refine EWn.of_c Tok mixed (own := false) keep49 tab49 (by kernel_rfl) ?_
  (repeat (first | simp -dsimp only [zrArena01, st_hook, sz_hook, st1_hook, cl_hook, st_node, sz_node, st1_node, cl_node, xnils, xnilm, xrange, xmakeMap, RB, TB, keep49, tab49, xindexAddr, xindex, xslice, xconvert, xlen, ewOp, FreeW, StabW, SameW, ChangeW, AddW, BaseW, limBytes, simprocAttr, ne_eq] | ((with_reducible refine Need.intro ?_ ?_); (first | trivial | exact ⟨_, rfl⟩ | exact ⟨[], (List.append_nil _).symm⟩ | omega | (simp; done) | (simp; omega) | exact ⟨by first | trivial | (simp; done), _, by first | rfl | (simp; rfl)⟩))))
  refine AnyB.intro fun b hb => ?_
  (repeat (first | simp -dsimp only [zrArena01, st_hook, sz_hook, st1_hook, cl_hook, st_node, sz_node, st1_node, cl_node, xnils, xnilm, xrange, xmakeMap, RB, TB, keep49, tab49, xindexAddr, xindex, xslice, xconvert, xlen, ewOp, FreeW, StabW, SameW, ChangeW, AddW, BaseW, limBytes, simprocAttr, ne_eq] | ((with_reducible refine Need.intro ?_ ?_); (first | trivial | exact ⟨_, rfl⟩ | exact ⟨[], (List.append_nil _).symm⟩ | omega | (simp; done) | (simp; omega) | exact ⟨by first | trivial | (simp; done), _, by first | rfl | (simp; rfl)⟩))))
  refine IfW.intro (fun h => ?_) (fun h => ?_)
  · subst h
    have h0 : l = [] := by cases l with
      | nil => rfl
      | cons x l => exact absurd (hb (by simp)) (by simp)
    subst h0
    (repeat (first | simp -dsimp only [zrArena01, st_hook, sz_hook, st1_hook, cl_hook, st_node, sz_node, st1_node, cl_node, xnils, xnilm, xrange, xmakeMap, RB, TB, keep49, tab49, xindexAddr, xindex, xslice, xconvert, xlen, ewOp, FreeW, StabW, SameW, ChangeW, AddW, BaseW, limBytes, simprocAttr, ne_eq] | ((with_reducible refine Need.intro ?_ ?_); (first | trivial | exact ⟨_, rfl⟩ | exact ⟨[], (List.append_nil _).symm⟩ | omega | (simp; done) | (simp; omega) | exact ⟨by first | trivial | (simp; done), _, by first | rfl | (simp; rfl)⟩))))
    refine RetW.auto0 false _ (by first | rfl | exact (List.append_nil _).symm) ?_ ?_
    · (simp (maxDischargeDepth := 6) [LTB, HLt_set, ltL_take, ltL_drop, ltL_rep, ltL_set, upd, eset, hH, hHk, zlArena01, lt_hook, lt1_hook, ltc_hook, lt_node, lt1_node, ltc_node] <;> omega)
    (try simp only [wk, wk1, wk0, RB, limBytes, simprocAttr, ne_eq])
    (try (rw [List.take_of_length_le]; rotate_left 1; (· first | (simp; done) | (simp; omega) | omega)))
  · subst h
    (repeat (first | simp -dsimp only [zrArena01, st_hook, sz_hook, st1_hook, cl_hook, st_node, sz_node, st1_node, cl_node, xnils, xnilm, xrange, xmakeMap, RB, TB, keep49, tab49, xindexAddr, xindex, xslice, xconvert, xlen, ewOp, FreeW, StabW, SameW, ChangeW, AddW, BaseW, limBytes, simprocAttr, ne_eq] | ((with_reducible refine Need.intro ?_ ?_); (first | trivial | exact ⟨_, rfl⟩ | exact ⟨[], (List.append_nil _).symm⟩ | omega | (simp; done) | (simp; omega) | exact ⟨by first | trivial | (simp; done), _, by first | rfl | (simp; rfl)⟩))))
    refine RetW.auto0 false _ (by first | rfl | exact (List.append_nil _).symm) ?_ ?_
    · (simp (maxDischargeDepth := 6) [LTB, HLt_set, ltL_take, ltL_drop, ltL_rep, ltL_set, upd, eset, hH, hHk, zlArena01, lt_hook, lt1_hook, ltc_hook, lt_node, lt1_node, ltc_node] <;> omega)
    (try simp only [wk, wk1, wk0, RB, limBytes, simprocAttr, ne_eq])
    (try (rw [List.take_of_length_le]; rotate_left 1; (· first | (simp; done) | (simp; omega) | omega)))
/-- a node; its kids are a list of the caller's own -/
def nodeK (n : Node) (o v : Nat) : V := .agg [.int .i64 n.id, .int .i64 n.owner, .int .i64 n.parent, .int .i64 n.kind, .str n.tag.text, .slice (n.tag.runs.map runV), .str n.key, .int .i64 n.slot, .slice (n.attrs.map attrV), .slice (n.hooks.map hookV), .vec o v 0 n.kids.length, .str n.text.text, .slice (n.text.runs.map runV)]
/-- what a call answers, after a ghost step -/
theorem _root_.Go.EL.SCall.ghoE {f : FuncId} {args : List V} {H : List Ob} {R R2 : V → List Ob → Prop} (h : SCall Tryz.prog f args H R) (hg : ∀ r H', R r H' → ∃ r2 H2, Gho H.length [(0, r)] H' [(0, r2)] H2 ∧ R2 r2 H2) : SCall Tryz.prog f args H R2 := by
  intro g w cargs hG ha
  refine (h g w cargs hG ha).mono fun cv w' ⟨r, H', g', k1, k2, k3, hr⟩ => ?_
  obtain ⟨r2, H2, hh, h2⟩ := hg r H' hr
  obtain ⟨g2, j1, j2, j3⟩ := hh g' w' k1
  refine ⟨r2, H2, g2, j1, j2 _ _ k2, ?_, h2⟩
  have := j3 0 cv (by simpa [eget] using k3)
  simpa [eget] using this
theorem cloneIV0 (H : List Ob) (l : List Int) (hl : l.length ≤ 1000000000000) : SCall Tryz.prog 49 [.slice (l.map vi)] H (fun r H' => (l = [] ∧ r = .fslice [] ∧ H' = H) ∨ (r = .vec H.length 1 0 l.length ∧ H' = H ++ [.vec 1 1 (l.map vi)])) := by
  refine SCall.of_good fun hH => ?_
  have hHk := HLt.add hH
  refine SCall.of_code Tok Tryz.func49 rfl Tryz.call49 (n := 8) rfl (by simp) (rs := [.tmp 2]) rfl ?_
  refine EWn.to ?_
  refine EWn.of_c Tok mixed (own := false) keep49 tab49 (by kernel_rfl) ?_
  (repeat (first | simp -dsimp only [zrArena01, st_hook, sz_hook, st1_hook, cl_hook, st_node, sz_node, st1_node, cl_node, xnils, xnilm, xrange, xmakeMap, RB, TB, keep49, tab49, xindexAddr, xindex, xslice, xconvert, xlen, ewOp, FreeW, StabW, SameW, ChangeW, AddW, BaseW, limBytes, simprocAttr, ne_eq] | ((with_reducible refine Need.intro ?_ ?_); (first | trivial | exact ⟨_, rfl⟩ | exact ⟨[], (List.append_nil _).symm⟩ | omega | (simp; done) | (simp; omega) | exact ⟨by first | trivial | (simp; done), _, by first | rfl | (simp; rfl)⟩))))
  refine AnyB.intro fun b hb => ?_
  (repeat (first | simp -dsimp only [zrArena01, st_hook, sz_hook, st1_hook, cl_hook, st_node, sz_node, st1_node, cl_node, xnils, xnilm, xrange, xmakeMap, RB, TB, keep49, tab49, xindexAddr, xindex, xslice, xconvert, xlen, ewOp, FreeW, StabW, SameW, ChangeW, AddW, BaseW, limBytes, simprocAttr, ne_eq] | ((with_reducible refine Need.intro ?_ ?_); (first | trivial | exact ⟨_, rfl⟩ | exact ⟨[], (List.append_nil _).symm⟩ | omega | (simp; done) | (simp; omega) | exact ⟨by first | trivial | (simp; done), _, by first | rfl | (simp; rfl)⟩))))
  refine IfW.intro (fun h => ?_) (fun h => ?_)
  · subst h
    have h0 : l = [] := by cases l with
      | nil => rfl
      | cons x l => exact absurd (hb (by simp)) (by simp)
    subst h0
    (repeat (first | simp -dsimp only [zrArena01, st_hook, sz_hook, st1_hook, cl_hook, st_node, sz_node, st1_node, cl_node, xnils, xnilm, xrange, xmakeMap, RB, TB, keep49, tab49, xindexAddr, xindex, xslice, xconvert, xlen, ewOp, FreeW, StabW, SameW, ChangeW, AddW, BaseW, limBytes, simprocAttr, ne_eq] | ((with_reducible refine Need.intro ?_ ?_); (first | trivial | exact ⟨_, rfl⟩ | exact ⟨[], (List.append_nil _).symm⟩ | omega | (simp; done) | (simp; omega) | exact ⟨by first | trivial | (simp; done), _, by first | rfl | (simp; rfl)⟩))))
    refine RetW.auto0 true _ (by first | rfl | exact (List.append_nil _).symm) ?_ ?_
    · (simp (maxDischargeDepth := 6) [LTB, HLt_set, ltL_take, ltL_drop, ltL_rep, ltL_set, upd, eset, hH, hHk, zlArena01, lt_hook, lt1_hook, ltc_hook, lt_node, lt1_node, ltc_node] <;> omega)
    (try simp only [wk, wk1, wk0, RB, if_true, limBytes, simprocAttr, ne_eq])
    (try (rw [List.take_of_length_le]; rotate_left 1; (· first | (simp; done) | (simp; omega) | omega)))
  · subst h
    (repeat (first | simp -dsimp only [zrArena01, st_hook, sz_hook, st1_hook, cl_hook, st_node, sz_node, st1_node, cl_node, xnils, xnilm, xrange, xmakeMap, RB, TB, keep49, tab49, xindexAddr, xindex, xslice, xconvert, xlen, ewOp, FreeW, StabW, SameW, ChangeW, AddW, BaseW, limBytes, simprocAttr, ne_eq] | ((with_reducible refine Need.intro ?_ ?_); (first | trivial | exact ⟨_, rfl⟩ | exact ⟨[], (List.append_nil _).symm⟩ | omega | (simp; done) | (simp; omega) | exact ⟨by first | trivial | (simp; done), _, by first | rfl | (simp; rfl)⟩))))
    refine RetW.auto false [.vec 1 1 (l.map vi)] _ (by first | rfl | simp) ?_ ?_ ?_
    · (simp (maxDischargeDepth := 6) [LTB, HLt_set, ltL_take, ltL_drop, ltL_rep, ltL_set, upd, eset, hH, hHk, zlArena01, lt_hook, lt1_hook, ltc_hook, lt_node, lt1_node, ltc_node] <;> omega)
    · (simp (maxDischargeDepth := 6) [LTB, HLt_set, ltL_take, ltL_drop, ltL_rep, ltL_set, upd, eset, hH, hHk, zlArena01, lt_hook, lt1_hook, ltc_hook, lt_node, lt1_node, ltc_node] <;> omega)
    (try simp only [wk, wk1, wk0, RB, limBytes, simprocAttr, ne_eq])
    (try (rw [List.take_of_length_le]; rotate_left 1; (· first | (simp; done) | (simp; omega) | omega)))
    first | (simp; done) | (refine .inr ⟨?_, ?_⟩ <;> simp; done) | trace_state
theorem cloneIV (H : List Ob) (l : List Int) (hl : l.length ≤ 1000000000000) : SCall Tryz.prog 49 [.slice (l.map vi)] H (fun r H' => r = .vec H.length 1 0 l.length ∧ H' = H ++ [.vec 1 1 (l.map vi)]) := by
  refine (cloneIV0 H l hl).ghoE fun r H' h => ?_
  rcases h with ⟨rfl, rfl, rfl⟩ | ⟨rfl, rfl⟩
  · refine ⟨_, _, Gho.adopt (n0 := H'.length) (env := [(0, .fslice [])]) 0 1 rfl, And.intro rfl rfl⟩
  · exact ⟨_, _, Gho.refl _ _ _, And.intro rfl rfl⟩
theorem aOwnV0 (H : List Ob) (n : Node) (hn : okN n) : SCall Tryz.prog 34 [nodeV n] H (fun r H' => ∃ L v, r = .agg [.int .i64 n.id, .int .i64 n.owner, .int .i64 n.parent, .int .i64 n.kind, .str (fixS n.tag).text, .slice ((fixS n.tag).runs.map runV), .str n.key, .int .i64 n.slot, .vec (H.length + 3) v 0 n.attrs.length, .slice (n.hooks.map hookV), .vec (H.length + 2) 1 0 n.kids.length, .str (fixS n.text).text, .slice ((fixS n.text).runs.map runV)] ∧ H' = H ++ L ∧ L[2]? = some (.vec 1 1 (n.kids.map vi)) ∧ L[3]? = some (.vec v 4 ((n.attrs.map ownA).map attrV))) := by
  obtain ⟨h1, h2, h3, h4, h5, h6⟩ := hn
  unfold nodeV
  refine SCall.of_good fun hH => ?_
  have hHk := HLt.add hH
  refine SCall.of_code Tok Tryz.func34 rfl Tryz.call34 (n := 43) rfl (by simp) (rs := [.cell 2 52]) rfl ?_
  refine EWn.to ?_
  refine EWn.of_c Tok mixed (own := false) keep34 tab34 (by kernel_rfl) ?_
  (repeat (first | simp -dsimp only [zrArena01, st_hook, sz_hook, st1_hook, cl_hook, st_node, sz_node, st1_node, cl_node, xnils, xnilm, xrange, xmakeMap, RB, TB, keep34, tab34, xindexAddr, xindex, xslice, xconvert, xlen, ewOp, FreeW, StabW, SameW, ChangeW, AddW, BaseW, limBytes, simprocAttr, ne_eq] | ((with_reducible refine Need.intro ?_ ?_); (first | trivial | exact ⟨_, rfl⟩ | exact ⟨[], (List.append_nil _).symm⟩ | omega | (simp; done) | (simp; omega) | exact ⟨by first | trivial | (simp; done), _, by first | rfl | (simp; rfl)⟩))))
  (first | refine SCall.then (mFix _ n.tag h1) ?_ | refine SCall.thenA (mFix _ n.tag h1) (by repeat (first | exact trivial | exact .inl (.inl rfl) | exact .inl (.inr ⟨_, rfl, rfl⟩) | exact .inl rfl | exact .inr ⟨_, rfl, rfl⟩ | refine .inr ⟨_, _, rfl, rfl, ?_⟩ | refine ⟨?_, ?_⟩)) ?_ | refine CallE.intro _ (mFix _ n.tag h1) ?_ | refine CallE.introA (mFix _ n.tag h1) (by repeat (first | exact trivial | exact .inl (.inl rfl) | exact .inl (.inr ⟨_, rfl, rfl⟩) | exact .inl rfl | exact .inr ⟨_, rfl, rfl⟩ | refine .inr ⟨_, _, rfl, rfl, ?_⟩ | refine ⟨?_, ?_⟩)) ?_ | refine CallE.intro _ (fun _ => mFix _ n.tag h1) ?_ | refine CallE.intro _ (fun _ => SCall.arg (by repeat (first | exact trivial | exact .inl (.inl rfl) | exact .inl (.inr ⟨_, rfl, rfl⟩) | exact .inl rfl | exact .inr ⟨_, rfl, rfl⟩ | refine .inr ⟨_, _, rfl, rfl, ?_⟩ | refine ⟨?_, ?_⟩)) (mFix _ n.tag h1)) ?_ | refine CallE2.intro _ _ (mFix _ n.tag h1) ?_ | refine CallE2.intro _ _ (SCall.arg (by repeat (first | exact trivial | exact .inl (.inl rfl) | exact .inl (.inr ⟨_, rfl, rfl⟩) | exact .inl rfl | exact .inr ⟨_, rfl, rfl⟩ | refine .inr ⟨_, _, rfl, rfl, ?_⟩ | refine ⟨?_, ?_⟩)) (mFix _ n.tag h1)) ?_)
  (repeat (first | simp -dsimp only [zrArena01, st_hook, sz_hook, st1_hook, cl_hook, st_node, sz_node, st1_node, cl_node, xnils, xnilm, xrange, xmakeMap, strV, RB, TB, keep34, tab34, xindexAddr, xindex, xslice, xconvert, xlen, ewOp, FreeW, StabW, SameW, ChangeW, AddW, BaseW, limBytes, simprocAttr, ne_eq] | ((with_reducible refine Need.intro ?_ ?_); (first | trivial | exact ⟨_, rfl⟩ | exact ⟨[], (List.append_nil _).symm⟩ | omega | (simp; done) | (simp; omega) | exact ⟨by first | trivial | (simp; done), _, by first | rfl | (simp; rfl)⟩))))
  (first | refine SCall.then (mFix _ n.text h2) ?_ | refine SCall.thenA (mFix _ n.text h2) (by repeat (first | exact trivial | exact .inl (.inl rfl) | exact .inl (.inr ⟨_, rfl, rfl⟩) | exact .inl rfl | exact .inr ⟨_, rfl, rfl⟩ | refine .inr ⟨_, _, rfl, rfl, ?_⟩ | refine ⟨?_, ?_⟩)) ?_ | refine CallE.intro _ (mFix _ n.text h2) ?_ | refine CallE.introA (mFix _ n.text h2) (by repeat (first | exact trivial | exact .inl (.inl rfl) | exact .inl (.inr ⟨_, rfl, rfl⟩) | exact .inl rfl | exact .inr ⟨_, rfl, rfl⟩ | refine .inr ⟨_, _, rfl, rfl, ?_⟩ | refine ⟨?_, ?_⟩)) ?_ | refine CallE.intro _ (fun _ => mFix _ n.text h2) ?_ | refine CallE.intro _ (fun _ => SCall.arg (by repeat (first | exact trivial | exact .inl (.inl rfl) | exact .inl (.inr ⟨_, rfl, rfl⟩) | exact .inl rfl | exact .inr ⟨_, rfl, rfl⟩ | refine .inr ⟨_, _, rfl, rfl, ?_⟩ | refine ⟨?_, ?_⟩)) (mFix _ n.text h2)) ?_ | refine CallE2.intro _ _ (mFix _ n.text h2) ?_ | refine CallE2.intro _ _ (SCall.arg (by repeat (first | exact trivial | exact .inl (.inl rfl) | exact .inl (.inr ⟨_, rfl, rfl⟩) | exact .inl rfl | exact .inr ⟨_, rfl, rfl⟩ | refine .inr ⟨_, _, rfl, rfl, ?_⟩ | refine ⟨?_, ?_⟩)) (mFix _ n.text h2)) ?_)
  (repeat (first | simp -dsimp only [zrArena01, st_hook, sz_hook, st1_hook, cl_hook, st_node, sz_node, st1_node, cl_node, xnils, xnilm, xrange, xmakeMap, strV, RB, TB, keep34, tab34, xindexAddr, xindex, xslice, xconvert, xlen, ewOp, FreeW, StabW, SameW, ChangeW, AddW, BaseW, limBytes, simprocAttr, ne_eq] | ((with_reducible refine Need.intro ?_ ?_); (first | trivial | exact ⟨_, rfl⟩ | exact ⟨[], (List.append_nil _).symm⟩ | omega | (simp; done) | (simp; omega) | exact ⟨by first | trivial | (simp; done), _, by first | rfl | (simp; rfl)⟩))))
  refine ⟨fun i_ => match i_ with
    | 0 => .ref H.length 9
    | 1 => .slice (n.hooks.map hookV)
    | 2 => .slice (n.hooks.map hookV)
    | 3 => .ref H.length 10
    | 4 => .slice (n.kids.map vi)
    | 5 => .vec (H.length + 2) 1 0 n.kids.length
    | 6 => .ref H.length 9
    | 8 => .ref H.length 10
    | _ => .dead, fun fl => H ++ (.var [.int .i64 n.id, .int .i64 n.owner, .int .i64 n.parent, .int .i64 n.kind, .str (fixS n.tag).text, .slice ((fixS n.tag).runs.map runV), .str n.key, .int .i64 n.slot, .slice (n.attrs.map attrV), .slice (n.hooks.map hookV), if fl 9 = true then .vec (H.length + 2) 1 0 n.kids.length else .slice (n.kids.map vi), .str (fixS n.text).text, .slice ((fixS n.text).runs.map runV)] :: .var [.int .i64 0, .int .i64 0, .int .i64 0, .int .i64 0, .str [], .fslice [], .str [], .int .i64 0, .fslice [], .fslice [], .fslice [], .str [], .fslice []] :: (if fl 5 = true then [.vec 1 1 (n.kids.map vi)] else [])), ?_, ?_, ?_, ?_⟩
  · simp
  · intro fl fl' hfl
    simp only [hfl 5 (by simp), hfl 9 (by simp)]
  · intro i_ o hi fl hcl hil hed
    have q9 := hcl 9 _ rfl
    simp [Region.binds] at q9
    match i_, hi, hil, hed with
    | 0, hi, hil, hed =>
      simp only [List.getElem?_cons_zero, List.getElem?_cons_succ, Option.some.injEq] at hi
      subst hi
      (repeat (first | simp -dsimp only [zrArena01, st_hook, sz_hook, st1_hook, cl_hook, st_node, sz_node, st1_node, cl_node, xnils, xnilm, xrange, xmakeMap, envAt, List.take_succ_cons, List.take_zero, hil, Bool.false_eq_true, if_false, if_true, RB, TB, keep34, tab34, xindexAddr, xindex, xslice, xconvert, xlen, ewOp, FreeW, StabW, SameW, ChangeW, AddW, BaseW, limBytes, simprocAttr, ne_eq] | ((with_reducible refine Need.intro ?_ ?_); (first | trivial | exact ⟨_, rfl⟩ | exact ⟨[], (List.append_nil _).symm⟩ | omega | (simp; done) | (simp; omega) | exact ⟨by first | trivial | (simp; done), _, by first | rfl | (simp; rfl)⟩))))
    | 1, hi, hil, hed =>
      simp only [List.getElem?_cons_zero, List.getElem?_cons_succ, Option.some.injEq] at hi
      subst hi
      (repeat (first | simp -dsimp only [zrArena01, st_hook, sz_hook, st1_hook, cl_hook, st_node, sz_node, st1_node, cl_node, xnils, xnilm, xrange, xmakeMap, envAt, List.take_succ_cons, List.take_zero, hil, Bool.false_eq_true, if_false, if_true, RB, TB, keep34, tab34, xindexAddr, xindex, xslice, xconvert, xlen, ewOp, FreeW, StabW, SameW, ChangeW, AddW, BaseW, limBytes, simprocAttr, ne_eq] | ((with_reducible refine Need.intro ?_ ?_); (first | trivial | exact ⟨_, rfl⟩ | exact ⟨[], (List.append_nil _).symm⟩ | omega | (simp; done) | (simp; omega) | exact ⟨by first | trivial | (simp; done), _, by first | rfl | (simp; rfl)⟩))))
    | 2, hi, hil, hed =>
      simp only [List.getElem?_cons_zero, List.getElem?_cons_succ, Option.some.injEq] at hi
      subst hi
      (repeat (first | simp -dsimp only [zrArena01, st_hook, sz_hook, st1_hook, cl_hook, st_node, sz_node, st1_node, cl_node, xnils, xnilm, xrange, xmakeMap, envAt, List.take_succ_cons, List.take_zero, hil, Bool.false_eq_true, if_false, if_true, RB, TB, keep34, tab34, xindexAddr, xindex, xslice, xconvert, xlen, ewOp, FreeW, StabW, SameW, ChangeW, AddW, BaseW, limBytes, simprocAttr, ne_eq] | ((with_reducible refine Need.intro ?_ ?_); (first | trivial | exact ⟨_, rfl⟩ | exact ⟨[], (List.append_nil _).symm⟩ | omega | (simp; done) | (simp; omega) | exact ⟨by first | trivial | (simp; done), _, by first | rfl | (simp; rfl)⟩))))
      refine SCall.mono (cloneH _ n.hooks h5) ?_
      rintro _ _ ⟨rfl, rfl⟩
      simp
    | 3, hi, hil, hed =>
      simp only [List.getElem?_cons_zero, List.getElem?_cons_succ, Option.some.injEq] at hi
      subst hi
      (repeat (first | simp -dsimp only [zrArena01, st_hook, sz_hook, st1_hook, cl_hook, st_node, sz_node, st1_node, cl_node, xnils, xnilm, xrange, xmakeMap, envAt, List.take_succ_cons, List.take_zero, hil, Bool.false_eq_true, if_false, if_true, RB, TB, keep34, tab34, xindexAddr, xindex, xslice, xconvert, xlen, ewOp, FreeW, StabW, SameW, ChangeW, AddW, BaseW, limBytes, simprocAttr, ne_eq] | ((with_reducible refine Need.intro ?_ ?_); (first | trivial | exact ⟨_, rfl⟩ | exact ⟨[], (List.append_nil _).symm⟩ | omega | (simp; done) | (simp; omega) | exact ⟨by first | trivial | (simp; done), _, by first | rfl | (simp; rfl)⟩))))
    | 4, hi, hil, hed =>
      simp only [List.getElem?_cons_zero, List.getElem?_cons_succ, Option.some.injEq] at hi
      subst hi
      have f9 : fl 9 = false := Bool.eq_false_iff.2 fun h => by have := q9 h; simp [hil] at this
      (repeat (first | simp -dsimp only [zrArena01, st_hook, sz_hook, st1_hook, cl_hook, st_node, sz_node, st1_node, cl_node, xnils, xnilm, xrange, xmakeMap, envAt, List.take_succ_cons, List.take_zero, hil, f9, Bool.false_eq_true, if_false, if_true, RB, TB, keep34, tab34, xindexAddr, xindex, xslice, xconvert, xlen, ewOp, FreeW, StabW, SameW, ChangeW, AddW, BaseW, limBytes, simprocAttr, ne_eq] | ((with_reducible refine Need.intro ?_ ?_); (first | trivial | exact ⟨_, rfl⟩ | exact ⟨[], (List.append_nil _).symm⟩ | omega | (simp; done) | (simp; omega) | exact ⟨by first | trivial | (simp; done), _, by first | rfl | (simp; rfl)⟩))))
    | 5, hi, hil, hed =>
      simp only [List.getElem?_cons_zero, List.getElem?_cons_succ, Option.some.injEq] at hi
      subst hi
      have f9 : fl 9 = false := Bool.eq_false_iff.2 fun h => by have := q9 h; simp [hil] at this
      (repeat (first | simp -dsimp only [zrArena01, st_hook, sz_hook, st1_hook, cl_hook, st_node, sz_node, st1_node, cl_node, xnils, xnilm, xrange, xmakeMap, envAt, List.take_succ_cons, List.take_zero, hil, f9, Bool.false_eq_true, if_false, if_true, RB, TB, keep34, tab34, xindexAddr, xindex, xslice, xconvert, xlen, ewOp, FreeW, StabW, SameW, ChangeW, AddW, BaseW, limBytes, simprocAttr, ne_eq] | ((with_reducible refine Need.intro ?_ ?_); (first | trivial | exact ⟨_, rfl⟩ | exact ⟨[], (List.append_nil _).symm⟩ | omega | (simp; done) | (simp; omega) | exact ⟨by first | trivial | (simp; done), _, by first | rfl | (simp; rfl)⟩))))
      refine SCall.mono (cloneIV _ n.kids h6) ?_
      rintro _ _ ⟨rfl, rfl⟩
      simp [f9]
    | 6, hi, hil, hed =>
      simp only [List.getElem?_cons_zero, List.getElem?_cons_succ, Option.some.injEq] at hi
      subst hi
      (repeat (first | simp -dsimp only [zrArena01, st_hook, sz_hook, st1_hook, cl_hook, st_node, sz_node, st1_node, cl_node, xnils, xnilm, xrange, xmakeMap, envAt, List.take_succ_cons, List.take_zero, hil, Bool.false_eq_true, if_false, if_true, RB, TB, keep34, tab34, xindexAddr, xindex, xslice, xconvert, xlen, ewOp, FreeW, StabW, SameW, ChangeW, AddW, BaseW, limBytes, simprocAttr, ne_eq] | ((with_reducible refine Need.intro ?_ ?_); (first | trivial | exact ⟨_, rfl⟩ | exact ⟨[], (List.append_nil _).symm⟩ | omega | (simp; done) | (simp; omega) | exact ⟨by first | trivial | (simp; done), _, by first | rfl | (simp; rfl)⟩))))
    | 7, hi, hil, hed =>
      simp only [List.getElem?_cons_zero, List.getElem?_cons_succ, Option.some.injEq] at hi
      subst hi
      (repeat (first | simp -dsimp only [zrArena01, st_hook, sz_hook, st1_hook, cl_hook, st_node, sz_node, st1_node, cl_node, xnils, xnilm, xrange, xmakeMap, envAt, List.take_succ_cons, List.take_zero, hil, Bool.false_eq_true, if_false, if_true, RB, TB, keep34, tab34, xindexAddr, xindex, xslice, xconvert, xlen, ewOp, FreeW, StabW, SameW, ChangeW, AddW, BaseW, limBytes, simprocAttr, ne_eq] | ((with_reducible refine Need.intro ?_ ?_); (first | trivial | exact ⟨_, rfl⟩ | exact ⟨[], (List.append_nil _).symm⟩ | omega | (simp; done) | (simp; omega) | exact ⟨by first | trivial | (simp; done), _, by first | rfl | (simp; rfl)⟩))))
    | 8, hi, hil, hed =>
      simp only [List.getElem?_cons_zero, List.getElem?_cons_succ, Option.some.injEq] at hi
      subst hi
      (repeat (first | simp -dsimp only [zrArena01, st_hook, sz_hook, st1_hook, cl_hook, st_node, sz_node, st1_node, cl_node, xnils, xnilm, xrange, xmakeMap, envAt, List.take_succ_cons, List.take_zero, hil, Bool.false_eq_true, if_false, if_true, RB, TB, keep34, tab34, xindexAddr, xindex, xslice, xconvert, xlen, ewOp, FreeW, StabW, SameW, ChangeW, AddW, BaseW, limBytes, simprocAttr, ne_eq] | ((with_reducible refine Need.intro ?_ ?_); (first | trivial | exact ⟨_, rfl⟩ | exact ⟨[], (List.append_nil _).symm⟩ | omega | (simp; done) | (simp; omega) | exact ⟨by first | trivial | (simp; done), _, by first | rfl | (simp; rfl)⟩))))
    | 9, hi, hil, hed =>
      simp only [List.getElem?_cons_zero, List.getElem?_cons_succ, Option.some.injEq] at hi
      subst hi
      have p5 : fl 5 = true := hed ⟨5, .data⟩ (by simp) rfl
      (repeat (first | simp -dsimp only [zrArena01, st_hook, sz_hook, st1_hook, cl_hook, st_node, sz_node, st1_node, cl_node, xnils, xnilm, xrange, xmakeMap, envAt, List.take_succ_cons, List.take_zero, hil, p5, Bool.false_eq_true, if_false, if_true, RB, TB, keep34, tab34, xindexAddr, xindex, xslice, xconvert, xlen, ewOp, FreeW, StabW, SameW, ChangeW, AddW, BaseW, limBytes, simprocAttr, ne_eq] | ((with_reducible refine Need.intro ?_ ?_); (first | trivial | exact ⟨_, rfl⟩ | exact ⟨[], (List.append_nil _).symm⟩ | omega | (simp; done) | (simp; omega) | exact ⟨by first | trivial | (simp; done), _, by first | rfl | (simp; rfl)⟩))))
    | c + 10, hi, hil, hed => simp at hi
  (repeat (first | simp -dsimp only [zrArena01, st_hook, sz_hook, st1_hook, cl_hook, st_node, sz_node, st1_node, cl_node, xnils, xnilm, xrange, xmakeMap, envAt, RB, TB, keep34, tab34, xindexAddr, xindex, xslice, xconvert, xlen, ewOp, FreeW, StabW, SameW, ChangeW, AddW, BaseW, limBytes, simprocAttr, ne_eq] | ((with_reducible refine Need.intro ?_ ?_); (first | trivial | exact ⟨_, rfl⟩ | exact ⟨[], (List.append_nil _).symm⟩ | omega | (simp; done) | (simp; omega) | exact ⟨by first | trivial | (simp; done), _, by first | rfl | (simp; rfl)⟩))))
  refine EWn.ghost (Gho.adopt 3 4 rfl) ?_
  simp only [RB, limBytes, simprocAttr, ne_eq]
  refine EWn.loopE (ι := (Nat)) (fun (i : (Nat)) => i ≤ n.attrs.length) (fun (i : (Nat)) => n.attrs.length - i) (fun (i : (Nat)) => [(3, .vec (H.length + 3) (1 + i) 0 i), (25, .int .i64 i)]) (fun (i : (Nat)) => H ++ [.var [.int .i64 n.id, .int .i64 n.owner, .int .i64 n.parent, .int .i64 n.kind, .str (fixS n.tag).text, .slice ((fixS n.tag).runs.map runV), .str n.key, .int .i64 n.slot, .slice (n.attrs.map attrV), .slice (n.hooks.map hookV), .vec (H.length + 2) 1 0 n.kids.length, .str (fixS n.text).text, .slice ((fixS n.text).runs.map runV)], .var [.int .i64 0, .int .i64 0, .int .i64 0, .int .i64 0, .str [], .fslice [], .str [], .int .i64 0, .fslice [], .fslice [], .fslice [], .str [], .fslice []], .vec 1 1 (n.kids.map vi), .vec (1 + i) 4 (((n.attrs.take i).map ownA).map attrV)]) (0) ?_ ?_ ?_ ?_ ?_
  · first | rfl | simp [upd, eset]
  · first | rfl | (simp; done) | exact (set_same (by assumption)).symm
  · rintro i hok; exact ⟨by first | (simp; done) | (simp; omega), by (simp (maxDischargeDepth := 6) [LTB, HLt_set, ltL_take, ltL_drop, ltL_rep, ltL_set, upd, eset, hH, hHk, zlArena01, lt_hook, lt1_hook, ltc_hook, lt_node, lt1_node, ltc_node] <;> omega), by (simp (maxDischargeDepth := 6) [LTB, HLt_set, ltL_take, ltL_drop, ltL_rep, ltL_set, upd, eset, hH, hHk, zlArena01, lt_hook, lt1_hook, ltc_hook, lt_node, lt1_node, ltc_node] <;> omega)⟩
  · omega
  rintro i hi
  refine EWn.of_c Tok mixed (own := false) keep34 tab34 (by kernel_rfl) ?_
  (repeat (first | simp -dsimp only [zrArena01, st_hook, sz_hook, st1_hook, cl_hook, st_node, sz_node, st1_node, cl_node, xnils, xnilm, xrange, xmakeMap, RB, TB, keep34, tab34, xindexAddr, xindex, xslice, xconvert, xlen, ewOp, FreeW, StabW, SameW, ChangeW, AddW, BaseW, limBytes, simprocAttr, ne_eq] | ((with_reducible refine Need.intro ?_ ?_); (first | trivial | exact ⟨_, rfl⟩ | exact ⟨[], (List.append_nil _).symm⟩ | omega | (simp; done) | (simp; omega) | exact ⟨by first | trivial | (simp; done), _, by first | rfl | (simp; rfl)⟩))))
  refine IfW.intro (fun h => ?_) (fun h => ?_)
  · have hlt := lt_of h
    obtain ⟨o1, o2⟩ := h3 _ (List.getElem_mem hlt)
    (repeat (first | simp -dsimp only [zrArena01, st_hook, sz_hook, st1_hook, cl_hook, st_node, sz_node, st1_node, cl_node, xnils, xnilm, xrange, xmakeMap, h, at_map attrV n.attrs i hlt, attrV, RB, TB, keep34, tab34, xindexAddr, xindex, xslice, xconvert, xlen, ewOp, FreeW, StabW, SameW, ChangeW, AddW, BaseW, limBytes, simprocAttr, ne_eq] | ((with_reducible refine Need.intro ?_ ?_); (first | trivial | exact ⟨_, rfl⟩ | exact ⟨[], (List.append_nil _).symm⟩ | omega | (simp; done) | (simp; omega) | exact ⟨by first | trivial | (simp; done), _, by first | rfl | (simp; rfl)⟩))))
    (first | refine SCall.then (mFix _ n.attrs[i].name o1) ?_ | refine SCall.thenA (mFix _ n.attrs[i].name o1) (by repeat (first | exact trivial | exact .inl (.inl rfl) | exact .inl (.inr ⟨_, rfl, rfl⟩) | exact .inl rfl | exact .inr ⟨_, rfl, rfl⟩ | refine .inr ⟨_, _, rfl, rfl, ?_⟩ | refine ⟨?_, ?_⟩)) ?_ | refine CallE.intro _ (mFix _ n.attrs[i].name o1) ?_ | refine CallE.introA (mFix _ n.attrs[i].name o1) (by repeat (first | exact trivial | exact .inl (.inl rfl) | exact .inl (.inr ⟨_, rfl, rfl⟩) | exact .inl rfl | exact .inr ⟨_, rfl, rfl⟩ | refine .inr ⟨_, _, rfl, rfl, ?_⟩ | refine ⟨?_, ?_⟩)) ?_ | refine CallE.intro _ (fun _ => mFix _ n.attrs[i].name o1) ?_ | refine CallE.intro _ (fun _ => SCall.arg (by repeat (first | exact trivial | exact .inl (.inl rfl) | exact .inl (.inr ⟨_, rfl, rfl⟩) | exact .inl rfl | exact .inr ⟨_, rfl, rfl⟩ | refine .inr ⟨_, _, rfl, rfl, ?_⟩ | refine ⟨?_, ?_⟩)) (mFix _ n.attrs[i].name o1)) ?_ | refine CallE2.intro _ _ (mFix _ n.attrs[i].name o1) ?_ | refine CallE2.intro _ _ (SCall.arg (by repeat (first | exact trivial | exact .inl (.inl rfl) | exact .inl (.inr ⟨_, rfl, rfl⟩) | exact .inl rfl | exact .inr ⟨_, rfl, rfl⟩ | refine .inr ⟨_, _, rfl, rfl, ?_⟩ | refine ⟨?_, ?_⟩)) (mFix _ n.attrs[i].name o1)) ?_)
    (repeat (first | simp -dsimp only [zrArena01, st_hook, sz_hook, st1_hook, cl_hook, st_node, sz_node, st1_node, cl_node, xnils, xnilm, xrange, xmakeMap, strV, RB, TB, keep34, tab34, xindexAddr, xindex, xslice, xconvert, xlen, ewOp, FreeW, StabW, SameW, ChangeW, AddW, BaseW, limBytes, simprocAttr, ne_eq] | ((with_reducible refine Need.intro ?_ ?_); (first | trivial | exact ⟨_, rfl⟩ | exact ⟨[], (List.append_nil _).symm⟩ | omega | (simp; done) | (simp; omega) | exact ⟨by first | trivial | (simp; done), _, by first | rfl | (simp; rfl)⟩))))
    (first | refine SCall.then (mFix _ n.attrs[i].value o2) ?_ | refine SCall.thenA (mFix _ n.attrs[i].value o2) (by repeat (first | exact trivial | exact .inl (.inl rfl) | exact .inl (.inr ⟨_, rfl, rfl⟩) | exact .inl rfl | exact .inr ⟨_, rfl, rfl⟩ | refine .inr ⟨_, _, rfl, rfl, ?_⟩ | refine ⟨?_, ?_⟩)) ?_ | refine CallE.intro _ (mFix _ n.attrs[i].value o2) ?_ | refine CallE.introA (mFix _ n.attrs[i].value o2) (by repeat (first | exact trivial | exact .inl (.inl rfl) | exact .inl (.inr ⟨_, rfl, rfl⟩) | exact .inl rfl | exact .inr ⟨_, rfl, rfl⟩ | refine .inr ⟨_, _, rfl, rfl, ?_⟩ | refine ⟨?_, ?_⟩)) ?_ | refine CallE.intro _ (fun _ => mFix _ n.attrs[i].value o2) ?_ | refine CallE.intro _ (fun _ => SCall.arg (by repeat (first | exact trivial | exact .inl (.inl rfl) | exact .inl (.inr ⟨_, rfl, rfl⟩) | exact .inl rfl | exact .inr ⟨_, rfl, rfl⟩ | refine .inr ⟨_, _, rfl, rfl, ?_⟩ | refine ⟨?_, ?_⟩)) (mFix _ n.attrs[i].value o2)) ?_ | refine CallE2.intro _ _ (mFix _ n.attrs[i].value o2) ?_ | refine CallE2.intro _ _ (SCall.arg (by repeat (first | exact trivial | exact .inl (.inl rfl) | exact .inl (.inr ⟨_, rfl, rfl⟩) | exact .inl rfl | exact .inr ⟨_, rfl, rfl⟩ | refine .inr ⟨_, _, rfl, rfl, ?_⟩ | refine ⟨?_, ?_⟩)) (mFix _ n.attrs[i].value o2)) ?_)
    (repeat (first | simp -dsimp only [zrArena01, st_hook, sz_hook, st1_hook, cl_hook, st_node, sz_node, st1_node, cl_node, xnils, xnilm, xrange, xmakeMap, strV, RB, TB, keep34, tab34, xindexAddr, xindex, xslice, xconvert, xlen, ewOp, FreeW, StabW, SameW, ChangeW, AddW, BaseW, limBytes, simprocAttr, ne_eq] | ((with_reducible refine Need.intro ?_ ?_); (first | trivial | exact ⟨_, rfl⟩ | exact ⟨[], (List.append_nil _).symm⟩ | omega | (simp; done) | (simp; omega) | exact ⟨by first | trivial | (simp; done), _, by first | rfl | (simp; rfl)⟩))))
    rw [wrapI (by omega)]
    have hsucc : (n.attrs.take (i + 1)).map ownA = (n.attrs.take i).map ownA ++ [ownA n.attrs[i]] := by rw [List.take_succ_eq_append_getElem hlt, List.map_append]; rfl
    refine UpTo.here ⟨i + 1, hlt, by simp only; omega, by simp [upd, eset] <;> omega, ⟨_, by simp only [hsucc]; simp [attrV, ownA]; rfl⟩⟩
  · (repeat (first | simp -dsimp only [zrArena01, st_hook, sz_hook, st1_hook, cl_hook, st_node, sz_node, st1_node, cl_node, xnils, xnilm, xrange, xmakeMap, h, RB, TB, keep34, tab34, xindexAddr, xindex, xslice, xconvert, xlen, ewOp, FreeW, StabW, SameW, ChangeW, AddW, BaseW, limBytes, simprocAttr, ne_eq] | ((with_reducible refine Need.intro ?_ ?_); (first | trivial | exact ⟨_, rfl⟩ | exact ⟨[], (List.append_nil _).symm⟩ | omega | (simp; done) | (simp; omega) | exact ⟨by first | trivial | (simp; done), _, by first | rfl | (simp; rfl)⟩))))
    have hi2 : i = n.attrs.length := Nat.le_antisymm hi (ge_of h)
    subst hi2
    rw [List.take_length]
    refine RetW.keep false (by simp) ?_ ?_ ?_
    · (simp (maxDischargeDepth := 6) [LTB, HLt_set, ltL_take, ltL_drop, ltL_rep, ltL_set, upd, eset, hH, hHk, zlArena01, lt_hook, lt1_hook, ltc_hook, lt_node, lt1_node, ltc_node] <;> omega)
    · simp [okW, okW1, okW0, V.lt, ltL, lt_run, lt_hook]
    · simp only [wk, wk1, wk0]
      exact ⟨_, 1 + n.attrs.length, by simp [wk1, wk0], rfl, by simp, by simp⟩
theorem aOwnV (H : List Ob) (n : Node) (hn : okN n) : SCall Tryz.prog 34 [nodeV n] H (fun r H' => ∃ o L, r = nodeK (ownN n) o 1 ∧ H' = H ++ L ∧ H.length ≤ o ∧ H'[o]? = some (.vec 1 1 (n.kids.map vi))) := by
  refine (aOwnV0 H n hn).ghoE ?_
  rintro r H' ⟨L, v, rfl, rfl, h2, h3⟩
  have l3 := (List.getElem?_eq_some_iff.1 h3).1
  have ho : (H ++ L)[H.length + 3]? = some (.vec v 4 ((n.attrs.map ownA).map attrV)) := by rw [hget]; exact h3
  have e : (H ++ L).set (H.length + 3) .gone = H ++ L.set 3 .gone := by rw [hset]
  refine ⟨nodeK (ownN n) (H.length + 2) 1, H ++ L.set 3 .gone, ?_, H.length + 2, L.set 3 .gone, rfl, rfl, by omega, by rw [hget, List.getElem?_set_ne (by omega)]; exact h2⟩
  rw [← e]
  refine Gho.conv (n0 := H.length) (some (H.length + 3, v, (n.attrs.map ownA).map attrV)) (fun _ _ _ e => by cases e; exact ⟨⟨4, ho⟩, List.getElem?_set_self (by simp; omega)⟩) (by simp) (fun j x hx hz => ⟨x, ?_, ?_⟩) ?_
  · rw [List.getElem?_set_ne (by rintro rfl; simp [isZ] at hz)]
    exact hx
  · cases x with
    | gone => trivial
    | hole => trivial
    | var cs => exact All2.rfl' (fun _ => .inl (.inl rfl)) _
    | vec v e l => exact ⟨rfl, rfl, All2.rfl' CvA.rfl' _⟩
    | raw _ _ _ _ => exact ⟨rfl, rfl, rfl, rfl⟩
    | map _ _ => exact ⟨rfl, All2.rfl' (fun _ => ⟨rfl, rfl, CvA.rfl' _⟩) _⟩
    | iter _ _ _ _ => exact ⟨rfl, rfl, rfl, rfl⟩
  · refine ⟨⟨rfl, .inr (.inr ⟨_, _, rfl, rfl, ?_⟩)⟩, trivial⟩
    refine ⟨.inl (.inl rfl), .inl (.inl rfl), .inl (.inl rfl), .inl (.inl rfl), .inl (.inl rfl), .inl (.inl rfl), .inl (.inl rfl), .inl (.inl rfl), .inr ⟨_, _, _, 0, _, rfl, rfl, ?_, ?_⟩, .inl (.inl rfl), .inl (.inl rfl), .inl (.inl rfl), .inl (.inl rfl), trivial⟩
    · simp
    · rw [List.drop_zero, List.take_of_length_le (by simp)]; rfl
theorem aOwnN (H : List Ob) (n : Node) (hn : okN n) : SCall Tryz.prog 34 [nodeV n] H (fun r H' => r = nodeV (ownN n) ∧ H' = H) := by
  refine SCall.of_good fun hH => ?_
  refine (aOwnV H n hn).ghoE ?_
  rintro r H' ⟨o, L, rfl, rfl, hle, ho⟩
  have hlt := (List.getElem?_eq_some_iff.1 ho).1
  have e : (H ++ L).set o .gone = H ++ L.set (o - H.length) .gone := List.set_append_right _ _ hle
  refine ⟨_, _, (Gho.conv (n0 := H.length) (some (o, 1, n.kids.map vi)) (H := H ++ L) (H' := (H ++ L).set o .gone) (env := [(0, nodeK (ownN n) o 1)]) (env' := [(0, nodeV (ownN n))]) (fun _ _ _ e => by cases e; exact ⟨⟨1, ho⟩, List.getElem?_set_self hlt⟩) (by simp) (fun j x hx hz => ⟨x, ?_, ?_⟩) ?_).trans ?_, rfl, rfl⟩
  · rw [List.getElem?_set_ne (by rintro rfl; simp [isZ] at hz)]
    exact hx
  · cases x with
    | gone => trivial
    | hole => trivial
    | var cs => exact All2.rfl' (fun _ => .inl (.inl rfl)) _
    | vec v e l => exact ⟨rfl, rfl, All2.rfl' CvA.rfl' _⟩
    | raw _ _ _ _ => exact ⟨rfl, rfl, rfl, rfl⟩
    | map _ _ => exact ⟨rfl, All2.rfl' (fun _ => ⟨rfl, rfl, CvA.rfl' _⟩) _⟩
    | iter _ _ _ _ => exact ⟨rfl, rfl, rfl, rfl⟩
  · refine ⟨⟨rfl, .inr (.inr ⟨_, _, rfl, rfl, ?_⟩)⟩, trivial⟩
    refine ⟨.inl (.inl rfl), .inl (.inl rfl), .inl (.inl rfl), .inl (.inl rfl), .inl (.inl rfl), .inl (.inl rfl), .inl (.inl rfl), .inl (.inl rfl), .inl (.inl rfl), .inl (.inl rfl), .inr ⟨o, 1, _, 0, _, rfl, rfl, ?_, ?_⟩, .inl (.inl rfl), .inl (.inl rfl), trivial⟩
    · simp [ownN]
    · rw [List.drop_zero, List.take_of_length_le (by simp [ownN])]; rfl
  · rw [e]
    exact drop_rest (Nat.le_refl _) hH (by simp [lt1_node])
end Go.Proofs.YtkefbpbflgndeaaGreat

/- The walks of package arena: is, maps.Clone, New, Clone. -/
set_option maxHeartbeats 600000
set_option linter.unusedSimpArgs false
set_option linter.unusedVariables false
set_option maxRecDepth 100000
namespace Go.Proofs.YtkefbpbflgndeaaGreat
open Go Go.EL
theorem zrArena11 : type_of% (And.intro (And.intro (And.intro (And.intro (@st_run) (And.intro (@sz_run) (@st1_run))) (And.intro (@cl_run) (And.intro (@st_Str) (@sz_Str)))) (And.intro (And.intro (@st1_Str) (And.intro (@cl_Str) (@st_c))) (And.intro (@sz_c) (And.intro (@st1_c) (@cl_c))))) (And.intro (And.intro (And.intro (@st_attr) (And.intro (@sz_attr) (@st1_attr))) (And.intro (@cl_attr) (And.intro (@st_hook) (@sz_hook)))) (And.intro (And.intro (@st1_hook) (And.intro (@cl_hook) (@st_node))) (And.intro (@sz_node) (And.intro (@st1_node) (@cl_node)))))) := And.intro (And.intro (And.intro (And.intro (@st_run) (And.intro (@sz_run) (@st1_run))) (And.intro (@cl_run) (And.intro (@st_Str) (@sz_Str)))) (And.intro (And.intro (@st1_Str) (And.intro (@cl_Str) (@st_c))) (And.intro (@sz_c) (And.intro (@st1_c) (@cl_c))))) (And.intro (And.intro (And.intro (@st_attr) (And.intro (@sz_attr) (@st1_attr))) (And.intro (@cl_attr) (And.intro (@st_hook) (@sz_hook)))) (And.intro (And.intro (@st1_hook) (And.intro (@cl_hook) (@st_node))) (And.intro (@sz_node) (And.intro (@st1_node) (@cl_node)))))
theorem zlArena11 : type_of% (And.intro (And.intro (And.intro (And.intro (@lt_vi) (@lt_str)) (And.intro (@lt_vb) (And.intro (@ltc_str) (@ltc_vi)))) (And.intro (And.intro (@lt_run) (And.intro (@lt1_run) (@ltc_run))) (And.intro (@lt_Str) (And.intro (@lt1_Str) (@ltc_Str))))) (And.intro (And.intro (And.intro (@lt_c) (And.intro (@lt1_c) (@ltc_c))) (And.intro (@lt_attr) (And.intro (@lt1_attr) (@ltc_attr)))) (And.intro (And.intro (@lt_hook) (And.intro (@lt1_hook) (@ltc_hook))) (And.intro (@lt_node) (And.intro (@lt1_node) (@ltc_node)))))) := And.intro (And.intro (And.intro (And.intro (@lt_vi) (@lt_str)) (And.intro (@lt_vb) (And.intro (@ltc_str) (@ltc_vi)))) (And.intro (And.intro (@lt_run) (And.intro (@lt1_run) (@ltc_run))) (And.intro (@lt_Str) (And.intro (@lt1_Str) (@ltc_Str))))) (And.intro (And.intro (And.intro (@lt_c) (And.intro (@lt1_c) (@ltc_c))) (And.intro (@lt_attr) (And.intro (@lt1_attr) (@ltc_attr)))) (And.intro (And.intro (@lt_hook) (And.intro (@lt1_hook) (@ltc_hook))) (And.intro (@lt_node) (And.intro (@lt1_node) (@ltc_node)))))
structure Arena where
  nodes : List (Int × Nat × Node)
  clock : Nat
  used : List Int
  live : List Int
def encM (l : List (Int × Nat × Node)) : List (Int × Nat × V) := l.map fun p => (p.1, p.2.1, nodeV p.2.2)
/-- an arena stands at A, its nodes at m -/
def arenaAt (H : List Ob) (A m : Nat) (a : Arena) : Prop := H[A]? = some (.var (.mapr m :: (a.used.map vi ++ a.live.map vi))) ∧ H[m]? = some (.map (encM a.nodes) a.clock) ∧ a.used.length = 4 ∧ a.live.length = 4
theorem aIsNil (H : List Ob) : SCall Tryz.prog 31 [.nilp] H (fun r H' => r = .bool false ∧ H' = H) := by
  refine SCall.of_good fun hH => ?_
  have hHk := HLt.add hH
  refine SCall.of_code Tok Tryz.func31 rfl Tryz.call31 (n := 12) rfl (by simp) (rs := [.tmp 2]) rfl ?_
  refine EWn.to ?_
  refine EWn.of_c Tok mixed (own := false) keep31 tab31 (by kernel_rfl) ?_
  (repeat (first | simp -dsimp only [zrArena11, xnils, xnilm, xrange, xmakeMap, RB, TB, keep31, tab31, xindexAddr, xindex, xslice, xconvert, xlen, ewOp, FreeW, StabW, SameW, ChangeW, AddW, BaseW, limBytes, simprocAttr, ne_eq] | ((with_reducible refine Need.intro ?_ ?_); (first | trivial | exact ⟨_, rfl⟩ | exact ⟨[], (List.append_nil _).symm⟩ | omega | (simp; done) | (simp; omega) | exact ⟨by first | trivial | (simp; done), _, by first | rfl | (simp; rfl)⟩))))
  refine RetW.auto0 false _ (by first | rfl | exact (List.append_nil _).symm) ?_ ?_
  · (simp (maxDischargeDepth := 6) [LTB, HLt_set, ltL_take, ltL_drop, ltL_rep, ltL_set, upd, eset, hH, hHk, zlArena11] <;> omega)
  (try simp only [wk, wk1, wk0, RB, limBytes, simprocAttr, ne_eq])
  (try (rw [List.take_of_length_le]; rotate_left 1; (· first | (simp; done) | (simp; omega) | omega)))
theorem aIs (H : List Ob) (A m : Nat) (a : Arena) (h : arenaAt H A m a) : SCall Tryz.prog 31 [.ref A 0] H (fun r H' => r = .bool true ∧ H' = H) := by
  obtain ⟨h1, h2, h3, h4⟩ := h
  refine SCall.of_good fun hH => ?_
  have hHk := HLt.add hH
  refine SCall.of_code Tok Tryz.func31 rfl Tryz.call31 (n := 12) rfl (by simp) (rs := [.tmp 2]) rfl ?_
  refine EWn.to ?_
  refine EWn.of_c Tok mixed (own := false) keep31 tab31 (by kernel_rfl) ?_
  (repeat (first | simp -dsimp only [zrArena11, xnils, xnilm, xrange, xmakeMap, h1, h2, RB, TB, keep31, tab31, xindexAddr, xindex, xslice, xconvert, xlen, ewOp, FreeW, StabW, SameW, ChangeW, AddW, BaseW, limBytes, simprocAttr, ne_eq] | ((with_reducible refine Need.intro ?_ ?_); (first | trivial | exact ⟨_, rfl⟩ | exact ⟨[], (List.append_nil _).symm⟩ | omega | (simp; done) | (simp; omega) | exact ⟨by first | trivial | (simp; done), _, by first | rfl | (simp; rfl)⟩))))
  try with_reducible refine Need.intro ⟨_, _, rfl⟩ ?_
  (repeat (first | simp -dsimp only [zrArena11, xnils, xnilm, xrange, xmakeMap, h1, h2, RB, TB, keep31, tab31, xindexAddr, xindex, xslice, xconvert, xlen, ewOp, FreeW, StabW, SameW, ChangeW, AddW, BaseW, limBytes, simprocAttr, ne_eq] | ((with_reducible refine Need.intro ?_ ?_); (first | trivial | exact ⟨_, rfl⟩ | exact ⟨[], (List.append_nil _).symm⟩ | omega | (simp; done) | (simp; omega) | exact ⟨by first | trivial | (simp; done), _, by first | rfl | (simp; rfl)⟩))))
  refine RetW.auto0 false _ (by first | rfl | exact (List.append_nil _).symm) ?_ ?_
  · (simp (maxDischargeDepth := 6) [LTB, HLt_set, ltL_take, ltL_drop, ltL_rep, ltL_set, upd, eset, hH, hHk, zlArena11] <;> omega)
  (try simp only [wk, wk1, wk0, RB, limBytes, simprocAttr, ne_eq])
  (try (rw [List.take_of_length_le]; rotate_left 1; (· first | (simp; done) | (simp; omega) | omega)))
def rootN : Node := ⟨0, 0, -1, 1, ⟨[100, 105, 118], rle (List.replicate 3 0)⟩, [], 0, [], [], [], zeroS⟩
def newA : Arena := ⟨[(0, 0, rootN)], 1, [0, 0, 0, 0], [1, 0, 0, 0]⟩
def rootV : V := .agg [.int .i64 0, .int .i64 0, .int .i64 (-1), .int .i64 1, .str [100, 105, 118], .slice ((rle (List.replicate 3 0)).map runV), .str [], .int .i64 0, .fslice [], .fslice [], .fslice [], .str [], .fslice []]
theorem aNew0 (H : List Ob) : SCall Tryz.prog 5 [] H (fun r H' => r = .ref (H.length + 1) 0 ∧ H' = H ++ [.map [(0, 0, rootV)] 1, .var (.mapr H.length :: (newA.used.map vi ++ newA.live.map vi))]) := by
  refine SCall.of_good fun hH => ?_
  have hHk := HLt.add hH
  refine SCall.of_code Tok Tryz.func5 rfl Tryz.call5 (n := 16) rfl (by simp) (rs := [.tmp 0]) rfl ?_
  refine EWn.to ?_
  refine EWn.of_c Tok mixed (own := false) keep5 tab5 (by kernel_rfl) ?_
  (repeat (first | simp -dsimp only [zrArena11, xnils, xnilm, xrange, xmakeMap, RB, TB, keep5, tab5, xindexAddr, xindex, xslice, xconvert, xlen, ewOp, FreeW, StabW, SameW, ChangeW, AddW, BaseW, limBytes, simprocAttr, ne_eq] | ((with_reducible refine Need.intro ?_ ?_); (first | trivial | exact ⟨_, rfl⟩ | exact ⟨[], (List.append_nil _).symm⟩ | omega | (simp; done) | (simp; omega) | exact ⟨by first | trivial | (simp; done), _, by first | rfl | (simp; rfl)⟩))))
  refine CallE.intro _ (mOf _ [100, 105, 118] 0) ?_
  (repeat (first | simp -dsimp only [zrArena11, xnils, xnilm, xrange, xmakeMap, strV, RB, TB, keep5, tab5, xindexAddr, xindex, xslice, xconvert, xlen, ewOp, FreeW, StabW, SameW, ChangeW, AddW, BaseW, limBytes, simprocAttr, ne_eq] | ((with_reducible refine Need.intro ?_ ?_); (first | trivial | exact ⟨_, rfl⟩ | exact ⟨[], (List.append_nil _).symm⟩ | omega | (simp; done) | (simp; omega) | exact ⟨by first | trivial | (simp; done), _, by first | rfl | (simp; rfl)⟩))))
  have hlm : ltL (H.length + 2) ([(0, 0, rootV)].map fun p : Int × Nat × V => p.2.2) := by simp [rootV, ltL, V.lt]; exact lt_run _ _
  refine RetW.auto false [.map [(0, 0, rootV)] 1, .var (.mapr H.length :: (newA.used.map vi ++ newA.live.map vi))] [] (by simp [EL.mput, mget, rootV, newA, vi, near]; rfl) ?_ ?_ ?_
  · refine HLt.cons ?_ (HLt.cons ?_ (HLt.nil _))
    · simpa [Ob.lt] using hlm
    · simp [Ob.lt, newA, vi, ltL, V.lt]
  · simp [okW, okW1, okW0, V.lt]
  · simp [wk, wk1, wk0]
/-- what a call leaves, told otherwise -/
theorem _root_.Go.EL.SCall.gho {f : FuncId} {args : List V} {H : List Ob} {v v1 : V} {H1 H2 : List Ob} (h : SCall Tryz.prog f args H (fun r H' => r = v ∧ H' = H1)) (hg : Gho H.length [(0, v)] H1 [(0, v1)] H2) : SCall Tryz.prog f args H (fun r H' => r = v1 ∧ H' = H2) := by
  intro g w cargs hG ha
  refine (h g w cargs hG ha).mono fun cv w' ⟨r, H', g', h1, h2, h3, h4, h5⟩ => ?_
  subst h4 h5
  obtain ⟨g'', k1, k2, k3⟩ := hg g' w' h1
  exact ⟨v1, H2, g'', k1, k2 _ _ h2, k3 0 cv h3, rfl, rfl⟩
theorem aNew (H : List Ob) : SCall Tryz.prog 5 [] H (fun r H' => r = .ref (H.length + 1) 0 ∧ H' = H ++ [.map (encM newA.nodes) 1, .var (.mapr H.length :: (newA.used.map vi ++ newA.live.map vi))]) := by
  refine (aNew0 H).gho ?_
  have hs : H ++ [Ob.map (encM newA.nodes) 1, .var (.mapr H.length :: (newA.used.map vi ++ newA.live.map vi))] = (H ++ [Ob.map [(0, 0, rootV)] 1, .var (.mapr H.length :: (newA.used.map vi ++ newA.live.map vi))]).set H.length (Ob.map (encM newA.nodes) 1) := by simp
  rw [hs]
  refine Gho.weakOb H.length (x := Ob.map [(0, 0, rootV)] 1) (by simp) ⟨rfl, ⟨rfl, rfl, .inr ⟨_, _, rfl, rfl, ?_⟩⟩, trivial⟩
  repeat (first | exact trivial | refine ⟨.inl (.inl rfl), ?_⟩ | refine ⟨.inl (.inr ⟨_, rfl, rfl⟩), ?_⟩)
end Go.Proofs.YtkefbpbflgndeaaGreat

/- The walks of package box, of boxes that nobody made. -/
set_option maxHeartbeats 600000
set_option linter.unusedSimpArgs false
set_option linter.unusedVariables false
set_option maxRecDepth 100000
namespace Go.Proofs.YtkefbpbflgndeaaGreat
open Go Go.EL
structure Cmd where
  op : Int
  a : Int
  b : Int
  c : Int
  text : List UInt8
def cmdV (c : Cmd) : V := .agg [.int .i64 c.op, .int .i64 c.a, .int .i64 c.b, .int .i64 c.c, .str c.text]
theorem zrBox11 : type_of% (And.intro (And.intro (And.intro (And.intro (@st_run) (And.intro (@sz_run) (@st1_run))) (And.intro (@cl_run) (And.intro (@st_Str) (@sz_Str)))) (And.intro (And.intro (@st1_Str) (And.intro (@cl_Str) (@st_c))) (And.intro (@sz_c) (And.intro (@st1_c) (@cl_c))))) (And.intro (And.intro (And.intro (@st_attr) (And.intro (@sz_attr) (@st1_attr))) (And.intro (@cl_attr) (And.intro (@st_hook) (@sz_hook)))) (And.intro (And.intro (@st1_hook) (And.intro (@cl_hook) (@st_node))) (And.intro (@sz_node) (And.intro (@st1_node) (@cl_node)))))) := And.intro (And.intro (And.intro (And.intro (@st_run) (And.intro (@sz_run) (@st1_run))) (And.intro (@cl_run) (And.intro (@st_Str) (@sz_Str)))) (And.intro (And.intro (@st1_Str) (And.intro (@cl_Str) (@st_c))) (And.intro (@sz_c) (And.intro (@st1_c) (@cl_c))))) (And.intro (And.intro (And.intro (@st_attr) (And.intro (@sz_attr) (@st1_attr))) (And.intro (@cl_attr) (And.intro (@st_hook) (@sz_hook)))) (And.intro (And.intro (@st1_hook) (And.intro (@cl_hook) (@st_node))) (And.intro (@sz_node) (And.intro (@st1_node) (@cl_node)))))
theorem zlBox11 : type_of% (And.intro (And.intro (And.intro (And.intro (@lt_vi) (@lt_str)) (And.intro (@lt_vb) (And.intro (@ltc_str) (@ltc_vi)))) (And.intro (And.intro (@lt_run) (And.intro (@lt1_run) (@ltc_run))) (And.intro (@lt_Str) (And.intro (@lt1_Str) (@ltc_Str))))) (And.intro (And.intro (And.intro (@lt_c) (And.intro (@lt1_c) (@ltc_c))) (And.intro (@lt_attr) (And.intro (@lt1_attr) (@ltc_attr)))) (And.intro (And.intro (@lt_hook) (And.intro (@lt1_hook) (@ltc_hook))) (And.intro (@lt_node) (And.intro (@lt1_node) (@ltc_node)))))) := And.intro (And.intro (And.intro (And.intro (@lt_vi) (@lt_str)) (And.intro (@lt_vb) (And.intro (@ltc_str) (@ltc_vi)))) (And.intro (And.intro (@lt_run) (And.intro (@lt1_run) (@ltc_run))) (And.intro (@lt_Str) (And.intro (@lt1_Str) (@ltc_Str))))) (And.intro (And.intro (And.intro (@lt_c) (And.intro (@lt1_c) (@ltc_c))) (And.intro (@lt_attr) (And.intro (@lt1_attr) (@ltc_attr)))) (And.intro (And.intro (@lt_hook) (And.intro (@lt1_hook) (@ltc_hook))) (And.intro (@lt_node) (And.intro (@lt1_node) (@ltc_node)))))
theorem lt_cmd (n : Nat) (l : List (Cmd)) : ltL n (l.map cmdV) := ltL_map (f := cmdV) (fun _ => by simp [cmdV, V.lt, ltL]) l
theorem lt1_cmd (n : Nat) (x : Cmd) : V.lt n (cmdV x) := by simp [cmdV, V.lt, ltL]
theorem ltc_cmd {α : Type} (n : Nat) (g : α → Cmd) (l : List α) : ltL n (l.map (cmdV ∘ g)) := ltL_map (f := cmdV ∘ g) (fun x => lt1_cmd n (g x)) l
theorem st_cmd (l : List (Cmd)) : (∀ x, x ∈ l.map cmdV → x.storable) = True := eq_true (storable_map (f := cmdV) (fun _ => trivial) l)
theorem sz_cmd (l : List (Cmd)) : Sized 5 (l.map cmdV) = True := eq_true (sizedMapV (f := cmdV) (fun _ => rfl) l)
theorem st1_cmd (x : Cmd) : (cmdV x).storable = True := eq_true trivial
theorem cl_cmd (x : Cmd) : (cmdV x).cells.length = 5 := rfl

def bNobody (H : List Ob) (v : V) : Prop := v = .nilp ∨ ∃ o, v = .ref o 0 ∧ H[o]? = some (.var [.int .i64 0, .nilp])
theorem bNobody_app {H : List Ob} {v : V} (h : bNobody H v) (K : List Ob) : bNobody (H ++ K) v := by
  rcases h with h | ⟨o, h, h2⟩
  · exact .inl h
  · exact .inr ⟨o, h, by rw [List.getElem?_append_left (List.getElem?_eq_some_iff.1 h2).1]; exact h2⟩
theorem bNobody_lt {H : List Ob} {v : V} (h : bNobody H v) : v.lt H.length := by
  rcases h with rfl | ⟨o, rfl, h2⟩
  · trivial
  · exact (List.getElem?_eq_some_iff.1 h2).1
theorem bIs0 (H : List Ob) (v : V) (h : bNobody H v) : SCall Tryz.prog 11 [v] H (fun r H' => r = .bool false ∧ H' = H) := by
  rcases h with rfl | ⟨o, rfl, h⟩
  · refine SCall.of_good fun hH => ?_
    have hHk := HLt.add hH
    refine SCall.of_code Tok Tryz.func11 rfl Tryz.call11 (n := 12) rfl (by simp) (rs := [.tmp 2]) rfl ?_
    refine EWn.to ?_
    refine EWn.of_c Tok mixed (own := false) keep11 tab11 (by kernel_rfl) ?_
    (repeat (first | simp -dsimp only [zrBox11, st_cmd, sz_cmd, st1_cmd, cl_cmd, xnils, xnilm, xrange, xmakeMap, xslice3, RB, TB, keep11, tab11, xindexAddr, xindex, xslice, xconvert, xlen, ewOp, FreeW, StabW, SameW, ChangeW, AddW, BaseW, limBytes, simprocAttr, ne_eq] | ((with_reducible refine Need.intro ?_ ?_); (first | trivial | exact ⟨_, rfl⟩ | exact ⟨[], (List.append_nil _).symm⟩ | omega | (simp; done) | (simp; omega) | exact ⟨by first | trivial | (simp; done), _, by first | rfl | (simp; rfl)⟩))))
    refine RetW.auto0 false _ (by first | rfl | exact (List.append_nil _).symm) ?_ ?_
    · (simp (maxDischargeDepth := 6) [LTB, HLt_set, ltL_take, ltL_drop, ltL_rep, ltL_set, upd, eset, hH, hHk, zlBox11, lt_cmd, lt1_cmd, ltc_cmd] <;> omega)
    (try simp only [wk, wk1, wk0, RB, limBytes, simprocAttr, ne_eq])
    (try (rw [List.take_of_length_le]; rotate_left 1; (· first | (simp; done) | (simp; omega) | omega)))
  · have lo := (List.getElem?_eq_some_iff.1 h).1
    refine SCall.of_good fun hH => ?_
    have hHk := HLt.add hH
    refine SCall.of_code Tok Tryz.func11 rfl Tryz.call11 (n := 12) rfl (by simp) (rs := [.tmp 2]) rfl ?_
    refine EWn.to ?_
    refine EWn.of_c Tok mixed (own := false) keep11 tab11 (by kernel_rfl) ?_
    (repeat (first | simp -dsimp only [zrBox11, st_cmd, sz_cmd, st1_cmd, cl_cmd, xnils, xnilm, xrange, xmakeMap, xslice3, h, RB, TB, keep11, tab11, xindexAddr, xindex, xslice, xconvert, xlen, ewOp, FreeW, StabW, SameW, ChangeW, AddW, BaseW, limBytes, simprocAttr, ne_eq] | ((with_reducible refine Need.intro ?_ ?_); (first | trivial | exact ⟨_, rfl⟩ | exact ⟨[], (List.append_nil _).symm⟩ | omega | (simp; done) | (simp; omega) | exact ⟨by first | trivial | (simp; done), _, by first | rfl | (simp; rfl)⟩))))
    refine RetW.auto0 false _ (by first | rfl | exact (List.append_nil _).symm) ?_ ?_
    · (simp (maxDischargeDepth := 6) [LTB, HLt_set, ltL_take, ltL_drop, ltL_rep, ltL_set, upd, eset, hH, hHk, zlBox11, lt_cmd, lt1_cmd, ltc_cmd] <;> omega)
    (try simp only [wk, wk1, wk0, RB, limBytes, simprocAttr, ne_eq])
    (try (rw [List.take_of_length_le]; rotate_left 1; (· first | (simp; done) | (simp; omega) | omega)))
theorem bRun0 (H : List Ob) (v a : V) (h : bNobody H v) (ha : a.lt H.length) (l : List Cmd) (fuel : Int) : SCall Tryz.prog 4 [v, a, .slice (l.map cmdV), .int .i64 fuel] H (fun r H' => r = .tuple [.slice [], .int .i64 9] ∧ H' = H) := by
  have hv := bNobody_lt h
  refine SCall.of_good fun hH => ?_
  have hHk := HLt.add hH
  refine SCall.of_code Tok Tryz.func4 rfl Tryz.call4 (n := 28) rfl (by simp) (rs := [.tmp 8, .tmp 9]) rfl ?_
  refine EWn.to ?_
  refine EWn.of_c Tok mixed (own := false) keep4 tab4 (by kernel_rfl) ?_
  (repeat (first | simp -dsimp only [zrBox11, st_cmd, sz_cmd, st1_cmd, cl_cmd, xnils, xnilm, xrange, xmakeMap, xslice3, RB, TB, keep4, tab4, xindexAddr, xindex, xslice, xconvert, xlen, ewOp, FreeW, StabW, SameW, ChangeW, AddW, BaseW, limBytes, simprocAttr, ne_eq] | ((with_reducible refine Need.intro ?_ ?_); (first | trivial | exact ⟨_, rfl⟩ | exact ⟨[], (List.append_nil _).symm⟩ | omega | (simp; done) | (simp; omega) | exact ⟨by first | trivial | (simp; done), _, by first | rfl | (simp; rfl)⟩))))
  (first | refine SCall.then (bIs0 _ v h) ?_ | refine SCall.thenA (bIs0 _ v h) (by repeat (first | exact trivial | exact .inl (.inl rfl) | exact .inl (.inr ⟨_, rfl, rfl⟩) | exact .inl rfl | exact .inr ⟨_, rfl, rfl⟩ | refine .inr ⟨_, _, rfl, rfl, ?_⟩ | refine ⟨?_, ?_⟩)) ?_ | refine CallE.intro _ (bIs0 _ v h) ?_ | refine CallE.introA (bIs0 _ v h) (by repeat (first | exact trivial | exact .inl (.inl rfl) | exact .inl (.inr ⟨_, rfl, rfl⟩) | exact .inl rfl | exact .inr ⟨_, rfl, rfl⟩ | refine .inr ⟨_, _, rfl, rfl, ?_⟩ | refine ⟨?_, ?_⟩)) ?_ | refine CallE.intro _ (fun _ => bIs0 _ v h) ?_ | refine CallE.intro _ (fun _ => SCall.arg (by repeat (first | exact trivial | exact .inl (.inl rfl) | exact .inl (.inr ⟨_, rfl, rfl⟩) | exact .inl rfl | exact .inr ⟨_, rfl, rfl⟩ | refine .inr ⟨_, _, rfl, rfl, ?_⟩ | refine ⟨?_, ?_⟩)) (bIs0 _ v h)) ?_ | refine CallE2.intro _ _ (bIs0 _ v h) ?_ | refine CallE2.intro _ _ (SCall.arg (by repeat (first | exact trivial | exact .inl (.inl rfl) | exact .inl (.inr ⟨_, rfl, rfl⟩) | exact .inl rfl | exact .inr ⟨_, rfl, rfl⟩ | refine .inr ⟨_, _, rfl, rfl, ?_⟩ | refine ⟨?_, ?_⟩)) (bIs0 _ v h)) ?_)
  (repeat (first | simp -dsimp only [zrBox11, st_cmd, sz_cmd, st1_cmd, cl_cmd, xnils, xnilm, xrange, xmakeMap, xslice3, RB, TB, keep4, tab4, xindexAddr, xindex, xslice, xconvert, xlen, ewOp, FreeW, StabW, SameW, ChangeW, AddW, BaseW, limBytes, simprocAttr, ne_eq] | ((with_reducible refine Need.intro ?_ ?_); (first | trivial | exact ⟨_, rfl⟩ | exact ⟨[], (List.append_nil _).symm⟩ | omega | (simp; done) | (simp; omega) | exact ⟨by first | trivial | (simp; done), _, by first | rfl | (simp; rfl)⟩))))
  refine RetW.auto0 false _ (by first | rfl | exact (List.append_nil _).symm) ?_ ?_
  · (simp (maxDischargeDepth := 6) [LTB, HLt_set, ltL_take, ltL_drop, ltL_rep, ltL_set, upd, eset, hH, hHk, zlBox11, lt_cmd, lt1_cmd, ltc_cmd] <;> omega)
  (try simp only [wk, wk1, wk0, RB, limBytes, simprocAttr, ne_eq])
  (try (rw [List.take_of_length_le]; rotate_left 1; (· first | (simp; done) | (simp; omega) | omega)))
theorem bBind0 (H : List Ob) (v a : V) (h : bNobody H v) (ha : a.lt H.length) : SCall Tryz.prog 6 [v, a] H (fun r H' => r = .bool false ∧ H' = H) := by
  have hv := bNobody_lt h
  refine SCall.of_good fun hH => ?_
  have hHk := HLt.add hH
  refine SCall.of_code Tok Tryz.func6 rfl Tryz.call6 (n := 33) rfl (by simp) (rs := [.tmp 4]) rfl ?_
  refine EWn.to ?_
  refine EWn.of_c Tok mixed (own := false) keep6 tab6 (by kernel_rfl) ?_
  (repeat (first | simp -dsimp only [zrBox11, st_cmd, sz_cmd, st1_cmd, cl_cmd, xnils, xnilm, xrange, xmakeMap, xslice3, RB, TB, keep6, tab6, xindexAddr, xindex, xslice, xconvert, xlen, ewOp, FreeW, StabW, SameW, ChangeW, AddW, BaseW, limBytes, simprocAttr, ne_eq] | ((with_reducible refine Need.intro ?_ ?_); (first | trivial | exact ⟨_, rfl⟩ | exact ⟨[], (List.append_nil _).symm⟩ | omega | (simp; done) | (simp; omega) | exact ⟨by first | trivial | (simp; done), _, by first | rfl | (simp; rfl)⟩))))
  (first | refine SCall.then (bIs0 _ v h) ?_ | refine SCall.thenA (bIs0 _ v h) (by repeat (first | exact trivial | exact .inl (.inl rfl) | exact .inl (.inr ⟨_, rfl, rfl⟩) | exact .inl rfl | exact .inr ⟨_, rfl, rfl⟩ | refine .inr ⟨_, _, rfl, rfl, ?_⟩ | refine ⟨?_, ?_⟩)) ?_ | refine CallE.intro _ (bIs0 _ v h) ?_ | refine CallE.introA (bIs0 _ v h) (by repeat (first | exact trivial | exact .inl (.inl rfl) | exact .inl (.inr ⟨_, rfl, rfl⟩) | exact .inl rfl | exact .inr ⟨_, rfl, rfl⟩ | refine .inr ⟨_, _, rfl, rfl, ?_⟩ | refine ⟨?_, ?_⟩)) ?_ | refine CallE.intro _ (fun _ => bIs0 _ v h) ?_ | refine CallE.intro _ (fun _ => SCall.arg (by repeat (first | exact trivial | exact .inl (.inl rfl) | exact .inl (.inr ⟨_, rfl, rfl⟩) | exact .inl rfl | exact .inr ⟨_, rfl, rfl⟩ | refine .inr ⟨_, _, rfl, rfl, ?_⟩ | refine ⟨?_, ?_⟩)) (bIs0 _ v h)) ?_ | refine CallE2.intro _ _ (bIs0 _ v h) ?_ | refine CallE2.intro _ _ (SCall.arg (by repeat (first | exact trivial | exact .inl (.inl rfl) | exact .inl (.inr ⟨_, rfl, rfl⟩) | exact .inl rfl | exact .inr ⟨_, rfl, rfl⟩ | refine .inr ⟨_, _, rfl, rfl, ?_⟩ | refine ⟨?_, ?_⟩)) (bIs0 _ v h)) ?_)
  (repeat (first | simp -dsimp only [zrBox11, st_cmd, sz_cmd, st1_cmd, cl_cmd, xnils, xnilm, xrange, xmakeMap, xslice3, RB, TB, keep6, tab6, xindexAddr, xindex, xslice, xconvert, xlen, ewOp, FreeW, StabW, SameW, ChangeW, AddW, BaseW, limBytes, simprocAttr, ne_eq] | ((with_reducible refine Need.intro ?_ ?_); (first | trivial | exact ⟨_, rfl⟩ | exact ⟨[], (List.append_nil _).symm⟩ | omega | (simp; done) | (simp; omega) | exact ⟨by first | trivial | (simp; done), _, by first | rfl | (simp; rfl)⟩))))
  refine RetW.auto0 false _ (by first | rfl | exact (List.append_nil _).symm) ?_ ?_
  · (simp (maxDischargeDepth := 6) [LTB, HLt_set, ltL_take, ltL_drop, ltL_rep, ltL_set, upd, eset, hH, hHk, zlBox11, lt_cmd, lt1_cmd, ltc_cmd] <;> omega)
  (try simp only [wk, wk1, wk0, RB, limBytes, simprocAttr, ne_eq])
  (try (rw [List.take_of_length_le]; rotate_left 1; (· first | (simp; done) | (simp; omega) | omega)))
theorem bMount0 (H : List Ob) (v : V) (h : bNobody H v) : SCall Tryz.prog 7 [v] H (fun r H' => r = .int .i64 0 ∧ H' = H) := by
  have hv := bNobody_lt h
  refine SCall.of_good fun hH => ?_
  have hHk := HLt.add hH
  refine SCall.of_code Tok Tryz.func7 rfl Tryz.call7 (n := 11) rfl (by simp) (rs := [.tmp 2]) rfl ?_
  refine EWn.to ?_
  refine EWn.of_c Tok mixed (own := false) keep7 tab7 (by kernel_rfl) ?_
  (repeat (first | simp -dsimp only [zrBox11, st_cmd, sz_cmd, st1_cmd, cl_cmd, xnils, xnilm, xrange, xmakeMap, xslice3, RB, TB, keep7, tab7, xindexAddr, xindex, xslice, xconvert, xlen, ewOp, FreeW, StabW, SameW, ChangeW, AddW, BaseW, limBytes, simprocAttr, ne_eq] | ((with_reducible refine Need.intro ?_ ?_); (first | trivial | exact ⟨_, rfl⟩ | exact ⟨[], (List.append_nil _).symm⟩ | omega | (simp; done) | (simp; omega) | exact ⟨by first | trivial | (simp; done), _, by first | rfl | (simp; rfl)⟩))))
  (first | refine SCall.then (bIs0 _ v h) ?_ | refine SCall.thenA (bIs0 _ v h) (by repeat (first | exact trivial | exact .inl (.inl rfl) | exact .inl (.inr ⟨_, rfl, rfl⟩) | exact .inl rfl | exact .inr ⟨_, rfl, rfl⟩ | refine .inr ⟨_, _, rfl, rfl, ?_⟩ | refine ⟨?_, ?_⟩)) ?_ | refine CallE.intro _ (bIs0 _ v h) ?_ | refine CallE.introA (bIs0 _ v h) (by repeat (first | exact trivial | exact .inl (.inl rfl) | exact .inl (.inr ⟨_, rfl, rfl⟩) | exact .inl rfl | exact .inr ⟨_, rfl, rfl⟩ | refine .inr ⟨_, _, rfl, rfl, ?_⟩ | refine ⟨?_, ?_⟩)) ?_ | refine CallE.intro _ (fun _ => bIs0 _ v h) ?_ | refine CallE.intro _ (fun _ => SCall.arg (by repeat (first | exact trivial | exact .inl (.inl rfl) | exact .inl (.inr ⟨_, rfl, rfl⟩) | exact .inl rfl | exact .inr ⟨_, rfl, rfl⟩ | refine .inr ⟨_, _, rfl, rfl, ?_⟩ | refine ⟨?_, ?_⟩)) (bIs0 _ v h)) ?_ | refine CallE2.intro _ _ (bIs0 _ v h) ?_ | refine CallE2.intro _ _ (SCall.arg (by repeat (first | exact trivial | exact .inl (.inl rfl) | exact .inl (.inr ⟨_, rfl, rfl⟩) | exact .inl rfl | exact .inr ⟨_, rfl, rfl⟩ | refine .inr ⟨_, _, rfl, rfl, ?_⟩ | refine ⟨?_, ?_⟩)) (bIs0 _ v h)) ?_)
  (repeat (first | simp -dsimp only [zrBox11, st_cmd, sz_cmd, st1_cmd, cl_cmd, xnils, xnilm, xrange, xmakeMap, xslice3, RB, TB, keep7, tab7, xindexAddr, xindex, xslice, xconvert, xlen, ewOp, FreeW, StabW, SameW, ChangeW, AddW, BaseW, limBytes, simprocAttr, ne_eq] | ((with_reducible refine Need.intro ?_ ?_); (first | trivial | exact ⟨_, rfl⟩ | exact ⟨[], (List.append_nil _).symm⟩ | omega | (simp; done) | (simp; omega) | exact ⟨by first | trivial | (simp; done), _, by first | rfl | (simp; rfl)⟩))))
  refine RetW.auto0 false _ (by first | rfl | exact (List.append_nil _).symm) ?_ ?_
  · (simp (maxDischargeDepth := 6) [LTB, HLt_set, ltL_take, ltL_drop, ltL_rep, ltL_set, upd, eset, hH, hHk, zlBox11, lt_cmd, lt1_cmd, ltc_cmd] <;> omega)
  (try simp only [wk, wk1, wk0, RB, limBytes, simprocAttr, ne_eq])
  (try (rw [List.take_of_length_le]; rotate_left 1; (· first | (simp; done) | (simp; omega) | omega)))
theorem bOwner0 (H : List Ob) (v : V) (h : bNobody H v) : SCall Tryz.prog 8 [v] H (fun r H' => r = .int .i64 0 ∧ H' = H) := by
  have hv := bNobody_lt h
  refine SCall.of_good fun hH => ?_
  have hHk := HLt.add hH
  refine SCall.of_code Tok Tryz.func8 rfl Tryz.call8 (n := 10) rfl (by simp) (rs := [.tmp 2]) rfl ?_
  refine EWn.to ?_
  refine EWn.of_c Tok mixed (own := false) keep8 tab8 (by kernel_rfl) ?_
  (repeat (first | simp -dsimp only [zrBox11, st_cmd, sz_cmd, st1_cmd, cl_cmd, xnils, xnilm, xrange, xmakeMap, xslice3, RB, TB, keep8, tab8, xindexAddr, xindex, xslice, xconvert, xlen, ewOp, FreeW, StabW, SameW, ChangeW, AddW, BaseW, limBytes, simprocAttr, ne_eq] | ((with_reducible refine Need.intro ?_ ?_); (first | trivial | exact ⟨_, rfl⟩ | exact ⟨[], (List.append_nil _).symm⟩ | omega | (simp; done) | (simp; omega) | exact ⟨by first | trivial | (simp; done), _, by first | rfl | (simp; rfl)⟩))))
  (first | refine SCall.then (bIs0 _ v h) ?_ | refine SCall.thenA (bIs0 _ v h) (by repeat (first | exact trivial | exact .inl (.inl rfl) | exact .inl (.inr ⟨_, rfl, rfl⟩) | exact .inl rfl | exact .inr ⟨_, rfl, rfl⟩ | refine .inr ⟨_, _, rfl, rfl, ?_⟩ | refine ⟨?_, ?_⟩)) ?_ | refine CallE.intro _ (bIs0 _ v h) ?_ | refine CallE.introA (bIs0 _ v h) (by repeat (first | exact trivial | exact .inl (.inl rfl) | exact .inl (.inr ⟨_, rfl, rfl⟩) | exact .inl rfl | exact .inr ⟨_, rfl, rfl⟩ | refine .inr ⟨_, _, rfl, rfl, ?_⟩ | refine ⟨?_, ?_⟩)) ?_ | refine CallE.intro _ (fun _ => bIs0 _ v h) ?_ | refine CallE.intro _ (fun _ => SCall.arg (by repeat (first | exact trivial | exact .inl (.inl rfl) | exact .inl (.inr ⟨_, rfl, rfl⟩) | exact .inl rfl | exact .inr ⟨_, rfl, rfl⟩ | refine .inr ⟨_, _, rfl, rfl, ?_⟩ | refine ⟨?_, ?_⟩)) (bIs0 _ v h)) ?_ | refine CallE2.intro _ _ (bIs0 _ v h) ?_ | refine CallE2.intro _ _ (SCall.arg (by repeat (first | exact trivial | exact .inl (.inl rfl) | exact .inl (.inr ⟨_, rfl, rfl⟩) | exact .inl rfl | exact .inr ⟨_, rfl, rfl⟩ | refine .inr ⟨_, _, rfl, rfl, ?_⟩ | refine ⟨?_, ?_⟩)) (bIs0 _ v h)) ?_)
  (repeat (first | simp -dsimp only [zrBox11, st_cmd, sz_cmd, st1_cmd, cl_cmd, xnils, xnilm, xrange, xmakeMap, xslice3, RB, TB, keep8, tab8, xindexAddr, xindex, xslice, xconvert, xlen, ewOp, FreeW, StabW, SameW, ChangeW, AddW, BaseW, limBytes, simprocAttr, ne_eq] | ((with_reducible refine Need.intro ?_ ?_); (first | trivial | exact ⟨_, rfl⟩ | exact ⟨[], (List.append_nil _).symm⟩ | omega | (simp; done) | (simp; omega) | exact ⟨by first | trivial | (simp; done), _, by first | rfl | (simp; rfl)⟩))))
  refine RetW.auto0 false _ (by first | rfl | exact (List.append_nil _).symm) ?_ ?_
  · (simp (maxDischargeDepth := 6) [LTB, HLt_set, ltL_take, ltL_drop, ltL_rep, ltL_set, upd, eset, hH, hHk, zlBox11, lt_cmd, lt1_cmd, ltc_cmd] <;> omega)
  (try simp only [wk, wk1, wk0, RB, limBytes, simprocAttr, ne_eq])
  (try (rw [List.take_of_length_le]; rotate_left 1; (· first | (simp; done) | (simp; omega) | omega)))
theorem bClone0 (H : List Ob) (v : V) (h : bNobody H v) : SCall Tryz.prog 9 [v] H (fun r H' => r = .nilp ∧ H' = H) := by
  have hv := bNobody_lt h
  refine SCall.of_good fun hH => ?_
  have hHk := HLt.add hH
  refine SCall.of_code Tok Tryz.func9 rfl Tryz.call9 (n := 57) rfl (by simp) (rs := [.tmp 2]) rfl ?_
  refine EWn.to ?_
  refine EWn.of_c Tok mixed (own := false) keep9 tab9 (by kernel_rfl) ?_
  (repeat (first | simp -dsimp only [zrBox11, st_cmd, sz_cmd, st1_cmd, cl_cmd, xnils, xnilm, xrange, xmakeMap, xslice3, RB, TB, keep9, tab9, xindexAddr, xindex, xslice, xconvert, xlen, ewOp, FreeW, StabW, SameW, ChangeW, AddW, BaseW, limBytes, simprocAttr, ne_eq] | ((with_reducible refine Need.intro ?_ ?_); (first | trivial | exact ⟨_, rfl⟩ | exact ⟨[], (List.append_nil _).symm⟩ | omega | (simp; done) | (simp; omega) | exact ⟨by first | trivial | (simp; done), _, by first | rfl | (simp; rfl)⟩))))
  (first | refine SCall.then (bIs0 _ v h) ?_ | refine SCall.thenA (bIs0 _ v h) (by repeat (first | exact trivial | exact .inl (.inl rfl) | exact .inl (.inr ⟨_, rfl, rfl⟩) | exact .inl rfl | exact .inr ⟨_, rfl, rfl⟩ | refine .inr ⟨_, _, rfl, rfl, ?_⟩ | refine ⟨?_, ?_⟩)) ?_ | refine CallE.intro _ (bIs0 _ v h) ?_ | refine CallE.introA (bIs0 _ v h) (by repeat (first | exact trivial | exact .inl (.inl rfl) | exact .inl (.inr ⟨_, rfl, rfl⟩) | exact .inl rfl | exact .inr ⟨_, rfl, rfl⟩ | refine .inr ⟨_, _, rfl, rfl, ?_⟩ | refine ⟨?_, ?_⟩)) ?_ | refine CallE.intro _ (fun _ => bIs0 _ v h) ?_ | refine CallE.intro _ (fun _ => SCall.arg (by repeat (first | exact trivial | exact .inl (.inl rfl) | exact .inl (.inr ⟨_, rfl, rfl⟩) | exact .inl rfl | exact .inr ⟨_, rfl, rfl⟩ | refine .inr ⟨_, _, rfl, rfl, ?_⟩ | refine ⟨?_, ?_⟩)) (bIs0 _ v h)) ?_ | refine CallE2.intro _ _ (bIs0 _ v h) ?_ | refine CallE2.intro _ _ (SCall.arg (by repeat (first | exact trivial | exact .inl (.inl rfl) | exact .inl (.inr ⟨_, rfl, rfl⟩) | exact .inl rfl | exact .inr ⟨_, rfl, rfl⟩ | refine .inr ⟨_, _, rfl, rfl, ?_⟩ | refine ⟨?_, ?_⟩)) (bIs0 _ v h)) ?_)
  (repeat (first | simp -dsimp only [zrBox11, st_cmd, sz_cmd, st1_cmd, cl_cmd, xnils, xnilm, xrange, xmakeMap, xslice3, RB, TB, keep9, tab9, xindexAddr, xindex, xslice, xconvert, xlen, ewOp, FreeW, StabW, SameW, ChangeW, AddW, BaseW, limBytes, simprocAttr, ne_eq] | ((with_reducible refine Need.intro ?_ ?_); (first | trivial | exact ⟨_, rfl⟩ | exact ⟨[], (List.append_nil _).symm⟩ | omega | (simp; done) | (simp; omega) | exact ⟨by first | trivial | (simp; done), _, by first | rfl | (simp; rfl)⟩))))
  refine RetW.auto0 false _ (by first | rfl | exact (List.append_nil _).symm) ?_ ?_
  · (simp (maxDischargeDepth := 6) [LTB, HLt_set, ltL_take, ltL_drop, ltL_rep, ltL_set, upd, eset, hH, hHk, zlBox11, lt_cmd, lt1_cmd, ltc_cmd] <;> omega)
  (try simp only [wk, wk1, wk0, RB, limBytes, simprocAttr, ne_eq])
  (try (rw [List.take_of_length_le]; rotate_left 1; (· first | (simp; done) | (simp; omega) | omega)))
theorem tIsN (H : List Ob) : SCall Tryz.prog 29 [.nilp] H (fun r H' => r = .bool false ∧ H' = H) := by
  refine SCall.of_good fun hH => ?_
  have hHk := HLt.add hH
  refine SCall.of_code Tok Tryz.func29 rfl Tryz.call29 (n := 13) rfl (by simp) (rs := [.tmp 2]) rfl ?_
  refine EWn.to ?_
  refine EWn.of_c Tok mixed (own := false) keep29 tab29 (by kernel_rfl) ?_
  (repeat (first | simp -dsimp only [zrBox11, st_cmd, sz_cmd, st1_cmd, cl_cmd, xnils, xnilm, xrange, xmakeMap, xslice3, RB, TB, keep29, tab29, xindexAddr, xindex, xslice, xconvert, xlen, ewOp, FreeW, StabW, SameW, ChangeW, AddW, BaseW, limBytes, simprocAttr, ne_eq] | ((with_reducible refine Need.intro ?_ ?_); (first | trivial | exact ⟨_, rfl⟩ | exact ⟨[], (List.append_nil _).symm⟩ | omega | (simp; done) | (simp; omega) | exact ⟨by first | trivial | (simp; done), _, by first | rfl | (simp; rfl)⟩))))
  refine RetW.auto0 false _ (by first | rfl | exact (List.append_nil _).symm) ?_ ?_
  · (simp (maxDischargeDepth := 6) [LTB, HLt_set, ltL_take, ltL_drop, ltL_rep, ltL_set, upd, eset, hH, hHk, zlBox11, lt_cmd, lt1_cmd, ltc_cmd] <;> omega)
  (try simp only [wk, wk1, wk0, RB, limBytes, simprocAttr, ne_eq])
  (try (rw [List.take_of_length_le]; rotate_left 1; (· first | (simp; done) | (simp; omega) | omega)))
theorem tMountN (H : List Ob) : SCall Tryz.prog 16 [.nilp] H (fun r H' => r = .int .i64 0 ∧ H' = H) := by
  refine SCall.of_good fun hH => ?_
  have hHk := HLt.add hH
  refine SCall.of_code Tok Tryz.func16 rfl Tryz.call16 (n := 12) rfl (by simp) (rs := [.tmp 2]) rfl ?_
  refine EWn.to ?_
  refine EWn.of_c Tok mixed (own := false) keep16 tab16 (by kernel_rfl) ?_
  (repeat (first | simp -dsimp only [zrBox11, st_cmd, sz_cmd, st1_cmd, cl_cmd, xnils, xnilm, xrange, xmakeMap, xslice3, RB, TB, keep16, tab16, xindexAddr, xindex, xslice, xconvert, xlen, ewOp, FreeW, StabW, SameW, ChangeW, AddW, BaseW, limBytes, simprocAttr, ne_eq] | ((with_reducible refine Need.intro ?_ ?_); (first | trivial | exact ⟨_, rfl⟩ | exact ⟨[], (List.append_nil _).symm⟩ | omega | (simp; done) | (simp; omega) | exact ⟨by first | trivial | (simp; done), _, by first | rfl | (simp; rfl)⟩))))
  (first | refine SCall.then (tIsN _) ?_ | refine SCall.thenA (tIsN _) (by repeat (first | exact trivial | exact .inl (.inl rfl) | exact .inl (.inr ⟨_, rfl, rfl⟩) | exact .inl rfl | exact .inr ⟨_, rfl, rfl⟩ | refine .inr ⟨_, _, rfl, rfl, ?_⟩ | refine ⟨?_, ?_⟩)) ?_ | refine CallE.intro _ (tIsN _) ?_ | refine CallE.introA (tIsN _) (by repeat (first | exact trivial | exact .inl (.inl rfl) | exact .inl (.inr ⟨_, rfl, rfl⟩) | exact .inl rfl | exact .inr ⟨_, rfl, rfl⟩ | refine .inr ⟨_, _, rfl, rfl, ?_⟩ | refine ⟨?_, ?_⟩)) ?_ | refine CallE.intro _ (fun _ => tIsN _) ?_ | refine CallE.intro _ (fun _ => SCall.arg (by repeat (first | exact trivial | exact .inl (.inl rfl) | exact .inl (.inr ⟨_, rfl, rfl⟩) | exact .inl rfl | exact .inr ⟨_, rfl, rfl⟩ | refine .inr ⟨_, _, rfl, rfl, ?_⟩ | refine ⟨?_, ?_⟩)) (tIsN _)) ?_ | refine CallE2.intro _ _ (tIsN _) ?_ | refine CallE2.intro _ _ (SCall.arg (by repeat (first | exact trivial | exact .inl (.inl rfl) | exact .inl (.inr ⟨_, rfl, rfl⟩) | exact .inl rfl | exact .inr ⟨_, rfl, rfl⟩ | refine .inr ⟨_, _, rfl, rfl, ?_⟩ | refine ⟨?_, ?_⟩)) (tIsN _)) ?_)
  (repeat (first | simp -dsimp only [zrBox11, st_cmd, sz_cmd, st1_cmd, cl_cmd, xnils, xnilm, xrange, xmakeMap, xslice3, RB, TB, keep16, tab16, xindexAddr, xindex, xslice, xconvert, xlen, ewOp, FreeW, StabW, SameW, ChangeW, AddW, BaseW, limBytes, simprocAttr, ne_eq] | ((with_reducible refine Need.intro ?_ ?_); (first | trivial | exact ⟨_, rfl⟩ | exact ⟨[], (List.append_nil _).symm⟩ | omega | (simp; done) | (simp; omega) | exact ⟨by first | trivial | (simp; done), _, by first | rfl | (simp; rfl)⟩))))
  refine RetW.auto0 false _ (by first | rfl | exact (List.append_nil _).symm) ?_ ?_
  · (simp (maxDischargeDepth := 6) [LTB, HLt_set, ltL_take, ltL_drop, ltL_rep, ltL_set, upd, eset, hH, hHk, zlBox11, lt_cmd, lt1_cmd, ltc_cmd] <;> omega)
  (try simp only [wk, wk1, wk0, RB, limBytes, simprocAttr, ne_eq])
  (try (rw [List.take_of_length_le]; rotate_left 1; (· first | (simp; done) | (simp; omega) | omega)))
theorem bNew1 (H : List Ob) : SCall Tryz.prog 20 [.int .i64 1] H (fun r H' => r = .ref H.length 0 ∧ H' = H ++ [.var [.int .i64 1, .nilp]]) := by
  refine SCall.of_good fun hH => ?_
  have hHk := HLt.add hH
  refine SCall.of_code Tok Tryz.func20 rfl Tryz.call20 (n := 12) rfl (by simp) (rs := [.tmp 2]) rfl ?_
  refine EWn.to ?_
  refine EWn.of_c Tok mixed (own := false) keep20 tab20 (by kernel_rfl) ?_
  (repeat (first | simp -dsimp only [zrBox11, st_cmd, sz_cmd, st1_cmd, cl_cmd, xnils, xnilm, xrange, xmakeMap, xslice3, RB, TB, keep20, tab20, xindexAddr, xindex, xslice, xconvert, xlen, ewOp, FreeW, StabW, SameW, ChangeW, AddW, BaseW, limBytes, simprocAttr, ne_eq] | ((with_reducible refine Need.intro ?_ ?_); (first | trivial | exact ⟨_, rfl⟩ | exact ⟨[], (List.append_nil _).symm⟩ | omega | (simp; done) | (simp; omega) | exact ⟨by first | trivial | (simp; done), _, by first | rfl | (simp; rfl)⟩))))
  refine RetW.auto false [.var [.int .i64 1, .nilp]] _ (by first | rfl | simp) ?_ ?_ ?_
  · (simp (maxDischargeDepth := 6) [LTB, HLt_set, ltL_take, ltL_drop, ltL_rep, ltL_set, upd, eset, hH, hHk, zlBox11, lt_cmd, lt1_cmd, ltc_cmd] <;> omega)
  · (simp (maxDischargeDepth := 6) [LTB, HLt_set, ltL_take, ltL_drop, ltL_rep, ltL_set, upd, eset, hH, hHk, zlBox11, lt_cmd, lt1_cmd, ltc_cmd] <;> omega)
  (try simp only [wk, wk1, wk0, RB, limBytes, simprocAttr, ne_eq])
  (try (rw [List.take_of_length_le]; rotate_left 1; (· first | (simp; done) | (simp; omega) | omega)))
theorem bNew0 (H : List Ob) : SCall Tryz.prog 20 [.int .i64 0] H (fun r H' => r = .nilp ∧ H' = H) := by
  refine SCall.of_good fun hH => ?_
  have hHk := HLt.add hH
  refine SCall.of_code Tok Tryz.func20 rfl Tryz.call20 (n := 12) rfl (by simp) (rs := [.tmp 2]) rfl ?_
  refine EWn.to ?_
  refine EWn.of_c Tok mixed (own := false) keep20 tab20 (by kernel_rfl) ?_
  (repeat (first | simp -dsimp only [zrBox11, st_cmd, sz_cmd, st1_cmd, cl_cmd, xnils, xnilm, xrange, xmakeMap, xslice3, RB, TB, keep20, tab20, xindexAddr, xindex, xslice, xconvert, xlen, ewOp, FreeW, StabW, SameW, ChangeW, AddW, BaseW, limBytes, simprocAttr, ne_eq] | ((with_reducible refine Need.intro ?_ ?_); (first | trivial | exact ⟨_, rfl⟩ | exact ⟨[], (List.append_nil _).symm⟩ | omega | (simp; done) | (simp; omega) | exact ⟨by first | trivial | (simp; done), _, by first | rfl | (simp; rfl)⟩))))
  refine RetW.auto0 false _ (by first | rfl | exact (List.append_nil _).symm) ?_ ?_
  · (simp (maxDischargeDepth := 6) [LTB, HLt_set, ltL_take, ltL_drop, ltL_rep, ltL_set, upd, eset, hH, hHk, zlBox11, lt_cmd, lt1_cmd, ltc_cmd] <;> omega)
  (try simp only [wk, wk1, wk0, RB, limBytes, simprocAttr, ne_eq])
  (try (rw [List.take_of_length_le]; rotate_left 1; (· first | (simp; done) | (simp; omega) | omega)))
/-- a box without a mount -/
theorem bIs1 (H : List Ob) (o : Nat) (h : H[o]? = some (.var [.int .i64 1, .nilp])) : SCall Tryz.prog 11 [.ref o 0] H (fun r H' => r = .bool true ∧ H' = H) := by
  have lo := (List.getElem?_eq_some_iff.1 h).1
  refine SCall.of_good fun hH => ?_
  have hHk := HLt.add hH
  refine SCall.of_code Tok Tryz.func11 rfl Tryz.call11 (n := 12) rfl (by simp) (rs := [.tmp 2]) rfl ?_
  refine EWn.to ?_
  refine EWn.of_c Tok mixed (own := false) keep11 tab11 (by kernel_rfl) ?_
  (repeat (first | simp -dsimp only [zrBox11, st_cmd, sz_cmd, st1_cmd, cl_cmd, xnils, xnilm, xrange, xmakeMap, xslice3, h, RB, TB, keep11, tab11, xindexAddr, xindex, xslice, xconvert, xlen, ewOp, FreeW, StabW, SameW, ChangeW, AddW, BaseW, limBytes, simprocAttr, ne_eq] | ((with_reducible refine Need.intro ?_ ?_); (first | trivial | exact ⟨_, rfl⟩ | exact ⟨[], (List.append_nil _).symm⟩ | omega | (simp; done) | (simp; omega) | exact ⟨by first | trivial | (simp; done), _, by first | rfl | (simp; rfl)⟩))))
  refine RetW.auto0 false _ (by first | rfl | exact (List.append_nil _).symm) ?_ ?_
  · (simp (maxDischargeDepth := 6) [LTB, HLt_set, ltL_take, ltL_drop, ltL_rep, ltL_set, upd, eset, hH, hHk, zlBox11, lt_cmd, lt1_cmd, ltc_cmd] <;> omega)
  (try simp only [wk, wk1, wk0, RB, limBytes, simprocAttr, ne_eq])
  (try (rw [List.take_of_length_le]; rotate_left 1; (· first | (simp; done) | (simp; omega) | omega)))
theorem bMount1 (H : List Ob) (o : Nat) (h : H[o]? = some (.var [.int .i64 1, .nilp])) : SCall Tryz.prog 7 [.ref o 0] H (fun r H' => r = .int .i64 0 ∧ H' = H) := by
  have lo := (List.getElem?_eq_some_iff.1 h).1
  refine SCall.of_good fun hH => ?_
  have hHk := HLt.add hH
  refine SCall.of_code Tok Tryz.func7 rfl Tryz.call7 (n := 11) rfl (by simp) (rs := [.tmp 2]) rfl ?_
  refine EWn.to ?_
  refine EWn.of_c Tok mixed (own := false) keep7 tab7 (by kernel_rfl) ?_
  (repeat (first | simp -dsimp only [zrBox11, st_cmd, sz_cmd, st1_cmd, cl_cmd, xnils, xnilm, xrange, xmakeMap, xslice3, h, RB, TB, keep7, tab7, xindexAddr, xindex, xslice, xconvert, xlen, ewOp, FreeW, StabW, SameW, ChangeW, AddW, BaseW, limBytes, simprocAttr, ne_eq] | ((with_reducible refine Need.intro ?_ ?_); (first | trivial | exact ⟨_, rfl⟩ | exact ⟨[], (List.append_nil _).symm⟩ | omega | (simp; done) | (simp; omega) | exact ⟨by first | trivial | (simp; done), _, by first | rfl | (simp; rfl)⟩))))
  (first | refine SCall.then (bIs1 _ o h) ?_ | refine SCall.thenA (bIs1 _ o h) (by repeat (first | exact trivial | exact .inl (.inl rfl) | exact .inl (.inr ⟨_, rfl, rfl⟩) | exact .inl rfl | exact .inr ⟨_, rfl, rfl⟩ | refine .inr ⟨_, _, rfl, rfl, ?_⟩ | refine ⟨?_, ?_⟩)) ?_ | refine CallE.intro _ (bIs1 _ o h) ?_ | refine CallE.introA (bIs1 _ o h) (by repeat (first | exact trivial | exact .inl (.inl rfl) | exact .inl (.inr ⟨_, rfl, rfl⟩) | exact .inl rfl | exact .inr ⟨_, rfl, rfl⟩ | refine .inr ⟨_, _, rfl, rfl, ?_⟩ | refine ⟨?_, ?_⟩)) ?_ | refine CallE.intro _ (fun _ => bIs1 _ o h) ?_ | refine CallE.intro _ (fun _ => SCall.arg (by repeat (first | exact trivial | exact .inl (.inl rfl) | exact .inl (.inr ⟨_, rfl, rfl⟩) | exact .inl rfl | exact .inr ⟨_, rfl, rfl⟩ | refine .inr ⟨_, _, rfl, rfl, ?_⟩ | refine ⟨?_, ?_⟩)) (bIs1 _ o h)) ?_ | refine CallE2.intro _ _ (bIs1 _ o h) ?_ | refine CallE2.intro _ _ (SCall.arg (by repeat (first | exact trivial | exact .inl (.inl rfl) | exact .inl (.inr ⟨_, rfl, rfl⟩) | exact .inl rfl | exact .inr ⟨_, rfl, rfl⟩ | refine .inr ⟨_, _, rfl, rfl, ?_⟩ | refine ⟨?_, ?_⟩)) (bIs1 _ o h)) ?_)
  (repeat (first | simp -dsimp only [zrBox11, st_cmd, sz_cmd, st1_cmd, cl_cmd, xnils, xnilm, xrange, xmakeMap, xslice3, h, RB, TB, keep7, tab7, xindexAddr, xindex, xslice, xconvert, xlen, ewOp, FreeW, StabW, SameW, ChangeW, AddW, BaseW, limBytes, simprocAttr, ne_eq] | ((with_reducible refine Need.intro ?_ ?_); (first | trivial | exact ⟨_, rfl⟩ | exact ⟨[], (List.append_nil _).symm⟩ | omega | (simp; done) | (simp; omega) | exact ⟨by first | trivial | (simp; done), _, by first | rfl | (simp; rfl)⟩))))
  (first | refine SCall.then (tMountN _) ?_ | refine SCall.thenA (tMountN _) (by repeat (first | exact trivial | exact .inl (.inl rfl) | exact .inl (.inr ⟨_, rfl, rfl⟩) | exact .inl rfl | exact .inr ⟨_, rfl, rfl⟩ | refine .inr ⟨_, _, rfl, rfl, ?_⟩ | refine ⟨?_, ?_⟩)) ?_ | refine CallE.intro _ (tMountN _) ?_ | refine CallE.introA (tMountN _) (by repeat (first | exact trivial | exact .inl (.inl rfl) | exact .inl (.inr ⟨_, rfl, rfl⟩) | exact .inl rfl | exact .inr ⟨_, rfl, rfl⟩ | refine .inr ⟨_, _, rfl, rfl, ?_⟩ | refine ⟨?_, ?_⟩)) ?_ | refine CallE.intro _ (fun _ => tMountN _) ?_ | refine CallE.intro _ (fun _ => SCall.arg (by repeat (first | exact trivial | exact .inl (.inl rfl) | exact .inl (.inr ⟨_, rfl, rfl⟩) | exact .inl rfl | exact .inr ⟨_, rfl, rfl⟩ | refine .inr ⟨_, _, rfl, rfl, ?_⟩ | refine ⟨?_, ?_⟩)) (tMountN _)) ?_ | refine CallE2.intro _ _ (tMountN _) ?_ | refine CallE2.intro _ _ (SCall.arg (by repeat (first | exact trivial | exact .inl (.inl rfl) | exact .inl (.inr ⟨_, rfl, rfl⟩) | exact .inl rfl | exact .inr ⟨_, rfl, rfl⟩ | refine .inr ⟨_, _, rfl, rfl, ?_⟩ | refine ⟨?_, ?_⟩)) (tMountN _)) ?_)
  (repeat (first | simp -dsimp only [zrBox11, st_cmd, sz_cmd, st1_cmd, cl_cmd, xnils, xnilm, xrange, xmakeMap, xslice3, RB, TB, keep7, tab7, xindexAddr, xindex, xslice, xconvert, xlen, ewOp, FreeW, StabW, SameW, ChangeW, AddW, BaseW, limBytes, simprocAttr, ne_eq] | ((with_reducible refine Need.intro ?_ ?_); (first | trivial | exact ⟨_, rfl⟩ | exact ⟨[], (List.append_nil _).symm⟩ | omega | (simp; done) | (simp; omega) | exact ⟨by first | trivial | (simp; done), _, by first | rfl | (simp; rfl)⟩))))
  refine RetW.auto0 false _ (by first | rfl | exact (List.append_nil _).symm) ?_ ?_
  · (simp (maxDischargeDepth := 6) [LTB, HLt_set, ltL_take, ltL_drop, ltL_rep, ltL_set, upd, eset, hH, hHk, zlBox11, lt_cmd, lt1_cmd, ltc_cmd] <;> omega)
  (try simp only [wk, wk1, wk0, RB, limBytes, simprocAttr, ne_eq])
  (try (rw [List.take_of_length_le]; rotate_left 1; (· first | (simp; done) | (simp; omega) | omega)))
theorem bOwner1 (H : List Ob) (o : Nat) (h : H[o]? = some (.var [.int .i64 1, .nilp])) : SCall Tryz.prog 8 [.ref o 0] H (fun r H' => r = .int .i64 1 ∧ H' = H) := by
  have lo := (List.getElem?_eq_some_iff.1 h).1
  refine SCall.of_good fun hH => ?_
  have hHk := HLt.add hH
  refine SCall.of_code Tok Tryz.func8 rfl Tryz.call8 (n := 10) rfl (by simp) (rs := [.tmp 2]) rfl ?_
  refine EWn.to ?_
  refine EWn.of_c Tok mixed (own := false) keep8 tab8 (by kernel_rfl) ?_
  (repeat (first | simp -dsimp only [zrBox11, st_cmd, sz_cmd, st1_cmd, cl_cmd, xnils, xnilm, xrange, xmakeMap, xslice3, h, RB, TB, keep8, tab8, xindexAddr, xindex, xslice, xconvert, xlen, ewOp, FreeW, StabW, SameW, ChangeW, AddW, BaseW, limBytes, simprocAttr, ne_eq] | ((with_reducible refine Need.intro ?_ ?_); (first | trivial | exact ⟨_, rfl⟩ | exact ⟨[], (List.append_nil _).symm⟩ | omega | (simp; done) | (simp; omega) | exact ⟨by first | trivial | (simp; done), _, by first | rfl | (simp; rfl)⟩))))
  (first | refine SCall.then (bIs1 _ o h) ?_ | refine SCall.thenA (bIs1 _ o h) (by repeat (first | exact trivial | exact .inl (.inl rfl) | exact .inl (.inr ⟨_, rfl, rfl⟩) | exact .inl rfl | exact .inr ⟨_, rfl, rfl⟩ | refine .inr ⟨_, _, rfl, rfl, ?_⟩ | refine ⟨?_, ?_⟩)) ?_ | refine CallE.intro _ (bIs1 _ o h) ?_ | refine CallE.introA (bIs1 _ o h) (by repeat (first | exact trivial | exact .inl (.inl rfl) | exact .inl (.inr ⟨_, rfl, rfl⟩) | exact .inl rfl | exact .inr ⟨_, rfl, rfl⟩ | refine .inr ⟨_, _, rfl, rfl, ?_⟩ | refine ⟨?_, ?_⟩)) ?_ | refine CallE.intro _ (fun _ => bIs1 _ o h) ?_ | refine CallE.intro _ (fun _ => SCall.arg (by repeat (first | exact trivial | exact .inl (.inl rfl) | exact .inl (.inr ⟨_, rfl, rfl⟩) | exact .inl rfl | exact .inr ⟨_, rfl, rfl⟩ | refine .inr ⟨_, _, rfl, rfl, ?_⟩ | refine ⟨?_, ?_⟩)) (bIs1 _ o h)) ?_ | refine CallE2.intro _ _ (bIs1 _ o h) ?_ | refine CallE2.intro _ _ (SCall.arg (by repeat (first | exact trivial | exact .inl (.inl rfl) | exact .inl (.inr ⟨_, rfl, rfl⟩) | exact .inl rfl | exact .inr ⟨_, rfl, rfl⟩ | refine .inr ⟨_, _, rfl, rfl, ?_⟩ | refine ⟨?_, ?_⟩)) (bIs1 _ o h)) ?_)
  (repeat (first | simp -dsimp only [zrBox11, st_cmd, sz_cmd, st1_cmd, cl_cmd, xnils, xnilm, xrange, xmakeMap, xslice3, h, RB, TB, keep8, tab8, xindexAddr, xindex, xslice, xconvert, xlen, ewOp, FreeW, StabW, SameW, ChangeW, AddW, BaseW, limBytes, simprocAttr, ne_eq] | ((with_reducible refine Need.intro ?_ ?_); (first | trivial | exact ⟨_, rfl⟩ | exact ⟨[], (List.append_nil _).symm⟩ | omega | (simp; done) | (simp; omega) | exact ⟨by first | trivial | (simp; done), _, by first | rfl | (simp; rfl)⟩))))
  refine RetW.auto0 false _ (by first | rfl | exact (List.append_nil _).symm) ?_ ?_
  · (simp (maxDischargeDepth := 6) [LTB, HLt_set, ltL_take, ltL_drop, ltL_rep, ltL_set, upd, eset, hH, hHk, zlBox11, lt_cmd, lt1_cmd, ltc_cmd] <;> omega)
  (try simp only [wk, wk1, wk0, RB, limBytes, simprocAttr, ne_eq])
  (try (rw [List.take_of_length_le]; rotate_left 1; (· first | (simp; done) | (simp; omega) | omega)))
theorem bRun1 (H : List Ob) (o : Nat) (a : V) (ha : a.lt H.length) (h : H[o]? = some (.var [.int .i64 1, .nilp])) (fuel : Int) : SCall Tryz.prog 4 [.ref o 0, a, .fslice [], .int .i64 fuel] H (fun r H' => r = .tuple [.slice [], .int .i64 21] ∧ H' = H) := by
  have lo := (List.getElem?_eq_some_iff.1 h).1
  refine SCall.of_good fun hH => ?_
  have hHk := HLt.add hH
  refine SCall.of_code Tok Tryz.func4 rfl Tryz.call4 (n := 28) rfl (by simp) (rs := [.tmp 8, .tmp 9]) rfl ?_
  refine EWn.to ?_
  refine EWn.of_c Tok mixed (own := false) keep4 tab4 (by kernel_rfl) ?_
  (repeat (first | simp -dsimp only [zrBox11, st_cmd, sz_cmd, st1_cmd, cl_cmd, xnils, xnilm, xrange, xmakeMap, xslice3, h, RB, TB, keep4, tab4, xindexAddr, xindex, xslice, xconvert, xlen, ewOp, FreeW, StabW, SameW, ChangeW, AddW, BaseW, limBytes, simprocAttr, ne_eq] | ((with_reducible refine Need.intro ?_ ?_); (first | trivial | exact ⟨_, rfl⟩ | exact ⟨[], (List.append_nil _).symm⟩ | omega | (simp; done) | (simp; omega) | exact ⟨by first | trivial | (simp; done), _, by first | rfl | (simp; rfl)⟩))))
  (first | refine SCall.then (bIs1 _ o h) ?_ | refine SCall.thenA (bIs1 _ o h) (by repeat (first | exact trivial | exact .inl (.inl rfl) | exact .inl (.inr ⟨_, rfl, rfl⟩) | exact .inl rfl | exact .inr ⟨_, rfl, rfl⟩ | refine .inr ⟨_, _, rfl, rfl, ?_⟩ | refine ⟨?_, ?_⟩)) ?_ | refine CallE.intro _ (bIs1 _ o h) ?_ | refine CallE.introA (bIs1 _ o h) (by repeat (first | exact trivial | exact .inl (.inl rfl) | exact .inl (.inr ⟨_, rfl, rfl⟩) | exact .inl rfl | exact .inr ⟨_, rfl, rfl⟩ | refine .inr ⟨_, _, rfl, rfl, ?_⟩ | refine ⟨?_, ?_⟩)) ?_ | refine CallE.intro _ (fun _ => bIs1 _ o h) ?_ | refine CallE.intro _ (fun _ => SCall.arg (by repeat (first | exact trivial | exact .inl (.inl rfl) | exact .inl (.inr ⟨_, rfl, rfl⟩) | exact .inl rfl | exact .inr ⟨_, rfl, rfl⟩ | refine .inr ⟨_, _, rfl, rfl, ?_⟩ | refine ⟨?_, ?_⟩)) (bIs1 _ o h)) ?_ | refine CallE2.intro _ _ (bIs1 _ o h) ?_ | refine CallE2.intro _ _ (SCall.arg (by repeat (first | exact trivial | exact .inl (.inl rfl) | exact .inl (.inr ⟨_, rfl, rfl⟩) | exact .inl rfl | exact .inr ⟨_, rfl, rfl⟩ | refine .inr ⟨_, _, rfl, rfl, ?_⟩ | refine ⟨?_, ?_⟩)) (bIs1 _ o h)) ?_)
  (repeat (first | simp -dsimp only [zrBox11, st_cmd, sz_cmd, st1_cmd, cl_cmd, xnils, xnilm, xrange, xmakeMap, xslice3, h, RB, TB, keep4, tab4, xindexAddr, xindex, xslice, xconvert, xlen, ewOp, FreeW, StabW, SameW, ChangeW, AddW, BaseW, limBytes, simprocAttr, ne_eq] | ((with_reducible refine Need.intro ?_ ?_); (first | trivial | exact ⟨_, rfl⟩ | exact ⟨[], (List.append_nil _).symm⟩ | omega | (simp; done) | (simp; omega) | exact ⟨by first | trivial | (simp; done), _, by first | rfl | (simp; rfl)⟩))))
  (first | refine SCall.then (bMount1 _ o h) ?_ | refine SCall.thenA (bMount1 _ o h) (by repeat (first | exact trivial | exact .inl (.inl rfl) | exact .inl (.inr ⟨_, rfl, rfl⟩) | exact .inl rfl | exact .inr ⟨_, rfl, rfl⟩ | refine .inr ⟨_, _, rfl, rfl, ?_⟩ | refine ⟨?_, ?_⟩)) ?_ | refine CallE.intro _ (bMount1 _ o h) ?_ | refine CallE.introA (bMount1 _ o h) (by repeat (first | exact trivial | exact .inl (.inl rfl) | exact .inl (.inr ⟨_, rfl, rfl⟩) | exact .inl rfl | exact .inr ⟨_, rfl, rfl⟩ | refine .inr ⟨_, _, rfl, rfl, ?_⟩ | refine ⟨?_, ?_⟩)) ?_ | refine CallE.intro _ (fun _ => bMount1 _ o h) ?_ | refine CallE.intro _ (fun _ => SCall.arg (by repeat (first | exact trivial | exact .inl (.inl rfl) | exact .inl (.inr ⟨_, rfl, rfl⟩) | exact .inl rfl | exact .inr ⟨_, rfl, rfl⟩ | refine .inr ⟨_, _, rfl, rfl, ?_⟩ | refine ⟨?_, ?_⟩)) (bMount1 _ o h)) ?_ | refine CallE2.intro _ _ (bMount1 _ o h) ?_ | refine CallE2.intro _ _ (SCall.arg (by repeat (first | exact trivial | exact .inl (.inl rfl) | exact .inl (.inr ⟨_, rfl, rfl⟩) | exact .inl rfl | exact .inr ⟨_, rfl, rfl⟩ | refine .inr ⟨_, _, rfl, rfl, ?_⟩ | refine ⟨?_, ?_⟩)) (bMount1 _ o h)) ?_)
  (repeat (first | simp -dsimp only [zrBox11, st_cmd, sz_cmd, st1_cmd, cl_cmd, xnils, xnilm, xrange, xmakeMap, xslice3, h, RB, TB, keep4, tab4, xindexAddr, xindex, xslice, xconvert, xlen, ewOp, FreeW, StabW, SameW, ChangeW, AddW, BaseW, limBytes, simprocAttr, ne_eq] | ((with_reducible refine Need.intro ?_ ?_); (first | trivial | exact ⟨_, rfl⟩ | exact ⟨[], (List.append_nil _).symm⟩ | omega | (simp; done) | (simp; omega) | exact ⟨by first | trivial | (simp; done), _, by first | rfl | (simp; rfl)⟩))))
  refine RetW.auto0 false _ (by first | rfl | exact (List.append_nil _).symm) ?_ ?_
  · (simp (maxDischargeDepth := 6) [LTB, HLt_set, ltL_take, ltL_drop, ltL_rep, ltL_set, upd, eset, hH, hHk, zlBox11, lt_cmd, lt1_cmd, ltc_cmd] <;> omega)
  (try simp only [wk, wk1, wk0, RB, limBytes, simprocAttr, ne_eq])
  (try (rw [List.take_of_length_le]; rotate_left 1; (· first | (simp; done) | (simp; omega) | omega)))
theorem alive30 (H : List Ob) : SCall Tryz.prog 10 [] H (fun r H' => r = .bool true ∧ H' = H) := by
  refine SCall.of_good fun hH => ?_
  have hHk := HLt.add hH
  refine SCall.of_code Tok Tryz.func10 rfl Tryz.call10 (n := 27) rfl (by simp) (rs := [.tmp 0]) rfl ?_
  refine EWn.to ?_
  refine EWn.of_c Tok mixed (own := false) keep10 tab10 (by kernel_rfl) ?_
  (repeat (first | simp -dsimp only [zrBox11, st_cmd, sz_cmd, st1_cmd, cl_cmd, xnils, xnilm, xrange, xmakeMap, xslice3, RB, TB, keep10, tab10, xindexAddr, xindex, xslice, xconvert, xlen, ewOp, FreeW, StabW, SameW, ChangeW, AddW, BaseW, limBytes, simprocAttr, ne_eq] | ((with_reducible refine Need.intro ?_ ?_); (first | trivial | exact ⟨_, rfl⟩ | exact ⟨[], (List.append_nil _).symm⟩ | omega | (simp; done) | (simp; omega) | exact ⟨by first | trivial | (simp; done), _, by first | rfl | (simp; rfl)⟩))))
  (first | refine SCall.then (bNew1 _) ?_ | refine SCall.thenA (bNew1 _) (by repeat (first | exact trivial | exact .inl (.inl rfl) | exact .inl (.inr ⟨_, rfl, rfl⟩) | exact .inl rfl | exact .inr ⟨_, rfl, rfl⟩ | refine .inr ⟨_, _, rfl, rfl, ?_⟩ | refine ⟨?_, ?_⟩)) ?_ | refine CallE.intro _ (bNew1 _) ?_ | refine CallE.introA (bNew1 _) (by repeat (first | exact trivial | exact .inl (.inl rfl) | exact .inl (.inr ⟨_, rfl, rfl⟩) | exact .inl rfl | exact .inr ⟨_, rfl, rfl⟩ | refine .inr ⟨_, _, rfl, rfl, ?_⟩ | refine ⟨?_, ?_⟩)) ?_ | refine CallE.intro _ (fun _ => bNew1 _) ?_ | refine CallE.intro _ (fun _ => SCall.arg (by repeat (first | exact trivial | exact .inl (.inl rfl) | exact .inl (.inr ⟨_, rfl, rfl⟩) | exact .inl rfl | exact .inr ⟨_, rfl, rfl⟩ | refine .inr ⟨_, _, rfl, rfl, ?_⟩ | refine ⟨?_, ?_⟩)) (bNew1 _)) ?_ | refine CallE2.intro _ _ (bNew1 _) ?_ | refine CallE2.intro _ _ (SCall.arg (by repeat (first | exact trivial | exact .inl (.inl rfl) | exact .inl (.inr ⟨_, rfl, rfl⟩) | exact .inl rfl | exact .inr ⟨_, rfl, rfl⟩ | refine .inr ⟨_, _, rfl, rfl, ?_⟩ | refine ⟨?_, ?_⟩)) (bNew1 _)) ?_)
  (repeat (first | simp -dsimp only [zrBox11, st_cmd, sz_cmd, st1_cmd, cl_cmd, xnils, xnilm, xrange, xmakeMap, xslice3, RB, TB, keep10, tab10, xindexAddr, xindex, xslice, xconvert, xlen, ewOp, FreeW, StabW, SameW, ChangeW, AddW, BaseW, limBytes, simprocAttr, ne_eq] | ((with_reducible refine Need.intro ?_ ?_); (first | trivial | exact ⟨_, rfl⟩ | exact ⟨[], (List.append_nil _).symm⟩ | omega | (simp; done) | (simp; omega) | exact ⟨by first | trivial | (simp; done), _, by first | rfl | (simp; rfl)⟩))))
  (first | refine SCall.then (aNew _) ?_ | refine SCall.thenA (aNew _) (by repeat (first | exact trivial | exact .inl (.inl rfl) | exact .inl (.inr ⟨_, rfl, rfl⟩) | exact .inl rfl | exact .inr ⟨_, rfl, rfl⟩ | refine .inr ⟨_, _, rfl, rfl, ?_⟩ | refine ⟨?_, ?_⟩)) ?_ | refine CallE.intro _ (aNew _) ?_ | refine CallE.introA (aNew _) (by repeat (first | exact trivial | exact .inl (.inl rfl) | exact .inl (.inr ⟨_, rfl, rfl⟩) | exact .inl rfl | exact .inr ⟨_, rfl, rfl⟩ | refine .inr ⟨_, _, rfl, rfl, ?_⟩ | refine ⟨?_, ?_⟩)) ?_ | refine CallE.intro _ (fun _ => aNew _) ?_ | refine CallE.intro _ (fun _ => SCall.arg (by repeat (first | exact trivial | exact .inl (.inl rfl) | exact .inl (.inr ⟨_, rfl, rfl⟩) | exact .inl rfl | exact .inr ⟨_, rfl, rfl⟩ | refine .inr ⟨_, _, rfl, rfl, ?_⟩ | refine ⟨?_, ?_⟩)) (aNew _)) ?_ | refine CallE2.intro _ _ (aNew _) ?_ | refine CallE2.intro _ _ (SCall.arg (by repeat (first | exact trivial | exact .inl (.inl rfl) | exact .inl (.inr ⟨_, rfl, rfl⟩) | exact .inl rfl | exact .inr ⟨_, rfl, rfl⟩ | refine .inr ⟨_, _, rfl, rfl, ?_⟩ | refine ⟨?_, ?_⟩)) (aNew _)) ?_)
  (repeat (first | simp -dsimp only [zrBox11, st_cmd, sz_cmd, st1_cmd, cl_cmd, xnils, xnilm, xrange, xmakeMap, xslice3, RB, TB, keep10, tab10, xindexAddr, xindex, xslice, xconvert, xlen, ewOp, FreeW, StabW, SameW, ChangeW, AddW, BaseW, limBytes, simprocAttr, ne_eq] | ((with_reducible refine Need.intro ?_ ?_); (first | trivial | exact ⟨_, rfl⟩ | exact ⟨[], (List.append_nil _).symm⟩ | omega | (simp; done) | (simp; omega) | exact ⟨by first | trivial | (simp; done), _, by first | rfl | (simp; rfl)⟩))))
  (first | refine SCall.then (bRun1 _ H.length _ (by simp [V.lt]) (by simp) 1) ?_ | refine SCall.thenA (bRun1 _ H.length _ (by simp [V.lt]) (by simp) 1) (by repeat (first | exact trivial | exact .inl (.inl rfl) | exact .inl (.inr ⟨_, rfl, rfl⟩) | exact .inl rfl | exact .inr ⟨_, rfl, rfl⟩ | refine .inr ⟨_, _, rfl, rfl, ?_⟩ | refine ⟨?_, ?_⟩)) ?_ | refine CallE.intro _ (bRun1 _ H.length _ (by simp [V.lt]) (by simp) 1) ?_ | refine CallE.introA (bRun1 _ H.length _ (by simp [V.lt]) (by simp) 1) (by repeat (first | exact trivial | exact .inl (.inl rfl) | exact .inl (.inr ⟨_, rfl, rfl⟩) | exact .inl rfl | exact .inr ⟨_, rfl, rfl⟩ | refine .inr ⟨_, _, rfl, rfl, ?_⟩ | refine ⟨?_, ?_⟩)) ?_ | refine CallE.intro _ (fun _ => bRun1 _ H.length _ (by simp [V.lt]) (by simp) 1) ?_ | refine CallE.intro _ (fun _ => SCall.arg (by repeat (first | exact trivial | exact .inl (.inl rfl) | exact .inl (.inr ⟨_, rfl, rfl⟩) | exact .inl rfl | exact .inr ⟨_, rfl, rfl⟩ | refine .inr ⟨_, _, rfl, rfl, ?_⟩ | refine ⟨?_, ?_⟩)) (bRun1 _ H.length _ (by simp [V.lt]) (by simp) 1)) ?_ | refine CallE2.intro _ _ (bRun1 _ H.length _ (by simp [V.lt]) (by simp) 1) ?_ | refine CallE2.intro _ _ (SCall.arg (by repeat (first | exact trivial | exact .inl (.inl rfl) | exact .inl (.inr ⟨_, rfl, rfl⟩) | exact .inl rfl | exact .inr ⟨_, rfl, rfl⟩ | refine .inr ⟨_, _, rfl, rfl, ?_⟩ | refine ⟨?_, ?_⟩)) (bRun1 _ H.length _ (by simp [V.lt]) (by simp) 1)) ?_)
  (repeat (first | simp -dsimp only [zrBox11, st_cmd, sz_cmd, st1_cmd, cl_cmd, xnils, xnilm, xrange, xmakeMap, xslice3, RB, TB, keep10, tab10, xindexAddr, xindex, xslice, xconvert, xlen, ewOp, FreeW, StabW, SameW, ChangeW, AddW, BaseW, limBytes, simprocAttr, ne_eq] | ((with_reducible refine Need.intro ?_ ?_); (first | trivial | exact ⟨_, rfl⟩ | exact ⟨[], (List.append_nil _).symm⟩ | omega | (simp; done) | (simp; omega) | exact ⟨by first | trivial | (simp; done), _, by first | rfl | (simp; rfl)⟩))))
  (first | refine SCall.then (bOwner1 _ H.length (by simp)) ?_ | refine SCall.thenA (bOwner1 _ H.length (by simp)) (by repeat (first | exact trivial | exact .inl (.inl rfl) | exact .inl (.inr ⟨_, rfl, rfl⟩) | exact .inl rfl | exact .inr ⟨_, rfl, rfl⟩ | refine .inr ⟨_, _, rfl, rfl, ?_⟩ | refine ⟨?_, ?_⟩)) ?_ | refine CallE.intro _ (bOwner1 _ H.length (by simp)) ?_ | refine CallE.introA (bOwner1 _ H.length (by simp)) (by repeat (first | exact trivial | exact .inl (.inl rfl) | exact .inl (.inr ⟨_, rfl, rfl⟩) | exact .inl rfl | exact .inr ⟨_, rfl, rfl⟩ | refine .inr ⟨_, _, rfl, rfl, ?_⟩ | refine ⟨?_, ?_⟩)) ?_ | refine CallE.intro _ (fun _ => bOwner1 _ H.length (by simp)) ?_ | refine CallE.intro _ (fun _ => SCall.arg (by repeat (first | exact trivial | exact .inl (.inl rfl) | exact .inl (.inr ⟨_, rfl, rfl⟩) | exact .inl rfl | exact .inr ⟨_, rfl, rfl⟩ | refine .inr ⟨_, _, rfl, rfl, ?_⟩ | refine ⟨?_, ?_⟩)) (bOwner1 _ H.length (by simp))) ?_ | refine CallE2.intro _ _ (bOwner1 _ H.length (by simp)) ?_ | refine CallE2.intro _ _ (SCall.arg (by repeat (first | exact trivial | exact .inl (.inl rfl) | exact .inl (.inr ⟨_, rfl, rfl⟩) | exact .inl rfl | exact .inr ⟨_, rfl, rfl⟩ | refine .inr ⟨_, _, rfl, rfl, ?_⟩ | refine ⟨?_, ?_⟩)) (bOwner1 _ H.length (by simp))) ?_)
  (repeat (first | simp -dsimp only [zrBox11, st_cmd, sz_cmd, st1_cmd, cl_cmd, xnils, xnilm, xrange, xmakeMap, xslice3, RB, TB, keep10, tab10, xindexAddr, xindex, xslice, xconvert, xlen, ewOp, FreeW, StabW, SameW, ChangeW, AddW, BaseW, limBytes, simprocAttr, ne_eq] | ((with_reducible refine Need.intro ?_ ?_); (first | trivial | exact ⟨_, rfl⟩ | exact ⟨[], (List.append_nil _).symm⟩ | omega | (simp; done) | (simp; omega) | exact ⟨by first | trivial | (simp; done), _, by first | rfl | (simp; rfl)⟩))))
  (first | refine SCall.then (bMount1 _ H.length (by simp)) ?_ | refine SCall.thenA (bMount1 _ H.length (by simp)) (by repeat (first | exact trivial | exact .inl (.inl rfl) | exact .inl (.inr ⟨_, rfl, rfl⟩) | exact .inl rfl | exact .inr ⟨_, rfl, rfl⟩ | refine .inr ⟨_, _, rfl, rfl, ?_⟩ | refine ⟨?_, ?_⟩)) ?_ | refine CallE.intro _ (bMount1 _ H.length (by simp)) ?_ | refine CallE.introA (bMount1 _ H.length (by simp)) (by repeat (first | exact trivial | exact .inl (.inl rfl) | exact .inl (.inr ⟨_, rfl, rfl⟩) | exact .inl rfl | exact .inr ⟨_, rfl, rfl⟩ | refine .inr ⟨_, _, rfl, rfl, ?_⟩ | refine ⟨?_, ?_⟩)) ?_ | refine CallE.intro _ (fun _ => bMount1 _ H.length (by simp)) ?_ | refine CallE.intro _ (fun _ => SCall.arg (by repeat (first | exact trivial | exact .inl (.inl rfl) | exact .inl (.inr ⟨_, rfl, rfl⟩) | exact .inl rfl | exact .inr ⟨_, rfl, rfl⟩ | refine .inr ⟨_, _, rfl, rfl, ?_⟩ | refine ⟨?_, ?_⟩)) (bMount1 _ H.length (by simp))) ?_ | refine CallE2.intro _ _ (bMount1 _ H.length (by simp)) ?_ | refine CallE2.intro _ _ (SCall.arg (by repeat (first | exact trivial | exact .inl (.inl rfl) | exact .inl (.inr ⟨_, rfl, rfl⟩) | exact .inl rfl | exact .inr ⟨_, rfl, rfl⟩ | refine .inr ⟨_, _, rfl, rfl, ?_⟩ | refine ⟨?_, ?_⟩)) (bMount1 _ H.length (by simp))) ?_)
  (repeat (first | simp -dsimp only [zrBox11, st_cmd, sz_cmd, st1_cmd, cl_cmd, xnils, xnilm, xrange, xmakeMap, xslice3, RB, TB, keep10, tab10, xindexAddr, xindex, xslice, xconvert, xlen, ewOp, FreeW, StabW, SameW, ChangeW, AddW, BaseW, limBytes, simprocAttr, ne_eq] | ((with_reducible refine Need.intro ?_ ?_); (first | trivial | exact ⟨_, rfl⟩ | exact ⟨[], (List.append_nil _).symm⟩ | omega | (simp; done) | (simp; omega) | exact ⟨by first | trivial | (simp; done), _, by first | rfl | (simp; rfl)⟩))))
  (first | refine SCall.then (bNew0 _) ?_ | refine SCall.thenA (bNew0 _) (by repeat (first | exact trivial | exact .inl (.inl rfl) | exact .inl (.inr ⟨_, rfl, rfl⟩) | exact .inl rfl | exact .inr ⟨_, rfl, rfl⟩ | refine .inr ⟨_, _, rfl, rfl, ?_⟩ | refine ⟨?_, ?_⟩)) ?_ | refine CallE.intro _ (bNew0 _) ?_ | refine CallE.introA (bNew0 _) (by repeat (first | exact trivial | exact .inl (.inl rfl) | exact .inl (.inr ⟨_, rfl, rfl⟩) | exact .inl rfl | exact .inr ⟨_, rfl, rfl⟩ | refine .inr ⟨_, _, rfl, rfl, ?_⟩ | refine ⟨?_, ?_⟩)) ?_ | refine CallE.intro _ (fun _ => bNew0 _) ?_ | refine CallE.intro _ (fun _ => SCall.arg (by repeat (first | exact trivial | exact .inl (.inl rfl) | exact .inl (.inr ⟨_, rfl, rfl⟩) | exact .inl rfl | exact .inr ⟨_, rfl, rfl⟩ | refine .inr ⟨_, _, rfl, rfl, ?_⟩ | refine ⟨?_, ?_⟩)) (bNew0 _)) ?_ | refine CallE2.intro _ _ (bNew0 _) ?_ | refine CallE2.intro _ _ (SCall.arg (by repeat (first | exact trivial | exact .inl (.inl rfl) | exact .inl (.inr ⟨_, rfl, rfl⟩) | exact .inl rfl | exact .inr ⟨_, rfl, rfl⟩ | refine .inr ⟨_, _, rfl, rfl, ?_⟩ | refine ⟨?_, ?_⟩)) (bNew0 _)) ?_)
  (repeat (first | simp -dsimp only [zrBox11, st_cmd, sz_cmd, st1_cmd, cl_cmd, xnils, xnilm, xrange, xmakeMap, xslice3, RB, TB, keep10, tab10, xindexAddr, xindex, xslice, xconvert, xlen, ewOp, FreeW, StabW, SameW, ChangeW, AddW, BaseW, limBytes, simprocAttr, ne_eq] | ((with_reducible refine Need.intro ?_ ?_); (first | trivial | exact ⟨_, rfl⟩ | exact ⟨[], (List.append_nil _).symm⟩ | omega | (simp; done) | (simp; omega) | exact ⟨by first | trivial | (simp; done), _, by first | rfl | (simp; rfl)⟩))))
  refine RetW.auto0 false _ (by first | rfl | exact (List.append_nil _).symm) ?_ ?_
  · (simp (maxDischargeDepth := 6) [LTB, HLt_set, ltL_take, ltL_drop, ltL_rep, ltL_set, upd, eset, hH, hHk, zlBox11, lt_cmd, lt1_cmd, ltc_cmd] <;> omega)
  (try simp only [wk, wk1, wk0, RB, limBytes, simprocAttr, ne_eq])
  (try (rw [List.take_of_length_le]; rotate_left 1; (· first | (simp; done) | (simp; omega) | omega)))
theorem boxNobody (H : List Ob) (l : List Cmd) (fuel : Int) : SCall Tryz.prog 3 [.slice (l.map cmdV), .int .i64 fuel] H (fun r _ => r = .bool true) := by
  have n0 : ∀ K, bNobody K .nilp := fun _ => .inl rfl
  refine SCall.of_good fun hH => ?_
  have hHk := HLt.add hH
  refine SCall.of_code Tok Tryz.func3 rfl Tryz.call3 (n := 69) rfl (by simp) (rs := [.tmp 4]) rfl ?_
  refine EWn.to ?_
  refine EWn.of_c Tok mixed (own := false) keep3 tab3 (by kernel_rfl) ?_
  (repeat (first | simp -dsimp only [zrBox11, st_cmd, sz_cmd, st1_cmd, cl_cmd, xnils, xnilm, xrange, xmakeMap, xslice3, RB, TB, keep3, tab3, xindexAddr, xindex, xslice, xconvert, xlen, ewOp, FreeW, StabW, SameW, ChangeW, AddW, BaseW, limBytes, simprocAttr, ne_eq] | ((with_reducible refine Need.intro ?_ ?_); (first | trivial | exact ⟨_, rfl⟩ | exact ⟨[], (List.append_nil _).symm⟩ | omega | (simp; done) | (simp; omega) | exact ⟨by first | trivial | (simp; done), _, by first | rfl | (simp; rfl)⟩))))
  refine EWn.rounds 3 ?_
  show EWn _ _ _ _ _ _ _
  refine EWn.of_c Tok mixed (own := false) keep3 tab3 (by kernel_rfl) ?_
  (repeat (first | simp -dsimp only [zrBox11, st_cmd, sz_cmd, st1_cmd, cl_cmd, xnils, xnilm, xrange, xmakeMap, xslice3, RB, TB, keep3, tab3, xindexAddr, xindex, xslice, xconvert, xlen, ewOp, FreeW, StabW, SameW, ChangeW, AddW, BaseW, limBytes, simprocAttr, ne_eq] | ((with_reducible refine Need.intro ?_ ?_); (first | trivial | exact ⟨_, rfl⟩ | exact ⟨[], (List.append_nil _).symm⟩ | omega | (simp; done) | (simp; omega) | exact ⟨by first | trivial | (simp; done), _, by first | rfl | (simp; rfl)⟩))))
  (first | refine SCall.then (aNew _) ?_ | refine SCall.thenA (aNew _) (by repeat (first | exact trivial | exact .inl (.inl rfl) | exact .inl (.inr ⟨_, rfl, rfl⟩) | exact .inl rfl | exact .inr ⟨_, rfl, rfl⟩ | refine .inr ⟨_, _, rfl, rfl, ?_⟩ | refine ⟨?_, ?_⟩)) ?_ | refine CallE.intro _ (aNew _) ?_ | refine CallE.introA (aNew _) (by repeat (first | exact trivial | exact .inl (.inl rfl) | exact .inl (.inr ⟨_, rfl, rfl⟩) | exact .inl rfl | exact .inr ⟨_, rfl, rfl⟩ | refine .inr ⟨_, _, rfl, rfl, ?_⟩ | refine ⟨?_, ?_⟩)) ?_ | refine CallE.intro _ (fun _ => aNew _) ?_ | refine CallE.intro _ (fun _ => SCall.arg (by repeat (first | exact trivial | exact .inl (.inl rfl) | exact .inl (.inr ⟨_, rfl, rfl⟩) | exact .inl rfl | exact .inr ⟨_, rfl, rfl⟩ | refine .inr ⟨_, _, rfl, rfl, ?_⟩ | refine ⟨?_, ?_⟩)) (aNew _)) ?_ | refine CallE2.intro _ _ (aNew _) ?_ | refine CallE2.intro _ _ (SCall.arg (by repeat (first | exact trivial | exact .inl (.inl rfl) | exact .inl (.inr ⟨_, rfl, rfl⟩) | exact .inl rfl | exact .inr ⟨_, rfl, rfl⟩ | refine .inr ⟨_, _, rfl, rfl, ?_⟩ | refine ⟨?_, ?_⟩)) (aNew _)) ?_)
  (repeat (first | simp -dsimp only [zrBox11, st_cmd, sz_cmd, st1_cmd, cl_cmd, xnils, xnilm, xrange, xmakeMap, xslice3, RB, TB, keep3, tab3, xindexAddr, xindex, xslice, xconvert, xlen, ewOp, FreeW, StabW, SameW, ChangeW, AddW, BaseW, limBytes, simprocAttr, ne_eq] | ((with_reducible refine Need.intro ?_ ?_); (first | trivial | exact ⟨_, rfl⟩ | exact ⟨[], (List.append_nil _).symm⟩ | omega | (simp; done) | (simp; omega) | exact ⟨by first | trivial | (simp; done), _, by first | rfl | (simp; rfl)⟩))))
  (first | refine SCall.then (bRun0 _ _ _ (n0 _) (by simp [V.lt]) l fuel) ?_ | refine SCall.thenA (bRun0 _ _ _ (n0 _) (by simp [V.lt]) l fuel) (by repeat (first | exact trivial | exact .inl (.inl rfl) | exact .inl (.inr ⟨_, rfl, rfl⟩) | exact .inl rfl | exact .inr ⟨_, rfl, rfl⟩ | refine .inr ⟨_, _, rfl, rfl, ?_⟩ | refine ⟨?_, ?_⟩)) ?_ | refine CallE.intro _ (bRun0 _ _ _ (n0 _) (by simp [V.lt]) l fuel) ?_ | refine CallE.introA (bRun0 _ _ _ (n0 _) (by simp [V.lt]) l fuel) (by repeat (first | exact trivial | exact .inl (.inl rfl) | exact .inl (.inr ⟨_, rfl, rfl⟩) | exact .inl rfl | exact .inr ⟨_, rfl, rfl⟩ | refine .inr ⟨_, _, rfl, rfl, ?_⟩ | refine ⟨?_, ?_⟩)) ?_ | refine CallE.intro _ (fun _ => bRun0 _ _ _ (n0 _) (by simp [V.lt]) l fuel) ?_ | refine CallE.intro _ (fun _ => SCall.arg (by repeat (first | exact trivial | exact .inl (.inl rfl) | exact .inl (.inr ⟨_, rfl, rfl⟩) | exact .inl rfl | exact .inr ⟨_, rfl, rfl⟩ | refine .inr ⟨_, _, rfl, rfl, ?_⟩ | refine ⟨?_, ?_⟩)) (bRun0 _ _ _ (n0 _) (by simp [V.lt]) l fuel)) ?_ | refine CallE2.intro _ _ (bRun0 _ _ _ (n0 _) (by simp [V.lt]) l fuel) ?_ | refine CallE2.intro _ _ (SCall.arg (by repeat (first | exact trivial | exact .inl (.inl rfl) | exact .inl (.inr ⟨_, rfl, rfl⟩) | exact .inl rfl | exact .inr ⟨_, rfl, rfl⟩ | refine .inr ⟨_, _, rfl, rfl, ?_⟩ | refine ⟨?_, ?_⟩)) (bRun0 _ _ _ (n0 _) (by simp [V.lt]) l fuel)) ?_)
  (repeat (first | simp -dsimp only [zrBox11, st_cmd, sz_cmd, st1_cmd, cl_cmd, xnils, xnilm, xrange, xmakeMap, xslice3, RB, TB, keep3, tab3, xindexAddr, xindex, xslice, xconvert, xlen, ewOp, FreeW, StabW, SameW, ChangeW, AddW, BaseW, limBytes, simprocAttr, ne_eq] | ((with_reducible refine Need.intro ?_ ?_); (first | trivial | exact ⟨_, rfl⟩ | exact ⟨[], (List.append_nil _).symm⟩ | omega | (simp; done) | (simp; omega) | exact ⟨by first | trivial | (simp; done), _, by first | rfl | (simp; rfl)⟩))))
  (first | refine SCall.then (aNew _) ?_ | refine SCall.thenA (aNew _) (by repeat (first | exact trivial | exact .inl (.inl rfl) | exact .inl (.inr ⟨_, rfl, rfl⟩) | exact .inl rfl | exact .inr ⟨_, rfl, rfl⟩ | refine .inr ⟨_, _, rfl, rfl, ?_⟩ | refine ⟨?_, ?_⟩)) ?_ | refine CallE.intro _ (aNew _) ?_ | refine CallE.introA (aNew _) (by repeat (first | exact trivial | exact .inl (.inl rfl) | exact .inl (.inr ⟨_, rfl, rfl⟩) | exact .inl rfl | exact .inr ⟨_, rfl, rfl⟩ | refine .inr ⟨_, _, rfl, rfl, ?_⟩ | refine ⟨?_, ?_⟩)) ?_ | refine CallE.intro _ (fun _ => aNew _) ?_ | refine CallE.intro _ (fun _ => SCall.arg (by repeat (first | exact trivial | exact .inl (.inl rfl) | exact .inl (.inr ⟨_, rfl, rfl⟩) | exact .inl rfl | exact .inr ⟨_, rfl, rfl⟩ | refine .inr ⟨_, _, rfl, rfl, ?_⟩ | refine ⟨?_, ?_⟩)) (aNew _)) ?_ | refine CallE2.intro _ _ (aNew _) ?_ | refine CallE2.intro _ _ (SCall.arg (by repeat (first | exact trivial | exact .inl (.inl rfl) | exact .inl (.inr ⟨_, rfl, rfl⟩) | exact .inl rfl | exact .inr ⟨_, rfl, rfl⟩ | refine .inr ⟨_, _, rfl, rfl, ?_⟩ | refine ⟨?_, ?_⟩)) (aNew _)) ?_)
  (repeat (first | simp -dsimp only [zrBox11, st_cmd, sz_cmd, st1_cmd, cl_cmd, xnils, xnilm, xrange, xmakeMap, xslice3, RB, TB, keep3, tab3, xindexAddr, xindex, xslice, xconvert, xlen, ewOp, FreeW, StabW, SameW, ChangeW, AddW, BaseW, limBytes, simprocAttr, ne_eq] | ((with_reducible refine Need.intro ?_ ?_); (first | trivial | exact ⟨_, rfl⟩ | exact ⟨[], (List.append_nil _).symm⟩ | omega | (simp; done) | (simp; omega) | exact ⟨by first | trivial | (simp; done), _, by first | rfl | (simp; rfl)⟩))))
  (first | refine SCall.then (bBind0 _ _ _ (n0 _) (by simp [V.lt])) ?_ | refine SCall.thenA (bBind0 _ _ _ (n0 _) (by simp [V.lt])) (by repeat (first | exact trivial | exact .inl (.inl rfl) | exact .inl (.inr ⟨_, rfl, rfl⟩) | exact .inl rfl | exact .inr ⟨_, rfl, rfl⟩ | refine .inr ⟨_, _, rfl, rfl, ?_⟩ | refine ⟨?_, ?_⟩)) ?_ | refine CallE.intro _ (bBind0 _ _ _ (n0 _) (by simp [V.lt])) ?_ | refine CallE.introA (bBind0 _ _ _ (n0 _) (by simp [V.lt])) (by repeat (first | exact trivial | exact .inl (.inl rfl) | exact .inl (.inr ⟨_, rfl, rfl⟩) | exact .inl rfl | exact .inr ⟨_, rfl, rfl⟩ | refine .inr ⟨_, _, rfl, rfl, ?_⟩ | refine ⟨?_, ?_⟩)) ?_ | refine CallE.intro _ (fun _ => bBind0 _ _ _ (n0 _) (by simp [V.lt])) ?_ | refine CallE.intro _ (fun _ => SCall.arg (by repeat (first | exact trivial | exact .inl (.inl rfl) | exact .inl (.inr ⟨_, rfl, rfl⟩) | exact .inl rfl | exact .inr ⟨_, rfl, rfl⟩ | refine .inr ⟨_, _, rfl, rfl, ?_⟩ | refine ⟨?_, ?_⟩)) (bBind0 _ _ _ (n0 _) (by simp [V.lt]))) ?_ | refine CallE2.intro _ _ (bBind0 _ _ _ (n0 _) (by simp [V.lt])) ?_ | refine CallE2.intro _ _ (SCall.arg (by repeat (first | exact trivial | exact .inl (.inl rfl) | exact .inl (.inr ⟨_, rfl, rfl⟩) | exact .inl rfl | exact .inr ⟨_, rfl, rfl⟩ | refine .inr ⟨_, _, rfl, rfl, ?_⟩ | refine ⟨?_, ?_⟩)) (bBind0 _ _ _ (n0 _) (by simp [V.lt]))) ?_)
  (repeat (first | simp -dsimp only [zrBox11, st_cmd, sz_cmd, st1_cmd, cl_cmd, xnils, xnilm, xrange, xmakeMap, xslice3, RB, TB, keep3, tab3, xindexAddr, xindex, xslice, xconvert, xlen, ewOp, FreeW, StabW, SameW, ChangeW, AddW, BaseW, limBytes, simprocAttr, ne_eq] | ((with_reducible refine Need.intro ?_ ?_); (first | trivial | exact ⟨_, rfl⟩ | exact ⟨[], (List.append_nil _).symm⟩ | omega | (simp; done) | (simp; omega) | exact ⟨by first | trivial | (simp; done), _, by first | rfl | (simp; rfl)⟩))))
  (first | refine SCall.then (bMount0 _ _ (n0 _)) ?_ | refine SCall.thenA (bMount0 _ _ (n0 _)) (by repeat (first | exact trivial | exact .inl (.inl rfl) | exact .inl (.inr ⟨_, rfl, rfl⟩) | exact .inl rfl | exact .inr ⟨_, rfl, rfl⟩ | refine .inr ⟨_, _, rfl, rfl, ?_⟩ | refine ⟨?_, ?_⟩)) ?_ | refine CallE.intro _ (bMount0 _ _ (n0 _)) ?_ | refine CallE.introA (bMount0 _ _ (n0 _)) (by repeat (first | exact trivial | exact .inl (.inl rfl) | exact .inl (.inr ⟨_, rfl, rfl⟩) | exact .inl rfl | exact .inr ⟨_, rfl, rfl⟩ | refine .inr ⟨_, _, rfl, rfl, ?_⟩ | refine ⟨?_, ?_⟩)) ?_ | refine CallE.intro _ (fun _ => bMount0 _ _ (n0 _)) ?_ | refine CallE.intro _ (fun _ => SCall.arg (by repeat (first | exact trivial | exact .inl (.inl rfl) | exact .inl (.inr ⟨_, rfl, rfl⟩) | exact .inl rfl | exact .inr ⟨_, rfl, rfl⟩ | refine .inr ⟨_, _, rfl, rfl, ?_⟩ | refine ⟨?_, ?_⟩)) (bMount0 _ _ (n0 _))) ?_ | refine CallE2.intro _ _ (bMount0 _ _ (n0 _)) ?_ | refine CallE2.intro _ _ (SCall.arg (by repeat (first | exact trivial | exact .inl (.inl rfl) | exact .inl (.inr ⟨_, rfl, rfl⟩) | exact .inl rfl | exact .inr ⟨_, rfl, rfl⟩ | refine .inr ⟨_, _, rfl, rfl, ?_⟩ | refine ⟨?_, ?_⟩)) (bMount0 _ _ (n0 _))) ?_)
  (repeat (first | simp -dsimp only [zrBox11, st_cmd, sz_cmd, st1_cmd, cl_cmd, xnils, xnilm, xrange, xmakeMap, xslice3, RB, TB, keep3, tab3, xindexAddr, xindex, xslice, xconvert, xlen, ewOp, FreeW, StabW, SameW, ChangeW, AddW, BaseW, limBytes, simprocAttr, ne_eq] | ((with_reducible refine Need.intro ?_ ?_); (first | trivial | exact ⟨_, rfl⟩ | exact ⟨[], (List.append_nil _).symm⟩ | omega | (simp; done) | (simp; omega) | exact ⟨by first | trivial | (simp; done), _, by first | rfl | (simp; rfl)⟩))))
  (first | refine SCall.then (bOwner0 _ _ (n0 _)) ?_ | refine SCall.thenA (bOwner0 _ _ (n0 _)) (by repeat (first | exact trivial | exact .inl (.inl rfl) | exact .inl (.inr ⟨_, rfl, rfl⟩) | exact .inl rfl | exact .inr ⟨_, rfl, rfl⟩ | refine .inr ⟨_, _, rfl, rfl, ?_⟩ | refine ⟨?_, ?_⟩)) ?_ | refine CallE.intro _ (bOwner0 _ _ (n0 _)) ?_ | refine CallE.introA (bOwner0 _ _ (n0 _)) (by repeat (first | exact trivial | exact .inl (.inl rfl) | exact .inl (.inr ⟨_, rfl, rfl⟩) | exact .inl rfl | exact .inr ⟨_, rfl, rfl⟩ | refine .inr ⟨_, _, rfl, rfl, ?_⟩ | refine ⟨?_, ?_⟩)) ?_ | refine CallE.intro _ (fun _ => bOwner0 _ _ (n0 _)) ?_ | refine CallE.intro _ (fun _ => SCall.arg (by repeat (first | exact trivial | exact .inl (.inl rfl) | exact .inl (.inr ⟨_, rfl, rfl⟩) | exact .inl rfl | exact .inr ⟨_, rfl, rfl⟩ | refine .inr ⟨_, _, rfl, rfl, ?_⟩ | refine ⟨?_, ?_⟩)) (bOwner0 _ _ (n0 _))) ?_ | refine CallE2.intro _ _ (bOwner0 _ _ (n0 _)) ?_ | refine CallE2.intro _ _ (SCall.arg (by repeat (first | exact trivial | exact .inl (.inl rfl) | exact .inl (.inr ⟨_, rfl, rfl⟩) | exact .inl rfl | exact .inr ⟨_, rfl, rfl⟩ | refine .inr ⟨_, _, rfl, rfl, ?_⟩ | refine ⟨?_, ?_⟩)) (bOwner0 _ _ (n0 _))) ?_)
  (repeat (first | simp -dsimp only [zrBox11, st_cmd, sz_cmd, st1_cmd, cl_cmd, xnils, xnilm, xrange, xmakeMap, xslice3, RB, TB, keep3, tab3, xindexAddr, xindex, xslice, xconvert, xlen, ewOp, FreeW, StabW, SameW, ChangeW, AddW, BaseW, limBytes, simprocAttr, ne_eq] | ((with_reducible refine Need.intro ?_ ?_); (first | trivial | exact ⟨_, rfl⟩ | exact ⟨[], (List.append_nil _).symm⟩ | omega | (simp; done) | (simp; omega) | exact ⟨by first | trivial | (simp; done), _, by first | rfl | (simp; rfl)⟩))))
  (first | refine SCall.then (bClone0 _ _ (n0 _)) ?_ | refine SCall.thenA (bClone0 _ _ (n0 _)) (by repeat (first | exact trivial | exact .inl (.inl rfl) | exact .inl (.inr ⟨_, rfl, rfl⟩) | exact .inl rfl | exact .inr ⟨_, rfl, rfl⟩ | refine .inr ⟨_, _, rfl, rfl, ?_⟩ | refine ⟨?_, ?_⟩)) ?_ | refine CallE.intro _ (bClone0 _ _ (n0 _)) ?_ | refine CallE.introA (bClone0 _ _ (n0 _)) (by repeat (first | exact trivial | exact .inl (.inl rfl) | exact .inl (.inr ⟨_, rfl, rfl⟩) | exact .inl rfl | exact .inr ⟨_, rfl, rfl⟩ | refine .inr ⟨_, _, rfl, rfl, ?_⟩ | refine ⟨?_, ?_⟩)) ?_ | refine CallE.intro _ (fun _ => bClone0 _ _ (n0 _)) ?_ | refine CallE.intro _ (fun _ => SCall.arg (by repeat (first | exact trivial | exact .inl (.inl rfl) | exact .inl (.inr ⟨_, rfl, rfl⟩) | exact .inl rfl | exact .inr ⟨_, rfl, rfl⟩ | refine .inr ⟨_, _, rfl, rfl, ?_⟩ | refine ⟨?_, ?_⟩)) (bClone0 _ _ (n0 _))) ?_ | refine CallE2.intro _ _ (bClone0 _ _ (n0 _)) ?_ | refine CallE2.intro _ _ (SCall.arg (by repeat (first | exact trivial | exact .inl (.inl rfl) | exact .inl (.inr ⟨_, rfl, rfl⟩) | exact .inl rfl | exact .inr ⟨_, rfl, rfl⟩ | refine .inr ⟨_, _, rfl, rfl, ?_⟩ | refine ⟨?_, ?_⟩)) (bClone0 _ _ (n0 _))) ?_)
  (repeat (first | simp -dsimp only [zrBox11, st_cmd, sz_cmd, st1_cmd, cl_cmd, xnils, xnilm, xrange, xmakeMap, xslice3, RB, TB, keep3, tab3, xindexAddr, xindex, xslice, xconvert, xlen, ewOp, FreeW, StabW, SameW, ChangeW, AddW, BaseW, limBytes, simprocAttr, ne_eq] | ((with_reducible refine Need.intro ?_ ?_); (first | trivial | exact ⟨_, rfl⟩ | exact ⟨[], (List.append_nil _).symm⟩ | omega | (simp; done) | (simp; omega) | exact ⟨by first | trivial | (simp; done), _, by first | rfl | (simp; rfl)⟩))))
  show EWn _ _ _ _ _ _ _
  refine EWn.of_c Tok mixed (own := false) keep3 tab3 (by kernel_rfl) ?_
  (repeat (first | simp -dsimp only [zrBox11, st_cmd, sz_cmd, st1_cmd, cl_cmd, xnils, xnilm, xrange, xmakeMap, xslice3, RB, TB, keep3, tab3, xindexAddr, xindex, xslice, xconvert, xlen, ewOp, FreeW, StabW, SameW, ChangeW, AddW, BaseW, limBytes, simprocAttr, ne_eq] | ((with_reducible refine Need.intro ?_ ?_); (first | trivial | exact ⟨_, rfl⟩ | exact ⟨[], (List.append_nil _).symm⟩ | omega | (simp; done) | (simp; omega) | exact ⟨by first | trivial | (simp; done), _, by first | rfl | (simp; rfl)⟩))))
  (first | refine SCall.then (aNew _) ?_ | refine SCall.thenA (aNew _) (by repeat (first | exact trivial | exact .inl (.inl rfl) | exact .inl (.inr ⟨_, rfl, rfl⟩) | exact .inl rfl | exact .inr ⟨_, rfl, rfl⟩ | refine .inr ⟨_, _, rfl, rfl, ?_⟩ | refine ⟨?_, ?_⟩)) ?_ | refine CallE.intro _ (aNew _) ?_ | refine CallE.introA (aNew _) (by repeat (first | exact trivial | exact .inl (.inl rfl) | exact .inl (.inr ⟨_, rfl, rfl⟩) | exact .inl rfl | exact .inr ⟨_, rfl, rfl⟩ | refine .inr ⟨_, _, rfl, rfl, ?_⟩ | refine ⟨?_, ?_⟩)) ?_ | refine CallE.intro _ (fun _ => aNew _) ?_ | refine CallE.intro _ (fun _ => SCall.arg (by repeat (first | exact trivial | exact .inl (.inl rfl) | exact .inl (.inr ⟨_, rfl, rfl⟩) | exact .inl rfl | exact .inr ⟨_, rfl, rfl⟩ | refine .inr ⟨_, _, rfl, rfl, ?_⟩ | refine ⟨?_, ?_⟩)) (aNew _)) ?_ | refine CallE2.intro _ _ (aNew _) ?_ | refine CallE2.intro _ _ (SCall.arg (by repeat (first | exact trivial | exact .inl (.inl rfl) | exact .inl (.inr ⟨_, rfl, rfl⟩) | exact .inl rfl | exact .inr ⟨_, rfl, rfl⟩ | refine .inr ⟨_, _, rfl, rfl, ?_⟩ | refine ⟨?_, ?_⟩)) (aNew _)) ?_)
  (repeat (first | simp -dsimp only [zrBox11, st_cmd, sz_cmd, st1_cmd, cl_cmd, xnils, xnilm, xrange, xmakeMap, xslice3, RB, TB, keep3, tab3, xindexAddr, xindex, xslice, xconvert, xlen, ewOp, FreeW, StabW, SameW, ChangeW, AddW, BaseW, limBytes, simprocAttr, ne_eq] | ((with_reducible refine Need.intro ?_ ?_); (first | trivial | exact ⟨_, rfl⟩ | exact ⟨[], (List.append_nil _).symm⟩ | omega | (simp; done) | (simp; omega) | exact ⟨by first | trivial | (simp; done), _, by first | rfl | (simp; rfl)⟩))))
  (first | refine SCall.then (bRun0 _ _ _ (.inr ⟨_, rfl, by simp⟩) (by simp [V.lt]) l fuel) ?_ | refine SCall.thenA (bRun0 _ _ _ (.inr ⟨_, rfl, by simp⟩) (by simp [V.lt]) l fuel) (by repeat (first | exact trivial | exact .inl (.inl rfl) | exact .inl (.inr ⟨_, rfl, rfl⟩) | exact .inl rfl | exact .inr ⟨_, rfl, rfl⟩ | refine .inr ⟨_, _, rfl, rfl, ?_⟩ | refine ⟨?_, ?_⟩)) ?_ | refine CallE.intro _ (bRun0 _ _ _ (.inr ⟨_, rfl, by simp⟩) (by simp [V.lt]) l fuel) ?_ | refine CallE.introA (bRun0 _ _ _ (.inr ⟨_, rfl, by simp⟩) (by simp [V.lt]) l fuel) (by repeat (first | exact trivial | exact .inl (.inl rfl) | exact .inl (.inr ⟨_, rfl, rfl⟩) | exact .inl rfl | exact .inr ⟨_, rfl, rfl⟩ | refine .inr ⟨_, _, rfl, rfl, ?_⟩ | refine ⟨?_, ?_⟩)) ?_ | refine CallE.intro _ (fun _ => bRun0 _ _ _ (.inr ⟨_, rfl, by simp⟩) (by simp [V.lt]) l fuel) ?_ | refine CallE.intro _ (fun _ => SCall.arg (by repeat (first | exact trivial | exact .inl (.inl rfl) | exact .inl (.inr ⟨_, rfl, rfl⟩) | exact .inl rfl | exact .inr ⟨_, rfl, rfl⟩ | refine .inr ⟨_, _, rfl, rfl, ?_⟩ | refine ⟨?_, ?_⟩)) (bRun0 _ _ _ (.inr ⟨_, rfl, by simp⟩) (by simp [V.lt]) l fuel)) ?_ | refine CallE2.intro _ _ (bRun0 _ _ _ (.inr ⟨_, rfl, by simp⟩) (by simp [V.lt]) l fuel) ?_ | refine CallE2.intro _ _ (SCall.arg (by repeat (first | exact trivial | exact .inl (.inl rfl) | exact .inl (.inr ⟨_, rfl, rfl⟩) | exact .inl rfl | exact .inr ⟨_, rfl, rfl⟩ | refine .inr ⟨_, _, rfl, rfl, ?_⟩ | refine ⟨?_, ?_⟩)) (bRun0 _ _ _ (.inr ⟨_, rfl, by simp⟩) (by simp [V.lt]) l fuel)) ?_)
  (repeat (first | simp -dsimp only [zrBox11, st_cmd, sz_cmd, st1_cmd, cl_cmd, xnils, xnilm, xrange, xmakeMap, xslice3, RB, TB, keep3, tab3, xindexAddr, xindex, xslice, xconvert, xlen, ewOp, FreeW, StabW, SameW, ChangeW, AddW, BaseW, limBytes, simprocAttr, ne_eq] | ((with_reducible refine Need.intro ?_ ?_); (first | trivial | exact ⟨_, rfl⟩ | exact ⟨[], (List.append_nil _).symm⟩ | omega | (simp; done) | (simp; omega) | exact ⟨by first | trivial | (simp; done), _, by first | rfl | (simp; rfl)⟩))))
  (first | refine SCall.then (aNew _) ?_ | refine SCall.thenA (aNew _) (by repeat (first | exact trivial | exact .inl (.inl rfl) | exact .inl (.inr ⟨_, rfl, rfl⟩) | exact .inl rfl | exact .inr ⟨_, rfl, rfl⟩ | refine .inr ⟨_, _, rfl, rfl, ?_⟩ | refine ⟨?_, ?_⟩)) ?_ | refine CallE.intro _ (aNew _) ?_ | refine CallE.introA (aNew _) (by repeat (first | exact trivial | exact .inl (.inl rfl) | exact .inl (.inr ⟨_, rfl, rfl⟩) | exact .inl rfl | exact .inr ⟨_, rfl, rfl⟩ | refine .inr ⟨_, _, rfl, rfl, ?_⟩ | refine ⟨?_, ?_⟩)) ?_ | refine CallE.intro _ (fun _ => aNew _) ?_ | refine CallE.intro _ (fun _ => SCall.arg (by repeat (first | exact trivial | exact .inl (.inl rfl) | exact .inl (.inr ⟨_, rfl, rfl⟩) | exact .inl rfl | exact .inr ⟨_, rfl, rfl⟩ | refine .inr ⟨_, _, rfl, rfl, ?_⟩ | refine ⟨?_, ?_⟩)) (aNew _)) ?_ | refine CallE2.intro _ _ (aNew _) ?_ | refine CallE2.intro _ _ (SCall.arg (by repeat (first | exact trivial | exact .inl (.inl rfl) | exact .inl (.inr ⟨_, rfl, rfl⟩) | exact .inl rfl | exact .inr ⟨_, rfl, rfl⟩ | refine .inr ⟨_, _, rfl, rfl, ?_⟩ | refine ⟨?_, ?_⟩)) (aNew _)) ?_)
  (repeat (first | simp -dsimp only [zrBox11, st_cmd, sz_cmd, st1_cmd, cl_cmd, xnils, xnilm, xrange, xmakeMap, xslice3, RB, TB, keep3, tab3, xindexAddr, xindex, xslice, xconvert, xlen, ewOp, FreeW, StabW, SameW, ChangeW, AddW, BaseW, limBytes, simprocAttr, ne_eq] | ((with_reducible refine Need.intro ?_ ?_); (first | trivial | exact ⟨_, rfl⟩ | exact ⟨[], (List.append_nil _).symm⟩ | omega | (simp; done) | (simp; omega) | exact ⟨by first | trivial | (simp; done), _, by first | rfl | (simp; rfl)⟩))))
  (first | refine SCall.then (bBind0 _ _ _ (.inr ⟨_, rfl, by simp⟩) (by simp [V.lt])) ?_ | refine SCall.thenA (bBind0 _ _ _ (.inr ⟨_, rfl, by simp⟩) (by simp [V.lt])) (by repeat (first | exact trivial | exact .inl (.inl rfl) | exact .inl (.inr ⟨_, rfl, rfl⟩) | exact .inl rfl | exact .inr ⟨_, rfl, rfl⟩ | refine .inr ⟨_, _, rfl, rfl, ?_⟩ | refine ⟨?_, ?_⟩)) ?_ | refine CallE.intro _ (bBind0 _ _ _ (.inr ⟨_, rfl, by simp⟩) (by simp [V.lt])) ?_ | refine CallE.introA (bBind0 _ _ _ (.inr ⟨_, rfl, by simp⟩) (by simp [V.lt])) (by repeat (first | exact trivial | exact .inl (.inl rfl) | exact .inl (.inr ⟨_, rfl, rfl⟩) | exact .inl rfl | exact .inr ⟨_, rfl, rfl⟩ | refine .inr ⟨_, _, rfl, rfl, ?_⟩ | refine ⟨?_, ?_⟩)) ?_ | refine CallE.intro _ (fun _ => bBind0 _ _ _ (.inr ⟨_, rfl, by simp⟩) (by simp [V.lt])) ?_ | refine CallE.intro _ (fun _ => SCall.arg (by repeat (first | exact trivial | exact .inl (.inl rfl) | exact .inl (.inr ⟨_, rfl, rfl⟩) | exact .inl rfl | exact .inr ⟨_, rfl, rfl⟩ | refine .inr ⟨_, _, rfl, rfl, ?_⟩ | refine ⟨?_, ?_⟩)) (bBind0 _ _ _ (.inr ⟨_, rfl, by simp⟩) (by simp [V.lt]))) ?_ | refine CallE2.intro _ _ (bBind0 _ _ _ (.inr ⟨_, rfl, by simp⟩) (by simp [V.lt])) ?_ | refine CallE2.intro _ _ (SCall.arg (by repeat (first | exact trivial | exact .inl (.inl rfl) | exact .inl (.inr ⟨_, rfl, rfl⟩) | exact .inl rfl | exact .inr ⟨_, rfl, rfl⟩ | refine .inr ⟨_, _, rfl, rfl, ?_⟩ | refine ⟨?_, ?_⟩)) (bBind0 _ _ _ (.inr ⟨_, rfl, by simp⟩) (by simp [V.lt]))) ?_)
  (repeat (first | simp -dsimp only [zrBox11, st_cmd, sz_cmd, st1_cmd, cl_cmd, xnils, xnilm, xrange, xmakeMap, xslice3, RB, TB, keep3, tab3, xindexAddr, xindex, xslice, xconvert, xlen, ewOp, FreeW, StabW, SameW, ChangeW, AddW, BaseW, limBytes, simprocAttr, ne_eq] | ((with_reducible refine Need.intro ?_ ?_); (first | trivial | exact ⟨_, rfl⟩ | exact ⟨[], (List.append_nil _).symm⟩ | omega | (simp; done) | (simp; omega) | exact ⟨by first | trivial | (simp; done), _, by first | rfl | (simp; rfl)⟩))))
  (first | refine SCall.then (bMount0 _ _ (.inr ⟨_, rfl, by simp⟩)) ?_ | refine SCall.thenA (bMount0 _ _ (.inr ⟨_, rfl, by simp⟩)) (by repeat (first | exact trivial | exact .inl (.inl rfl) | exact .inl (.inr ⟨_, rfl, rfl⟩) | exact .inl rfl | exact .inr ⟨_, rfl, rfl⟩ | refine .inr ⟨_, _, rfl, rfl, ?_⟩ | refine ⟨?_, ?_⟩)) ?_ | refine CallE.intro _ (bMount0 _ _ (.inr ⟨_, rfl, by simp⟩)) ?_ | refine CallE.introA (bMount0 _ _ (.inr ⟨_, rfl, by simp⟩)) (by repeat (first | exact trivial | exact .inl (.inl rfl) | exact .inl (.inr ⟨_, rfl, rfl⟩) | exact .inl rfl | exact .inr ⟨_, rfl, rfl⟩ | refine .inr ⟨_, _, rfl, rfl, ?_⟩ | refine ⟨?_, ?_⟩)) ?_ | refine CallE.intro _ (fun _ => bMount0 _ _ (.inr ⟨_, rfl, by simp⟩)) ?_ | refine CallE.intro _ (fun _ => SCall.arg (by repeat (first | exact trivial | exact .inl (.inl rfl) | exact .inl (.inr ⟨_, rfl, rfl⟩) | exact .inl rfl | exact .inr ⟨_, rfl, rfl⟩ | refine .inr ⟨_, _, rfl, rfl, ?_⟩ | refine ⟨?_, ?_⟩)) (bMount0 _ _ (.inr ⟨_, rfl, by simp⟩))) ?_ | refine CallE2.intro _ _ (bMount0 _ _ (.inr ⟨_, rfl, by simp⟩)) ?_ | refine CallE2.intro _ _ (SCall.arg (by repeat (first | exact trivial | exact .inl (.inl rfl) | exact .inl (.inr ⟨_, rfl, rfl⟩) | exact .inl rfl | exact .inr ⟨_, rfl, rfl⟩ | refine .inr ⟨_, _, rfl, rfl, ?_⟩ | refine ⟨?_, ?_⟩)) (bMount0 _ _ (.inr ⟨_, rfl, by simp⟩))) ?_)
  (repeat (first | simp -dsimp only [zrBox11, st_cmd, sz_cmd, st1_cmd, cl_cmd, xnils, xnilm, xrange, xmakeMap, xslice3, RB, TB, keep3, tab3, xindexAddr, xindex, xslice, xconvert, xlen, ewOp, FreeW, StabW, SameW, ChangeW, AddW, BaseW, limBytes, simprocAttr, ne_eq] | ((with_reducible refine Need.intro ?_ ?_); (first | trivial | exact ⟨_, rfl⟩ | exact ⟨[], (List.append_nil _).symm⟩ | omega | (simp; done) | (simp; omega) | exact ⟨by first | trivial | (simp; done), _, by first | rfl | (simp; rfl)⟩))))
  (first | refine SCall.then (bOwner0 _ _ (.inr ⟨_, rfl, by simp⟩)) ?_ | refine SCall.thenA (bOwner0 _ _ (.inr ⟨_, rfl, by simp⟩)) (by repeat (first | exact trivial | exact .inl (.inl rfl) | exact .inl (.inr ⟨_, rfl, rfl⟩) | exact .inl rfl | exact .inr ⟨_, rfl, rfl⟩ | refine .inr ⟨_, _, rfl, rfl, ?_⟩ | refine ⟨?_, ?_⟩)) ?_ | refine CallE.intro _ (bOwner0 _ _ (.inr ⟨_, rfl, by simp⟩)) ?_ | refine CallE.introA (bOwner0 _ _ (.inr ⟨_, rfl, by simp⟩)) (by repeat (first | exact trivial | exact .inl (.inl rfl) | exact .inl (.inr ⟨_, rfl, rfl⟩) | exact .inl rfl | exact .inr ⟨_, rfl, rfl⟩ | refine .inr ⟨_, _, rfl, rfl, ?_⟩ | refine ⟨?_, ?_⟩)) ?_ | refine CallE.intro _ (fun _ => bOwner0 _ _ (.inr ⟨_, rfl, by simp⟩)) ?_ | refine CallE.intro _ (fun _ => SCall.arg (by repeat (first | exact trivial | exact .inl (.inl rfl) | exact .inl (.inr ⟨_, rfl, rfl⟩) | exact .inl rfl | exact .inr ⟨_, rfl, rfl⟩ | refine .inr ⟨_, _, rfl, rfl, ?_⟩ | refine ⟨?_, ?_⟩)) (bOwner0 _ _ (.inr ⟨_, rfl, by simp⟩))) ?_ | refine CallE2.intro _ _ (bOwner0 _ _ (.inr ⟨_, rfl, by simp⟩)) ?_ | refine CallE2.intro _ _ (SCall.arg (by repeat (first | exact trivial | exact .inl (.inl rfl) | exact .inl (.inr ⟨_, rfl, rfl⟩) | exact .inl rfl | exact .inr ⟨_, rfl, rfl⟩ | refine .inr ⟨_, _, rfl, rfl, ?_⟩ | refine ⟨?_, ?_⟩)) (bOwner0 _ _ (.inr ⟨_, rfl, by simp⟩))) ?_)
  (repeat (first | simp -dsimp only [zrBox11, st_cmd, sz_cmd, st1_cmd, cl_cmd, xnils, xnilm, xrange, xmakeMap, xslice3, RB, TB, keep3, tab3, xindexAddr, xindex, xslice, xconvert, xlen, ewOp, FreeW, StabW, SameW, ChangeW, AddW, BaseW, limBytes, simprocAttr, ne_eq] | ((with_reducible refine Need.intro ?_ ?_); (first | trivial | exact ⟨_, rfl⟩ | exact ⟨[], (List.append_nil _).symm⟩ | omega | (simp; done) | (simp; omega) | exact ⟨by first | trivial | (simp; done), _, by first | rfl | (simp; rfl)⟩))))
  (first | refine SCall.then (bClone0 _ _ (.inr ⟨_, rfl, by simp⟩)) ?_ | refine SCall.thenA (bClone0 _ _ (.inr ⟨_, rfl, by simp⟩)) (by repeat (first | exact trivial | exact .inl (.inl rfl) | exact .inl (.inr ⟨_, rfl, rfl⟩) | exact .inl rfl | exact .inr ⟨_, rfl, rfl⟩ | refine .inr ⟨_, _, rfl, rfl, ?_⟩ | refine ⟨?_, ?_⟩)) ?_ | refine CallE.intro _ (bClone0 _ _ (.inr ⟨_, rfl, by simp⟩)) ?_ | refine CallE.introA (bClone0 _ _ (.inr ⟨_, rfl, by simp⟩)) (by repeat (first | exact trivial | exact .inl (.inl rfl) | exact .inl (.inr ⟨_, rfl, rfl⟩) | exact .inl rfl | exact .inr ⟨_, rfl, rfl⟩ | refine .inr ⟨_, _, rfl, rfl, ?_⟩ | refine ⟨?_, ?_⟩)) ?_ | refine CallE.intro _ (fun _ => bClone0 _ _ (.inr ⟨_, rfl, by simp⟩)) ?_ | refine CallE.intro _ (fun _ => SCall.arg (by repeat (first | exact trivial | exact .inl (.inl rfl) | exact .inl (.inr ⟨_, rfl, rfl⟩) | exact .inl rfl | exact .inr ⟨_, rfl, rfl⟩ | refine .inr ⟨_, _, rfl, rfl, ?_⟩ | refine ⟨?_, ?_⟩)) (bClone0 _ _ (.inr ⟨_, rfl, by simp⟩))) ?_ | refine CallE2.intro _ _ (bClone0 _ _ (.inr ⟨_, rfl, by simp⟩)) ?_ | refine CallE2.intro _ _ (SCall.arg (by repeat (first | exact trivial | exact .inl (.inl rfl) | exact .inl (.inr ⟨_, rfl, rfl⟩) | exact .inl rfl | exact .inr ⟨_, rfl, rfl⟩ | refine .inr ⟨_, _, rfl, rfl, ?_⟩ | refine ⟨?_, ?_⟩)) (bClone0 _ _ (.inr ⟨_, rfl, by simp⟩))) ?_)
  (repeat (first | simp -dsimp only [zrBox11, st_cmd, sz_cmd, st1_cmd, cl_cmd, xnils, xnilm, xrange, xmakeMap, xslice3, RB, TB, keep3, tab3, xindexAddr, xindex, xslice, xconvert, xlen, ewOp, FreeW, StabW, SameW, ChangeW, AddW, BaseW, limBytes, simprocAttr, ne_eq] | ((with_reducible refine Need.intro ?_ ?_); (first | trivial | exact ⟨_, rfl⟩ | exact ⟨[], (List.append_nil _).symm⟩ | omega | (simp; done) | (simp; omega) | exact ⟨by first | trivial | (simp; done), _, by first | rfl | (simp; rfl)⟩))))
  show EWn _ _ _ _ _ _ _
  refine EWn.of_c Tok mixed (own := false) keep3 tab3 (by kernel_rfl) ?_
  (repeat (first | simp -dsimp only [zrBox11, st_cmd, sz_cmd, st1_cmd, cl_cmd, xnils, xnilm, xrange, xmakeMap, xslice3, show IntKind.i64.wrap 2 = 2 from rfl, RB, TB, keep3, tab3, xindexAddr, xindex, xslice, xconvert, xlen, ewOp, FreeW, StabW, SameW, ChangeW, AddW, BaseW, limBytes, simprocAttr, ne_eq] | ((with_reducible refine Need.intro ?_ ?_); (first | trivial | exact ⟨_, rfl⟩ | exact ⟨[], (List.append_nil _).symm⟩ | omega | (simp; done) | (simp; omega) | exact ⟨by first | trivial | (simp; done), _, by first | rfl | (simp; rfl)⟩))))
  (repeat (first | simp -dsimp only [zrBox11, st_cmd, sz_cmd, st1_cmd, cl_cmd, xnils, xnilm, xrange, xmakeMap, xslice3, show IntKind.i64.wrap 2 = 2 from rfl, RB, TB, keep3, tab3, xindexAddr, xindex, xslice, xconvert, xlen, ewOp, FreeW, StabW, SameW, ChangeW, AddW, BaseW, limBytes, simprocAttr, ne_eq] | ((with_reducible refine Need.intro ?_ ?_); (first | trivial | exact ⟨_, rfl⟩ | exact ⟨[], (List.append_nil _).symm⟩ | omega | (simp; done) | (simp; omega) | exact ⟨by first | trivial | (simp; done), _, by first | rfl | (simp; rfl)⟩))))
  (first | refine SCall.then (alive30 _) ?_ | refine SCall.thenA (alive30 _) (by repeat (first | exact trivial | exact .inl (.inl rfl) | exact .inl (.inr ⟨_, rfl, rfl⟩) | exact .inl rfl | exact .inr ⟨_, rfl, rfl⟩ | refine .inr ⟨_, _, rfl, rfl, ?_⟩ | refine ⟨?_, ?_⟩)) ?_ | refine CallE.intro _ (alive30 _) ?_ | refine CallE.introA (alive30 _) (by repeat (first | exact trivial | exact .inl (.inl rfl) | exact .inl (.inr ⟨_, rfl, rfl⟩) | exact .inl rfl | exact .inr ⟨_, rfl, rfl⟩ | refine .inr ⟨_, _, rfl, rfl, ?_⟩ | refine ⟨?_, ?_⟩)) ?_ | refine CallE.intro _ (fun _ => alive30 _) ?_ | refine CallE.intro _ (fun _ => SCall.arg (by repeat (first | exact trivial | exact .inl (.inl rfl) | exact .inl (.inr ⟨_, rfl, rfl⟩) | exact .inl rfl | exact .inr ⟨_, rfl, rfl⟩ | refine .inr ⟨_, _, rfl, rfl, ?_⟩ | refine ⟨?_, ?_⟩)) (alive30 _)) ?_ | refine CallE2.intro _ _ (alive30 _) ?_ | refine CallE2.intro _ _ (SCall.arg (by repeat (first | exact trivial | exact .inl (.inl rfl) | exact .inl (.inr ⟨_, rfl, rfl⟩) | exact .inl rfl | exact .inr ⟨_, rfl, rfl⟩ | refine .inr ⟨_, _, rfl, rfl, ?_⟩ | refine ⟨?_, ?_⟩)) (alive30 _)) ?_)
  (repeat (first | simp -dsimp only [zrBox11, st_cmd, sz_cmd, st1_cmd, cl_cmd, xnils, xnilm, xrange, xmakeMap, xslice3, RB, TB, keep3, tab3, xindexAddr, xindex, xslice, xconvert, xlen, ewOp, FreeW, StabW, SameW, ChangeW, AddW, BaseW, limBytes, simprocAttr, ne_eq] | ((with_reducible refine Need.intro ?_ ?_); (first | trivial | exact ⟨_, rfl⟩ | exact ⟨[], (List.append_nil _).symm⟩ | omega | (simp; done) | (simp; omega) | exact ⟨by first | trivial | (simp; done), _, by first | rfl | (simp; rfl)⟩))))
  refine RetW.auto0 false _ (by first | rfl | exact (List.append_nil _).symm) ?_ ?_
  · (simp (maxDischargeDepth := 6) [LTB, HLt_set, ltL_take, ltL_drop, ltL_rep, ltL_set, upd, eset, hH, hHk, zlBox11, lt_cmd, lt1_cmd, ltc_cmd] <;> omega)
  (try simp only [wk, wk1, wk0, RB, limBytes, simprocAttr, ne_eq])
  (try (rw [List.take_of_length_le]; rotate_left 1; (· first | (simp; done) | (simp; omega) | omega)))
end Go.Proofs.YtkefbpbflgndeaaGreat

/- BoxNobody, where what it reads is of bulk at most 1048576: the law returns true and the arguments read as they did. -/
set_option linter.unusedSimpArgs false
set_option linter.unusedVariables false
set_option maxRecDepth 100000
set_option maxHeartbeats 1000000
namespace Go.Proofs.YtkefbpbflgndeaaGreat
open Go Go.EL

mutual
theorem bulk_eq {H : Type} : ∀ d : DataW H, bulk d = Rows.uptoBulk d
  | .lit l => by cases l <;> simp [bulk, Rows.uptoBulk]
  | .nil => by simp [bulk, Rows.uptoBulk]
  | .ptr d => by simp only [bulk, Rows.uptoBulk, bulk_eq d]
  | .slice a b => by simp only [bulk, Rows.uptoBulk, bulkAll_eq a, bulkAll_eq b]
  | .agg ps => by simp only [bulk, Rows.uptoBulk, bulkAll_eq ps]
  | .iface t d => by simp only [bulk, Rows.uptoBulk, bulk_eq d]
  | .map es => by simp only [bulk, Rows.uptoBulk, bulkEntries_eq es]
  | .held _ => by simp [bulk, Rows.uptoBulk]
theorem bulkAll_eq {H : Type} : ∀ l : List (DataW H), bulkAll l = Rows.uptoBulkAll l
  | [] => by simp [bulkAll, Rows.uptoBulkAll]
  | d :: r => by simp only [bulkAll, Rows.uptoBulkAll, bulk_eq d, bulkAll_eq r]
theorem bulkEntries_eq {H : Type} : ∀ l : List (Lit × DataW H), bulkEntries l = Rows.uptoBulkEntries l
  | [] => by simp [bulkEntries, Rows.uptoBulkEntries]
  | d :: r => by simp only [bulkEntries, Rows.uptoBulkEntries, bulkEntry_eq d, bulkEntries_eq r]
theorem bulkEntry_eq {H : Type} : ∀ x : Lit × DataW H, bulkEntry x = Rows.uptoBulkEntry x
  | (k, d) => by cases k <;> simp [bulkEntry, Rows.uptoBulkEntry, bulk_eq d]
end
theorem le_sum {α : Type} (g : α → Nat) : ∀ {l : List α} {x : α}, x ∈ l → g x ≤ (l.map g).sum
  | y :: l, x, h => by
    simp only [List.map_cons, List.sum_cons]
    rcases List.mem_cons.1 h with rfl | h
    · omega
    · have := le_sum g h; omega
theorem len_sum {α : Type} (g : α → Nat) (hg : ∀ x, 1 ≤ g x) : ∀ (l : List α), l.length ≤ (l.map g).sum
  | [] => by simp
  | y :: l => by
    have := len_sum g hg l
    have := hg y
    simp only [List.map_cons, List.sum_cons, List.length_cons]
    omega
theorem own_none : ownKnob Tryz.prog.godebug = none := by kernel_rfl
theorem laid_out : laidOutB Tryz.prog = true := by kernel_rfl

theorem dec_cmd : Dec Tryz.prog 60 cmdV (fun _ => True) (fun x => x.text.length + 1) := by
  refine Dec.of (Dec.struct Tryz.underlying60 (DecFs.cons rfl (next := 1) (by kernel_rfl) (Dec.int Tryz.underlying3) (DecFs.cons rfl (next := 2) (by kernel_rfl) (Dec.int Tryz.underlying3) (DecFs.cons rfl (next := 3) (by kernel_rfl) (Dec.int Tryz.underlying3)
    (DecFs.cons rfl (next := 4) (by kernel_rfl) (Dec.int Tryz.underlying3) (DecFs.cons rfl (next := 5) (by kernel_rfl) (Dec.str Tryz.underlying9) DecFs.nil)))))) (fun x => ⟨x.1, x.2.1, x.2.2.1, x.2.2.2.1, x.2.2.2.2.1⟩) (fun x _ => ⟨rfl, trivial, by simp only; omega⟩)
theorem dec_cmds : Dec Tryz.prog 22 (fun l : List Cmd => V.slice (l.map cmdV)) (fun _ => True) (fun l => l.length) :=
  Dec.of (Dec.slice Tryz.underlying22 (of_decide_eq_true (by kernel_rfl)) dec_cmd) id (fun x _ => ⟨rfl, trivial, by have := len_sum (fun x : Cmd => x.text.length + 1) (fun x => by omega) x; simp only [id]; omega⟩)
open Go.ChangeShapes Go.WideShapes Go.ChangeAt Go.RowKit in
theorem boxNobody_lifted (os : Os) (started : os.Started) (H : Type) (enc : TypeId × Value → H) (F : Stop.Interp) :
    ReturnsInHanded {} Tryz.checked os 3 .any ((Rows.OpenSpec.upto Rows.boxNobodySpec).pre6 enc Tryz.prog Tryz.f3 Rows.boxNobodyUptoRow.domain false) (((Rows.OpenSpec.upto Rows.boxNobodySpec).at F).post enc Tryz.prog Tryz.f3 false true false false) := by
  refine returnsInHanded_of_cond (C := Tryz.checked) (s := Rows.OpenSpec.upto Rows.boxNobodySpec) (k := Rows.uptoSmall) rfl own_none started (by kernel_rfl) Tryz.func3
    (OpenSpec.witness (enc := enc) (C := Tryz.checked) (s := Rows.OpenSpec.upto Rows.boxNobodySpec) (k := Rows.uptoSmall) rfl false ⟨#[], #[.slice none 0 0, .int .i64 0], []⟩ 8 (by kernel_rfl) (by kernel_rfl) (by kernel_rfl)
      (x := ([.nil, .lit (.int .i64 0)], [], [])) (by kernel_rfl) rfl (by kernel_rfl)) ?_
  intro W base args ds gs before hval0 hW _ hk _
  have hval : ∀ (j : Nat) t v, Tryz.f3.params[j]? = some t → args[j]? = some v → Value.okWide Tryz.prog W .any base t v := hval0
  obtain ⟨p0_, q0_, hA, _⟩ := id hW
  have hA0 : DataW.TrodAll enc Tryz.prog W 0 (fun _ => true) true Tryz.f3.params.toList args.toList ds p0_ := hA
  rw [Tryz.params3] at hA0 hval
  obtain ⟨v0, v1, d0, d1, p0, p1, rfl, rfl, rfl, h0, h1⟩ := trodAll_two hA0
  obtain ⟨l, hp_l, hz_l, hv_l⟩ := dec_cmds.value h0 (fun _ => okAgg_leaf (by simp) (ok_slice Tryz.underlying22 (hval 0 22 v0 rfl rfl)))
  obtain ⟨fuel, hp_fuel, hz_fuel, hv_fuel⟩ := (Dec.int Tryz.underlying3).value h1 (fun _ => okAgg_leaf (by simp) (ok_int Tryz.underlying3 (hval 1 3 v1 rfl rfl)))
  have hb : Rows.uptoBulkAll ([d0, d1] ++ gs) ≤ 1048576 := of_decide_eq_true hk
  rw [← bulkAll_eq] at hb
  simp only [List.cons_append, bulkAll] at hb
  exact row_contract (P := Tryz.prog) (s := Rows.boxNobodySpec) (vs := [.slice (l.map cmdV), .int .i64 fuel]) laid_out (by kernel_rfl) rfl Tryz.call3 rfl Tryz.underlying4 hW ⟨rfl, rfl, rfl⟩ ⟨hv_l, hv_fuel, trivial⟩ (boxNobody [] l fuel)
theorem boxNobody_upto : Rows.BoxNobodyUptoSaid :=
  OpenClaim.holds_of_cond 3 Tryz.f3 rfl rfl rfl rfl rfl rfl rfl ⟨rfl, rfl, rfl, rfl, rfl⟩ rfl rfl rfl rfl rfl (by kernel_rfl) Tryz.func3 (by kernel_rfl)
    (of_decide_eq_true (by kernel_rfl)) (by unfold Func.isWrapper; first | (rw [if_neg (by decide +kernel)]; exact ⟨rfl, rfl⟩) | (rw [if_pos (by decide +kernel)]; kernel_rfl))
    (fun os started H enc _ F => boxNobody_lifted os started H enc F)
end Go.Proofs.YtkefbpbflgndeaaGreat

/- The walks of package arena: nodes, own, slices.Clone, is, New. -/
import Derived.Test.YtjhjcldpcngldaaAttrs1
set_option maxHeartbeats 600000
set_option linter.unusedSimpArgs false
set_option linter.unusedVariables false
set_option maxRecDepth 100000
namespace Go.Proofs.Ytjhjcldpcngldaa
open Go Go.EL
theorem zrArena01 : type_of% (And.intro (And.intro (And.intro (And.intro (@st_run) (@sz_run)) (And.intro (@st1_run) (@cl_run))) (And.intro (And.intro (@st_Str) (@sz_Str)) (And.intro (@st1_Str) (@cl_Str)))) (And.intro (And.intro (And.intro (@st_c) (@sz_c)) (And.intro (@st1_c) (@cl_c))) (And.intro (And.intro (@st_attr) (@sz_attr)) (And.intro (@st1_attr) (@cl_attr))))) := And.intro (And.intro (And.intro (And.intro (@st_run) (@sz_run)) (And.intro (@st1_run) (@cl_run))) (And.intro (And.intro (@st_Str) (@sz_Str)) (And.intro (@st1_Str) (@cl_Str)))) (And.intro (And.intro (And.intro (@st_c) (@sz_c)) (And.intro (@st1_c) (@cl_c))) (And.intro (And.intro (@st_attr) (@sz_attr)) (And.intro (@st1_attr) (@cl_attr))))
theorem zlArena01 : type_of% (And.intro (And.intro (And.intro (And.intro (@lt_vi) (@lt_str)) (And.intro (@lt_vb) (@ltc_str))) (And.intro (And.intro (@ltc_vi) (@lt_run)) (And.intro (@lt1_run) (@ltc_run)))) (And.intro (And.intro (And.intro (@lt_Str) (@lt1_Str)) (And.intro (@ltc_Str) (@lt_c))) (And.intro (And.intro (@lt1_c) (@ltc_c)) (And.intro (@lt_attr) (And.intro (@lt1_attr) (@ltc_attr)))))) := And.intro (And.intro (And.intro (And.intro (@lt_vi) (@lt_str)) (And.intro (@lt_vb) (@ltc_str))) (And.intro (And.intro (@ltc_vi) (@lt_run)) (And.intro (@lt1_run) (@ltc_run)))) (And.intro (And.intro (And.intro (@lt_Str) (@lt1_Str)) (And.intro (@ltc_Str) (@lt_c))) (And.intro (And.intro (@lt1_c) (@ltc_c)) (And.intro (@lt_attr) (And.intro (@lt1_attr) (@ltc_attr)))))
structure Hook where
  ev : Int
  cap : Bool
  nm : Int
structure Node where
  id : Int
  owner : Int
  parent : Int
  kind : Int
  tag : Str
  key : List UInt8
  slot : Int
  attrs : List Attr
  hooks : List Hook
  kids : List Int
  text : Str
def hookV (h : Hook) : V := .agg [.int .i64 h.ev, .bool h.cap, .int .i64 h.nm]
theorem lt_hook (n : Nat) (l : List (Hook)) : ltL n (l.map hookV) := ltL_map (f := hookV) (fun _ => by simp [hookV, V.lt, ltL]) l
theorem lt1_hook (n : Nat) (x : Hook) : V.lt n (hookV x) := by simp [hookV, V.lt, ltL]
theorem ltc_hook {α : Type} (n : Nat) (g : α → Hook) (l : List α) : ltL n (l.map (hookV ∘ g)) := ltL_map (f := hookV ∘ g) (fun x => lt1_hook n (g x)) l
theorem st_hook (l : List (Hook)) : (∀ x, x ∈ l.map hookV → x.storable) = True := eq_true (storable_map (f := hookV) (fun _ => trivial) l)
theorem sz_hook (l : List (Hook)) : Sized 3 (l.map hookV) = True := eq_true (sizedMapV (f := hookV) (fun _ => rfl) l)
theorem st1_hook (x : Hook) : (hookV x).storable = True := eq_true trivial
theorem cl_hook (x : Hook) : (hookV x).cells.length = 3 := rfl

def nodeV (n : Node) : V := .agg [.int .i64 n.id, .int .i64 n.owner, .int .i64 n.parent, .int .i64 n.kind, .str n.tag.text, .slice (n.tag.runs.map runV), .str n.key, .int .i64 n.slot, .slice (n.attrs.map attrV), .slice (n.hooks.map hookV), .slice (n.kids.map vi), .str n.text.text, .slice (n.text.runs.map runV)]
theorem lt_node (n : Nat) (l : List (Node)) : ltL n (l.map nodeV) := ltL_map (f := nodeV) (fun _ => by simp [nodeV, V.lt, ltL, lt_run, lt_attr, lt_hook, lt_vi]) l
theorem lt1_node (n : Nat) (x : Node) : V.lt n (nodeV x) := by simp [nodeV, V.lt, ltL, lt_run, lt_attr, lt_hook, lt_vi]
theorem ltc_node {α : Type} (n : Nat) (g : α → Node) (l : List α) : ltL n (l.map (nodeV ∘ g)) := ltL_map (f := nodeV ∘ g) (fun x => lt1_node n (g x)) l
theorem st_node (l : List (Node)) : (∀ x, x ∈ l.map nodeV → x.storable) = True := eq_true (storable_map (f := nodeV) (fun _ => trivial) l)
theorem sz_node (l : List (Node)) : Sized 13 (l.map nodeV) = True := eq_true (sizedMapV (f := nodeV) (fun _ => rfl) l)
theorem st1_node (x : Node) : (nodeV x).storable = True := eq_true trivial
theorem cl_node (x : Node) : (nodeV x).cells.length = 13 := rfl

def ownN (n : Node) : Node := { n with tag := fixS n.tag, text := fixS n.text, attrs := n.attrs.map ownA }
def okN (n : Node) : Prop := okS n.tag ∧ okS n.text ∧ (∀ a ∈ n.attrs, okA a) ∧ n.attrs.length ≤ 1000000000000 ∧ n.hooks.length ≤ 1000000000000 ∧ n.kids.length ≤ 1000000000000
theorem cloneH (H : List Ob) (l : List Hook) (hl : l.length ≤ 1000000000000) : SCall Try.prog 153 [.slice (l.map hookV)] H (fun r H' => r = .slice (l.map hookV) ∧ H' = H) := by
  refine SCall.of_good fun hH => ?_
  have hHk := HLt.add hH
  refine SCall.of_code Tok Try.func153 rfl Try.call153 (n := 8) rfl (by simp) (rs := [.tmp 2]) rfl ?_
  refine EWn.to ?_
  refine EWn.of_c Tok mixed (own := false) keep153 tab153 (by kernel_rfl) ?_
  (repeat (first | simp -dsimp only [zrArena01, st_hook, sz_hook, st1_hook, cl_hook, st_node, sz_node, st1_node, cl_node, xnils, xnilm, xrange, xmakeMap, RB, TB, keep153, tab153, xindexAddr, xindex, xslice, xconvert, xlen, ewOp, FreeW, StabW, SameW, ChangeW, AddW, limBytes, simprocAttr, ne_eq] | ((with_reducible refine Need.intro ?_ ?_); (first | trivial | exact ⟨_, rfl⟩ | omega | (simp; done) | (simp; omega) | exact ⟨by first | trivial | (simp; done), _, by first | rfl | (simp; rfl)⟩))))
  refine AnyB.intro fun b hb => ?_
  (repeat (first | simp -dsimp only [zrArena01, st_hook, sz_hook, st1_hook, cl_hook, st_node, sz_node, st1_node, cl_node, xnils, xnilm, xrange, xmakeMap, RB, TB, keep153, tab153, xindexAddr, xindex, xslice, xconvert, xlen, ewOp, FreeW, StabW, SameW, ChangeW, AddW, limBytes, simprocAttr, ne_eq] | ((with_reducible refine Need.intro ?_ ?_); (first | trivial | exact ⟨_, rfl⟩ | omega | (simp; done) | (simp; omega) | exact ⟨by first | trivial | (simp; done), _, by first | rfl | (simp; rfl)⟩))))
  refine IfW.intro (fun h => ?_) (fun h => ?_)
  · subst h
    have h0 : l = [] := by cases l with
      | nil => rfl
      | cons x l => exact absurd (hb (by simp)) (by simp)
    subst h0
    (repeat (first | simp -dsimp only [zrArena01, st_hook, sz_hook, st1_hook, cl_hook, st_node, sz_node, st1_node, cl_node, xnils, xnilm, xrange, xmakeMap, RB, TB, keep153, tab153, xindexAddr, xindex, xslice, xconvert, xlen, ewOp, FreeW, StabW, SameW, ChangeW, AddW, limBytes, simprocAttr, ne_eq] | ((with_reducible refine Need.intro ?_ ?_); (first | trivial | exact ⟨_, rfl⟩ | omega | (simp; done) | (simp; omega) | exact ⟨by first | trivial | (simp; done), _, by first | rfl | (simp; rfl)⟩))))
    refine RetW.auto0 false _ (by first | rfl | exact (List.append_nil _).symm) ?_ ?_
    · (simp (maxDischargeDepth := 6) [LTB, HLt_set, ltL_take, ltL_drop, ltL_rep, ltL_set, upd, eset, hH, hHk, zlArena01, lt_hook, lt1_hook, ltc_hook, lt_node, lt1_node, ltc_node] <;> omega)
    (try simp only [wk, wk1, wk0, RB, limBytes, simprocAttr, ne_eq])
    (try (rw [List.take_of_length_le]; rotate_left 1; (· first | (simp; done) | (simp; omega) | omega)))
  · subst h
    (repeat (first | simp -dsimp only [zrArena01, st_hook, sz_hook, st1_hook, cl_hook, st_node, sz_node, st1_node, cl_node, xnils, xnilm, xrange, xmakeMap, RB, TB, keep153, tab153, xindexAddr, xindex, xslice, xconvert, xlen, ewOp, FreeW, StabW, SameW, ChangeW, AddW, limBytes, simprocAttr, ne_eq] | ((with_reducible refine Need.intro ?_ ?_); (first | trivial | exact ⟨_, rfl⟩ | omega | (simp; done) | (simp; omega) | exact ⟨by first | trivial | (simp; done), _, by first | rfl | (simp; rfl)⟩))))
    refine RetW.auto0 false _ (by first | rfl | exact (List.append_nil _).symm) ?_ ?_
    · (simp (maxDischargeDepth := 6) [LTB, HLt_set, ltL_take, ltL_drop, ltL_rep, ltL_set, upd, eset, hH, hHk, zlArena01, lt_hook, lt1_hook, ltc_hook, lt_node, lt1_node, ltc_node] <;> omega)
    (try simp only [wk, wk1, wk0, RB, limBytes, simprocAttr, ne_eq])
    (try (rw [List.take_of_length_le]; rotate_left 1; (· first | (simp; done) | (simp; omega) | omega)))
theorem cloneI (H : List Ob) (l : List Int) (hl : l.length ≤ 1000000000000) : SCall Try.prog 154 [.slice (l.map vi)] H (fun r H' => r = .slice (l.map vi) ∧ H' = H) := by
  refine SCall.of_good fun hH => ?_
  have hHk := HLt.add hH
  refine SCall.of_code Tok Try.func154 rfl Try.call154 (n := 8) rfl (by simp) (rs := [.tmp 2]) rfl ?_
  refine EWn.to ?_
  refine EWn.of_c Tok mixed (own := false) keep154 tab154 (by kernel_rfl) ?_
  (repeat (first | simp -dsimp only [zrArena01, st_hook, sz_hook, st1_hook, cl_hook, st_node, sz_node, st1_node, cl_node, xnils, xnilm, xrange, xmakeMap, RB, TB, keep154, tab154, xindexAddr, xindex, xslice, xconvert, xlen, ewOp, FreeW, StabW, SameW, ChangeW, AddW, limBytes, simprocAttr, ne_eq] | ((with_reducible refine Need.intro ?_ ?_); (first | trivial | exact ⟨_, rfl⟩ | omega | (simp; done) | (simp; omega) | exact ⟨by first | trivial | (simp; done), _, by first | rfl | (simp; rfl)⟩))))
  refine AnyB.intro fun b hb => ?_
  (repeat (first | simp -dsimp only [zrArena01, st_hook, sz_hook, st1_hook, cl_hook, st_node, sz_node, st1_node, cl_node, xnils, xnilm, xrange, xmakeMap, RB, TB, keep154, tab154, xindexAddr, xindex, xslice, xconvert, xlen, ewOp, FreeW, StabW, SameW, ChangeW, AddW, limBytes, simprocAttr, ne_eq] | ((with_reducible refine Need.intro ?_ ?_); (first | trivial | exact ⟨_, rfl⟩ | omega | (simp; done) | (simp; omega) | exact ⟨by first | trivial | (simp; done), _, by first | rfl | (simp; rfl)⟩))))
  refine IfW.intro (fun h => ?_) (fun h => ?_)
  · subst h
    have h0 : l = [] := by cases l with
      | nil => rfl
      | cons x l => exact absurd (hb (by simp)) (by simp)
    subst h0
    (repeat (first | simp -dsimp only [zrArena01, st_hook, sz_hook, st1_hook, cl_hook, st_node, sz_node, st1_node, cl_node, xnils, xnilm, xrange, xmakeMap, RB, TB, keep154, tab154, xindexAddr, xindex, xslice, xconvert, xlen, ewOp, FreeW, StabW, SameW, ChangeW, AddW, limBytes, simprocAttr, ne_eq] | ((with_reducible refine Need.intro ?_ ?_); (first | trivial | exact ⟨_, rfl⟩ | omega | (simp; done) | (simp; omega) | exact ⟨by first | trivial | (simp; done), _, by first | rfl | (simp; rfl)⟩))))
    refine RetW.auto0 false _ (by first | rfl | exact (List.append_nil _).symm) ?_ ?_
    · (simp (maxDischargeDepth := 6) [LTB, HLt_set, ltL_take, ltL_drop, ltL_rep, ltL_set, upd, eset, hH, hHk, zlArena01, lt_hook, lt1_hook, ltc_hook, lt_node, lt1_node, ltc_node] <;> omega)
    (try simp only [wk, wk1, wk0, RB, limBytes, simprocAttr, ne_eq])
    (try (rw [List.take_of_length_le]; rotate_left 1; (· first | (simp; done) | (simp; omega) | omega)))
  · subst h
    (repeat (first | simp -dsimp only [zrArena01, st_hook, sz_hook, st1_hook, cl_hook, st_node, sz_node, st1_node, cl_node, xnils, xnilm, xrange, xmakeMap, RB, TB, keep154, tab154, xindexAddr, xindex, xslice, xconvert, xlen, ewOp, FreeW, StabW, SameW, ChangeW, AddW, limBytes, simprocAttr, ne_eq] | ((with_reducible refine Need.intro ?_ ?_); (first | trivial | exact ⟨_, rfl⟩ | omega | (simp; done) | (simp; omega) | exact ⟨by first | trivial | (simp; done), _, by first | rfl | (simp; rfl)⟩))))
    refine RetW.auto0 false _ (by first | rfl | exact (List.append_nil _).symm) ?_ ?_
    · (simp (maxDischargeDepth := 6) [LTB, HLt_set, ltL_take, ltL_drop, ltL_rep, ltL_set, upd, eset, hH, hHk, zlArena01, lt_hook, lt1_hook, ltc_hook, lt_node, lt1_node, ltc_node] <;> omega)
    (try simp only [wk, wk1, wk0, RB, limBytes, simprocAttr, ne_eq])
    (try (rw [List.take_of_length_le]; rotate_left 1; (· first | (simp; done) | (simp; omega) | omega)))
theorem aOwnN (H : List Ob) (n : Node) (hn : okN n) : SCall Try.prog 129 [nodeV n] H (fun r H' => r = nodeV (ownN n) ∧ H' = H) := by
  obtain ⟨h1, h2, h3, h4, h5, h6⟩ := hn
  unfold nodeV
  refine SCall.of_good fun hH => ?_
  have hHk := HLt.add hH
  refine SCall.of_code Tok Try.func129 rfl Try.call129 (n := 43) rfl (by simp) (rs := [.cell 2 95]) rfl ?_
  refine EWn.to ?_
  refine EWn.of_c Tok mixed (own := false) keep129 tab129 (by kernel_rfl) ?_
  (repeat (first | simp -dsimp only [zrArena01, st_hook, sz_hook, st1_hook, cl_hook, st_node, sz_node, st1_node, cl_node, xnils, xnilm, xrange, xmakeMap, RB, TB, keep129, tab129, xindexAddr, xindex, xslice, xconvert, xlen, ewOp, FreeW, StabW, SameW, ChangeW, AddW, limBytes, simprocAttr, ne_eq] | ((with_reducible refine Need.intro ?_ ?_); (first | trivial | exact ⟨_, rfl⟩ | omega | (simp; done) | (simp; omega) | exact ⟨by first | trivial | (simp; done), _, by first | rfl | (simp; rfl)⟩))))
  (first | refine SCall.then (mFix _ n.tag h1) ?_ | refine SCall.thenA (mFix _ n.tag h1) (by repeat (first | exact trivial | exact .inl (.inl rfl) | exact .inl (.inr ⟨_, rfl, rfl⟩) | exact .inl rfl | exact .inr ⟨_, rfl, rfl⟩ | refine .inr ⟨_, _, rfl, rfl, ?_⟩ | refine ⟨?_, ?_⟩)) ?_ | refine CallE.intro _ (mFix _ n.tag h1) ?_ | refine CallE.introA (mFix _ n.tag h1) (by repeat (first | exact trivial | exact .inl (.inl rfl) | exact .inl (.inr ⟨_, rfl, rfl⟩) | exact .inl rfl | exact .inr ⟨_, rfl, rfl⟩ | refine .inr ⟨_, _, rfl, rfl, ?_⟩ | refine ⟨?_, ?_⟩)) ?_ | refine CallE.intro _ (fun _ => mFix _ n.tag h1) ?_ | refine CallE.intro _ (fun _ => SCall.arg (by repeat (first | exact trivial | exact .inl (.inl rfl) | exact .inl (.inr ⟨_, rfl, rfl⟩) | exact .inl rfl | exact .inr ⟨_, rfl, rfl⟩ | refine .inr ⟨_, _, rfl, rfl, ?_⟩ | refine ⟨?_, ?_⟩)) (mFix _ n.tag h1)) ?_ | refine CallE2.intro _ _ (mFix _ n.tag h1) ?_ | refine CallE2.intro _ _ (SCall.arg (by repeat (first | exact trivial | exact .inl (.inl rfl) | exact .inl (.inr ⟨_, rfl, rfl⟩) | exact .inl rfl | exact .inr ⟨_, rfl, rfl⟩ | refine .inr ⟨_, _, rfl, rfl, ?_⟩ | refine ⟨?_, ?_⟩)) (mFix _ n.tag h1)) ?_)
  (repeat (first | simp -dsimp only [zrArena01, st_hook, sz_hook, st1_hook, cl_hook, st_node, sz_node, st1_node, cl_node, xnils, xnilm, xrange, xmakeMap, strV, RB, TB, keep129, tab129, xindexAddr, xindex, xslice, xconvert, xlen, ewOp, FreeW, StabW, SameW, ChangeW, AddW, limBytes, simprocAttr, ne_eq] | ((with_reducible refine Need.intro ?_ ?_); (first | trivial | exact ⟨_, rfl⟩ | omega | (simp; done) | (simp; omega) | exact ⟨by first | trivial | (simp; done), _, by first | rfl | (simp; rfl)⟩))))
  (first | refine SCall.then (mFix _ n.text h2) ?_ | refine SCall.thenA (mFix _ n.text h2) (by repeat (first | exact trivial | exact .inl (.inl rfl) | exact .inl (.inr ⟨_, rfl, rfl⟩) | exact .inl rfl | exact .inr ⟨_, rfl, rfl⟩ | refine .inr ⟨_, _, rfl, rfl, ?_⟩ | refine ⟨?_, ?_⟩)) ?_ | refine CallE.intro _ (mFix _ n.text h2) ?_ | refine CallE.introA (mFix _ n.text h2) (by repeat (first | exact trivial | exact .inl (.inl rfl) | exact .inl (.inr ⟨_, rfl, rfl⟩) | exact .inl rfl | exact .inr ⟨_, rfl, rfl⟩ | refine .inr ⟨_, _, rfl, rfl, ?_⟩ | refine ⟨?_, ?_⟩)) ?_ | refine CallE.intro _ (fun _ => mFix _ n.text h2) ?_ | refine CallE.intro _ (fun _ => SCall.arg (by repeat (first | exact trivial | exact .inl (.inl rfl) | exact .inl (.inr ⟨_, rfl, rfl⟩) | exact .inl rfl | exact .inr ⟨_, rfl, rfl⟩ | refine .inr ⟨_, _, rfl, rfl, ?_⟩ | refine ⟨?_, ?_⟩)) (mFix _ n.text h2)) ?_ | refine CallE2.intro _ _ (mFix _ n.text h2) ?_ | refine CallE2.intro _ _ (SCall.arg (by repeat (first | exact trivial | exact .inl (.inl rfl) | exact .inl (.inr ⟨_, rfl, rfl⟩) | exact .inl rfl | exact .inr ⟨_, rfl, rfl⟩ | refine .inr ⟨_, _, rfl, rfl, ?_⟩ | refine ⟨?_, ?_⟩)) (mFix _ n.text h2)) ?_)
  (repeat (first | simp -dsimp only [zrArena01, st_hook, sz_hook, st1_hook, cl_hook, st_node, sz_node, st1_node, cl_node, xnils, xnilm, xrange, xmakeMap, strV, RB, TB, keep129, tab129, xindexAddr, xindex, xslice, xconvert, xlen, ewOp, FreeW, StabW, SameW, ChangeW, AddW, limBytes, simprocAttr, ne_eq] | ((with_reducible refine Need.intro ?_ ?_); (first | trivial | exact ⟨_, rfl⟩ | omega | (simp; done) | (simp; omega) | exact ⟨by first | trivial | (simp; done), _, by first | rfl | (simp; rfl)⟩))))
  (first | refine SCall.then (cloneH _ n.hooks h5) ?_ | refine SCall.thenA (cloneH _ n.hooks h5) (by repeat (first | exact trivial | exact .inl (.inl rfl) | exact .inl (.inr ⟨_, rfl, rfl⟩) | exact .inl rfl | exact .inr ⟨_, rfl, rfl⟩ | refine .inr ⟨_, _, rfl, rfl, ?_⟩ | refine ⟨?_, ?_⟩)) ?_ | refine CallE.intro _ (cloneH _ n.hooks h5) ?_ | refine CallE.introA (cloneH _ n.hooks h5) (by repeat (first | exact trivial | exact .inl (.inl rfl) | exact .inl (.inr ⟨_, rfl, rfl⟩) | exact .inl rfl | exact .inr ⟨_, rfl, rfl⟩ | refine .inr ⟨_, _, rfl, rfl, ?_⟩ | refine ⟨?_, ?_⟩)) ?_ | refine CallE.intro _ (fun _ => cloneH _ n.hooks h5) ?_ | refine CallE.intro _ (fun _ => SCall.arg (by repeat (first | exact trivial | exact .inl (.inl rfl) | exact .inl (.inr ⟨_, rfl, rfl⟩) | exact .inl rfl | exact .inr ⟨_, rfl, rfl⟩ | refine .inr ⟨_, _, rfl, rfl, ?_⟩ | refine ⟨?_, ?_⟩)) (cloneH _ n.hooks h5)) ?_ | refine CallE2.intro _ _ (cloneH _ n.hooks h5) ?_ | refine CallE2.intro _ _ (SCall.arg (by repeat (first | exact trivial | exact .inl (.inl rfl) | exact .inl (.inr ⟨_, rfl, rfl⟩) | exact .inl rfl | exact .inr ⟨_, rfl, rfl⟩ | refine .inr ⟨_, _, rfl, rfl, ?_⟩ | refine ⟨?_, ?_⟩)) (cloneH _ n.hooks h5)) ?_)
  (repeat (first | simp -dsimp only [zrArena01, st_hook, sz_hook, st1_hook, cl_hook, st_node, sz_node, st1_node, cl_node, xnils, xnilm, xrange, xmakeMap, strV, RB, TB, keep129, tab129, xindexAddr, xindex, xslice, xconvert, xlen, ewOp, FreeW, StabW, SameW, ChangeW, AddW, limBytes, simprocAttr, ne_eq] | ((with_reducible refine Need.intro ?_ ?_); (first | trivial | exact ⟨_, rfl⟩ | omega | (simp; done) | (simp; omega) | exact ⟨by first | trivial | (simp; done), _, by first | rfl | (simp; rfl)⟩))))
  (first | refine SCall.then (cloneI _ n.kids h6) ?_ | refine SCall.thenA (cloneI _ n.kids h6) (by repeat (first | exact trivial | exact .inl (.inl rfl) | exact .inl (.inr ⟨_, rfl, rfl⟩) | exact .inl rfl | exact .inr ⟨_, rfl, rfl⟩ | refine .inr ⟨_, _, rfl, rfl, ?_⟩ | refine ⟨?_, ?_⟩)) ?_ | refine CallE.intro _ (cloneI _ n.kids h6) ?_ | refine CallE.introA (cloneI _ n.kids h6) (by repeat (first | exact trivial | exact .inl (.inl rfl) | exact .inl (.inr ⟨_, rfl, rfl⟩) | exact .inl rfl | exact .inr ⟨_, rfl, rfl⟩ | refine .inr ⟨_, _, rfl, rfl, ?_⟩ | refine ⟨?_, ?_⟩)) ?_ | refine CallE.intro _ (fun _ => cloneI _ n.kids h6) ?_ | refine CallE.intro _ (fun _ => SCall.arg (by repeat (first | exact trivial | exact .inl (.inl rfl) | exact .inl (.inr ⟨_, rfl, rfl⟩) | exact .inl rfl | exact .inr ⟨_, rfl, rfl⟩ | refine .inr ⟨_, _, rfl, rfl, ?_⟩ | refine ⟨?_, ?_⟩)) (cloneI _ n.kids h6)) ?_ | refine CallE2.intro _ _ (cloneI _ n.kids h6) ?_ | refine CallE2.intro _ _ (SCall.arg (by repeat (first | exact trivial | exact .inl (.inl rfl) | exact .inl (.inr ⟨_, rfl, rfl⟩) | exact .inl rfl | exact .inr ⟨_, rfl, rfl⟩ | refine .inr ⟨_, _, rfl, rfl, ?_⟩ | refine ⟨?_, ?_⟩)) (cloneI _ n.kids h6)) ?_)
  (repeat (first | simp -dsimp only [zrArena01, st_hook, sz_hook, st1_hook, cl_hook, st_node, sz_node, st1_node, cl_node, xnils, xnilm, xrange, xmakeMap, strV, RB, TB, keep129, tab129, xindexAddr, xindex, xslice, xconvert, xlen, ewOp, FreeW, StabW, SameW, ChangeW, AddW, limBytes, simprocAttr, ne_eq] | ((with_reducible refine Need.intro ?_ ?_); (first | trivial | exact ⟨_, rfl⟩ | omega | (simp; done) | (simp; omega) | exact ⟨by first | trivial | (simp; done), _, by first | rfl | (simp; rfl)⟩))))
  refine EWn.ghost (Gho.adopt 3 4 rfl) ?_
  simp only [RB, limBytes, simprocAttr, ne_eq]
  refine EWn.loopE (ι := (Nat)) (fun (i : (Nat)) => i ≤ n.attrs.length) (fun (i : (Nat)) => n.attrs.length - i) (fun (i : (Nat)) => [(3, .vec (H.length + 2) (1 + i) 0 i), (25, .int .i64 i)]) (fun (i : (Nat)) => H ++ [.var [.int .i64 n.id, .int .i64 n.owner, .int .i64 n.parent, .int .i64 n.kind, .str (fixS n.tag).text, .slice ((fixS n.tag).runs.map runV), .str n.key, .int .i64 n.slot, .slice (n.attrs.map attrV), .slice (n.hooks.map hookV), .slice (n.kids.map vi), .str (fixS n.text).text, .slice ((fixS n.text).runs.map runV)], .var [.int .i64 0, .int .i64 0, .int .i64 0, .int .i64 0, .str [], .fslice [], .str [], .int .i64 0, .fslice [], .fslice [], .fslice [], .str [], .fslice []], .vec (1 + i) 4 (((n.attrs.take i).map ownA).map attrV)]) (0) ?_ ?_ ?_ ?_ ?_
  · first | rfl | simp [upd, eset]
  · first | rfl | (simp; done) | exact (set_same (by assumption)).symm
  · rintro i hok; exact ⟨by first | (simp; done) | (simp; omega), by (simp (maxDischargeDepth := 6) [LTB, HLt_set, ltL_take, ltL_drop, ltL_rep, ltL_set, upd, eset, hH, hHk, zlArena01, lt_hook, lt1_hook, ltc_hook, lt_node, lt1_node, ltc_node] <;> omega), by (simp (maxDischargeDepth := 6) [LTB, HLt_set, ltL_take, ltL_drop, ltL_rep, ltL_set, upd, eset, hH, hHk, zlArena01, lt_hook, lt1_hook, ltc_hook, lt_node, lt1_node, ltc_node] <;> omega)⟩
  · omega
  rintro i hi
  refine EWn.of_c Tok mixed (own := false) keep129 tab129 (by kernel_rfl) ?_
  (repeat (first | simp -dsimp only [zrArena01, st_hook, sz_hook, st1_hook, cl_hook, st_node, sz_node, st1_node, cl_node, xnils, xnilm, xrange, xmakeMap, RB, TB, keep129, tab129, xindexAddr, xindex, xslice, xconvert, xlen, ewOp, FreeW, StabW, SameW, ChangeW, AddW, limBytes, simprocAttr, ne_eq] | ((with_reducible refine Need.intro ?_ ?_); (first | trivial | exact ⟨_, rfl⟩ | omega | (simp; done) | (simp; omega) | exact ⟨by first | trivial | (simp; done), _, by first | rfl | (simp; rfl)⟩))))
  refine IfW.intro (fun h => ?_) (fun h => ?_)
  · have hlt := lt_of h
    obtain ⟨o1, o2⟩ := h3 _ (List.getElem_mem hlt)
    (repeat (first | simp -dsimp only [zrArena01, st_hook, sz_hook, st1_hook, cl_hook, st_node, sz_node, st1_node, cl_node, xnils, xnilm, xrange, xmakeMap, h, at_map attrV n.attrs i hlt, attrV, RB, TB, keep129, tab129, xindexAddr, xindex, xslice, xconvert, xlen, ewOp, FreeW, StabW, SameW, ChangeW, AddW, limBytes, simprocAttr, ne_eq] | ((with_reducible refine Need.intro ?_ ?_); (first | trivial | exact ⟨_, rfl⟩ | omega | (simp; done) | (simp; omega) | exact ⟨by first | trivial | (simp; done), _, by first | rfl | (simp; rfl)⟩))))
    (first | refine SCall.then (mFix _ n.attrs[i].name o1) ?_ | refine SCall.thenA (mFix _ n.attrs[i].name o1) (by repeat (first | exact trivial | exact .inl (.inl rfl) | exact .inl (.inr ⟨_, rfl, rfl⟩) | exact .inl rfl | exact .inr ⟨_, rfl, rfl⟩ | refine .inr ⟨_, _, rfl, rfl, ?_⟩ | refine ⟨?_, ?_⟩)) ?_ | refine CallE.intro _ (mFix _ n.attrs[i].name o1) ?_ | refine CallE.introA (mFix _ n.attrs[i].name o1) (by repeat (first | exact trivial | exact .inl (.inl rfl) | exact .inl (.inr ⟨_, rfl, rfl⟩) | exact .inl rfl | exact .inr ⟨_, rfl, rfl⟩ | refine .inr ⟨_, _, rfl, rfl, ?_⟩ | refine ⟨?_, ?_⟩)) ?_ | refine CallE.intro _ (fun _ => mFix _ n.attrs[i].name o1) ?_ | refine CallE.intro _ (fun _ => SCall.arg (by repeat (first | exact trivial | exact .inl (.inl rfl) | exact .inl (.inr ⟨_, rfl, rfl⟩) | exact .inl rfl | exact .inr ⟨_, rfl, rfl⟩ | refine .inr ⟨_, _, rfl, rfl, ?_⟩ | refine ⟨?_, ?_⟩)) (mFix _ n.attrs[i].name o1)) ?_ | refine CallE2.intro _ _ (mFix _ n.attrs[i].name o1) ?_ | refine CallE2.intro _ _ (SCall.arg (by repeat (first | exact trivial | exact .inl (.inl rfl) | exact .inl (.inr ⟨_, rfl, rfl⟩) | exact .inl rfl | exact .inr ⟨_, rfl, rfl⟩ | refine .inr ⟨_, _, rfl, rfl, ?_⟩ | refine ⟨?_, ?_⟩)) (mFix _ n.attrs[i].name o1)) ?_)
    (repeat (first | simp -dsimp only [zrArena01, st_hook, sz_hook, st1_hook, cl_hook, st_node, sz_node, st1_node, cl_node, xnils, xnilm, xrange, xmakeMap, strV, RB, TB, keep129, tab129, xindexAddr, xindex, xslice, xconvert, xlen, ewOp, FreeW, StabW, SameW, ChangeW, AddW, limBytes, simprocAttr, ne_eq] | ((with_reducible refine Need.intro ?_ ?_); (first | trivial | exact ⟨_, rfl⟩ | omega | (simp; done) | (simp; omega) | exact ⟨by first | trivial | (simp; done), _, by first | rfl | (simp; rfl)⟩))))
    (first | refine SCall.then (mFix _ n.attrs[i].value o2) ?_ | refine SCall.thenA (mFix _ n.attrs[i].value o2) (by repeat (first | exact trivial | exact .inl (.inl rfl) | exact .inl (.inr ⟨_, rfl, rfl⟩) | exact .inl rfl | exact .inr ⟨_, rfl, rfl⟩ | refine .inr ⟨_, _, rfl, rfl, ?_⟩ | refine ⟨?_, ?_⟩)) ?_ | refine CallE.intro _ (mFix _ n.attrs[i].value o2) ?_ | refine CallE.introA (mFix _ n.attrs[i].value o2) (by repeat (first | exact trivial | exact .inl (.inl rfl) | exact .inl (.inr ⟨_, rfl, rfl⟩) | exact .inl rfl | exact .inr ⟨_, rfl, rfl⟩ | refine .inr ⟨_, _, rfl, rfl, ?_⟩ | refine ⟨?_, ?_⟩)) ?_ | refine CallE.intro _ (fun _ => mFix _ n.attrs[i].value o2) ?_ | refine CallE.intro _ (fun _ => SCall.arg (by repeat (first | exact trivial | exact .inl (.inl rfl) | exact .inl (.inr ⟨_, rfl, rfl⟩) | exact .inl rfl | exact .inr ⟨_, rfl, rfl⟩ | refine .inr ⟨_, _, rfl, rfl, ?_⟩ | refine ⟨?_, ?_⟩)) (mFix _ n.attrs[i].value o2)) ?_ | refine CallE2.intro _ _ (mFix _ n.attrs[i].value o2) ?_ | refine CallE2.intro _ _ (SCall.arg (by repeat (first | exact trivial | exact .inl (.inl rfl) | exact .inl (.inr ⟨_, rfl, rfl⟩) | exact .inl rfl | exact .inr ⟨_, rfl, rfl⟩ | refine .inr ⟨_, _, rfl, rfl, ?_⟩ | refine ⟨?_, ?_⟩)) (mFix _ n.attrs[i].value o2)) ?_)
    (repeat (first | simp -dsimp only [zrArena01, st_hook, sz_hook, st1_hook, cl_hook, st_node, sz_node, st1_node, cl_node, xnils, xnilm, xrange, xmakeMap, strV, RB, TB, keep129, tab129, xindexAddr, xindex, xslice, xconvert, xlen, ewOp, FreeW, StabW, SameW, ChangeW, AddW, limBytes, simprocAttr, ne_eq] | ((with_reducible refine Need.intro ?_ ?_); (first | trivial | exact ⟨_, rfl⟩ | omega | (simp; done) | (simp; omega) | exact ⟨by first | trivial | (simp; done), _, by first | rfl | (simp; rfl)⟩))))
    rw [wrapI (by omega)]
    have hsucc : (n.attrs.take (i + 1)).map ownA = (n.attrs.take i).map ownA ++ [ownA n.attrs[i]] := by rw [List.take_succ_eq_append_getElem hlt, List.map_append]; rfl
    refine UpTo.here ⟨i + 1, hlt, by simp only; omega, by simp [upd, eset] <;> omega, ⟨_, by simp only [hsucc]; simp [attrV, ownA]; rfl⟩⟩
  · (repeat (first | simp -dsimp only [zrArena01, st_hook, sz_hook, st1_hook, cl_hook, st_node, sz_node, st1_node, cl_node, xnils, xnilm, xrange, xmakeMap, h, RB, TB, keep129, tab129, xindexAddr, xindex, xslice, xconvert, xlen, ewOp, FreeW, StabW, SameW, ChangeW, AddW, limBytes, simprocAttr, ne_eq] | ((with_reducible refine Need.intro ?_ ?_); (first | trivial | exact ⟨_, rfl⟩ | omega | (simp; done) | (simp; omega) | exact ⟨by first | trivial | (simp; done), _, by first | rfl | (simp; rfl)⟩))))
    have hi2 : i = n.attrs.length := Nat.le_antisymm hi (ge_of h)
    subst hi2
    rw [List.take_length]
    refine RetW.auto0 false _ (by first | rfl | exact (List.append_nil _).symm) ?_ ?_
    · (simp (maxDischargeDepth := 6) [LTB, HLt_set, ltL_take, ltL_drop, ltL_rep, ltL_set, upd, eset, hH, hHk, zlArena01, lt_hook, lt1_hook, ltc_hook, lt_node, lt1_node, ltc_node] <;> omega)
    (try simp only [wk, wk1, wk0, RB, limBytes, simprocAttr, ne_eq])
    (try (rw [List.take_of_length_le]; rotate_left 1; (· first | (simp; done) | (simp; omega) | omega)))
    simp [ownN]
end Go.Proofs.Ytjhjcldpcngldaa

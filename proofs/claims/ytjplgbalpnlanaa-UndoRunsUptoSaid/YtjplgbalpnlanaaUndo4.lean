/- The walks of package undo, of a log with arenas. -/
import Derived.Test.YtjplgbalpnlanaaUndo3
set_option maxHeartbeats 600000
set_option linter.unusedSimpArgs false
set_option linter.unusedVariables false
set_option maxRecDepth 100000
namespace Go.Proofs.Ytjplgbalpnlanaa
open Go Go.EL
theorem zrUndo41 : type_of% (And.intro (And.intro (And.intro (And.intro (@st_run) (And.intro (@sz_run) (@st1_run))) (And.intro (@cl_run) (And.intro (@st_Str) (@sz_Str)))) (And.intro (And.intro (@st1_Str) (And.intro (@cl_Str) (@st_c))) (And.intro (@sz_c) (And.intro (@st1_c) (@cl_c))))) (And.intro (And.intro (And.intro (@st_attr) (And.intro (@sz_attr) (@st1_attr))) (And.intro (@cl_attr) (And.intro (@st_hook) (@sz_hook)))) (And.intro (And.intro (@st1_hook) (And.intro (@cl_hook) (@st_node))) (And.intro (@sz_node) (And.intro (@st1_node) (@cl_node)))))) := And.intro (And.intro (And.intro (And.intro (@st_run) (And.intro (@sz_run) (@st1_run))) (And.intro (@cl_run) (And.intro (@st_Str) (@sz_Str)))) (And.intro (And.intro (@st1_Str) (And.intro (@cl_Str) (@st_c))) (And.intro (@sz_c) (And.intro (@st1_c) (@cl_c))))) (And.intro (And.intro (And.intro (@st_attr) (And.intro (@sz_attr) (@st1_attr))) (And.intro (@cl_attr) (And.intro (@st_hook) (@sz_hook)))) (And.intro (And.intro (@st1_hook) (And.intro (@cl_hook) (@st_node))) (And.intro (@sz_node) (And.intro (@st1_node) (@cl_node)))))
theorem zlUndo41 : type_of% (And.intro (And.intro (And.intro (And.intro (@lt_vi) (@lt_str)) (And.intro (@lt_vb) (And.intro (@ltc_str) (@ltc_vi)))) (And.intro (And.intro (@lt_run) (And.intro (@lt1_run) (@ltc_run))) (And.intro (@lt_Str) (And.intro (@lt1_Str) (@ltc_Str))))) (And.intro (And.intro (And.intro (@lt_c) (And.intro (@lt1_c) (@ltc_c))) (And.intro (@lt_attr) (And.intro (@lt1_attr) (@ltc_attr)))) (And.intro (And.intro (@lt_hook) (And.intro (@lt1_hook) (@ltc_hook))) (And.intro (@lt_node) (And.intro (@lt1_node) (@ltc_node)))))) := And.intro (And.intro (And.intro (And.intro (@lt_vi) (@lt_str)) (And.intro (@lt_vb) (And.intro (@ltc_str) (@ltc_vi)))) (And.intro (And.intro (@lt_run) (And.intro (@lt1_run) (@ltc_run))) (And.intro (@lt_Str) (And.intro (@lt1_Str) (@ltc_Str))))) (And.intro (And.intro (And.intro (@lt_c) (And.intro (@lt1_c) (@ltc_c))) (And.intro (@lt_attr) (And.intro (@lt1_attr) (@ltc_attr)))) (And.intro (And.intro (@lt_hook) (And.intro (@lt1_hook) (@ltc_hook))) (And.intro (@lt_node) (And.intro (@lt1_node) (@ltc_node)))))
def refV (n : Nat) : V := .ref n 0
theorem at_ref (l : List Nat) (i : Nat) (h : i < l.length) : (l.map refV).getD i .dead = .ref l[i] 0 := by rw [List.getD_eq_getElem?_getD, List.getElem?_map, List.getElem?_eq_getElem h]; rfl
theorem st_ref (l : List Nat) : (∀ x, x ∈ l.map refV → x.storable) = True := eq_true (storable_map (f := refV) (fun _ => trivial) l)
theorem sz_ref (l : List Nat) : Sized 1 (l.map refV) = True := eq_true (sizedMapV (f := refV) (fun _ => rfl) l)
def logS (G : List Ob) (Lg : Nat) (most now : Int) (xs : List Nat) : Prop := G[Lg]? = some (.var [.int .i64 most, .slice (xs.map refV), .int .i64 now])
theorem logS.app {G : List Ob} {Lg : Nat} {most now : Int} {xs : List Nat} (h : logS G Lg most now xs) (K : List Ob) : (G ++ K)[Lg]? = some (.var [.int .i64 most, .slice (xs.map refV), .int .i64 now]) := get_appD h
theorem uIsS (G : List Ob) (Lg : Nat) (most now : Int) (xs : List Nat) (h : logS G Lg most now xs) (hm : 0 < most) : SCall Try.prog 122 [.ref Lg 0] G (fun r H' => r = .bool true ∧ H' = G) := by
  unfold logS at h
  have hd : decide (most > 0) = true := decide_eq_true hm
  refine SCall.of_good fun hH => ?_
  have hHk := HLt.add hH
  refine SCall.of_code Tok Try.func122 rfl Try.call122 (n := 12) rfl (by simp) (rs := [.tmp 2]) rfl ?_
  refine EWn.to ?_
  refine EWn.of_c Tok mixed (own := false) keep122 tab122 (by kernel_rfl) ?_
  (repeat (first | simp -dsimp only [zrUndo41, xnils, xnilm, xrange, xmakeMap, xslice3, st_ref, sz_ref, h, hd, RB, TB, keep122, tab122, xindexAddr, xindex, xslice, xconvert, xlen, ewOp, FreeW, StabW, SameW, ChangeW, AddW, BaseW, limBytes, simprocAttr, ne_eq] | ((with_reducible refine Need.intro ?_ ?_); (first | trivial | exact ⟨_, rfl⟩ | exact ⟨[], (List.append_nil _).symm⟩ | omega | (simp; done) | (simp; omega) | exact ⟨by first | trivial | (simp; done), _, by first | rfl | (simp; rfl)⟩))))
  refine RetW.auto0 false _ (by first | rfl | exact (List.append_nil _).symm) ?_ ?_
  · (simp (maxDischargeDepth := 6) [LTB, HLt_set, ltL_take, ltL_drop, ltL_rep, ltL_set, upd, eset, hH, hHk, zlUndo41] <;> omega)
  (try simp only [wk, wk1, wk0, RB, limBytes, simprocAttr, ne_eq])
  (try (rw [List.take_of_length_le]; rotate_left 1; (· first | (simp; done) | (simp; omega) | omega)))
theorem uCountS (G : List Ob) (Lg : Nat) (most now : Int) (xs : List Nat) (h : logS G Lg most now xs) (hm : 0 < most) (hx : xs.length ≤ 100) (hn : now < xs.length) (hn0 : -1 ≤ now) : SCall Try.prog 58 [.ref Lg 0] G (fun r H' => r = .tuple [.int .i64 (if xs.length = 0 then 0 else now), .int .i64 (if xs.length = 0 then 0 else xs.length - 1 - now)] ∧ H' = G) := by
  have h' := h
  unfold logS at h'
  have w1 : IntKind.i64.wrap ((xs.length : Int) - 1) = xs.length - 1 := wrapI (by omega)
  have w2 : IntKind.i64.wrap ((xs.length : Int) - 1 - now) = xs.length - 1 - now := wrapI (by omega)
  by_cases h0 : xs.length = 0
  · have e : ((xs.length : Int) == 0) = true := by simp [h0]
    refine SCall.of_good fun hH => ?_
    have hHk := HLt.add hH
    refine SCall.of_code Tok Try.func58 rfl Try.call58 (n := 30) rfl (by simp) (rs := [.tmp 2, .tmp 3]) rfl ?_
    refine EWn.to ?_
    refine EWn.of_c Tok mixed (own := false) keep58 tab58 (by kernel_rfl) ?_
    (repeat (first | simp -dsimp only [zrUndo41, xnils, xnilm, xrange, xmakeMap, xslice3, st_ref, sz_ref, RB, TB, keep58, tab58, xindexAddr, xindex, xslice, xconvert, xlen, ewOp, FreeW, StabW, SameW, ChangeW, AddW, BaseW, limBytes, simprocAttr, ne_eq] | ((with_reducible refine Need.intro ?_ ?_); (first | trivial | exact ⟨_, rfl⟩ | exact ⟨[], (List.append_nil _).symm⟩ | omega | (simp; done) | (simp; omega) | exact ⟨by first | trivial | (simp; done), _, by first | rfl | (simp; rfl)⟩))))
    (first | refine SCall.then (uIsS _ Lg _ _ _ h hm) ?_ | refine SCall.thenA (uIsS _ Lg _ _ _ h hm) (by repeat (first | exact trivial | exact .inl (.inl rfl) | exact .inl (.inr ⟨_, rfl, rfl⟩) | exact .inl rfl | exact .inr ⟨_, rfl, rfl⟩ | refine .inr ⟨_, _, rfl, rfl, ?_⟩ | refine ⟨?_, ?_⟩)) ?_ | refine CallE.intro _ (uIsS _ Lg _ _ _ h hm) ?_ | refine CallE.introA (uIsS _ Lg _ _ _ h hm) (by repeat (first | exact trivial | exact .inl (.inl rfl) | exact .inl (.inr ⟨_, rfl, rfl⟩) | exact .inl rfl | exact .inr ⟨_, rfl, rfl⟩ | refine .inr ⟨_, _, rfl, rfl, ?_⟩ | refine ⟨?_, ?_⟩)) ?_ | refine CallE.intro _ (fun _ => uIsS _ Lg _ _ _ h hm) ?_ | refine CallE.intro _ (fun _ => SCall.arg (by repeat (first | exact trivial | exact .inl (.inl rfl) | exact .inl (.inr ⟨_, rfl, rfl⟩) | exact .inl rfl | exact .inr ⟨_, rfl, rfl⟩ | refine .inr ⟨_, _, rfl, rfl, ?_⟩ | refine ⟨?_, ?_⟩)) (uIsS _ Lg _ _ _ h hm)) ?_ | refine CallE2.intro _ _ (uIsS _ Lg _ _ _ h hm) ?_ | refine CallE2.intro _ _ (SCall.arg (by repeat (first | exact trivial | exact .inl (.inl rfl) | exact .inl (.inr ⟨_, rfl, rfl⟩) | exact .inl rfl | exact .inr ⟨_, rfl, rfl⟩ | refine .inr ⟨_, _, rfl, rfl, ?_⟩ | refine ⟨?_, ?_⟩)) (uIsS _ Lg _ _ _ h hm)) ?_)
    (repeat (first | simp -dsimp only [zrUndo41, xnils, xnilm, xrange, xmakeMap, xslice3, st_ref, sz_ref, h', e, RB, TB, keep58, tab58, xindexAddr, xindex, xslice, xconvert, xlen, ewOp, FreeW, StabW, SameW, ChangeW, AddW, BaseW, limBytes, simprocAttr, ne_eq] | ((with_reducible refine Need.intro ?_ ?_); (first | trivial | exact ⟨_, rfl⟩ | exact ⟨[], (List.append_nil _).symm⟩ | omega | (simp; done) | (simp; omega) | exact ⟨by first | trivial | (simp; done), _, by first | rfl | (simp; rfl)⟩))))
    refine RetW.auto0 false _ (by first | rfl | exact (List.append_nil _).symm) ?_ ?_
    · (simp (maxDischargeDepth := 6) [LTB, HLt_set, ltL_take, ltL_drop, ltL_rep, ltL_set, upd, eset, hH, hHk, zlUndo41] <;> omega)
    (try simp only [wk, wk1, wk0, RB, limBytes, simprocAttr, ne_eq])
    (try (rw [List.take_of_length_le]; rotate_left 1; (· first | (simp; done) | (simp; omega) | omega)))
    simp [h0]
  · have e : ((xs.length : Int) == 0) = false := by simp; intro hh; simp [hh] at h0
    refine SCall.of_good fun hH => ?_
    have hHk := HLt.add hH
    refine SCall.of_code Tok Try.func58 rfl Try.call58 (n := 30) rfl (by simp) (rs := [.tmp 2, .tmp 3]) rfl ?_
    refine EWn.to ?_
    refine EWn.of_c Tok mixed (own := false) keep58 tab58 (by kernel_rfl) ?_
    (repeat (first | simp -dsimp only [zrUndo41, xnils, xnilm, xrange, xmakeMap, xslice3, st_ref, sz_ref, RB, TB, keep58, tab58, xindexAddr, xindex, xslice, xconvert, xlen, ewOp, FreeW, StabW, SameW, ChangeW, AddW, BaseW, limBytes, simprocAttr, ne_eq] | ((with_reducible refine Need.intro ?_ ?_); (first | trivial | exact ⟨_, rfl⟩ | exact ⟨[], (List.append_nil _).symm⟩ | omega | (simp; done) | (simp; omega) | exact ⟨by first | trivial | (simp; done), _, by first | rfl | (simp; rfl)⟩))))
    (first | refine SCall.then (uIsS _ Lg _ _ _ h hm) ?_ | refine SCall.thenA (uIsS _ Lg _ _ _ h hm) (by repeat (first | exact trivial | exact .inl (.inl rfl) | exact .inl (.inr ⟨_, rfl, rfl⟩) | exact .inl rfl | exact .inr ⟨_, rfl, rfl⟩ | refine .inr ⟨_, _, rfl, rfl, ?_⟩ | refine ⟨?_, ?_⟩)) ?_ | refine CallE.intro _ (uIsS _ Lg _ _ _ h hm) ?_ | refine CallE.introA (uIsS _ Lg _ _ _ h hm) (by repeat (first | exact trivial | exact .inl (.inl rfl) | exact .inl (.inr ⟨_, rfl, rfl⟩) | exact .inl rfl | exact .inr ⟨_, rfl, rfl⟩ | refine .inr ⟨_, _, rfl, rfl, ?_⟩ | refine ⟨?_, ?_⟩)) ?_ | refine CallE.intro _ (fun _ => uIsS _ Lg _ _ _ h hm) ?_ | refine CallE.intro _ (fun _ => SCall.arg (by repeat (first | exact trivial | exact .inl (.inl rfl) | exact .inl (.inr ⟨_, rfl, rfl⟩) | exact .inl rfl | exact .inr ⟨_, rfl, rfl⟩ | refine .inr ⟨_, _, rfl, rfl, ?_⟩ | refine ⟨?_, ?_⟩)) (uIsS _ Lg _ _ _ h hm)) ?_ | refine CallE2.intro _ _ (uIsS _ Lg _ _ _ h hm) ?_ | refine CallE2.intro _ _ (SCall.arg (by repeat (first | exact trivial | exact .inl (.inl rfl) | exact .inl (.inr ⟨_, rfl, rfl⟩) | exact .inl rfl | exact .inr ⟨_, rfl, rfl⟩ | refine .inr ⟨_, _, rfl, rfl, ?_⟩ | refine ⟨?_, ?_⟩)) (uIsS _ Lg _ _ _ h hm)) ?_)
    (repeat (first | simp -dsimp only [zrUndo41, xnils, xnilm, xrange, xmakeMap, xslice3, st_ref, sz_ref, h', e, w1, w2, RB, TB, keep58, tab58, xindexAddr, xindex, xslice, xconvert, xlen, ewOp, FreeW, StabW, SameW, ChangeW, AddW, BaseW, limBytes, simprocAttr, ne_eq] | ((with_reducible refine Need.intro ?_ ?_); (first | trivial | exact ⟨_, rfl⟩ | exact ⟨[], (List.append_nil _).symm⟩ | omega | (simp; done) | (simp; omega) | exact ⟨by first | trivial | (simp; done), _, by first | rfl | (simp; rfl)⟩))))
    refine RetW.auto0 false _ (by first | rfl | exact (List.append_nil _).symm) ?_ ?_
    · (simp (maxDischargeDepth := 6) [LTB, HLt_set, ltL_take, ltL_drop, ltL_rep, ltL_set, upd, eset, hH, hHk, zlUndo41] <;> omega)
    (try simp only [wk, wk1, wk0, RB, limBytes, simprocAttr, ne_eq])
    (try (rw [List.take_of_length_le]; rotate_left 1; (· first | (simp; done) | (simp; omega) | omega)))
    simp [h0]
theorem uStepNo (G : List Ob) (Lg : Nat) (most now by_ : Int) (xs : List Nat) (h : logS G Lg most now xs) (hm : 0 < most) (hx : xs.length ≤ 100) (hn : now < xs.length) (hn0 : -1 ≤ now) (hb : -1 ≤ by_ ∧ by_ ≤ 1) (hno : ¬ (0 ≤ now + by_ ∧ now + by_ < xs.length)) : SCall Try.prog 123 [.ref Lg 0, .int .i64 by_] G (fun r H' => r = .tuple [.nilp, .bool false] ∧ H' = G) := by
  have h' := h
  unfold logS at h'
  have w1 : IntKind.i64.wrap (now + by_) = now + by_ := wrapI (by omega)
  by_cases h0 : now + by_ < 0
  · have e : decide (now + by_ < 0) = true := decide_eq_true h0
    refine SCall.of_good fun hH => ?_
    have hHk := HLt.add hH
    refine SCall.of_code Tok Try.func123 rfl Try.call123 (n := 51) rfl (by simp) (rs := [.tmp 4, .tmp 5]) rfl ?_
    refine EWn.to ?_
    refine EWn.of_c Tok mixed (own := false) keep123 tab123 (by kernel_rfl) ?_
    (repeat (first | simp -dsimp only [zrUndo41, xnils, xnilm, xrange, xmakeMap, xslice3, st_ref, sz_ref, RB, TB, keep123, tab123, xindexAddr, xindex, xslice, xconvert, xlen, ewOp, FreeW, StabW, SameW, ChangeW, AddW, BaseW, limBytes, simprocAttr, ne_eq] | ((with_reducible refine Need.intro ?_ ?_); (first | trivial | exact ⟨_, rfl⟩ | exact ⟨[], (List.append_nil _).symm⟩ | omega | (simp; done) | (simp; omega) | exact ⟨by first | trivial | (simp; done), _, by first | rfl | (simp; rfl)⟩))))
    (first | refine SCall.then (uIsS _ Lg _ _ _ h hm) ?_ | refine SCall.thenA (uIsS _ Lg _ _ _ h hm) (by repeat (first | exact trivial | exact .inl (.inl rfl) | exact .inl (.inr ⟨_, rfl, rfl⟩) | exact .inl rfl | exact .inr ⟨_, rfl, rfl⟩ | refine .inr ⟨_, _, rfl, rfl, ?_⟩ | refine ⟨?_, ?_⟩)) ?_ | refine CallE.intro _ (uIsS _ Lg _ _ _ h hm) ?_ | refine CallE.introA (uIsS _ Lg _ _ _ h hm) (by repeat (first | exact trivial | exact .inl (.inl rfl) | exact .inl (.inr ⟨_, rfl, rfl⟩) | exact .inl rfl | exact .inr ⟨_, rfl, rfl⟩ | refine .inr ⟨_, _, rfl, rfl, ?_⟩ | refine ⟨?_, ?_⟩)) ?_ | refine CallE.intro _ (fun _ => uIsS _ Lg _ _ _ h hm) ?_ | refine CallE.intro _ (fun _ => SCall.arg (by repeat (first | exact trivial | exact .inl (.inl rfl) | exact .inl (.inr ⟨_, rfl, rfl⟩) | exact .inl rfl | exact .inr ⟨_, rfl, rfl⟩ | refine .inr ⟨_, _, rfl, rfl, ?_⟩ | refine ⟨?_, ?_⟩)) (uIsS _ Lg _ _ _ h hm)) ?_ | refine CallE2.intro _ _ (uIsS _ Lg _ _ _ h hm) ?_ | refine CallE2.intro _ _ (SCall.arg (by repeat (first | exact trivial | exact .inl (.inl rfl) | exact .inl (.inr ⟨_, rfl, rfl⟩) | exact .inl rfl | exact .inr ⟨_, rfl, rfl⟩ | refine .inr ⟨_, _, rfl, rfl, ?_⟩ | refine ⟨?_, ?_⟩)) (uIsS _ Lg _ _ _ h hm)) ?_)
    (repeat (first | simp -dsimp only [zrUndo41, xnils, xnilm, xrange, xmakeMap, xslice3, st_ref, sz_ref, h', w1, e, RB, TB, keep123, tab123, xindexAddr, xindex, xslice, xconvert, xlen, ewOp, FreeW, StabW, SameW, ChangeW, AddW, BaseW, limBytes, simprocAttr, ne_eq] | ((with_reducible refine Need.intro ?_ ?_); (first | trivial | exact ⟨_, rfl⟩ | exact ⟨[], (List.append_nil _).symm⟩ | omega | (simp; done) | (simp; omega) | exact ⟨by first | trivial | (simp; done), _, by first | rfl | (simp; rfl)⟩))))
    refine RetW.auto0 false _ (by first | rfl | exact (List.append_nil _).symm) ?_ ?_
    · (simp (maxDischargeDepth := 6) [LTB, HLt_set, ltL_take, ltL_drop, ltL_rep, ltL_set, upd, eset, hH, hHk, zlUndo41] <;> omega)
    (try simp only [wk, wk1, wk0, RB, limBytes, simprocAttr, ne_eq])
    (try (rw [List.take_of_length_le]; rotate_left 1; (· first | (simp; done) | (simp; omega) | omega)))
  · have e : decide (now + by_ < 0) = false := decide_eq_false h0
    have e2 : decide (now + by_ ≥ xs.length) = true := decide_eq_true (by omega)
    refine SCall.of_good fun hH => ?_
    have hHk := HLt.add hH
    refine SCall.of_code Tok Try.func123 rfl Try.call123 (n := 51) rfl (by simp) (rs := [.tmp 4, .tmp 5]) rfl ?_
    refine EWn.to ?_
    refine EWn.of_c Tok mixed (own := false) keep123 tab123 (by kernel_rfl) ?_
    (repeat (first | simp -dsimp only [zrUndo41, xnils, xnilm, xrange, xmakeMap, xslice3, st_ref, sz_ref, RB, TB, keep123, tab123, xindexAddr, xindex, xslice, xconvert, xlen, ewOp, FreeW, StabW, SameW, ChangeW, AddW, BaseW, limBytes, simprocAttr, ne_eq] | ((with_reducible refine Need.intro ?_ ?_); (first | trivial | exact ⟨_, rfl⟩ | exact ⟨[], (List.append_nil _).symm⟩ | omega | (simp; done) | (simp; omega) | exact ⟨by first | trivial | (simp; done), _, by first | rfl | (simp; rfl)⟩))))
    (first | refine SCall.then (uIsS _ Lg _ _ _ h hm) ?_ | refine SCall.thenA (uIsS _ Lg _ _ _ h hm) (by repeat (first | exact trivial | exact .inl (.inl rfl) | exact .inl (.inr ⟨_, rfl, rfl⟩) | exact .inl rfl | exact .inr ⟨_, rfl, rfl⟩ | refine .inr ⟨_, _, rfl, rfl, ?_⟩ | refine ⟨?_, ?_⟩)) ?_ | refine CallE.intro _ (uIsS _ Lg _ _ _ h hm) ?_ | refine CallE.introA (uIsS _ Lg _ _ _ h hm) (by repeat (first | exact trivial | exact .inl (.inl rfl) | exact .inl (.inr ⟨_, rfl, rfl⟩) | exact .inl rfl | exact .inr ⟨_, rfl, rfl⟩ | refine .inr ⟨_, _, rfl, rfl, ?_⟩ | refine ⟨?_, ?_⟩)) ?_ | refine CallE.intro _ (fun _ => uIsS _ Lg _ _ _ h hm) ?_ | refine CallE.intro _ (fun _ => SCall.arg (by repeat (first | exact trivial | exact .inl (.inl rfl) | exact .inl (.inr ⟨_, rfl, rfl⟩) | exact .inl rfl | exact .inr ⟨_, rfl, rfl⟩ | refine .inr ⟨_, _, rfl, rfl, ?_⟩ | refine ⟨?_, ?_⟩)) (uIsS _ Lg _ _ _ h hm)) ?_ | refine CallE2.intro _ _ (uIsS _ Lg _ _ _ h hm) ?_ | refine CallE2.intro _ _ (SCall.arg (by repeat (first | exact trivial | exact .inl (.inl rfl) | exact .inl (.inr ⟨_, rfl, rfl⟩) | exact .inl rfl | exact .inr ⟨_, rfl, rfl⟩ | refine .inr ⟨_, _, rfl, rfl, ?_⟩ | refine ⟨?_, ?_⟩)) (uIsS _ Lg _ _ _ h hm)) ?_)
    (repeat (first | simp -dsimp only [zrUndo41, xnils, xnilm, xrange, xmakeMap, xslice3, st_ref, sz_ref, h', w1, e, e2, RB, TB, keep123, tab123, xindexAddr, xindex, xslice, xconvert, xlen, ewOp, FreeW, StabW, SameW, ChangeW, AddW, BaseW, limBytes, simprocAttr, ne_eq] | ((with_reducible refine Need.intro ?_ ?_); (first | trivial | exact ⟨_, rfl⟩ | exact ⟨[], (List.append_nil _).symm⟩ | omega | (simp; done) | (simp; omega) | exact ⟨by first | trivial | (simp; done), _, by first | rfl | (simp; rfl)⟩))))
    refine RetW.auto0 false _ (by first | rfl | exact (List.append_nil _).symm) ?_ ?_
    · (simp (maxDischargeDepth := 6) [LTB, HLt_set, ltL_take, ltL_drop, ltL_rep, ltL_set, upd, eset, hH, hHk, zlUndo41] <;> omega)
    (try simp only [wk, wk1, wk0, RB, limBytes, simprocAttr, ne_eq])
    (try (rw [List.take_of_length_le]; rotate_left 1; (· first | (simp; done) | (simp; omega) | omega)))
theorem uStepS (G : List Ob) (Lg : Nat) (most now by_ : Int) (xs : List Nat) (h : logS G Lg most now xs) (hm : 0 < most) (hx : xs.length ≤ 100) (hn : now < xs.length) (hn0 : -1 ≤ now) (hb : -1 ≤ by_ ∧ by_ ≤ 1) (k : Nat) (hk : now + by_ = k) (hkl : k < xs.length) (m : Nat) (a : Arena) (ha : arenaAt G xs[k] m a) (hok : okAr a) (hd1 : xs[k] ≠ Lg) (hd2 : m ≠ Lg) : SCall Try.prog 123 [.ref Lg 0, .int .i64 by_] G (fun r H' => r = .tuple [.ref (G.length + 1) 0, .bool true] ∧ H' = G.set Lg (.var [.int .i64 most, .slice (xs.map refV), .int .i64 k]) ++ [.map (encM (ownAr a).nodes) a.clock, .var (.mapr G.length :: (a.used.map vi ++ a.live.map vi))]) := by
  have h' := h
  unfold logS at h'
  have lL := (List.getElem?_eq_some_iff.1 h').1
  have w1 : IntKind.i64.wrap (now + by_) = k := by rw [wrapI (by omega)]; exact hk
  have e : decide ((k : Int) < 0) = false := decide_eq_false (by omega)
  have e2 : decide ((k : Int) ≥ xs.length) = false := decide_eq_false (by omega)
  have hgL : ∀ X, (G.set Lg X)[Lg]? = some X := fun X => List.getElem?_set_self lL
  have hat : ∀ X, arenaAt (G.set Lg X) xs[k] m a := fun X => ⟨by rw [List.getElem?_set_ne (Ne.symm hd1)]; exact ha.1, by rw [List.getElem?_set_ne (Ne.symm hd2)]; exact ha.2.1, ha.2.2.1, ha.2.2.2⟩
  have hre := at_ref xs k hkl
  refine SCall.of_good fun hH => ?_
  have hHk := HLt.add hH
  refine SCall.of_code Tok Try.func123 rfl Try.call123 (n := 51) rfl (by simp) (rs := [.tmp 4, .tmp 5]) rfl ?_
  refine EWn.to ?_
  refine EWn.of_c Tok mixed (own := false) keep123 tab123 (by kernel_rfl) ?_
  (repeat (first | simp -dsimp only [zrUndo41, xnils, xnilm, xrange, xmakeMap, xslice3, st_ref, sz_ref, RB, TB, keep123, tab123, xindexAddr, xindex, xslice, xconvert, xlen, ewOp, FreeW, StabW, SameW, ChangeW, AddW, BaseW, limBytes, simprocAttr, ne_eq] | ((with_reducible refine Need.intro ?_ ?_); (first | trivial | exact ⟨_, rfl⟩ | exact ⟨[], (List.append_nil _).symm⟩ | omega | (simp; done) | (simp; omega) | exact ⟨by first | trivial | (simp; done), _, by first | rfl | (simp; rfl)⟩))))
  (first | refine SCall.then (uIsS _ Lg _ _ _ h hm) ?_ | refine SCall.thenA (uIsS _ Lg _ _ _ h hm) (by repeat (first | exact trivial | exact .inl (.inl rfl) | exact .inl (.inr ⟨_, rfl, rfl⟩) | exact .inl rfl | exact .inr ⟨_, rfl, rfl⟩ | refine .inr ⟨_, _, rfl, rfl, ?_⟩ | refine ⟨?_, ?_⟩)) ?_ | refine CallE.intro _ (uIsS _ Lg _ _ _ h hm) ?_ | refine CallE.introA (uIsS _ Lg _ _ _ h hm) (by repeat (first | exact trivial | exact .inl (.inl rfl) | exact .inl (.inr ⟨_, rfl, rfl⟩) | exact .inl rfl | exact .inr ⟨_, rfl, rfl⟩ | refine .inr ⟨_, _, rfl, rfl, ?_⟩ | refine ⟨?_, ?_⟩)) ?_ | refine CallE.intro _ (fun _ => uIsS _ Lg _ _ _ h hm) ?_ | refine CallE.intro _ (fun _ => SCall.arg (by repeat (first | exact trivial | exact .inl (.inl rfl) | exact .inl (.inr ⟨_, rfl, rfl⟩) | exact .inl rfl | exact .inr ⟨_, rfl, rfl⟩ | refine .inr ⟨_, _, rfl, rfl, ?_⟩ | refine ⟨?_, ?_⟩)) (uIsS _ Lg _ _ _ h hm)) ?_ | refine CallE2.intro _ _ (uIsS _ Lg _ _ _ h hm) ?_ | refine CallE2.intro _ _ (SCall.arg (by repeat (first | exact trivial | exact .inl (.inl rfl) | exact .inl (.inr ⟨_, rfl, rfl⟩) | exact .inl rfl | exact .inr ⟨_, rfl, rfl⟩ | refine .inr ⟨_, _, rfl, rfl, ?_⟩ | refine ⟨?_, ?_⟩)) (uIsS _ Lg _ _ _ h hm)) ?_)
  (repeat (first | simp -dsimp only [zrUndo41, xnils, xnilm, xrange, xmakeMap, xslice3, st_ref, sz_ref, h', w1, e, e2, hgL, hre, RB, TB, keep123, tab123, xindexAddr, xindex, xslice, xconvert, xlen, ewOp, FreeW, StabW, SameW, ChangeW, AddW, BaseW, limBytes, simprocAttr, ne_eq] | ((with_reducible refine Need.intro ?_ ?_); (first | trivial | exact ⟨_, rfl⟩ | exact ⟨[], (List.append_nil _).symm⟩ | omega | (simp; done) | (simp; omega) | exact ⟨by first | trivial | (simp; done), _, by first | rfl | (simp; rfl)⟩))))
  (first | refine SCall.then (aClone _ xs[k] m a (hat _) hok) ?_ | refine SCall.thenA (aClone _ xs[k] m a (hat _) hok) (by repeat (first | exact trivial | exact .inl (.inl rfl) | exact .inl (.inr ⟨_, rfl, rfl⟩) | exact .inl rfl | exact .inr ⟨_, rfl, rfl⟩ | refine .inr ⟨_, _, rfl, rfl, ?_⟩ | refine ⟨?_, ?_⟩)) ?_ | refine CallE.intro _ (aClone _ xs[k] m a (hat _) hok) ?_ | refine CallE.introA (aClone _ xs[k] m a (hat _) hok) (by repeat (first | exact trivial | exact .inl (.inl rfl) | exact .inl (.inr ⟨_, rfl, rfl⟩) | exact .inl rfl | exact .inr ⟨_, rfl, rfl⟩ | refine .inr ⟨_, _, rfl, rfl, ?_⟩ | refine ⟨?_, ?_⟩)) ?_ | refine CallE.intro _ (fun _ => aClone _ xs[k] m a (hat _) hok) ?_ | refine CallE.intro _ (fun _ => SCall.arg (by repeat (first | exact trivial | exact .inl (.inl rfl) | exact .inl (.inr ⟨_, rfl, rfl⟩) | exact .inl rfl | exact .inr ⟨_, rfl, rfl⟩ | refine .inr ⟨_, _, rfl, rfl, ?_⟩ | refine ⟨?_, ?_⟩)) (aClone _ xs[k] m a (hat _) hok)) ?_ | refine CallE2.intro _ _ (aClone _ xs[k] m a (hat _) hok) ?_ | refine CallE2.intro _ _ (SCall.arg (by repeat (first | exact trivial | exact .inl (.inl rfl) | exact .inl (.inr ⟨_, rfl, rfl⟩) | exact .inl rfl | exact .inr ⟨_, rfl, rfl⟩ | refine .inr ⟨_, _, rfl, rfl, ?_⟩ | refine ⟨?_, ?_⟩)) (aClone _ xs[k] m a (hat _) hok)) ?_)
  (repeat (first | simp -dsimp only [zrUndo41, xnils, xnilm, xrange, xmakeMap, xslice3, st_ref, sz_ref, RB, TB, keep123, tab123, xindexAddr, xindex, xslice, xconvert, xlen, ewOp, FreeW, StabW, SameW, ChangeW, AddW, BaseW, limBytes, simprocAttr, ne_eq] | ((with_reducible refine Need.intro ?_ ?_); (first | trivial | exact ⟨_, rfl⟩ | exact ⟨[], (List.append_nil _).symm⟩ | omega | (simp; done) | (simp; omega) | exact ⟨by first | trivial | (simp; done), _, by first | rfl | (simp; rfl)⟩))))
  have hlx := hH.get h'
  simp only [Ob.lt, ltL, V.lt, and_true, true_and] at hlx
  refine RetW.keep false (by simp) ?_ (by simp [okW, okW1, okW0, V.lt]) ⟨by simp [wk, wk1, wk0], rfl⟩
  rw [List.length_append, List.length_set, HLt_append]
  refine ⟨HLt_set (hHk _) ?_, ?_⟩
  · simp only [Ob.lt, ltL, V.lt, and_true, true_and]; exact ltL_le (Nat.le_add_right _ _) _ hlx
  · rw [HLt_cons, HLt_cons]
    refine ⟨lt_encM _ _, ?_, HLt_nil⟩
    simp only [Ob.lt, ltL, V.lt, ltL_append]
    exact ⟨by simp, lt_vi _ _, lt_vi _ _⟩
/-- what a Push leaves of a log -/
def pushX (most now : Int) (xs : List Nat) (B : Nat) : List Nat := if ((xs.take (now + 1).toNat ++ [B]).length : Int) > most then (xs.take (now + 1).toNat ++ [B]).drop 1 else xs.take (now + 1).toNat ++ [B]
theorem uPush0S (G : List Ob) (Lg : Nat) (most now : Int) (xs : List Nat) (h : logS G Lg most now xs) (hm : 0 < most) (hm64 : most ≤ 64) (hx : (xs.length : Int) ≤ most) (hn : now < xs.length) (hn0 : -1 ≤ now) (A m : Nat) (a : Arena) (ha : arenaAt G A m a) (hok : okAr a) : SCall Try.prog 52 [.ref Lg 0, .ref A 0] G (fun r H' => r = .bool true ∧ ∃ off k, ((xs.take (now + 1).toNat ++ [G.length + 1]).drop off).take k = pushX most now xs (G.length + 1) ∧ off + k ≤ (xs.take (now + 1).toNat ++ [G.length + 1]).length ∧
    H' = G.set Lg (.var [.int .i64 most, .vec (G.length + 2) 1 off k, .int .i64 ((pushX most now xs (G.length + 1)).length - 1)]) ++ [.map (encM (ownAr a).nodes) a.clock, .var (.mapr G.length :: (a.used.map vi ++ a.live.map vi)), .vec 1 1 ((xs.take (now + 1).toNat ++ [G.length + 1]).map refV)]) := by
  have h' := h
  unfold logS at h'
  have lL := (List.getElem?_eq_some_iff.1 h').1
  obtain ⟨c, hc⟩ : ∃ c : Nat, (c : Int) = now + 1 := ⟨(now + 1).toNat, by omega⟩
  have hcn : (now + 1).toNat = c := by omega
  have hcl : c ≤ xs.length := by omega
  rw [hcn]
  have w1 : IntKind.i64.wrap (now + 1) = c := by rw [wrapI (by omega), hc]
  obtain ⟨ys, hys⟩ : ∃ ys, ys = xs.take c ++ [G.length + 1] := ⟨_, rfl⟩
  have hyl : ys.length = c + 1 := by rw [hys]; simp; omega
  have hpx : pushX most now xs (G.length + 1) = if (ys.length : Int) > most then ys.drop 1 else ys := by unfold pushX; rw [hcn, hys]
  have hgL : ∀ K, (G ++ K)[Lg]? = some (.var [.int .i64 most, .slice (xs.map refV), .int .i64 now]) := fun K => logS.app h K
  have hsL : ∀ (K : List Ob) (x : Ob), (G ++ K).set Lg x = G.set Lg x ++ K := fun K x => List.set_append_left _ _ lL
  have hgL2 : ∀ (K : List Ob) (x : Ob), (G.set Lg x ++ K)[Lg]? = some x := fun K x => by rw [List.getElem?_append_left (by simpa using lL), List.getElem?_set_self lL]
  have hsL2 : ∀ (K : List Ob) (x y : Ob), (G.set Lg x ++ K).set Lg y = G.set Lg y ++ K := fun K x y => by rw [List.set_append_left _ _ (by simpa using lL), List.set_set]
  have htk : (xs.map refV).take c = (xs.take c).map refV := by rw [List.map_take]
  refine SCall.of_good fun hH => ?_
  have hHk := HLt.add hH
  refine SCall.of_code Tok Try.func52 rfl Try.call52 (n := 63) rfl (by simp) (rs := [.tmp 4]) rfl ?_
  refine EWn.to ?_
  refine EWn.of_c Tok mixed (own := false) keep52 tab52 (by kernel_rfl) ?_
  (repeat (first | simp -dsimp only [zrUndo41, xnils, xnilm, xrange, xmakeMap, xslice3, st_ref, sz_ref, RB, TB, keep52, tab52, xindexAddr, xindex, xslice, xconvert, xlen, ewOp, FreeW, StabW, SameW, ChangeW, AddW, BaseW, limBytes, simprocAttr, ne_eq] | ((with_reducible refine Need.intro ?_ ?_); (first | trivial | exact ⟨_, rfl⟩ | exact ⟨[], (List.append_nil _).symm⟩ | omega | (simp; done) | (simp; omega) | exact ⟨by first | trivial | (simp; done), _, by first | rfl | (simp; rfl)⟩))))
  (first | refine SCall.then (aClone G A m a ha hok) ?_ | refine SCall.thenA (aClone G A m a ha hok) (by repeat (first | exact trivial | exact .inl (.inl rfl) | exact .inl (.inr ⟨_, rfl, rfl⟩) | exact .inl rfl | exact .inr ⟨_, rfl, rfl⟩ | refine .inr ⟨_, _, rfl, rfl, ?_⟩ | refine ⟨?_, ?_⟩)) ?_ | refine CallE.intro _ (aClone G A m a ha hok) ?_ | refine CallE.introA (aClone G A m a ha hok) (by repeat (first | exact trivial | exact .inl (.inl rfl) | exact .inl (.inr ⟨_, rfl, rfl⟩) | exact .inl rfl | exact .inr ⟨_, rfl, rfl⟩ | refine .inr ⟨_, _, rfl, rfl, ?_⟩ | refine ⟨?_, ?_⟩)) ?_ | refine CallE.intro _ (fun _ => aClone G A m a ha hok) ?_ | refine CallE.intro _ (fun _ => SCall.arg (by repeat (first | exact trivial | exact .inl (.inl rfl) | exact .inl (.inr ⟨_, rfl, rfl⟩) | exact .inl rfl | exact .inr ⟨_, rfl, rfl⟩ | refine .inr ⟨_, _, rfl, rfl, ?_⟩ | refine ⟨?_, ?_⟩)) (aClone G A m a ha hok)) ?_ | refine CallE2.intro _ _ (aClone G A m a ha hok) ?_ | refine CallE2.intro _ _ (SCall.arg (by repeat (first | exact trivial | exact .inl (.inl rfl) | exact .inl (.inr ⟨_, rfl, rfl⟩) | exact .inl rfl | exact .inr ⟨_, rfl, rfl⟩ | refine .inr ⟨_, _, rfl, rfl, ?_⟩ | refine ⟨?_, ?_⟩)) (aClone G A m a ha hok)) ?_)
  (repeat (first | simp -dsimp only [zrUndo41, xnils, xnilm, xrange, xmakeMap, xslice3, st_ref, sz_ref, RB, TB, keep52, tab52, xindexAddr, xindex, xslice, xconvert, xlen, ewOp, FreeW, StabW, SameW, ChangeW, AddW, BaseW, limBytes, simprocAttr, ne_eq] | ((with_reducible refine Need.intro ?_ ?_); (first | trivial | exact ⟨_, rfl⟩ | exact ⟨[], (List.append_nil _).symm⟩ | omega | (simp; done) | (simp; omega) | exact ⟨by first | trivial | (simp; done), _, by first | rfl | (simp; rfl)⟩))))
  (first | refine SCall.then (uIsS _ Lg _ _ _ (hgL _) hm) ?_ | refine SCall.thenA (uIsS _ Lg _ _ _ (hgL _) hm) (by repeat (first | exact trivial | exact .inl (.inl rfl) | exact .inl (.inr ⟨_, rfl, rfl⟩) | exact .inl rfl | exact .inr ⟨_, rfl, rfl⟩ | refine .inr ⟨_, _, rfl, rfl, ?_⟩ | refine ⟨?_, ?_⟩)) ?_ | refine CallE.intro _ (uIsS _ Lg _ _ _ (hgL _) hm) ?_ | refine CallE.introA (uIsS _ Lg _ _ _ (hgL _) hm) (by repeat (first | exact trivial | exact .inl (.inl rfl) | exact .inl (.inr ⟨_, rfl, rfl⟩) | exact .inl rfl | exact .inr ⟨_, rfl, rfl⟩ | refine .inr ⟨_, _, rfl, rfl, ?_⟩ | refine ⟨?_, ?_⟩)) ?_ | refine CallE.intro _ (fun _ => uIsS _ Lg _ _ _ (hgL _) hm) ?_ | refine CallE.intro _ (fun _ => SCall.arg (by repeat (first | exact trivial | exact .inl (.inl rfl) | exact .inl (.inr ⟨_, rfl, rfl⟩) | exact .inl rfl | exact .inr ⟨_, rfl, rfl⟩ | refine .inr ⟨_, _, rfl, rfl, ?_⟩ | refine ⟨?_, ?_⟩)) (uIsS _ Lg _ _ _ (hgL _) hm)) ?_ | refine CallE2.intro _ _ (uIsS _ Lg _ _ _ (hgL _) hm) ?_ | refine CallE2.intro _ _ (SCall.arg (by repeat (first | exact trivial | exact .inl (.inl rfl) | exact .inl (.inr ⟨_, rfl, rfl⟩) | exact .inl rfl | exact .inr ⟨_, rfl, rfl⟩ | refine .inr ⟨_, _, rfl, rfl, ?_⟩ | refine ⟨?_, ?_⟩)) (uIsS _ Lg _ _ _ (hgL _) hm)) ?_)
  (repeat (first | simp -dsimp only [zrUndo41, xnils, xnilm, xrange, xmakeMap, xslice3, st_ref, sz_ref, hgL, hsL, hgL2, hsL2, w1, htk, RB, TB, keep52, tab52, xindexAddr, xindex, xslice, xconvert, xlen, ewOp, FreeW, StabW, SameW, ChangeW, AddW, BaseW, limBytes, simprocAttr, ne_eq] | ((with_reducible refine Need.intro ?_ ?_); (first | trivial | exact ⟨_, rfl⟩ | exact ⟨[], (List.append_nil _).symm⟩ | omega | (simp; done) | (simp; omega) | exact ⟨by first | trivial | (simp; done), _, by first | rfl | (simp; rfl)⟩))))
  have htl : (List.take c xs).length = c := by simp; omega
  rw [htl]
  have hlt1 : ∀ (v : V) (q : Int), V.lt (G.length + 3) v → HLt (G.set Lg (Ob.var [.int .i64 most, v, .int .i64 q]) ++ [Ob.map (encM (ownAr a).nodes) a.clock, Ob.var (.mapr G.length :: (a.used.map vi ++ a.live.map vi)), Ob.vec 1 1 ((xs.take c).map refV ++ [.ref (G.length + 1) 0])]).length (G.set Lg (Ob.var [.int .i64 most, v, .int .i64 q]) ++ [Ob.map (encM (ownAr a).nodes) a.clock, Ob.var (.mapr G.length :: (a.used.map vi ++ a.live.map vi)), Ob.vec 1 1 ((xs.take c).map refV ++ [.ref (G.length + 1) 0])]) := fun v q hv => by
    have hlx := hH.get h'
    simp only [Ob.lt, ltL, V.lt, and_true, true_and] at hlx
    rw [List.length_append, List.length_set, HLt_append]
    refine ⟨HLt_set (hHk _) ?_, ?_⟩
    · simp only [Ob.lt, ltL, V.lt, and_true, true_and]; exact hv
    · rw [HLt_cons, HLt_cons, HLt_cons]
      refine ⟨lt_encM _ _, ?_, ?_, HLt_nil⟩
      · simp only [Ob.lt, ltL, V.lt, ltL_append]
        exact ⟨by simp, lt_vi _ _, lt_vi _ _⟩
      · simp only [Ob.lt, ltL, V.lt, ltL_append, and_true]
        refine ⟨ltL_le (Nat.le_add_right _ _) _ ?_, by simp⟩
        rw [List.map_take]
        exact ltL_take hlx
  refine IfW.intro (fun h1 => ?_) (fun h1 => ?_)
  · have h1' := of_decide_eq_true h1
    rw [← hyl] at h1'
    rw [if_pos h1'] at hpx
    have w2 : IntKind.i64.wrap ((c : Int) - 1) = c - 1 := wrapI (by omega)
    (repeat (first | simp -dsimp only [zrUndo41, xnils, xnilm, xrange, xmakeMap, xslice3, st_ref, sz_ref, h1, hgL2, hsL2, htl, w2, RB, TB, keep52, tab52, xindexAddr, xindex, xslice, xconvert, xlen, ewOp, FreeW, StabW, SameW, ChangeW, AddW, BaseW, limBytes, simprocAttr, ne_eq] | ((with_reducible refine Need.intro ?_ ?_); (first | trivial | exact ⟨_, rfl⟩ | exact ⟨[], (List.append_nil _).symm⟩ | omega | (simp; done) | (simp; omega) | exact ⟨by first | trivial | (simp; done), _, by first | rfl | (simp; rfl)⟩))))
    refine RetW.keep false (by simp) (hlt1 _ _ (by simp [V.lt])) (by simp [okW, okW1, okW0, V.lt]) ⟨by simp [wk, wk1, wk0], 1, c, ?_, by omega, ?_⟩
    · rw [hpx, ← hys, List.take_of_length_le (by simp; omega)]
    · rw [hpx, List.length_drop, hyl]
      simp [refV]
  · have h1' := of_decide_eq_false h1
    rw [← hyl] at h1'
    rw [if_neg h1'] at hpx
    have w2 : IntKind.i64.wrap (((c + 1 : Nat) : Int) - 1) = c := by rw [wrapI (by omega)]; omega
    (repeat (first | simp -dsimp only [zrUndo41, xnils, xnilm, xrange, xmakeMap, xslice3, st_ref, sz_ref, h1, hgL2, hsL2, htl, w2, RB, TB, keep52, tab52, xindexAddr, xindex, xslice, xconvert, xlen, ewOp, FreeW, StabW, SameW, ChangeW, AddW, BaseW, limBytes, simprocAttr, ne_eq] | ((with_reducible refine Need.intro ?_ ?_); (first | trivial | exact ⟨_, rfl⟩ | exact ⟨[], (List.append_nil _).symm⟩ | omega | (simp; done) | (simp; omega) | exact ⟨by first | trivial | (simp; done), _, by first | rfl | (simp; rfl)⟩))))
    refine RetW.keep false (by simp) (hlt1 _ _ (by simp [V.lt])) (by simp [okW, okW1, okW0, V.lt]) ⟨by simp [wk, wk1, wk0], 0, c + 1, ?_, by omega, ?_⟩
    · rw [hpx, ← hys, List.drop_zero, List.take_of_length_le (by omega)]
    · rw [hpx, hyl]
      simp [refV]
theorem uPushS (G : List Ob) (Lg : Nat) (most now : Int) (xs : List Nat) (h : logS G Lg most now xs) (hm : 0 < most) (hm64 : most ≤ 64) (hx : (xs.length : Int) ≤ most) (hn : now < xs.length) (hn0 : -1 ≤ now) (A m : Nat) (a : Arena) (ha : arenaAt G A m a) (hok : okAr a) : SCall Try.prog 52 [.ref Lg 0, .ref A 0] G (fun r H' => r = .bool true ∧
    H' = G.set Lg (.var [.int .i64 most, .slice ((pushX most now xs (G.length + 1)).map refV), .int .i64 ((pushX most now xs (G.length + 1)).length - 1)]) ++ [.map (encM (ownAr a).nodes) a.clock, .var (.mapr G.length :: (a.used.map vi ++ a.live.map vi)), .gone]) := by
  have lL := (List.getElem?_eq_some_iff.1 h).1
  refine (uPush0S G Lg most now xs h hm hm64 hx hn hn0 A m a ha hok).ghoE ?_
  rintro r H' ⟨rfl, off, k, h1, h2, rfl⟩
  refine ⟨.bool true, _, ?_, rfl, rfl⟩
  have ho : (G.set Lg (.var [.int .i64 most, .vec (G.length + 2) 1 off k, .int .i64 ((pushX most now xs (G.length + 1)).length - 1)]) ++ [.map (encM (ownAr a).nodes) a.clock, .var (.mapr G.length :: (a.used.map vi ++ a.live.map vi)), .vec 1 1 ((xs.take (now + 1).toNat ++ [G.length + 1]).map refV)])[G.length + 2]? = some (.vec 1 1 ((xs.take (now + 1).toNat ++ [G.length + 1]).map refV)) := by rw [hgetS]; rfl
  refine Gho.conv (some (G.length + 2, 1, (xs.take (now + 1).toNat ++ [G.length + 1]).map refV)) (fun _ _ _ e => by cases e; exact ⟨⟨1, ho⟩, by rw [hgetS]; rfl⟩) (by simp) (fun j x hj hz => ?_) (EnvG.rfl' CvA.rfl' _)
  have hjz : j ≠ G.length + 2 := by rintro rfl; simp [isZ] at hz
  by_cases hjL : j = Lg
  · subst hjL
    rw [List.getElem?_append_left (by simpa using lL), List.getElem?_set_self lL] at hj
    injection hj with hj
    subst hj
    refine ⟨_, by rw [List.getElem?_append_left (by simpa using lL), List.getElem?_set_self lL], ?_⟩
    refine ⟨.inl (.inl rfl), .inr ⟨_, _, _, off, k, rfl, rfl, by rw [List.length_map]; exact h2, ?_⟩, .inl (.inl rfl), trivial⟩
    rw [← List.map_drop, ← List.map_take, h1]
  · refine ⟨x, ?_, ?_⟩
    · rcases Nat.lt_or_ge j G.length with hlt | hge
      · rw [List.getElem?_append_left (by simpa using hlt), List.getElem?_set_ne (Ne.symm hjL)] at hj ⊢
        exact hj
      · rw [List.getElem?_append_right (by simpa using hge)] at hj ⊢
        rw [List.length_set] at hj ⊢
        obtain ⟨d, hd⟩ : ∃ d, j - G.length = d := ⟨_, rfl⟩
        rw [hd] at hj ⊢
        match d, hd, hj with
        | 0, _, hj => exact hj
        | 1, _, hj => exact hj
        | 2, hd, hj => omega
        | d + 3, _, hj => simp at hj
    · cases x with
      | gone => trivial
      | hole => trivial
      | var cs => exact All2.rfl' (fun _ => .inl (.inl rfl)) _
      | vec v e l => exact ⟨rfl, rfl, All2.rfl' CvA.rfl' _⟩
      | raw _ _ _ _ => exact ⟨rfl, rfl, rfl, rfl⟩
      | map _ _ => exact ⟨rfl, All2.rfl' (fun _ => ⟨rfl, rfl, CvA.rfl' _⟩) _⟩
      | iter _ _ _ _ => exact ⟨rfl, rfl, rfl, rfl⟩
end Go.Proofs.Ytjplgbalpnlanaa

/- The walks of package route: Path, Calls, of any arena. -/
import Derived.Test.YtjplgbalpnlanaaRoute1
import Derived.Test.YtjplgbalpnlanaaRoute2
set_option linter.unusedSimpArgs false
set_option linter.unusedVariables false
set_option maxRecDepth 100000
namespace Go.Proofs.Ytjplgbalpnlanaa
open Go Go.EL
theorem zrRoute31 : type_of% (And.intro (And.intro (And.intro (And.intro (@st_run) (And.intro (@sz_run) (@st1_run))) (And.intro (And.intro (@cl_run) (@st_Str)) (And.intro (@sz_Str) (@st1_Str)))) (And.intro (And.intro (@cl_Str) (And.intro (@st_c) (@sz_c))) (And.intro (And.intro (@st1_c) (@cl_c)) (And.intro (@st_attr) (@sz_attr))))) (And.intro (And.intro (And.intro (@st1_attr) (And.intro (@cl_attr) (@st_hook))) (And.intro (And.intro (@sz_hook) (@st1_hook)) (And.intro (@cl_hook) (@st_node)))) (And.intro (And.intro (@sz_node) (And.intro (@st1_node) (@cl_node))) (And.intro (And.intro (@st_callr) (@sz_callr)) (And.intro (@st1_callr) (@cl_callr)))))) := And.intro (And.intro (And.intro (And.intro (@st_run) (And.intro (@sz_run) (@st1_run))) (And.intro (And.intro (@cl_run) (@st_Str)) (And.intro (@sz_Str) (@st1_Str)))) (And.intro (And.intro (@cl_Str) (And.intro (@st_c) (@sz_c))) (And.intro (And.intro (@st1_c) (@cl_c)) (And.intro (@st_attr) (@sz_attr))))) (And.intro (And.intro (And.intro (@st1_attr) (And.intro (@cl_attr) (@st_hook))) (And.intro (And.intro (@sz_hook) (@st1_hook)) (And.intro (@cl_hook) (@st_node)))) (And.intro (And.intro (@sz_node) (And.intro (@st1_node) (@cl_node))) (And.intro (And.intro (@st_callr) (@sz_callr)) (And.intro (@st1_callr) (@cl_callr)))))
theorem zlRoute31 : type_of% (And.intro (And.intro (And.intro (And.intro (@lt_vi) (And.intro (@lt_str) (@lt_vb))) (And.intro (@ltc_str) (And.intro (@ltc_vi) (@lt_run)))) (And.intro (And.intro (@lt1_run) (And.intro (@ltc_run) (@lt_Str))) (And.intro (And.intro (@lt1_Str) (@ltc_Str)) (And.intro (@lt_c) (@lt1_c))))) (And.intro (And.intro (And.intro (@ltc_c) (And.intro (@lt_attr) (@lt1_attr))) (And.intro (@ltc_attr) (And.intro (@lt_hook) (@lt1_hook)))) (And.intro (And.intro (@ltc_hook) (And.intro (@lt_node) (@lt1_node))) (And.intro (And.intro (@ltc_node) (@lt_callr)) (And.intro (@lt1_callr) (@ltc_callr)))))) := And.intro (And.intro (And.intro (And.intro (@lt_vi) (And.intro (@lt_str) (@lt_vb))) (And.intro (@ltc_str) (And.intro (@ltc_vi) (@lt_run)))) (And.intro (And.intro (@lt1_run) (And.intro (@ltc_run) (@lt_Str))) (And.intro (And.intro (@lt1_Str) (@ltc_Str)) (And.intro (@lt_c) (@lt1_c))))) (And.intro (And.intro (And.intro (@ltc_c) (And.intro (@lt_attr) (@lt1_attr))) (And.intro (@ltc_attr) (And.intro (@lt_hook) (@lt1_hook)))) (And.intro (And.intro (@ltc_hook) (And.intro (@lt_node) (@lt1_node))) (And.intro (And.intro (@ltc_node) (@lt_callr)) (And.intro (@lt1_callr) (@ltc_callr)))))
/-- from the root down to a target, or its component's mount -/
def rPathG (a : Arena) (k : Nat) (target : Int) : List Int :=
  if (nget a.nodes target).isSome = true then pathG a target
  else if target < 0 ∨ target.tdiv 1048576 < 1 ∨ 4 ≤ target.tdiv 1048576 then []
  else if mountG a k (target.tdiv 1048576) = 0 then [] else pathG a (mountG a k (target.tdiv 1048576))
theorem rPath (H : List Ob) (A m : Nat) (a : Arena) (h : arenaAt H A m a) (hok : ∀ p ∈ a.nodes, okN p.2.2) (hN : a.nodes.length ≤ 1000000) (hky : Keyed a.nodes) (k : Nat) (hd : deepG a k 0) (hsz : (idsG a k 0).length ≤ 1000000) (target : Int) (ht : IntKind.i64.wrap (target.tdiv 1048576) = target.tdiv 1048576) : SCall Try.prog 62 [.ref A 0, .int .i64 target] H (fun r H' => r = .slice ((rPathG a k target).map vi) ∧ H' = H) := by
  have lA := (List.getElem?_eq_some_iff.1 h.1).1
  cases hs : (nget a.nodes target).isSome with
  | true =>
    refine SCall.of_good fun hH => ?_
    have hHk := HLt.add hH
    refine SCall.of_code Tok Try.func62 rfl Try.call62 (n := 33) rfl (by simp) (rs := [.tmp 4]) rfl ?_
    refine EWn.to ?_
    refine EWn.of_c Tok mixed (own := false) keep62 tab62 (by kernel_rfl) ?_
    (repeat (first | simp -dsimp only [zrRoute31, xnils, xnilm, xrange, xmakeMap, xslice3, RB, TB, keep62, tab62, xindexAddr, xindex, xslice, xconvert, xlen, ewOp, FreeW, StabW, SameW, ChangeW, AddW, BaseW, limBytes, simprocAttr, ne_eq] | ((with_reducible refine Need.intro ?_ ?_); (first | trivial | exact ⟨_, rfl⟩ | exact ⟨[], (List.append_nil _).symm⟩ | omega | (simp; done) | (simp; omega) | exact ⟨by first | trivial | (simp; done), _, by first | rfl | (simp; rfl)⟩))))
    (first | refine SCall.then (aHas _ A m a h target) ?_ | refine SCall.thenA (aHas _ A m a h target) (by repeat (first | exact trivial | exact .inl (.inl rfl) | exact .inl (.inr ⟨_, rfl, rfl⟩) | exact .inl rfl | exact .inr ⟨_, rfl, rfl⟩ | refine .inr ⟨_, _, rfl, rfl, ?_⟩ | refine ⟨?_, ?_⟩)) ?_ | refine CallE.intro _ (aHas _ A m a h target) ?_ | refine CallE.introA (aHas _ A m a h target) (by repeat (first | exact trivial | exact .inl (.inl rfl) | exact .inl (.inr ⟨_, rfl, rfl⟩) | exact .inl rfl | exact .inr ⟨_, rfl, rfl⟩ | refine .inr ⟨_, _, rfl, rfl, ?_⟩ | refine ⟨?_, ?_⟩)) ?_ | refine CallE.intro _ (fun _ => aHas _ A m a h target) ?_ | refine CallE.intro _ (fun _ => SCall.arg (by repeat (first | exact trivial | exact .inl (.inl rfl) | exact .inl (.inr ⟨_, rfl, rfl⟩) | exact .inl rfl | exact .inr ⟨_, rfl, rfl⟩ | refine .inr ⟨_, _, rfl, rfl, ?_⟩ | refine ⟨?_, ?_⟩)) (aHas _ A m a h target)) ?_ | refine CallE2.intro _ _ (aHas _ A m a h target) ?_ | refine CallE2.intro _ _ (SCall.arg (by repeat (first | exact trivial | exact .inl (.inl rfl) | exact .inl (.inr ⟨_, rfl, rfl⟩) | exact .inl rfl | exact .inr ⟨_, rfl, rfl⟩ | refine .inr ⟨_, _, rfl, rfl, ?_⟩ | refine ⟨?_, ?_⟩)) (aHas _ A m a h target)) ?_)
    (repeat (first | simp -dsimp only [zrRoute31, xnils, xnilm, xrange, xmakeMap, xslice3, hs, RB, TB, keep62, tab62, xindexAddr, xindex, xslice, xconvert, xlen, ewOp, FreeW, StabW, SameW, ChangeW, AddW, BaseW, limBytes, simprocAttr, ne_eq] | ((with_reducible refine Need.intro ?_ ?_); (first | trivial | exact ⟨_, rfl⟩ | exact ⟨[], (List.append_nil _).symm⟩ | omega | (simp; done) | (simp; omega) | exact ⟨by first | trivial | (simp; done), _, by first | rfl | (simp; rfl)⟩))))
    (first | refine SCall.then (dPath _ A m a h hok hN hky target) ?_ | refine SCall.thenA (dPath _ A m a h hok hN hky target) (by repeat (first | exact trivial | exact .inl (.inl rfl) | exact .inl (.inr ⟨_, rfl, rfl⟩) | exact .inl rfl | exact .inr ⟨_, rfl, rfl⟩ | refine .inr ⟨_, _, rfl, rfl, ?_⟩ | refine ⟨?_, ?_⟩)) ?_ | refine CallE.intro _ (dPath _ A m a h hok hN hky target) ?_ | refine CallE.introA (dPath _ A m a h hok hN hky target) (by repeat (first | exact trivial | exact .inl (.inl rfl) | exact .inl (.inr ⟨_, rfl, rfl⟩) | exact .inl rfl | exact .inr ⟨_, rfl, rfl⟩ | refine .inr ⟨_, _, rfl, rfl, ?_⟩ | refine ⟨?_, ?_⟩)) ?_ | refine CallE.intro _ (fun _ => dPath _ A m a h hok hN hky target) ?_ | refine CallE.intro _ (fun _ => SCall.arg (by repeat (first | exact trivial | exact .inl (.inl rfl) | exact .inl (.inr ⟨_, rfl, rfl⟩) | exact .inl rfl | exact .inr ⟨_, rfl, rfl⟩ | refine .inr ⟨_, _, rfl, rfl, ?_⟩ | refine ⟨?_, ?_⟩)) (dPath _ A m a h hok hN hky target)) ?_ | refine CallE2.intro _ _ (dPath _ A m a h hok hN hky target) ?_ | refine CallE2.intro _ _ (SCall.arg (by repeat (first | exact trivial | exact .inl (.inl rfl) | exact .inl (.inr ⟨_, rfl, rfl⟩) | exact .inl rfl | exact .inr ⟨_, rfl, rfl⟩ | refine .inr ⟨_, _, rfl, rfl, ?_⟩ | refine ⟨?_, ?_⟩)) (dPath _ A m a h hok hN hky target)) ?_)
    (repeat (first | simp -dsimp only [zrRoute31, xnils, xnilm, xrange, xmakeMap, xslice3, RB, TB, keep62, tab62, xindexAddr, xindex, xslice, xconvert, xlen, ewOp, FreeW, StabW, SameW, ChangeW, AddW, BaseW, limBytes, simprocAttr, ne_eq] | ((with_reducible refine Need.intro ?_ ?_); (first | trivial | exact ⟨_, rfl⟩ | exact ⟨[], (List.append_nil _).symm⟩ | omega | (simp; done) | (simp; omega) | exact ⟨by first | trivial | (simp; done), _, by first | rfl | (simp; rfl)⟩))))
    refine RetW.auto0 false _ (by first | rfl | exact (List.append_nil _).symm) ?_ ?_
    · (simp (maxDischargeDepth := 6) [LTB, HLt_set, ltL_take, ltL_drop, ltL_rep, ltL_set, upd, eset, hH, hHk, zlRoute31] <;> omega)
    (try simp only [wk, wk1, wk0, RB, limBytes, simprocAttr, ne_eq])
    (try (rw [List.take_of_length_le]; rotate_left 1; (· first | (simp; done) | (simp; omega) | omega)))
    simp [rPathG, hs]
  | false =>
    refine SCall.of_good fun hH => ?_
    have hHk := HLt.add hH
    refine SCall.of_code Tok Try.func62 rfl Try.call62 (n := 33) rfl (by simp) (rs := [.tmp 4]) rfl ?_
    refine EWn.to ?_
    refine EWn.of_c Tok mixed (own := false) keep62 tab62 (by kernel_rfl) ?_
    (repeat (first | simp -dsimp only [zrRoute31, xnils, xnilm, xrange, xmakeMap, xslice3, RB, TB, keep62, tab62, xindexAddr, xindex, xslice, xconvert, xlen, ewOp, FreeW, StabW, SameW, ChangeW, AddW, BaseW, limBytes, simprocAttr, ne_eq] | ((with_reducible refine Need.intro ?_ ?_); (first | trivial | exact ⟨_, rfl⟩ | exact ⟨[], (List.append_nil _).symm⟩ | omega | (simp; done) | (simp; omega) | exact ⟨by first | trivial | (simp; done), _, by first | rfl | (simp; rfl)⟩))))
    (first | refine SCall.then (aHas _ A m a h target) ?_ | refine SCall.thenA (aHas _ A m a h target) (by repeat (first | exact trivial | exact .inl (.inl rfl) | exact .inl (.inr ⟨_, rfl, rfl⟩) | exact .inl rfl | exact .inr ⟨_, rfl, rfl⟩ | refine .inr ⟨_, _, rfl, rfl, ?_⟩ | refine ⟨?_, ?_⟩)) ?_ | refine CallE.intro _ (aHas _ A m a h target) ?_ | refine CallE.introA (aHas _ A m a h target) (by repeat (first | exact trivial | exact .inl (.inl rfl) | exact .inl (.inr ⟨_, rfl, rfl⟩) | exact .inl rfl | exact .inr ⟨_, rfl, rfl⟩ | refine .inr ⟨_, _, rfl, rfl, ?_⟩ | refine ⟨?_, ?_⟩)) ?_ | refine CallE.intro _ (fun _ => aHas _ A m a h target) ?_ | refine CallE.intro _ (fun _ => SCall.arg (by repeat (first | exact trivial | exact .inl (.inl rfl) | exact .inl (.inr ⟨_, rfl, rfl⟩) | exact .inl rfl | exact .inr ⟨_, rfl, rfl⟩ | refine .inr ⟨_, _, rfl, rfl, ?_⟩ | refine ⟨?_, ?_⟩)) (aHas _ A m a h target)) ?_ | refine CallE2.intro _ _ (aHas _ A m a h target) ?_ | refine CallE2.intro _ _ (SCall.arg (by repeat (first | exact trivial | exact .inl (.inl rfl) | exact .inl (.inr ⟨_, rfl, rfl⟩) | exact .inl rfl | exact .inr ⟨_, rfl, rfl⟩ | refine .inr ⟨_, _, rfl, rfl, ?_⟩ | refine ⟨?_, ?_⟩)) (aHas _ A m a h target)) ?_)
    (repeat (first | simp -dsimp only [zrRoute31, xnils, xnilm, xrange, xmakeMap, xslice3, hs, ht, RB, TB, keep62, tab62, xindexAddr, xindex, xslice, xconvert, xlen, ewOp, FreeW, StabW, SameW, ChangeW, AddW, BaseW, limBytes, simprocAttr, ne_eq] | ((with_reducible refine Need.intro ?_ ?_); (first | trivial | exact ⟨_, rfl⟩ | exact ⟨[], (List.append_nil _).symm⟩ | omega | (simp; done) | (simp; omega) | exact ⟨by first | trivial | (simp; done), _, by first | rfl | (simp; rfl)⟩))))
    have hp0 : rPathG a k target = if target < 0 ∨ target.tdiv 1048576 < 1 ∨ 4 ≤ target.tdiv 1048576 then [] else if mountG a k (target.tdiv 1048576) = 0 then [] else pathG a (mountG a k (target.tdiv 1048576)) := by
      unfold rPathG
      rw [if_neg (by rw [hs]; simp)]
    rw [hp0]
    generalize target.tdiv 1048576 = q at *
    refine IfW.intro (fun h1 => ?_) (fun h1 => ?_)
    · rw [if_pos (.inl (of_decide_eq_true h1))]
      (repeat (first | simp -dsimp only [zrRoute31, xnils, xnilm, xrange, xmakeMap, xslice3, h1, RB, TB, keep62, tab62, xindexAddr, xindex, xslice, xconvert, xlen, ewOp, FreeW, StabW, SameW, ChangeW, AddW, BaseW, limBytes, simprocAttr, ne_eq] | ((with_reducible refine Need.intro ?_ ?_); (first | trivial | exact ⟨_, rfl⟩ | exact ⟨[], (List.append_nil _).symm⟩ | omega | (simp; done) | (simp; omega) | exact ⟨by first | trivial | (simp; done), _, by first | rfl | (simp; rfl)⟩))))
      refine RetW.auto0 false _ (by first | rfl | exact (List.append_nil _).symm) ?_ ?_
      · (simp (maxDischargeDepth := 6) [LTB, HLt_set, ltL_take, ltL_drop, ltL_rep, ltL_set, upd, eset, hH, hHk, zlRoute31] <;> omega)
      (try simp only [wk, wk1, wk0, RB, limBytes, simprocAttr, ne_eq])
      (try (rw [List.take_of_length_le]; rotate_left 1; (· first | (simp; done) | (simp; omega) | omega)))
    · have h1' := of_decide_eq_false h1
      (repeat (first | simp -dsimp only [zrRoute31, xnils, xnilm, xrange, xmakeMap, xslice3, h1, RB, TB, keep62, tab62, xindexAddr, xindex, xslice, xconvert, xlen, ewOp, FreeW, StabW, SameW, ChangeW, AddW, BaseW, limBytes, simprocAttr, ne_eq] | ((with_reducible refine Need.intro ?_ ?_); (first | trivial | exact ⟨_, rfl⟩ | exact ⟨[], (List.append_nil _).symm⟩ | omega | (simp; done) | (simp; omega) | exact ⟨by first | trivial | (simp; done), _, by first | rfl | (simp; rfl)⟩))))
      refine IfW.intro (fun h2 => ?_) (fun h2 => ?_)
      · rw [if_pos (.inr (.inl (of_decide_eq_true h2)))]
        (repeat (first | simp -dsimp only [zrRoute31, xnils, xnilm, xrange, xmakeMap, xslice3, h2, RB, TB, keep62, tab62, xindexAddr, xindex, xslice, xconvert, xlen, ewOp, FreeW, StabW, SameW, ChangeW, AddW, BaseW, limBytes, simprocAttr, ne_eq] | ((with_reducible refine Need.intro ?_ ?_); (first | trivial | exact ⟨_, rfl⟩ | exact ⟨[], (List.append_nil _).symm⟩ | omega | (simp; done) | (simp; omega) | exact ⟨by first | trivial | (simp; done), _, by first | rfl | (simp; rfl)⟩))))
        refine RetW.auto0 false _ (by first | rfl | exact (List.append_nil _).symm) ?_ ?_
        · (simp (maxDischargeDepth := 6) [LTB, HLt_set, ltL_take, ltL_drop, ltL_rep, ltL_set, upd, eset, hH, hHk, zlRoute31] <;> omega)
        (try simp only [wk, wk1, wk0, RB, limBytes, simprocAttr, ne_eq])
        (try (rw [List.take_of_length_le]; rotate_left 1; (· first | (simp; done) | (simp; omega) | omega)))
      · have h2' := of_decide_eq_false h2
        (repeat (first | simp -dsimp only [zrRoute31, xnils, xnilm, xrange, xmakeMap, xslice3, h2, RB, TB, keep62, tab62, xindexAddr, xindex, xslice, xconvert, xlen, ewOp, FreeW, StabW, SameW, ChangeW, AddW, BaseW, limBytes, simprocAttr, ne_eq] | ((with_reducible refine Need.intro ?_ ?_); (first | trivial | exact ⟨_, rfl⟩ | exact ⟨[], (List.append_nil _).symm⟩ | omega | (simp; done) | (simp; omega) | exact ⟨by first | trivial | (simp; done), _, by first | rfl | (simp; rfl)⟩))))
        refine IfW.intro (fun h3 => ?_) (fun h3 => ?_)
        · rw [if_pos (.inr (.inr (by simpa using h3)))]
          (repeat (first | simp -dsimp only [zrRoute31, xnils, xnilm, xrange, xmakeMap, xslice3, h3, RB, TB, keep62, tab62, xindexAddr, xindex, xslice, xconvert, xlen, ewOp, FreeW, StabW, SameW, ChangeW, AddW, BaseW, limBytes, simprocAttr, ne_eq] | ((with_reducible refine Need.intro ?_ ?_); (first | trivial | exact ⟨_, rfl⟩ | exact ⟨[], (List.append_nil _).symm⟩ | omega | (simp; done) | (simp; omega) | exact ⟨by first | trivial | (simp; done), _, by first | rfl | (simp; rfl)⟩))))
          refine RetW.auto0 false _ (by first | rfl | exact (List.append_nil _).symm) ?_ ?_
          · (simp (maxDischargeDepth := 6) [LTB, HLt_set, ltL_take, ltL_drop, ltL_rep, ltL_set, upd, eset, hH, hHk, zlRoute31] <;> omega)
          (try simp only [wk, wk1, wk0, RB, limBytes, simprocAttr, ne_eq])
          (try (rw [List.take_of_length_le]; rotate_left 1; (· first | (simp; done) | (simp; omega) | omega)))
        · have h3' : ¬ (4 ≤ q) := by simpa using h3
          rw [if_neg (fun e => by rcases e with e | e | e; exact h1' e; exact h2' e; exact h3' e)]
          (repeat (first | simp -dsimp only [zrRoute31, xnils, xnilm, xrange, xmakeMap, xslice3, h3, RB, TB, keep62, tab62, xindexAddr, xindex, xslice, xconvert, xlen, ewOp, FreeW, StabW, SameW, ChangeW, AddW, BaseW, limBytes, simprocAttr, ne_eq] | ((with_reducible refine Need.intro ?_ ?_); (first | trivial | exact ⟨_, rfl⟩ | exact ⟨[], (List.append_nil _).symm⟩ | omega | (simp; done) | (simp; omega) | exact ⟨by first | trivial | (simp; done), _, by first | rfl | (simp; rfl)⟩))))
          (first | refine SCall.then (sMount _ A m a hok h k hd hsz q) ?_ | refine SCall.thenA (sMount _ A m a hok h k hd hsz q) (by repeat (first | exact trivial | exact .inl (.inl rfl) | exact .inl (.inr ⟨_, rfl, rfl⟩) | exact .inl rfl | exact .inr ⟨_, rfl, rfl⟩ | refine .inr ⟨_, _, rfl, rfl, ?_⟩ | refine ⟨?_, ?_⟩)) ?_ | refine CallE.intro _ (sMount _ A m a hok h k hd hsz q) ?_ | refine CallE.introA (sMount _ A m a hok h k hd hsz q) (by repeat (first | exact trivial | exact .inl (.inl rfl) | exact .inl (.inr ⟨_, rfl, rfl⟩) | exact .inl rfl | exact .inr ⟨_, rfl, rfl⟩ | refine .inr ⟨_, _, rfl, rfl, ?_⟩ | refine ⟨?_, ?_⟩)) ?_ | refine CallE.intro _ (fun _ => sMount _ A m a hok h k hd hsz q) ?_ | refine CallE.intro _ (fun _ => SCall.arg (by repeat (first | exact trivial | exact .inl (.inl rfl) | exact .inl (.inr ⟨_, rfl, rfl⟩) | exact .inl rfl | exact .inr ⟨_, rfl, rfl⟩ | refine .inr ⟨_, _, rfl, rfl, ?_⟩ | refine ⟨?_, ?_⟩)) (sMount _ A m a hok h k hd hsz q)) ?_ | refine CallE2.intro _ _ (sMount _ A m a hok h k hd hsz q) ?_ | refine CallE2.intro _ _ (SCall.arg (by repeat (first | exact trivial | exact .inl (.inl rfl) | exact .inl (.inr ⟨_, rfl, rfl⟩) | exact .inl rfl | exact .inr ⟨_, rfl, rfl⟩ | refine .inr ⟨_, _, rfl, rfl, ?_⟩ | refine ⟨?_, ?_⟩)) (sMount _ A m a hok h k hd hsz q)) ?_)
          (repeat (first | simp -dsimp only [zrRoute31, xnils, xnilm, xrange, xmakeMap, xslice3, RB, TB, keep62, tab62, xindexAddr, xindex, xslice, xconvert, xlen, ewOp, FreeW, StabW, SameW, ChangeW, AddW, BaseW, limBytes, simprocAttr, ne_eq] | ((with_reducible refine Need.intro ?_ ?_); (first | trivial | exact ⟨_, rfl⟩ | exact ⟨[], (List.append_nil _).symm⟩ | omega | (simp; done) | (simp; omega) | exact ⟨by first | trivial | (simp; done), _, by first | rfl | (simp; rfl)⟩))))
          refine IfW.intro (fun h4 => ?_) (fun h4 => ?_)
          · rw [if_pos (by simpa using h4)]
            (repeat (first | simp -dsimp only [zrRoute31, xnils, xnilm, xrange, xmakeMap, xslice3, h4, RB, TB, keep62, tab62, xindexAddr, xindex, xslice, xconvert, xlen, ewOp, FreeW, StabW, SameW, ChangeW, AddW, BaseW, limBytes, simprocAttr, ne_eq] | ((with_reducible refine Need.intro ?_ ?_); (first | trivial | exact ⟨_, rfl⟩ | exact ⟨[], (List.append_nil _).symm⟩ | omega | (simp; done) | (simp; omega) | exact ⟨by first | trivial | (simp; done), _, by first | rfl | (simp; rfl)⟩))))
            refine RetW.auto0 false _ (by first | rfl | exact (List.append_nil _).symm) ?_ ?_
            · (simp (maxDischargeDepth := 6) [LTB, HLt_set, ltL_take, ltL_drop, ltL_rep, ltL_set, upd, eset, hH, hHk, zlRoute31] <;> omega)
            (try simp only [wk, wk1, wk0, RB, limBytes, simprocAttr, ne_eq])
            (try (rw [List.take_of_length_le]; rotate_left 1; (· first | (simp; done) | (simp; omega) | omega)))
          · rw [if_neg (by simpa using h4)]
            (repeat (first | simp -dsimp only [zrRoute31, xnils, xnilm, xrange, xmakeMap, xslice3, h4, RB, TB, keep62, tab62, xindexAddr, xindex, xslice, xconvert, xlen, ewOp, FreeW, StabW, SameW, ChangeW, AddW, BaseW, limBytes, simprocAttr, ne_eq] | ((with_reducible refine Need.intro ?_ ?_); (first | trivial | exact ⟨_, rfl⟩ | exact ⟨[], (List.append_nil _).symm⟩ | omega | (simp; done) | (simp; omega) | exact ⟨by first | trivial | (simp; done), _, by first | rfl | (simp; rfl)⟩))))
            (first | refine SCall.then (dPath _ A m a h hok hN hky (mountG a k q)) ?_ | refine SCall.thenA (dPath _ A m a h hok hN hky (mountG a k q)) (by repeat (first | exact trivial | exact .inl (.inl rfl) | exact .inl (.inr ⟨_, rfl, rfl⟩) | exact .inl rfl | exact .inr ⟨_, rfl, rfl⟩ | refine .inr ⟨_, _, rfl, rfl, ?_⟩ | refine ⟨?_, ?_⟩)) ?_ | refine CallE.intro _ (dPath _ A m a h hok hN hky (mountG a k q)) ?_ | refine CallE.introA (dPath _ A m a h hok hN hky (mountG a k q)) (by repeat (first | exact trivial | exact .inl (.inl rfl) | exact .inl (.inr ⟨_, rfl, rfl⟩) | exact .inl rfl | exact .inr ⟨_, rfl, rfl⟩ | refine .inr ⟨_, _, rfl, rfl, ?_⟩ | refine ⟨?_, ?_⟩)) ?_ | refine CallE.intro _ (fun _ => dPath _ A m a h hok hN hky (mountG a k q)) ?_ | refine CallE.intro _ (fun _ => SCall.arg (by repeat (first | exact trivial | exact .inl (.inl rfl) | exact .inl (.inr ⟨_, rfl, rfl⟩) | exact .inl rfl | exact .inr ⟨_, rfl, rfl⟩ | refine .inr ⟨_, _, rfl, rfl, ?_⟩ | refine ⟨?_, ?_⟩)) (dPath _ A m a h hok hN hky (mountG a k q))) ?_ | refine CallE2.intro _ _ (dPath _ A m a h hok hN hky (mountG a k q)) ?_ | refine CallE2.intro _ _ (SCall.arg (by repeat (first | exact trivial | exact .inl (.inl rfl) | exact .inl (.inr ⟨_, rfl, rfl⟩) | exact .inl rfl | exact .inr ⟨_, rfl, rfl⟩ | refine .inr ⟨_, _, rfl, rfl, ?_⟩ | refine ⟨?_, ?_⟩)) (dPath _ A m a h hok hN hky (mountG a k q))) ?_)
            (repeat (first | simp -dsimp only [zrRoute31, xnils, xnilm, xrange, xmakeMap, xslice3, RB, TB, keep62, tab62, xindexAddr, xindex, xslice, xconvert, xlen, ewOp, FreeW, StabW, SameW, ChangeW, AddW, BaseW, limBytes, simprocAttr, ne_eq] | ((with_reducible refine Need.intro ?_ ?_); (first | trivial | exact ⟨_, rfl⟩ | exact ⟨[], (List.append_nil _).symm⟩ | omega | (simp; done) | (simp; omega) | exact ⟨by first | trivial | (simp; done), _, by first | rfl | (simp; rfl)⟩))))
            refine RetW.auto0 false _ (by first | rfl | exact (List.append_nil _).symm) ?_ ?_
            · (simp (maxDischargeDepth := 6) [LTB, HLt_set, ltL_take, ltL_drop, ltL_rep, ltL_set, upd, eset, hH, hHk, zlRoute31] <;> omega)
            (try simp only [wk, wk1, wk0, RB, limBytes, simprocAttr, ne_eq])
            (try (rw [List.take_of_length_le]; rotate_left 1; (· first | (simp; done) | (simp; omega) | omega)))
def phB (i many : Nat) (other : Int) : Int := if i + 1 = many then 2 else other
def callsA (a : Arena) (ev : Int) (l : List Int) (cap : Bool) (other : Int) (v : List (Nat × Int)) : List Callr := v.flatMap fun p => toldF (nodeAt a p.2) ev cap (phB p.1 l.length other) (nodeAt a p.2).hooks
def visF (l : List Int) : List (Nat × Int) := l.zipIdx.map fun p => (p.2, p.1)
theorem visF_get (l : List Int) (i : Nat) (h : i < l.length) : (visF l)[i]? = some (i, l[i]) := by
  unfold visF
  rw [List.getElem?_map, List.getElem?_zipIdx, List.getElem?_eq_getElem h]; simp
theorem visF_len (l : List Int) : (visF l).length = l.length := by simp [visF]
theorem callsA_app (a : Arena) (ev : Int) (l : List Int) (cap : Bool) (other : Int) (v w : List (Nat × Int)) : callsA a ev l cap other (v ++ w) = callsA a ev l cap other v ++ callsA a ev l cap other w := by unfold callsA; rw [List.flatMap_append]
theorem callsA_one (a : Arena) (ev : Int) (l : List Int) (cap : Bool) (other : Int) (p : Nat × Int) : callsA a ev l cap other [p] = toldF (nodeAt a p.2) ev cap (phB p.1 l.length other) (nodeAt a p.2).hooks := by simp [callsA]
theorem nodeAt_hooks {a : Arena} {B : Nat} (hB : ∀ p ∈ a.nodes, p.2.2.hooks.length ≤ B) (id : Int) : (nodeAt a id).hooks.length ≤ B := by
  unfold nodeAt
  cases hn : nget a.nodes id with
  | none => simp [nodeZ]
  | some n =>
    obtain ⟨p, hp, rfl⟩ := nget_mem hn
    exact hB p hp
theorem callsA_len {a : Arena} {B : Nat} (hB : ∀ p ∈ a.nodes, p.2.2.hooks.length ≤ B) (ev : Int) (l : List Int) (cap : Bool) (other : Int) : ∀ v : List (Nat × Int), (callsA a ev l cap other v).length ≤ v.length * B
  | [] => by simp [callsA]
  | p :: v => by
    have h1 := callsA_len hB ev l cap other v
    have h2 := toldF_len (nodeAt a p.2) ev cap (phB p.1 l.length other) (nodeAt a p.2).hooks
    have h3 := nodeAt_hooks hB p.2
    rw [show p :: v = [p] ++ v from rfl, callsA_app, callsA_one, List.length_append, List.length_append, List.length_singleton, Nat.add_mul]
    omega
section
variable {H R M : List Ob} {a b c d e f : Ob}
theorem hgetR6 : (H ++ a :: b :: c :: d :: e :: f :: (R ++ M))[H.length + (R.length + 6)]? = M[0]? := by
  have h : H ++ a :: b :: c :: d :: e :: f :: (R ++ M) = (H ++ a :: b :: c :: d :: e :: f :: R) ++ M := by simp
  rw [h, show H.length + (R.length + 6) = (H ++ a :: b :: c :: d :: e :: f :: R).length from by simp, hget0]
theorem hsetR6 {x : Ob} : (H ++ a :: b :: c :: d :: e :: f :: (R ++ M)).set (H.length + (R.length + 6)) x = H ++ a :: b :: c :: d :: e :: f :: (R ++ M.set 0 x) := by
  have h : H ++ a :: b :: c :: d :: e :: f :: (R ++ M) = (H ++ a :: b :: c :: d :: e :: f :: R) ++ M := by simp
  rw [h, show H.length + (R.length + 6) = (H ++ a :: b :: c :: d :: e :: f :: R).length from by simp, hset0]
  simp
end
/-- who is told -/
def callsG (a : Arena) (ev : Int) (l : List Int) : List Callr := callsA a ev l true 1 (visF l) ++ callsA a ev l false 3 (visB l)
theorem rPhB (H : List Ob) (i : Nat) (l : List Int) (other : Int) (hi : i ≤ 1000) (hl : l.length ≤ 1000) : SCall Try.prog 125 [.int .i64 i, .int .i64 (l.map vi).length, .int .i64 other] H (fun r H' => r = .int .i64 (phB i l.length other) ∧ H' = H) := by
  rw [List.length_map]
  refine (rPhase H i l.length other ⟨by omega, by omega⟩).mono fun r H' h => ⟨?_, h.2⟩
  rw [h.1]
  unfold phB
  congr 1
  by_cases e : i + 1 = l.length
  · rw [if_pos e, if_pos (by omega)]
  · rw [if_neg e, if_neg (by omega)]
set_option maxHeartbeats 4000000 in
theorem rCalls (H : List Ob) (A m : Nat) (a : Arena) (h : arenaAt H A m a) (hok : ∀ p ∈ a.nodes, okN p.2.2) (hN : a.nodes.length ≤ 1000000) (hky : Keyed a.nodes) (k : Nat) (hd : deepG a k 0) (hsz : (idsG a k 0).length ≤ 1000000) (target ev : Int) (ht : IntKind.i64.wrap (target.tdiv 1048576) = target.tdiv 1048576)
    (hB : ∀ p ∈ a.nodes, p.2.2.hooks.length ≤ 2000000) (hP : (rPathG a k target).length ≤ 100) : SCall Try.prog 64 [.ref A 0, .int .i64 target, .int .i64 ev] H (fun r H' => r = .slice ((callsG a ev (rPathG a k target)).map callV) ∧ H' = H) := by
  have lA := (List.getElem?_eq_some_iff.1 h.1).1
  obtain ⟨l, hl⟩ : ∃ l, l = rPathG a k target := ⟨_, rfl⟩
  have hpath := fun K => rPath (H ++ K) A m a (arena_app h K) hok hN hky k hd hsz target ht
  rw [← hl] at hP hpath ⊢
  clear hl
  have hlen1 := callsA_len hB ev l true 1 (visF l)
  rw [visF_len] at hlen1
  have hlen1 : (callsA a ev l true 1 (visF l)).length ≤ 200000000 := Nat.le_trans hlen1 (by omega)
  refine SCall.of_good fun hH => ?_
  have hHk := HLt.add hH
  refine ofBack (env := [(3, .ref H.length 0), (5, .ref (H.length + 1) 0), (7, .ref (H.length + 2) 0), (8, .ref (H.length + 3) 0), (44, .fn (.func 164) [] [.ref (H.length + 5) 0])]) (cc := H.length + 5) Try.func64 rfl Try.call64 (n := 63) rfl (by simp) (rs := [.tmp 6]) rfl [(), (), ()] (by simp only [headC]; rfl) (by simp only [tailC]; rfl) (by kernel_rfl) keep64 tab64 (by kernel_rfl) (by kernel_rfl) (l) ((by omega)) (ι := (List Callr) × (Nat)) (fun (x_ : (List Callr) × (Nat)) => match x_ with | (L, ver) => H ++ [.var [.ref A 0], .var [.int .i64 ev], .var [.vec (H.length + 4) ver 0 L.length], .var [.slice (l.map vi)], .vec ver 4 (L.map callV), .var [.slice (l.map vi)]]) (fun pre_ => fun (x_ : (List Callr) × (Nat)) => match x_ with | (L, ver) => L = callsA a ev l true 1 (visF l) ++ callsA a ev l false 3 pre_) ((callsA a ev l true 1 (visF l)), 1 + l.length) (fun a_ N_ => [(3, .ref H.length 0), (5, .ref (H.length + 1) 0), (7, .ref (H.length + 2) 0), (8, .ref (H.length + 3) 0), (13, .int .i64 a_.1), (14, .int .i64 a_.2)]) (fun a_ N_ => []) ?_ rfl (by intro x_; first | (rw [hget0]; rfl) | (rw [hget]; rfl)) ?_ (fun _ => by simp) ?_ rfl (by simp) (by simp) ?_ ?_ ?_
  · (repeat (first | simp -dsimp only [zrRoute31, xnils, xnilm, xrange, xmakeMap, xslice3, RB, TB, keep64, tab64, xindexAddr, xindex, xslice, xconvert, xlen, ewOp, FreeW, StabW, SameW, ChangeW, AddW, BaseW, limBytes, simprocAttr, ne_eq] | ((with_reducible refine Need.intro ?_ ?_); (first | trivial | exact ⟨_, rfl⟩ | exact ⟨[], (List.append_nil _).symm⟩ | omega | (simp; done) | (simp; omega) | exact ⟨by first | trivial | (simp; done), _, by first | rfl | (simp; rfl)⟩))))
    (first | refine SCall.then (hpath _) ?_ | refine SCall.thenA (hpath _) (by repeat (first | exact trivial | exact .inl (.inl rfl) | exact .inl (.inr ⟨_, rfl, rfl⟩) | exact .inl rfl | exact .inr ⟨_, rfl, rfl⟩ | refine .inr ⟨_, _, rfl, rfl, ?_⟩ | refine ⟨?_, ?_⟩)) ?_ | refine CallE.intro _ (hpath _) ?_ | refine CallE.introA (hpath _) (by repeat (first | exact trivial | exact .inl (.inl rfl) | exact .inl (.inr ⟨_, rfl, rfl⟩) | exact .inl rfl | exact .inr ⟨_, rfl, rfl⟩ | refine .inr ⟨_, _, rfl, rfl, ?_⟩ | refine ⟨?_, ?_⟩)) ?_ | refine CallE.intro _ (fun _ => hpath _) ?_ | refine CallE.intro _ (fun _ => SCall.arg (by repeat (first | exact trivial | exact .inl (.inl rfl) | exact .inl (.inr ⟨_, rfl, rfl⟩) | exact .inl rfl | exact .inr ⟨_, rfl, rfl⟩ | refine .inr ⟨_, _, rfl, rfl, ?_⟩ | refine ⟨?_, ?_⟩)) (hpath _)) ?_ | refine CallE2.intro _ _ (hpath _) ?_ | refine CallE2.intro _ _ (SCall.arg (by repeat (first | exact trivial | exact .inl (.inl rfl) | exact .inl (.inr ⟨_, rfl, rfl⟩) | exact .inl rfl | exact .inr ⟨_, rfl, rfl⟩ | refine .inr ⟨_, _, rfl, rfl, ?_⟩ | refine ⟨?_, ?_⟩)) (hpath _)) ?_)
    (repeat (first | simp -dsimp only [zrRoute31, xnils, xnilm, xrange, xmakeMap, xslice3, RB, TB, keep64, tab64, xindexAddr, xindex, xslice, xconvert, xlen, ewOp, FreeW, StabW, SameW, ChangeW, AddW, BaseW, limBytes, simprocAttr, ne_eq] | ((with_reducible refine Need.intro ?_ ?_); (first | trivial | exact ⟨_, rfl⟩ | exact ⟨[], (List.append_nil _).symm⟩ | omega | (simp; done) | (simp; omega) | exact ⟨by first | trivial | (simp; done), _, by first | rfl | (simp; rfl)⟩))))
    refine EWn.ghost (Gho.adoptCell (H.length + 2) 0 4 (by simp only [RB, hget]; rfl) rfl (by simp)) ?_
    simp only [RB, limBytes, simprocAttr, ne_eq]
    obtain ⟨cd, hcd⟩ : ∃ cd : Nat → List Callr, ∀ i, cd i = callsA a ev l true 1 ((visF l).take i) := ⟨_, fun _ => rfl⟩
    have hcd0 : cd 0 = [] := by rw [hcd]; simp [callsA]
    have hcdn : callsA a ev l true 1 (visF l) = cd l.length := by rw [hcd, ← visF_len, List.take_length]
    have hcds : ∀ i, (hi : i < l.length) → cd (i + 1) = cd i ++ toldF (nodeAt a l[i]) ev true (phB i l.length 1) (nodeAt a l[i]).hooks := fun i hi => by
      have hvi : i < (visF l).length := by rw [visF_len]; exact hi
      have hg := visF_get l i hi
      rw [List.getElem?_eq_getElem hvi] at hg
      rw [hcd, hcd, List.take_succ_eq_append_getElem hvi, callsA_app, Option.some.inj hg, callsA_one]
    have hcdl : ∀ i, (cd i).length ≤ 200000000 := fun i => by
      rw [hcd]
      have h1 := callsA_len hB ev l true 1 ((visF l).take i)
      have h2 : ((visF l).take i).length ≤ 100 := by rw [List.length_take, visF_len]; omega
      have h3 : ((visF l).take i).length * 2000000 ≤ 100 * 2000000 := Nat.mul_le_mul_right _ h2
      omega
    rw [hcdn]
    clear hcd hcdn hlen1
    refine EWn.loopE (ι := (Nat)) (fun (i : (Nat)) => i ≤ l.length) (fun (i : (Nat)) => l.length - i) (fun (i : (Nat)) => [(22, .int .i64 i)]) (fun (i : (Nat)) => H ++ [.var [.ref A 0], .var [.int .i64 ev], .var [.vec (H.length + 4) (1 + i) 0 (cd i).length], .var [.slice (l.map vi)], .vec (1 + i) 4 ((cd i).map callV)]) (0) ?_ ?_ ?_ ?_ ?_
    · first | rfl | (simp [upd, eset]; done) | (simp [upd, eset, hcd0, vi]; done)
    · simp [hcd0, vi]
    · rintro i hok; exact ⟨by first | (simp; done) | (simp; omega), by (simp (maxDischargeDepth := 6) [LTB, HLt_set, ltL_take, ltL_drop, ltL_rep, ltL_set, upd, eset, hH, hHk, zlRoute31] <;> omega), by (simp (maxDischargeDepth := 6) [LTB, HLt_set, ltL_take, ltL_drop, ltL_rep, ltL_set, upd, eset, hH, hHk, zlRoute31] <;> omega)⟩
    · omega
    rintro i hi
    have hcl := hcdl i
    refine EWn.of_c Tok mixed (own := false) keep64 tab64 (by kernel_rfl) ?_
    (repeat (first | simp -dsimp only [zrRoute31, xnils, xnilm, xrange, xmakeMap, xslice3, RB, TB, keep64, tab64, xindexAddr, xindex, xslice, xconvert, xlen, ewOp, FreeW, StabW, SameW, ChangeW, AddW, BaseW, limBytes, simprocAttr, ne_eq] | ((with_reducible refine Need.intro ?_ ?_); (first | trivial | exact ⟨_, rfl⟩ | exact ⟨[], (List.append_nil _).symm⟩ | omega | (simp; done) | (simp; omega) | exact ⟨by first | trivial | (simp; done), _, by first | rfl | (simp; rfl)⟩))))
    refine IfW.intro (fun hs => ?_) (fun hs => ?_)
    · have hlt := lt_of hs
      have hmi := at_map vi l i hlt
      simp only [vi] at hmi
      have hsucc := hcds i hlt
      have hhk := nodeAt_hooks hB l[i]
      (repeat (first | simp -dsimp only [zrRoute31, xnils, xnilm, xrange, xmakeMap, xslice3, hs, hmi, RB, TB, keep64, tab64, xindexAddr, xindex, xslice, xconvert, xlen, ewOp, FreeW, StabW, SameW, ChangeW, AddW, BaseW, limBytes, simprocAttr, ne_eq] | ((with_reducible refine Need.intro ?_ ?_); (first | trivial | exact ⟨_, rfl⟩ | exact ⟨[], (List.append_nil _).symm⟩ | omega | (simp; done) | (simp; omega) | exact ⟨by first | trivial | (simp; done), _, by first | rfl | (simp; rfl)⟩))))
      (first | refine SCall.then (aGetF _ A m a (arena_app h _) hok l[i]) ?_ | refine SCall.thenA (aGetF _ A m a (arena_app h _) hok l[i]) (by repeat (first | exact trivial | exact .inl (.inl rfl) | exact .inl (.inr ⟨_, rfl, rfl⟩) | exact .inl rfl | exact .inr ⟨_, rfl, rfl⟩ | refine .inr ⟨_, _, rfl, rfl, ?_⟩ | refine ⟨?_, ?_⟩)) ?_ | refine CallE.intro _ (aGetF _ A m a (arena_app h _) hok l[i]) ?_ | refine CallE.introA (aGetF _ A m a (arena_app h _) hok l[i]) (by repeat (first | exact trivial | exact .inl (.inl rfl) | exact .inl (.inr ⟨_, rfl, rfl⟩) | exact .inl rfl | exact .inr ⟨_, rfl, rfl⟩ | refine .inr ⟨_, _, rfl, rfl, ?_⟩ | refine ⟨?_, ?_⟩)) ?_ | refine CallE.intro _ (fun _ => aGetF _ A m a (arena_app h _) hok l[i]) ?_ | refine CallE.intro _ (fun _ => SCall.arg (by repeat (first | exact trivial | exact .inl (.inl rfl) | exact .inl (.inr ⟨_, rfl, rfl⟩) | exact .inl rfl | exact .inr ⟨_, rfl, rfl⟩ | refine .inr ⟨_, _, rfl, rfl, ?_⟩ | refine ⟨?_, ?_⟩)) (aGetF _ A m a (arena_app h _) hok l[i])) ?_ | refine CallE2.intro _ _ (aGetF _ A m a (arena_app h _) hok l[i]) ?_ | refine CallE2.intro _ _ (SCall.arg (by repeat (first | exact trivial | exact .inl (.inl rfl) | exact .inl (.inr ⟨_, rfl, rfl⟩) | exact .inl rfl | exact .inr ⟨_, rfl, rfl⟩ | refine .inr ⟨_, _, rfl, rfl, ?_⟩ | refine ⟨?_, ?_⟩)) (aGetF _ A m a (arena_app h _) hok l[i])) ?_)
      (repeat (first | simp -dsimp only [zrRoute31, xnils, xnilm, xrange, xmakeMap, xslice3, nodeV, RB, TB, keep64, tab64, xindexAddr, xindex, xslice, xconvert, xlen, ewOp, FreeW, StabW, SameW, ChangeW, AddW, BaseW, limBytes, simprocAttr, ne_eq] | ((with_reducible refine Need.intro ?_ ?_); (first | trivial | exact ⟨_, rfl⟩ | exact ⟨[], (List.append_nil _).symm⟩ | omega | (simp; done) | (simp; omega) | exact ⟨by first | trivial | (simp; done), _, by first | rfl | (simp; rfl)⟩))))
      refine CallE.intro _ (rPhB _ i l 1 (by omega) (by omega)) ?_
      (repeat (first | simp -dsimp only [zrRoute31, xnils, xnilm, xrange, xmakeMap, xslice3, nodeV, RB, TB, keep64, tab64, xindexAddr, xindex, xslice, xconvert, xlen, ewOp, FreeW, StabW, SameW, ChangeW, AddW, BaseW, limBytes, simprocAttr, ne_eq] | ((with_reducible refine Need.intro ?_ ?_); (first | trivial | exact ⟨_, rfl⟩ | exact ⟨[], (List.append_nil _).symm⟩ | omega | (simp; done) | (simp; omega) | exact ⟨by first | trivial | (simp; done), _, by first | rfl | (simp; rfl)⟩))))
      refine CallE.intro _ (rTold _ (nodeAt a l[i]) ev true (phB i l.length 1) (by omega)) ?_
      have hl2 := toldF_len (nodeAt a l[i]) ev true (phB i l.length 1) (nodeAt a l[i]).hooks
      generalize toldF (nodeAt a l[i]) ev true (phB i l.length 1) (nodeAt a l[i]).hooks = l2 at *
      have hl2b : l2.length ≤ 2000000 := Nat.le_trans hl2 hhk
      (repeat (first | simp -dsimp only [zrRoute31, xnils, xnilm, xrange, xmakeMap, xslice3, nodeV, RB, TB, keep64, tab64, xindexAddr, xindex, xslice, xconvert, xlen, ewOp, FreeW, StabW, SameW, ChangeW, AddW, BaseW, limBytes, simprocAttr, ne_eq] | ((with_reducible refine Need.intro ?_ ?_); (first | trivial | exact ⟨_, rfl⟩ | exact ⟨[], (List.append_nil _).symm⟩ | omega | (simp; done) | (simp; omega) | exact ⟨by first | trivial | (simp; done), _, by first | rfl | (simp; rfl)⟩))))
      rw [wrapI (by omega)]
      refine UpTo.here ⟨i + 1, hlt, by simp only; omega, by simp [upd, eset], ⟨_, by simp only [hsucc, List.map_append, List.length_append]; simp; rfl⟩⟩
    · have hi2 : i = l.length := Nat.le_antisymm hi (ge_of hs)
      subst hi2
      (repeat (first | simp -dsimp only [zrRoute31, xnils, xnilm, xrange, xmakeMap, xslice3, hs, RB, TB, keep64, tab64, xindexAddr, xindex, xslice, xconvert, xlen, ewOp, FreeW, StabW, SameW, ChangeW, AddW, BaseW, limBytes, simprocAttr, ne_eq] | ((with_reducible refine Need.intro ?_ ?_); (first | trivial | exact ⟨_, rfl⟩ | exact ⟨[], (List.append_nil _).symm⟩ | omega | (simp; done) | (simp; omega) | exact ⟨by first | trivial | (simp; done), _, by first | rfl | (simp; rfl)⟩))))
      (first | refine SCall.then (back _ l) ?_ | refine SCall.thenA (back _ l) (by repeat (first | exact trivial | exact .inl (.inl rfl) | exact .inl (.inr ⟨_, rfl, rfl⟩) | exact .inl rfl | exact .inr ⟨_, rfl, rfl⟩ | refine .inr ⟨_, _, rfl, rfl, ?_⟩ | refine ⟨?_, ?_⟩)) ?_ | refine CallE.intro _ (back _ l) ?_ | refine CallE.introA (back _ l) (by repeat (first | exact trivial | exact .inl (.inl rfl) | exact .inl (.inr ⟨_, rfl, rfl⟩) | exact .inl rfl | exact .inr ⟨_, rfl, rfl⟩ | refine .inr ⟨_, _, rfl, rfl, ?_⟩ | refine ⟨?_, ?_⟩)) ?_ | refine CallE.intro _ (fun _ => back _ l) ?_ | refine CallE.intro _ (fun _ => SCall.arg (by repeat (first | exact trivial | exact .inl (.inl rfl) | exact .inl (.inr ⟨_, rfl, rfl⟩) | exact .inl rfl | exact .inr ⟨_, rfl, rfl⟩ | refine .inr ⟨_, _, rfl, rfl, ?_⟩ | refine ⟨?_, ?_⟩)) (back _ l)) ?_ | refine CallE2.intro _ _ (back _ l) ?_ | refine CallE2.intro _ _ (SCall.arg (by repeat (first | exact trivial | exact .inl (.inl rfl) | exact .inl (.inr ⟨_, rfl, rfl⟩) | exact .inl rfl | exact .inr ⟨_, rfl, rfl⟩ | refine .inr ⟨_, _, rfl, rfl, ?_⟩ | refine ⟨?_, ?_⟩)) (back _ l)) ?_)
      (repeat (first | simp -dsimp only [zrRoute31, xnils, xnilm, xrange, xmakeMap, xslice3, RB, TB, keep64, tab64, xindexAddr, xindex, xslice, xconvert, xlen, ewOp, FreeW, StabW, SameW, ChangeW, AddW, BaseW, limBytes, simprocAttr, ne_eq] | ((with_reducible refine Need.intro ?_ ?_); (first | trivial | exact ⟨_, rfl⟩ | exact ⟨[], (List.append_nil _).symm⟩ | omega | (simp; done) | (simp; omega) | exact ⟨by first | trivial | (simp; done), _, by first | rfl | (simp; rfl)⟩))))
      exact UpTo.here ⟨by simp [restr, eget], by simp⟩
  · simp [callsA]
  · rintro pre ⟨L, ver⟩ h
    (simp (maxDischargeDepth := 6) [LTB, HLt_set, ltL_take, ltL_drop, ltL_rep, ltL_set, upd, eset, hH, hHk, zlRoute31] <;> omega)
  · rintro pre a post ⟨L, ver⟩ R hv h
    rw [updP_twoB]
    simp only [eset, limBytes, simprocAttr, ne_eq]
    refine EWn.of_c Tok mixed (own := false) keep64 tab64 (by kernel_rfl) ?_
    (repeat (first | simp -dsimp only [zrRoute31, xnils, xnilm, xrange, xmakeMap, xslice3, RB, TB, keep64, tab64, xindexAddr, xindex, xslice, xconvert, xlen, ewOp, FreeW, StabW, SameW, ChangeW, AddW, BaseW, limBytes, simprocAttr, ne_eq] | ((with_reducible refine Need.intro ?_ ?_); (first | trivial | exact ⟨_, rfl⟩ | exact ⟨[], (List.append_nil _).symm⟩ | omega | (simp; done) | (simp; omega) | exact ⟨by first | trivial | (simp; done), _, by first | rfl | (simp; rfl)⟩))))
  · rintro pre a_ post ⟨L, ver⟩ R hv hq hHR
    have hq : L = callsA a ev l true 1 (visF l) ++ callsA a ev l false 3 pre := hq
    have hvl : pre.length + 1 + post.length = l.length := by rw [← visB_len l, hv]; simp; omega
    have hLl : L.length ≤ 400000000 := by
      have h1 := callsA_len hB ev l false 3 pre
      have h2 : pre.length * 2000000 ≤ 100 * 2000000 := Nat.mul_le_mul_right _ (by omega)
      rw [hq, List.length_append]; omega
    have hsucc : L ++ toldF (nodeAt a a_.2) ev false (phB a_.1 l.length 3) (nodeAt a a_.2).hooks = callsA a ev l true 1 (visF l) ++ callsA a ev l false 3 (pre ++ [a_]) := by rw [hq, callsA_app, callsA_one, List.append_assoc]
    have ha1 : a_.1 ≤ 1000 := by
      have hm : a_ ∈ visB l := by rw [hv]; simp
      unfold visB at hm
      obtain ⟨p, hp, rfl⟩ := List.mem_map.1 hm
      rw [List.mem_reverse] at hp
      obtain ⟨_, h2, _⟩ := List.mem_zipIdx hp
      simp only
      omega
    have hhk := nodeAt_hooks hB a_.2
    clear hq
    refine EWn.of_c Tok mixed (own := false) keep64 tab64 (by kernel_rfl) ?_
    (repeat (first | simp -dsimp only [zrRoute31, xnils, xnilm, xrange, xmakeMap, xslice3, hgetR6, hsetR6, RB, TB, keep64, tab64, xindexAddr, xindex, xslice, xconvert, xlen, ewOp, FreeW, StabW, SameW, ChangeW, AddW, BaseW, limBytes, simprocAttr, ne_eq] | ((with_reducible refine Need.intro ?_ ?_); (first | trivial | exact ⟨_, rfl⟩ | exact ⟨[], (List.append_nil _).symm⟩ | omega | (simp; done) | (simp; omega) | exact ⟨by first | trivial | (simp; done), _, by first | rfl | (simp; rfl)⟩))))
    (first | refine SCall.then (aGetF _ A m a (arena_app h _) hok a_.2) ?_ | refine SCall.thenA (aGetF _ A m a (arena_app h _) hok a_.2) (by repeat (first | exact trivial | exact .inl (.inl rfl) | exact .inl (.inr ⟨_, rfl, rfl⟩) | exact .inl rfl | exact .inr ⟨_, rfl, rfl⟩ | refine .inr ⟨_, _, rfl, rfl, ?_⟩ | refine ⟨?_, ?_⟩)) ?_ | refine CallE.intro _ (aGetF _ A m a (arena_app h _) hok a_.2) ?_ | refine CallE.introA (aGetF _ A m a (arena_app h _) hok a_.2) (by repeat (first | exact trivial | exact .inl (.inl rfl) | exact .inl (.inr ⟨_, rfl, rfl⟩) | exact .inl rfl | exact .inr ⟨_, rfl, rfl⟩ | refine .inr ⟨_, _, rfl, rfl, ?_⟩ | refine ⟨?_, ?_⟩)) ?_ | refine CallE.intro _ (fun _ => aGetF _ A m a (arena_app h _) hok a_.2) ?_ | refine CallE.intro _ (fun _ => SCall.arg (by repeat (first | exact trivial | exact .inl (.inl rfl) | exact .inl (.inr ⟨_, rfl, rfl⟩) | exact .inl rfl | exact .inr ⟨_, rfl, rfl⟩ | refine .inr ⟨_, _, rfl, rfl, ?_⟩ | refine ⟨?_, ?_⟩)) (aGetF _ A m a (arena_app h _) hok a_.2)) ?_ | refine CallE2.intro _ _ (aGetF _ A m a (arena_app h _) hok a_.2) ?_ | refine CallE2.intro _ _ (SCall.arg (by repeat (first | exact trivial | exact .inl (.inl rfl) | exact .inl (.inr ⟨_, rfl, rfl⟩) | exact .inl rfl | exact .inr ⟨_, rfl, rfl⟩ | refine .inr ⟨_, _, rfl, rfl, ?_⟩ | refine ⟨?_, ?_⟩)) (aGetF _ A m a (arena_app h _) hok a_.2)) ?_)
    (repeat (first | simp -dsimp only [zrRoute31, xnils, xnilm, xrange, xmakeMap, xslice3, nodeV, hgetR6, hsetR6, RB, TB, keep64, tab64, xindexAddr, xindex, xslice, xconvert, xlen, ewOp, FreeW, StabW, SameW, ChangeW, AddW, BaseW, limBytes, simprocAttr, ne_eq] | ((with_reducible refine Need.intro ?_ ?_); (first | trivial | exact ⟨_, rfl⟩ | exact ⟨[], (List.append_nil _).symm⟩ | omega | (simp; done) | (simp; omega) | exact ⟨by first | trivial | (simp; done), _, by first | rfl | (simp; rfl)⟩))))
    refine CallE.intro _ (rPhB _ a_.1 l 3 (by omega) (by omega)) ?_
    (repeat (first | simp -dsimp only [zrRoute31, xnils, xnilm, xrange, xmakeMap, xslice3, nodeV, hgetR6, hsetR6, RB, TB, keep64, tab64, xindexAddr, xindex, xslice, xconvert, xlen, ewOp, FreeW, StabW, SameW, ChangeW, AddW, BaseW, limBytes, simprocAttr, ne_eq] | ((with_reducible refine Need.intro ?_ ?_); (first | trivial | exact ⟨_, rfl⟩ | exact ⟨[], (List.append_nil _).symm⟩ | omega | (simp; done) | (simp; omega) | exact ⟨by first | trivial | (simp; done), _, by first | rfl | (simp; rfl)⟩))))
    refine CallE.intro _ (rTold _ (nodeAt a a_.2) ev false (phB a_.1 l.length 3) (by omega)) ?_
    have hl2 := toldF_len (nodeAt a a_.2) ev false (phB a_.1 l.length 3) (nodeAt a a_.2).hooks
    generalize toldF (nodeAt a a_.2) ev false (phB a_.1 l.length 3) (nodeAt a a_.2).hooks = l2 at *
    have hl2b : l2.length ≤ 2000000 := Nat.le_trans hl2 hhk
    (repeat (first | simp -dsimp only [zrRoute31, xnils, xnilm, xrange, xmakeMap, xslice3, nodeV, hgetR6, hsetR6, RB, TB, keep64, tab64, xindexAddr, xindex, xslice, xconvert, xlen, ewOp, FreeW, StabW, SameW, ChangeW, AddW, BaseW, limBytes, simprocAttr, ne_eq] | ((with_reducible refine Need.intro ?_ ?_); (first | trivial | exact ⟨_, rfl⟩ | exact ⟨[], (List.append_nil _).symm⟩ | omega | (simp; done) | (simp; omega) | exact ⟨by first | trivial | (simp; done), _, by first | rfl | (simp; rfl)⟩))))
    refine dropRB (H ++ .var [.ref A 0] :: .var [.int .i64 ev] :: .var [.vec (H.length + 4) (ver + 1) 0 (L ++ l2).length] :: .var [.slice (l.map vi)] :: .vec (ver + 1) 4 ((L ++ l2).map callV) :: .var [.slice (l.map vi)] :: R) (by simp; try rfl) (by simp) ?_ (UpTo.here ⟨rfl, (L ++ l2, ver + 1), hsucc, by first | (simp; done) | (simp; rfl)⟩)
    exact hltRB [.var [.ref A 0], .var [.int .i64 ev], .var [.vec (H.length + 4) (ver + 1) 0 (L ++ l2).length], .var [.slice (l.map vi)], .vec (ver + 1) 4 ((L ++ l2).map callV), .var [.slice (l.map vi)]] hHR rfl (by (simp (maxDischargeDepth := 6) [LTB, HLt_set, ltL_take, ltL_drop, ltL_rep, ltL_set, upd, eset, hH, hHk, zlRoute31] <;> omega))
  · rintro D l' y vs cs ⟨L, ver⟩ hq
    have hq : L = callsG a ev l := hq
    subst hq
    refine EWn.of_c Tok mixed (own := false) keep64 tab64 (by kernel_rfl) ?_
    (repeat (first | simp -dsimp only [zrRoute31, xnils, xnilm, xrange, xmakeMap, xslice3, RB, TB, keep64, tab64, xindexAddr, xindex, xslice, xconvert, xlen, ewOp, FreeW, StabW, SameW, ChangeW, AddW, BaseW, limBytes, simprocAttr, ne_eq] | ((with_reducible refine Need.intro ?_ ?_); (first | trivial | exact ⟨_, rfl⟩ | exact ⟨[], (List.append_nil _).symm⟩ | omega | (simp; done) | (simp; omega) | exact ⟨by first | trivial | (simp; done), _, by first | rfl | (simp; rfl)⟩))))
    refine ⟨by (first | rw [hget] | rw [hget0]); rfl, ?_⟩
    (repeat (first | simp -dsimp only [zrRoute31, xnils, xnilm, xrange, xmakeMap, xslice3, hset, RB, TB, keep64, tab64, xindexAddr, xindex, xslice, xconvert, xlen, ewOp, FreeW, StabW, SameW, ChangeW, AddW, BaseW, limBytes, simprocAttr, ne_eq] | ((with_reducible refine Need.intro ?_ ?_); (first | trivial | exact ⟨_, rfl⟩ | exact ⟨[], (List.append_nil _).symm⟩ | omega | (simp; done) | (simp; omega) | exact ⟨by first | trivial | (simp; done), _, by first | rfl | (simp; rfl)⟩))))
    refine RetW.auto0 false _ (by first | rfl | exact (List.append_nil _).symm) ?_ ?_
    · (simp (maxDischargeDepth := 6) [LTB, HLt_set, ltL_take, ltL_drop, ltL_rep, ltL_set, upd, eset, hH, hHk, zlRoute31] <;> omega)
    (try simp only [wk, wk1, wk0, RB, limBytes, simprocAttr, ne_eq])
    (try (rw [List.take_of_length_le]; rotate_left 1; (· first | (simp; done) | (simp; omega) | omega)))
    all_goals simp
end Go.Proofs.Ytjplgbalpnlanaa

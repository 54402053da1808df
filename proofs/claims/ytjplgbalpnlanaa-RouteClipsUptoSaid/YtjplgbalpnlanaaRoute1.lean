/- The walks of package route: Clip, Without, told, phase; the law's same. -/
import Derived.Test.YtjplgbalpnlanaaDom5
set_option maxHeartbeats 600000
set_option linter.unusedSimpArgs false
set_option linter.unusedVariables false
set_option maxRecDepth 100000
namespace Go.Proofs.Ytjplgbalpnlanaa
open Go Go.EL
theorem zrRoute11 : type_of% (And.intro (And.intro (And.intro (And.intro (@st_run) (And.intro (@sz_run) (@st1_run))) (And.intro (@cl_run) (And.intro (@st_Str) (@sz_Str)))) (And.intro (And.intro (@st1_Str) (And.intro (@cl_Str) (@st_c))) (And.intro (@sz_c) (And.intro (@st1_c) (@cl_c))))) (And.intro (And.intro (And.intro (@st_attr) (And.intro (@sz_attr) (@st1_attr))) (And.intro (@cl_attr) (And.intro (@st_hook) (@sz_hook)))) (And.intro (And.intro (@st1_hook) (And.intro (@cl_hook) (@st_node))) (And.intro (@sz_node) (And.intro (@st1_node) (@cl_node)))))) := And.intro (And.intro (And.intro (And.intro (@st_run) (And.intro (@sz_run) (@st1_run))) (And.intro (@cl_run) (And.intro (@st_Str) (@sz_Str)))) (And.intro (And.intro (@st1_Str) (And.intro (@cl_Str) (@st_c))) (And.intro (@sz_c) (And.intro (@st1_c) (@cl_c))))) (And.intro (And.intro (And.intro (@st_attr) (And.intro (@sz_attr) (@st1_attr))) (And.intro (@cl_attr) (And.intro (@st_hook) (@sz_hook)))) (And.intro (And.intro (@st1_hook) (And.intro (@cl_hook) (@st_node))) (And.intro (@sz_node) (And.intro (@st1_node) (@cl_node)))))
theorem zlRoute11 : type_of% (And.intro (And.intro (And.intro (And.intro (@lt_vi) (@lt_str)) (And.intro (@lt_vb) (And.intro (@ltc_str) (@ltc_vi)))) (And.intro (And.intro (@lt_run) (And.intro (@lt1_run) (@ltc_run))) (And.intro (@lt_Str) (And.intro (@lt1_Str) (@ltc_Str))))) (And.intro (And.intro (And.intro (@lt_c) (And.intro (@lt1_c) (@ltc_c))) (And.intro (@lt_attr) (And.intro (@lt1_attr) (@ltc_attr)))) (And.intro (And.intro (@lt_hook) (And.intro (@lt1_hook) (@ltc_hook))) (And.intro (@lt_node) (And.intro (@lt1_node) (@ltc_node)))))) := And.intro (And.intro (And.intro (And.intro (@lt_vi) (@lt_str)) (And.intro (@lt_vb) (And.intro (@ltc_str) (@ltc_vi)))) (And.intro (And.intro (@lt_run) (And.intro (@lt1_run) (@ltc_run))) (And.intro (@lt_Str) (And.intro (@lt1_Str) (@ltc_Str))))) (And.intro (And.intro (And.intro (@lt_c) (And.intro (@lt1_c) (@ltc_c))) (And.intro (@lt_attr) (And.intro (@lt1_attr) (@ltc_attr)))) (And.intro (And.intro (@lt_hook) (And.intro (@lt1_hook) (@ltc_hook))) (And.intro (@lt_node) (And.intro (@lt1_node) (@ltc_node)))))
structure Callr where
  owner : Int
  nm : Int
  node : Int
  phase : Int
  deriving DecidableEq
def callV (c : Callr) : V := .agg [.int .i64 c.owner, .int .i64 c.nm, .int .i64 c.node, .int .i64 c.phase]
theorem lt_callr (n : Nat) (l : List (Callr)) : ltL n (l.map callV) := ltL_map (f := callV) (fun _ => by simp [callV, V.lt, ltL]) l
theorem lt1_callr (n : Nat) (x : Callr) : V.lt n (callV x) := by simp [callV, V.lt, ltL]
theorem ltc_callr {α : Type} (n : Nat) (g : α → Callr) (l : List α) : ltL n (l.map (callV ∘ g)) := ltL_map (f := callV ∘ g) (fun x => lt1_callr n (g x)) l
theorem st_callr (l : List (Callr)) : (∀ x, x ∈ l.map callV → x.storable) = True := eq_true (storable_map (f := callV) (fun _ => trivial) l)
theorem sz_callr (l : List (Callr)) : Sized 4 (l.map callV) = True := eq_true (sizedMapV (f := callV) (fun _ => rfl) l)
theorem st1_callr (x : Callr) : (callV x).storable = True := eq_true trivial
theorem cl_callr (x : Callr) : (callV x).cells.length = 4 := rfl

theorem indexFunc_callr (H : List Ob) (l : List (Callr)) (k : FuncId) (fi ca : List V) (p : Callr → Bool) (hf : ∀ x ∈ l, SCall Try.prog k (fi ++ callV x :: ca) H (fun r H' => r = .bool (p x) ∧ H' = H)) (hlf : ltL H.length fi ∧ ltL H.length ca) : SCall Try.prog 170 [.slice (l.map callV), .fn (.func k) fi ca] H (fun r H' => r = .int .i64 (ix p l) ∧ H' = H) := by
  obtain ⟨hl1, hl2⟩ := hlf
  refine SCall.sized 0 rfl fun hl => ?_
  rw [List.length_map, maxLen_eq] at hl
  refine SCall.of_good fun hH => ?_
  have hHk := HLt.add hH
  refine SCall.of_code Tok Try.func170 rfl Try.call170 (n := 19) rfl (by simp) (rs := [.tmp 4]) rfl ?_
  refine EWn.to ?_
  refine EWn.of_c Tok mixed (own := false) keep170 tab170 (by kernel_rfl) ?_
  (repeat (first | simp -dsimp only [zrRoute11, xnils, xnilm, xrange, xmakeMap, xslice3, st_callr, sz_callr, st1_callr, cl_callr, RB, TB, keep170, tab170, xindexAddr, xindex, xslice, xconvert, xlen, ewOp, FreeW, StabW, SameW, ChangeW, AddW, BaseW, limBytes, simprocAttr, ne_eq] | ((with_reducible refine Need.intro ?_ ?_); (first | trivial | exact ⟨_, rfl⟩ | exact ⟨[], (List.append_nil _).symm⟩ | omega | (simp; done) | (simp; omega) | exact ⟨by first | trivial | (simp; done), _, by first | rfl | (simp; rfl)⟩))))
  refine EWn.loopE (ι := (Nat)) (fun (i : (Nat)) => i ≤ l.length ∧ ∀ x ∈ l.take i, p x = false) (fun (i : (Nat)) => l.length - i) (fun (i : (Nat)) => [(8, .int .i64 i)]) (fun (i : (Nat)) => H) (0) ?_ ?_ ?_ ?_ ?_
  · first | rfl | simp [upd, eset]
  · first | rfl | (simp; done) | exact (set_same (by assumption)).symm
  · rintro i hok; exact ⟨by first | (simp; done) | (simp; omega), by (simp (maxDischargeDepth := 6) [LTB, HLt_set, ltL_take, ltL_drop, ltL_rep, ltL_set, upd, eset, hH, hHk, hl1, hl2, zlRoute11, lt_callr, lt1_callr, ltc_callr] <;> omega), by (simp (maxDischargeDepth := 6) [LTB, HLt_set, ltL_take, ltL_drop, ltL_rep, ltL_set, upd, eset, hH, hHk, hl1, hl2, zlRoute11, lt_callr, lt1_callr, ltc_callr] <;> omega)⟩
  · simp
  rintro i ⟨hi, hno⟩
  refine EWn.of_c Tok mixed (own := false) keep170 tab170 (by kernel_rfl) ?_
  (repeat (first | simp -dsimp only [zrRoute11, xnils, xnilm, xrange, xmakeMap, xslice3, st_callr, sz_callr, st1_callr, cl_callr, RB, TB, keep170, tab170, xindexAddr, xindex, xslice, xconvert, xlen, ewOp, FreeW, StabW, SameW, ChangeW, AddW, BaseW, limBytes, simprocAttr, ne_eq] | ((with_reducible refine Need.intro ?_ ?_); (first | trivial | exact ⟨_, rfl⟩ | exact ⟨[], (List.append_nil _).symm⟩ | omega | (simp; done) | (simp; omega) | exact ⟨by first | trivial | (simp; done), _, by first | rfl | (simp; rfl)⟩))))
  refine IfW.intro (fun h => ?_) (fun h => ?_)
  · have hlt := lt_of h
    (repeat (first | simp -dsimp only [zrRoute11, xnils, xnilm, xrange, xmakeMap, xslice3, st_callr, sz_callr, st1_callr, cl_callr, h, at_map callV l i hlt, callV, RB, TB, keep170, tab170, xindexAddr, xindex, xslice, xconvert, xlen, ewOp, FreeW, StabW, SameW, ChangeW, AddW, BaseW, limBytes, simprocAttr, ne_eq] | ((with_reducible refine Need.intro ?_ ?_); (first | trivial | exact ⟨_, rfl⟩ | exact ⟨[], (List.append_nil _).symm⟩ | omega | (simp; done) | (simp; omega) | exact ⟨by first | trivial | (simp; done), _, by first | rfl | (simp; rfl)⟩))))
    refine SCall.then (hf l[i] (List.getElem_mem hlt)) ?_
    (repeat (first | simp -dsimp only [zrRoute11, xnils, xnilm, xrange, xmakeMap, xslice3, st_callr, sz_callr, st1_callr, cl_callr, RB, TB, keep170, tab170, xindexAddr, xindex, xslice, xconvert, xlen, ewOp, FreeW, StabW, SameW, ChangeW, AddW, BaseW, limBytes, simprocAttr, ne_eq] | ((with_reducible refine Need.intro ?_ ?_); (first | trivial | exact ⟨_, rfl⟩ | exact ⟨[], (List.append_nil _).symm⟩ | omega | (simp; done) | (simp; omega) | exact ⟨by first | trivial | (simp; done), _, by first | rfl | (simp; rfl)⟩))))
    refine IfW.intro (fun hb => ?_) (fun hb => ?_)
    · (repeat (first | simp -dsimp only [zrRoute11, xnils, xnilm, xrange, xmakeMap, xslice3, st_callr, sz_callr, st1_callr, cl_callr, hb, RB, TB, keep170, tab170, xindexAddr, xindex, xslice, xconvert, xlen, ewOp, FreeW, StabW, SameW, ChangeW, AddW, BaseW, limBytes, simprocAttr, ne_eq] | ((with_reducible refine Need.intro ?_ ?_); (first | trivial | exact ⟨_, rfl⟩ | exact ⟨[], (List.append_nil _).symm⟩ | omega | (simp; done) | (simp; omega) | exact ⟨by first | trivial | (simp; done), _, by first | rfl | (simp; rfl)⟩))))
      refine RetW.auto0 false _ (by first | rfl | exact (List.append_nil _).symm) ?_ ?_
      · (simp (maxDischargeDepth := 6) [LTB, HLt_set, ltL_take, ltL_drop, ltL_rep, ltL_set, upd, eset, hH, hHk, hl1, hl2, zlRoute11, lt_callr, lt1_callr, ltc_callr] <;> omega)
      (try simp only [wk, wk1, wk0, RB, limBytes, simprocAttr, ne_eq])
      (try (rw [List.take_of_length_le]; rotate_left 1; (· first | (simp; done) | (simp; omega) | omega)))
      rw [ix_hit hlt hb hno]
    · (repeat (first | simp -dsimp only [zrRoute11, xnils, xnilm, xrange, xmakeMap, xslice3, st_callr, sz_callr, st1_callr, cl_callr, hb, RB, TB, keep170, tab170, xindexAddr, xindex, xslice, xconvert, xlen, ewOp, FreeW, StabW, SameW, ChangeW, AddW, BaseW, limBytes, simprocAttr, ne_eq] | ((with_reducible refine Need.intro ?_ ?_); (first | trivial | exact ⟨_, rfl⟩ | exact ⟨[], (List.append_nil _).symm⟩ | omega | (simp; done) | (simp; omega) | exact ⟨by first | trivial | (simp; done), _, by first | rfl | (simp; rfl)⟩))))
      rw [wrapI (by omega)]
      refine UpTo.here ⟨(i + 1), ?_, by first | omega | (simp only [List.length_append, List.length_cons, List.length_nil]; omega), by simp [upd, eset], ⟨_, by simp; try rfl⟩⟩
      exact ⟨hlt, take_step hlt hb hno⟩
  · (repeat (first | simp -dsimp only [zrRoute11, xnils, xnilm, xrange, xmakeMap, xslice3, st_callr, sz_callr, st1_callr, cl_callr, h, RB, TB, keep170, tab170, xindexAddr, xindex, xslice, xconvert, xlen, ewOp, FreeW, StabW, SameW, ChangeW, AddW, BaseW, limBytes, simprocAttr, ne_eq] | ((with_reducible refine Need.intro ?_ ?_); (first | trivial | exact ⟨_, rfl⟩ | exact ⟨[], (List.append_nil _).symm⟩ | omega | (simp; done) | (simp; omega) | exact ⟨by first | trivial | (simp; done), _, by first | rfl | (simp; rfl)⟩))))
    refine RetW.auto0 false _ (by first | rfl | exact (List.append_nil _).symm) ?_ ?_
    · (simp (maxDischargeDepth := 6) [LTB, HLt_set, ltL_take, ltL_drop, ltL_rep, ltL_set, upd, eset, hH, hHk, hl1, hl2, zlRoute11, lt_callr, lt1_callr, ltc_callr] <;> omega)
    (try simp only [wk, wk1, wk0, RB, limBytes, simprocAttr, ne_eq])
    (try (rw [List.take_of_length_le]; rotate_left 1; (· first | (simp; done) | (simp; omega) | omega)))
    rw [ix_none (take_all (ge_of h) hno)]
theorem indexFunc_callr_vec (H : List Ob) (l : List (Callr)) (k : FuncId) (fi ca : List V) (p : Callr → Bool) (hf : ∀ x ∈ l, SCall Try.prog k (fi ++ callV x :: ca) H (fun r H' => r = .bool (p x) ∧ H' = H)) (hlf : ltL H.length fi ∧ ltL H.length ca) (o ver n : Nat) (ho : H[o]? = some (.vec ver 4 (l.map callV))) (hn : n = l.length) (hl : l.length ≤ 1000000000000) : SCall Try.prog 170 [.vec o ver 0 n, .fn (.func k) fi ca] H (fun r H' => r = .int .i64 (ix p l) ∧ H' = H) := by
  subst hn
  obtain ⟨hl1, hl2⟩ := hlf
  have holt := lt_of_get ho
  refine SCall.of_good fun hH => ?_
  have hHk := HLt.add hH
  refine SCall.of_code Tok Try.func170 rfl Try.call170 (n := 19) rfl (by simp) (rs := [.tmp 4]) rfl ?_
  refine EWn.to ?_
  refine EWn.of_c Tok mixed (own := false) keep170 tab170 (by kernel_rfl) ?_
  (repeat (first | simp -dsimp only [zrRoute11, xnils, xnilm, xrange, xmakeMap, xslice3, st_callr, sz_callr, st1_callr, cl_callr, ho, RB, TB, keep170, tab170, xindexAddr, xindex, xslice, xconvert, xlen, ewOp, FreeW, StabW, SameW, ChangeW, AddW, BaseW, limBytes, simprocAttr, ne_eq] | ((with_reducible refine Need.intro ?_ ?_); (first | trivial | exact ⟨_, rfl⟩ | exact ⟨[], (List.append_nil _).symm⟩ | omega | (simp; done) | (simp; omega) | exact ⟨by first | trivial | (simp; done), _, by first | rfl | (simp; rfl)⟩))))
  refine EWn.loopE (ι := (Nat)) (fun (i : (Nat)) => i ≤ l.length ∧ ∀ x ∈ l.take i, p x = false) (fun (i : (Nat)) => l.length - i) (fun (i : (Nat)) => [(8, .int .i64 i)]) (fun (i : (Nat)) => H) (0) ?_ ?_ ?_ ?_ ?_
  · first | rfl | simp [upd, eset]
  · first | rfl | (simp; done) | exact (set_same (by assumption)).symm
  · rintro i hok; exact ⟨by first | (simp; done) | (simp; omega), by (simp (maxDischargeDepth := 6) [LTB, HLt_set, ltL_take, ltL_drop, ltL_rep, ltL_set, upd, eset, hH, hHk, hl1, hl2, holt, zlRoute11, lt_callr, lt1_callr, ltc_callr] <;> omega), by (simp (maxDischargeDepth := 6) [LTB, HLt_set, ltL_take, ltL_drop, ltL_rep, ltL_set, upd, eset, hH, hHk, hl1, hl2, holt, zlRoute11, lt_callr, lt1_callr, ltc_callr] <;> omega)⟩
  · simp
  rintro i ⟨hi, hno⟩
  refine EWn.of_c Tok mixed (own := false) keep170 tab170 (by kernel_rfl) ?_
  (repeat (first | simp -dsimp only [zrRoute11, xnils, xnilm, xrange, xmakeMap, xslice3, st_callr, sz_callr, st1_callr, cl_callr, ho, RB, TB, keep170, tab170, xindexAddr, xindex, xslice, xconvert, xlen, ewOp, FreeW, StabW, SameW, ChangeW, AddW, BaseW, limBytes, simprocAttr, ne_eq] | ((with_reducible refine Need.intro ?_ ?_); (first | trivial | exact ⟨_, rfl⟩ | exact ⟨[], (List.append_nil _).symm⟩ | omega | (simp; done) | (simp; omega) | exact ⟨by first | trivial | (simp; done), _, by first | rfl | (simp; rfl)⟩))))
  refine IfW.intro (fun h => ?_) (fun h => ?_)
  · have hlt := lt_of h
    (repeat (first | simp -dsimp only [zrRoute11, xnils, xnilm, xrange, xmakeMap, xslice3, st_callr, sz_callr, st1_callr, cl_callr, h, ho, at_map callV l i hlt, callV, RB, TB, keep170, tab170, xindexAddr, xindex, xslice, xconvert, xlen, ewOp, FreeW, StabW, SameW, ChangeW, AddW, BaseW, limBytes, simprocAttr, ne_eq] | ((with_reducible refine Need.intro ?_ ?_); (first | trivial | exact ⟨_, rfl⟩ | exact ⟨[], (List.append_nil _).symm⟩ | omega | (simp; done) | (simp; omega) | exact ⟨by first | trivial | (simp; done), _, by first | rfl | (simp; rfl)⟩))))
    refine SCall.then (hf l[i] (List.getElem_mem hlt)) ?_
    (repeat (first | simp -dsimp only [zrRoute11, xnils, xnilm, xrange, xmakeMap, xslice3, st_callr, sz_callr, st1_callr, cl_callr, RB, TB, keep170, tab170, xindexAddr, xindex, xslice, xconvert, xlen, ewOp, FreeW, StabW, SameW, ChangeW, AddW, BaseW, limBytes, simprocAttr, ne_eq] | ((with_reducible refine Need.intro ?_ ?_); (first | trivial | exact ⟨_, rfl⟩ | exact ⟨[], (List.append_nil _).symm⟩ | omega | (simp; done) | (simp; omega) | exact ⟨by first | trivial | (simp; done), _, by first | rfl | (simp; rfl)⟩))))
    refine IfW.intro (fun hb => ?_) (fun hb => ?_)
    · (repeat (first | simp -dsimp only [zrRoute11, xnils, xnilm, xrange, xmakeMap, xslice3, st_callr, sz_callr, st1_callr, cl_callr, hb, RB, TB, keep170, tab170, xindexAddr, xindex, xslice, xconvert, xlen, ewOp, FreeW, StabW, SameW, ChangeW, AddW, BaseW, limBytes, simprocAttr, ne_eq] | ((with_reducible refine Need.intro ?_ ?_); (first | trivial | exact ⟨_, rfl⟩ | exact ⟨[], (List.append_nil _).symm⟩ | omega | (simp; done) | (simp; omega) | exact ⟨by first | trivial | (simp; done), _, by first | rfl | (simp; rfl)⟩))))
      refine RetW.auto0 false _ (by first | rfl | exact (List.append_nil _).symm) ?_ ?_
      · (simp (maxDischargeDepth := 6) [LTB, HLt_set, ltL_take, ltL_drop, ltL_rep, ltL_set, upd, eset, hH, hHk, hl1, hl2, holt, zlRoute11, lt_callr, lt1_callr, ltc_callr] <;> omega)
      (try simp only [wk, wk1, wk0, RB, limBytes, simprocAttr, ne_eq])
      (try (rw [List.take_of_length_le]; rotate_left 1; (· first | (simp; done) | (simp; omega) | omega)))
      rw [ix_hit hlt hb hno]
    · (repeat (first | simp -dsimp only [zrRoute11, xnils, xnilm, xrange, xmakeMap, xslice3, st_callr, sz_callr, st1_callr, cl_callr, hb, RB, TB, keep170, tab170, xindexAddr, xindex, xslice, xconvert, xlen, ewOp, FreeW, StabW, SameW, ChangeW, AddW, BaseW, limBytes, simprocAttr, ne_eq] | ((with_reducible refine Need.intro ?_ ?_); (first | trivial | exact ⟨_, rfl⟩ | exact ⟨[], (List.append_nil _).symm⟩ | omega | (simp; done) | (simp; omega) | exact ⟨by first | trivial | (simp; done), _, by first | rfl | (simp; rfl)⟩))))
      rw [wrapI (by omega)]
      refine UpTo.here ⟨(i + 1), ?_, by first | omega | (simp only [List.length_append, List.length_cons, List.length_nil]; omega), by simp [upd, eset], ⟨_, by simp; try rfl⟩⟩
      exact ⟨hlt, take_step hlt hb hno⟩
  · (repeat (first | simp -dsimp only [zrRoute11, xnils, xnilm, xrange, xmakeMap, xslice3, st_callr, sz_callr, st1_callr, cl_callr, h, RB, TB, keep170, tab170, xindexAddr, xindex, xslice, xconvert, xlen, ewOp, FreeW, StabW, SameW, ChangeW, AddW, BaseW, limBytes, simprocAttr, ne_eq] | ((with_reducible refine Need.intro ?_ ?_); (first | trivial | exact ⟨_, rfl⟩ | exact ⟨[], (List.append_nil _).symm⟩ | omega | (simp; done) | (simp; omega) | exact ⟨by first | trivial | (simp; done), _, by first | rfl | (simp; rfl)⟩))))
    refine RetW.auto0 false _ (by first | rfl | exact (List.append_nil _).symm) ?_ ?_
    · (simp (maxDischargeDepth := 6) [LTB, HLt_set, ltL_take, ltL_drop, ltL_rep, ltL_set, upd, eset, hH, hHk, hl1, hl2, holt, zlRoute11, lt_callr, lt1_callr, ltc_callr] <;> omega)
    (try simp only [wk, wk1, wk0, RB, limBytes, simprocAttr, ne_eq])
    (try (rw [List.take_of_length_le]; rotate_left 1; (· first | (simp; done) | (simp; omega) | omega)))
    rw [ix_none (take_all (ge_of h) hno)]

theorem deleteFunc_callr (H : List Ob) (l : List (Callr)) (k : FuncId) (fi ca : List V) (p : Callr → Bool) (hlf : ltL H.length fi ∧ ltL H.length ca) (o ver n : Nat) (hf : ∀ x ∈ l, ∀ (L : List (Callr)) (E : List Ob), SCall Try.prog k (fi ++ callV x :: ca) (H.set o (.vec ver 4 (L.map callV)) ++ E) (fun r H' => r = .bool (p x) ∧ H' = H.set o (.vec ver 4 (L.map callV)) ++ E)) (ho : H[o]? = some (.vec ver 4 (l.map callV))) (hn : n = l.length) (hb : l.length ≤ 1000000000) :
    SCall Try.prog 141 [.vec o ver 0 n, .fn (.func k) fi ca] H (fun r H' => r = .vec o ver 0 (l.filter fun x => !p x).length ∧ H' = H.set o (.vec ver 4 ((l.filter fun x => !p x).map callV ++ List.replicate (l.length - (l.filter fun x => !p x).length) (.agg [.int .i64 0, .int .i64 0, .int .i64 0, .int .i64 0])))) := by
  subst hn
  have holt := lt_of_get ho
  have hlf1 := hlf.1
  have hlf2 := hlf.2
  have hll : ltL H.length (l.map callV) := lt_callr _ _
  refine SCall.of_good fun hH => ?_
  have hHk := HLt.add hH
  refine SCall.of_code Tok Try.func141 rfl Try.call141 (n := 42) rfl (by simp) (rs := [.tmp 4]) rfl ?_
  refine EWn.to ?_
  refine EWn.of_c Tok mixed (own := false) keep141 tab141 (by kernel_rfl) ?_
  (repeat (first | simp -dsimp only [zrRoute11, xnils, xnilm, xrange, xmakeMap, xslice3, st_callr, sz_callr, st1_callr, cl_callr, RB, TB, keep141, tab141, xindexAddr, xindex, xslice, xconvert, xlen, ewOp, FreeW, StabW, SameW, ChangeW, AddW, BaseW, limBytes, simprocAttr, ne_eq] | ((with_reducible refine Need.intro ?_ ?_); (first | trivial | exact ⟨_, rfl⟩ | exact ⟨[], (List.append_nil _).symm⟩ | omega | (simp; done) | (simp; omega) | exact ⟨by first | trivial | (simp; done), _, by first | rfl | (simp; rfl)⟩))))
  have hf0 : ∀ x ∈ l, SCall Try.prog k (fi ++ callV x :: ca) H (fun r H' => r = .bool (p x) ∧ H' = H) := fun x hx => by have := hf x hx l []; rwa [set_same ho, List.append_nil] at this
  (first | refine SCall.then (indexFunc_callr_vec _ l k fi ca p hf0 hlf _ _ _ ho rfl (by omega)) ?_ | refine SCall.thenA (indexFunc_callr_vec _ l k fi ca p hf0 hlf _ _ _ ho rfl (by omega)) (by repeat (first | exact trivial | exact .inl (.inl rfl) | exact .inl (.inr ⟨_, rfl, rfl⟩) | exact .inl rfl | exact .inr ⟨_, rfl, rfl⟩ | refine .inr ⟨_, _, rfl, rfl, ?_⟩ | refine ⟨?_, ?_⟩)) ?_ | refine CallE.intro _ (indexFunc_callr_vec _ l k fi ca p hf0 hlf _ _ _ ho rfl (by omega)) ?_ | refine CallE.introA (indexFunc_callr_vec _ l k fi ca p hf0 hlf _ _ _ ho rfl (by omega)) (by repeat (first | exact trivial | exact .inl (.inl rfl) | exact .inl (.inr ⟨_, rfl, rfl⟩) | exact .inl rfl | exact .inr ⟨_, rfl, rfl⟩ | refine .inr ⟨_, _, rfl, rfl, ?_⟩ | refine ⟨?_, ?_⟩)) ?_ | refine CallE.intro _ (fun _ => indexFunc_callr_vec _ l k fi ca p hf0 hlf _ _ _ ho rfl (by omega)) ?_ | refine CallE.intro _ (fun _ => SCall.arg (by repeat (first | exact trivial | exact .inl (.inl rfl) | exact .inl (.inr ⟨_, rfl, rfl⟩) | exact .inl rfl | exact .inr ⟨_, rfl, rfl⟩ | refine .inr ⟨_, _, rfl, rfl, ?_⟩ | refine ⟨?_, ?_⟩)) (indexFunc_callr_vec _ l k fi ca p hf0 hlf _ _ _ ho rfl (by omega))) ?_ | refine CallE2.intro _ _ (indexFunc_callr_vec _ l k fi ca p hf0 hlf _ _ _ ho rfl (by omega)) ?_ | refine CallE2.intro _ _ (SCall.arg (by repeat (first | exact trivial | exact .inl (.inl rfl) | exact .inl (.inr ⟨_, rfl, rfl⟩) | exact .inl rfl | exact .inr ⟨_, rfl, rfl⟩ | refine .inr ⟨_, _, rfl, rfl, ?_⟩ | refine ⟨?_, ?_⟩)) (indexFunc_callr_vec _ l k fi ca p hf0 hlf _ _ _ ho rfl (by omega))) ?_)
  (repeat (first | simp -dsimp only [zrRoute11, xnils, xnilm, xrange, xmakeMap, xslice3, st_callr, sz_callr, st1_callr, cl_callr, RB, TB, keep141, tab141, xindexAddr, xindex, xslice, xconvert, xlen, ewOp, FreeW, StabW, SameW, ChangeW, AddW, BaseW, limBytes, simprocAttr, ne_eq] | ((with_reducible refine Need.intro ?_ ?_); (first | trivial | exact ⟨_, rfl⟩ | exact ⟨[], (List.append_nil _).symm⟩ | omega | (simp; done) | (simp; omega) | exact ⟨by first | trivial | (simp; done), _, by first | rfl | (simp; rfl)⟩))))
  by_cases hany : ∃ x ∈ l, p x = true
  · obtain ⟨i0, hi0, hp0, hno⟩ : ∃ i0, ∃ h : i0 < l.length, p l[i0] = true ∧ ∀ x ∈ l.take i0, p x = false := by
      have hlt := List.findIdx_lt_length.2 hany
      refine ⟨l.findIdx p, hlt, List.findIdx_getElem, fun x hx => ?_⟩
      obtain ⟨j, hj, rfl⟩ := List.mem_take_iff_getElem.1 hx
      have := List.not_of_lt_findIdx (p := p) (xs := l) (i := j) (by omega)
      simpa using this
    have hix := ix_hit hi0 hp0 hno
    rw [hix]
    have hne : ((i0 : Int) == -1) = false := by simp
    (repeat (first | simp -dsimp only [zrRoute11, xnils, xnilm, xrange, xmakeMap, xslice3, st_callr, sz_callr, st1_callr, cl_callr, hne, RB, TB, keep141, tab141, xindexAddr, xindex, xslice, xconvert, xlen, ewOp, FreeW, StabW, SameW, ChangeW, AddW, BaseW, limBytes, simprocAttr, ne_eq] | ((with_reducible refine Need.intro ?_ ?_); (first | trivial | exact ⟨_, rfl⟩ | exact ⟨[], (List.append_nil _).symm⟩ | omega | (simp; done) | (simp; omega) | exact ⟨by first | trivial | (simp; done), _, by first | rfl | (simp; rfl)⟩))))
    rw [wrapI (by omega)]
    refine EWn.loopE (ι := (Nat) × (Nat) × (List (Callr))) (fun (x_ : (Nat) × (Nat) × (List (Callr))) => match x_ with | (i, j, L) => i < j ∧ j ≤ l.length ∧ L.length = l.length ∧ L.take i = (l.take j).filter (fun x => !p x) ∧ L.drop j = l.drop j) (fun (x_ : (Nat) × (Nat) × (List (Callr))) => match x_ with | (i, j, L) => l.length - j) (fun (x_ : (Nat) × (Nat) × (List (Callr))) => match x_ with | (i, j, L) => [(5, .int .i64 i), (6, .int .i64 j)]) (fun (x_ : (Nat) × (Nat) × (List (Callr))) => match x_ with | (i, j, L) => H.set o (.vec ver 4 (L.map callV))) (i0, i0 + 1, l) ?_ ?_ ?_ ?_ ?_
    · first | rfl | simp [upd, eset]
    · first | rfl | (simp; done) | exact (set_same (by assumption)).symm
    · rintro ⟨i, j, L⟩ hok; exact ⟨by first | (simp; done) | (simp; omega), by (simp (maxDischargeDepth := 6) [LTB, HLt_set, ltL_take, ltL_drop, ltL_rep, ltL_set, upd, eset, hH, hHk, hlf1, hlf2, hll, holt, zlRoute11, lt_callr, lt1_callr, ltc_callr] <;> omega), by (simp (maxDischargeDepth := 6) [LTB, HLt_set, ltL_take, ltL_drop, ltL_rep, ltL_set, upd, eset, hH, hHk, hlf1, hlf2, hll, holt, zlRoute11, lt_callr, lt1_callr, ltc_callr] <;> omega)⟩
    · refine ⟨by omega, by omega, rfl, ?_, rfl⟩
      rw [List.take_succ_eq_append_getElem hi0, List.filter_append, List.filter_eq_self.2 (fun x hx => by simp [hno x hx])]
      simp [hp0]
    rintro ⟨i, j, L⟩ ⟨hij, hj, hL, ht, hd⟩
    refine EWn.of_c Tok mixed (own := false) keep141 tab141 (by kernel_rfl) ?_
    (repeat (first | simp -dsimp only [zrRoute11, xnils, xnilm, xrange, xmakeMap, xslice3, st_callr, sz_callr, st1_callr, cl_callr, List.getElem?_set_self holt, List.set_set, getset holt, setset holt, RB, TB, keep141, tab141, xindexAddr, xindex, xslice, xconvert, xlen, ewOp, FreeW, StabW, SameW, ChangeW, AddW, BaseW, limBytes, simprocAttr, ne_eq] | ((with_reducible refine Need.intro ?_ ?_); (first | trivial | exact ⟨_, rfl⟩ | exact ⟨[], (List.append_nil _).symm⟩ | omega | (simp; done) | (simp; omega) | exact ⟨by first | trivial | (simp; done), _, by first | rfl | (simp; rfl)⟩))))
    refine IfW.intro (fun h => ?_) (fun h => ?_)
    · have hlt := lt_of h
      have hLj : L[j]'(by omega) = l[j] := by
        have := congrArg (fun x => x[0]?) hd
        simp only [List.getElem?_drop, Nat.add_zero] at this
        rw [List.getElem?_eq_getElem (by omega), List.getElem?_eq_getElem hlt] at this
        injection this
      (repeat (first | simp -dsimp only [zrRoute11, xnils, xnilm, xrange, xmakeMap, xslice3, st_callr, sz_callr, st1_callr, cl_callr, h, List.getElem?_set_self holt, List.set_set, getset holt, setset holt, at_map callV L j (by omega), callV, hLj, RB, TB, keep141, tab141, xindexAddr, xindex, xslice, xconvert, xlen, ewOp, FreeW, StabW, SameW, ChangeW, AddW, BaseW, limBytes, simprocAttr, ne_eq] | ((with_reducible refine Need.intro ?_ ?_); (first | trivial | exact ⟨_, rfl⟩ | exact ⟨[], (List.append_nil _).symm⟩ | omega | (simp; done) | (simp; omega) | exact ⟨by first | trivial | (simp; done), _, by first | rfl | (simp; rfl)⟩))))
      first | refine SCall.then (hf l[j] (List.getElem_mem hlt) L []) ?_ | (refine SCall.congr (H' := H.set o (.vec ver 4 (L.map callV)) ++ []) rfl (List.append_nil _).symm ▸ ?_; refine SCall.then (hf l[j] (List.getElem_mem hlt) L []) ?_) | refine SCall.then (hf l[j] (List.getElem_mem hlt) L _) ?_
      (repeat (first | simp -dsimp only [zrRoute11, xnils, xnilm, xrange, xmakeMap, xslice3, st_callr, sz_callr, st1_callr, cl_callr, RB, TB, keep141, tab141, xindexAddr, xindex, xslice, xconvert, xlen, ewOp, FreeW, StabW, SameW, ChangeW, AddW, BaseW, limBytes, simprocAttr, ne_eq] | ((with_reducible refine Need.intro ?_ ?_); (first | trivial | exact ⟨_, rfl⟩ | exact ⟨[], (List.append_nil _).symm⟩ | omega | (simp; done) | (simp; omega) | exact ⟨by first | trivial | (simp; done), _, by first | rfl | (simp; rfl)⟩))))
      have htk : l.take (j + 1) = l.take j ++ [l[j]] := List.take_succ_eq_append_getElem hlt
      have hdk : L.drop (j + 1) = l.drop (j + 1) := by rw [← List.drop_drop, hd, List.drop_drop]
      refine IfW.intro (fun hb => ?_) (fun hb => ?_)
      · (repeat (first | simp -dsimp only [zrRoute11, xnils, xnilm, xrange, xmakeMap, xslice3, st_callr, sz_callr, st1_callr, cl_callr, hb, RB, TB, keep141, tab141, xindexAddr, xindex, xslice, xconvert, xlen, ewOp, FreeW, StabW, SameW, ChangeW, AddW, BaseW, limBytes, simprocAttr, ne_eq] | ((with_reducible refine Need.intro ?_ ?_); (first | trivial | exact ⟨_, rfl⟩ | exact ⟨[], (List.append_nil _).symm⟩ | omega | (simp; done) | (simp; omega) | exact ⟨by first | trivial | (simp; done), _, by first | rfl | (simp; rfl)⟩))))
        rw [wrapI (by omega)]
        refine UpTo.here ⟨(i, j + 1, L), ?_, by first | omega | (simp only [List.length_append, List.length_cons, List.length_nil]; omega), by simp [upd, eset], ⟨_, by simp; try rfl⟩⟩
        exact ⟨by omega, hlt, hL, by rw [ht, htk, List.filter_append]; simp [hb], hdk⟩
      · have hiL : i < L.length := by omega
        (repeat (first | simp -dsimp only [zrRoute11, xnils, xnilm, xrange, xmakeMap, xslice3, st_callr, sz_callr, st1_callr, cl_callr, hb, List.getElem?_set_self holt, List.set_set, getset holt, setset holt, at_map callV L i hiL, callV, RB, TB, keep141, tab141, xindexAddr, xindex, xslice, xconvert, xlen, ewOp, FreeW, StabW, SameW, ChangeW, AddW, BaseW, limBytes, simprocAttr, ne_eq] | ((with_reducible refine Need.intro ?_ ?_); (first | trivial | exact ⟨_, rfl⟩ | exact ⟨[], (List.append_nil _).symm⟩ | omega | (simp; done) | (simp; omega) | exact ⟨by first | trivial | (simp; done), _, by first | rfl | (simp; rfl)⟩))))
        rw [wrapI (by omega), wrapI (by omega)]
        refine UpTo.here ⟨(i + 1, j + 1, L.set i l[j]), ?_, by first | omega | (simp only [List.length_append, List.length_cons, List.length_nil]; omega), by simp [upd, eset], ⟨_, by simp; try rfl⟩⟩
        refine ⟨by omega, hlt, by simp [hL], ?_, ?_⟩
        · rw [List.take_succ_eq_append_getElem (by simpa using hiL), htk, List.filter_append, List.getElem_set_self, List.take_set_of_le (Nat.le_refl _), ht]
          simp [hb]
        · rw [List.drop_set_of_lt (by omega), hdk]
    · (repeat (first | simp -dsimp only [zrRoute11, xnils, xnilm, xrange, xmakeMap, xslice3, st_callr, sz_callr, st1_callr, cl_callr, h, List.getElem?_set_self holt, List.set_set, getset holt, setset holt, RB, TB, keep141, tab141, xindexAddr, xindex, xslice, xconvert, xlen, ewOp, FreeW, StabW, SameW, ChangeW, AddW, BaseW, limBytes, simprocAttr, ne_eq] | ((with_reducible refine Need.intro ?_ ?_); (first | trivial | exact ⟨_, rfl⟩ | exact ⟨[], (List.append_nil _).symm⟩ | omega | (simp; done) | (simp; omega) | exact ⟨by first | trivial | (simp; done), _, by first | rfl | (simp; rfl)⟩))))
      have hjl : j = l.length := Nat.le_antisymm hj (ge_of h)
      subst hjl
      rw [List.take_length] at ht
      have hfl : (l.filter fun x => !p x).length = i := by rw [← ht, List.length_take]; omega
      refine RetW.keep false (by simp) ?_ ?_ ?_
      · (simp (maxDischargeDepth := 6) [LTB, HLt_set, ltL_take, ltL_drop, ltL_rep, ltL_set, upd, eset, hH, hHk, hlf1, hlf2, hll, holt, zlRoute11, lt_callr, lt1_callr, ltc_callr] <;> omega)
      · (simp (maxDischargeDepth := 6) [LTB, HLt_set, ltL_take, ltL_drop, ltL_rep, ltL_set, upd, eset, hH, hHk, hlf1, hlf2, hll, holt, zlRoute11, lt_callr, lt1_callr, ltc_callr] <;> omega)
      rw [hfl]
      have hno2 : ¬ H.length ≤ o := by omega
      simp [wk, wk1, wk0, hno2, ← ht, List.map_take, List.drop_of_length_le (show L.length ≤ i + (l.length - i) by omega)]
  · have hix : ix p l = -1 := ix_none fun x hx => by cases h : p x with
      | false => rfl
      | true => exact absurd ⟨x, hx, h⟩ hany
    rw [hix]
    (repeat (first | simp -dsimp only [zrRoute11, xnils, xnilm, xrange, xmakeMap, xslice3, st_callr, sz_callr, st1_callr, cl_callr, RB, TB, keep141, tab141, xindexAddr, xindex, xslice, xconvert, xlen, ewOp, FreeW, StabW, SameW, ChangeW, AddW, BaseW, limBytes, simprocAttr, ne_eq] | ((with_reducible refine Need.intro ?_ ?_); (first | trivial | exact ⟨_, rfl⟩ | exact ⟨[], (List.append_nil _).symm⟩ | omega | (simp; done) | (simp; omega) | exact ⟨by first | trivial | (simp; done), _, by first | rfl | (simp; rfl)⟩))))
    have hfe : (l.filter fun x => !p x) = l := List.filter_eq_self.2 fun x hx => by
      cases h : p x with
      | false => rfl
      | true => exact absurd ⟨x, hx, h⟩ hany
    refine RetW.keep false (Nat.le_refl _) hH ?_ ?_
    · (simp (maxDischargeDepth := 6) [LTB, HLt_set, ltL_take, ltL_drop, ltL_rep, ltL_set, upd, eset, hH, hHk, hlf1, hlf2, hll, holt, zlRoute11, lt_callr, lt1_callr, ltc_callr] <;> omega)
    have : ¬ H.length ≤ o := by omega
    simp [wk, wk1, wk0, this, hfe, set_same ho]

theorem cloneC0 (H : List Ob) (l : List Callr) (hl : l.length ≤ 1000000000000) : SCall Try.prog 142 [.slice (l.map callV)] H (fun r H' => (l = [] ∧ r = .fslice [] ∧ H' = H) ∨ (r = .vec H.length 1 0 l.length ∧ H' = H ++ [.vec 1 4 (l.map callV)])) := by
  refine SCall.of_good fun hH => ?_
  have hHk := HLt.add hH
  refine SCall.of_code Tok Try.func142 rfl Try.call142 (n := 8) rfl (by simp) (rs := [.tmp 2]) rfl ?_
  refine EWn.to ?_
  refine EWn.of_c Tok mixed (own := false) keep142 tab142 (by kernel_rfl) ?_
  (repeat (first | simp -dsimp only [zrRoute11, xnils, xnilm, xrange, xmakeMap, xslice3, st_callr, sz_callr, st1_callr, cl_callr, RB, TB, keep142, tab142, xindexAddr, xindex, xslice, xconvert, xlen, ewOp, FreeW, StabW, SameW, ChangeW, AddW, BaseW, limBytes, simprocAttr, ne_eq] | ((with_reducible refine Need.intro ?_ ?_); (first | trivial | exact ⟨_, rfl⟩ | exact ⟨[], (List.append_nil _).symm⟩ | omega | (simp; done) | (simp; omega) | exact ⟨by first | trivial | (simp; done), _, by first | rfl | (simp; rfl)⟩))))
  refine AnyB.intro fun b hb => ?_
  (repeat (first | simp -dsimp only [zrRoute11, xnils, xnilm, xrange, xmakeMap, xslice3, st_callr, sz_callr, st1_callr, cl_callr, RB, TB, keep142, tab142, xindexAddr, xindex, xslice, xconvert, xlen, ewOp, FreeW, StabW, SameW, ChangeW, AddW, BaseW, limBytes, simprocAttr, ne_eq] | ((with_reducible refine Need.intro ?_ ?_); (first | trivial | exact ⟨_, rfl⟩ | exact ⟨[], (List.append_nil _).symm⟩ | omega | (simp; done) | (simp; omega) | exact ⟨by first | trivial | (simp; done), _, by first | rfl | (simp; rfl)⟩))))
  refine IfW.intro (fun h => ?_) (fun h => ?_)
  · subst h
    have h0 : l = [] := by cases l with
      | nil => rfl
      | cons x l => exact absurd (hb (by simp)) (by simp)
    subst h0
    (repeat (first | simp -dsimp only [zrRoute11, xnils, xnilm, xrange, xmakeMap, xslice3, st_callr, sz_callr, st1_callr, cl_callr, RB, TB, keep142, tab142, xindexAddr, xindex, xslice, xconvert, xlen, ewOp, FreeW, StabW, SameW, ChangeW, AddW, BaseW, limBytes, simprocAttr, ne_eq] | ((with_reducible refine Need.intro ?_ ?_); (first | trivial | exact ⟨_, rfl⟩ | exact ⟨[], (List.append_nil _).symm⟩ | omega | (simp; done) | (simp; omega) | exact ⟨by first | trivial | (simp; done), _, by first | rfl | (simp; rfl)⟩))))
    refine RetW.auto0 true _ (by first | rfl | exact (List.append_nil _).symm) ?_ ?_
    · (simp (maxDischargeDepth := 6) [LTB, HLt_set, ltL_take, ltL_drop, ltL_rep, ltL_set, upd, eset, hH, hHk, zlRoute11, lt_callr, lt1_callr, ltc_callr] <;> omega)
    (try simp only [wk, wk1, wk0, RB, if_true, limBytes, simprocAttr, ne_eq])
    (try (rw [List.take_of_length_le]; rotate_left 1; (· first | (simp; done) | (simp; omega) | omega)))
  · subst h
    (repeat (first | simp -dsimp only [zrRoute11, xnils, xnilm, xrange, xmakeMap, xslice3, st_callr, sz_callr, st1_callr, cl_callr, RB, TB, keep142, tab142, xindexAddr, xindex, xslice, xconvert, xlen, ewOp, FreeW, StabW, SameW, ChangeW, AddW, BaseW, limBytes, simprocAttr, ne_eq] | ((with_reducible refine Need.intro ?_ ?_); (first | trivial | exact ⟨_, rfl⟩ | exact ⟨[], (List.append_nil _).symm⟩ | omega | (simp; done) | (simp; omega) | exact ⟨by first | trivial | (simp; done), _, by first | rfl | (simp; rfl)⟩))))
    refine RetW.auto false [.vec 1 4 (l.map callV)] _ (by first | rfl | simp) ?_ ?_ ?_
    · (simp (maxDischargeDepth := 6) [LTB, HLt_set, ltL_take, ltL_drop, ltL_rep, ltL_set, upd, eset, hH, hHk, zlRoute11, lt_callr, lt1_callr, ltc_callr] <;> omega)
    · (simp (maxDischargeDepth := 6) [LTB, HLt_set, ltL_take, ltL_drop, ltL_rep, ltL_set, upd, eset, hH, hHk, zlRoute11, lt_callr, lt1_callr, ltc_callr] <;> omega)
    (try simp only [wk, wk1, wk0, RB, limBytes, simprocAttr, ne_eq])
    (try (rw [List.take_of_length_le]; rotate_left 1; (· first | (simp; done) | (simp; omega) | omega)))
    first | (simp; done) | (refine .inr ⟨?_, ?_⟩ <;> simp; done) | trace_state
theorem cloneC (H : List Ob) (l : List Callr) (hl : l.length ≤ 1000000000000) : SCall Try.prog 142 [.slice (l.map callV)] H (fun r H' => r = .vec H.length 1 0 l.length ∧ H' = H ++ [.vec 1 4 (l.map callV)]) := by
  refine (cloneC0 H l hl).ghoE fun r H' h => ?_
  rcases h with ⟨rfl, rfl, rfl⟩ | ⟨rfl, rfl⟩
  · refine ⟨_, _, Gho.adopt (n0 := H'.length) (env := [(0, .fslice [])]) 0 4 rfl, And.intro rfl rfl⟩
  · exact ⟨_, _, Gho.refl _ _ _, And.intro rfl rfl⟩
theorem clipF (H : List Ob) (c : Callr) (o : Nat) (ow : Int) (ho : H[o]? = some (.var [.int .i64 ow])) : SCall Try.prog 143 [callV c, .ref o 0] H (fun r H' => r = .bool (!(c.owner == ow)) ∧ H' = H) := by
  have holt := lt_of_get ho
  have hgl : ∀ L, (H ++ L)[o]? = some (.var [.int .i64 ow]) := fun L => by rw [List.getElem?_append_left holt]; exact ho
  unfold callV
  refine SCall.of_good fun hH => ?_
  have hHk := HLt.add hH
  refine SCall.of_code Tok Try.func143 rfl Try.call143 (n := 8) rfl (by simp) (rs := [.tmp 3]) rfl ?_
  refine EWn.to ?_
  refine EWn.of_c Tok mixed (own := false) keep143 tab143 (by kernel_rfl) ?_
  (repeat (first | simp -dsimp only [zrRoute11, xnils, xnilm, xrange, xmakeMap, xslice3, st_callr, sz_callr, st1_callr, cl_callr, hgl, RB, TB, keep143, tab143, xindexAddr, xindex, xslice, xconvert, xlen, ewOp, FreeW, StabW, SameW, ChangeW, AddW, BaseW, limBytes, simprocAttr, ne_eq] | ((with_reducible refine Need.intro ?_ ?_); (first | trivial | exact ⟨_, rfl⟩ | exact ⟨[], (List.append_nil _).symm⟩ | omega | (simp; done) | (simp; omega) | exact ⟨by first | trivial | (simp; done), _, by first | rfl | (simp; rfl)⟩))))
  refine RetW.auto0 false _ (by first | rfl | exact (List.append_nil _).symm) ?_ ?_
  · (simp (maxDischargeDepth := 6) [LTB, HLt_set, ltL_take, ltL_drop, ltL_rep, ltL_set, upd, eset, hH, hHk, zlRoute11, lt_callr, lt1_callr, ltc_callr] <;> omega)
  (try simp only [wk, wk1, wk0, RB, limBytes, simprocAttr, ne_eq])
  (try (rw [List.take_of_length_le]; rotate_left 1; (· first | (simp; done) | (simp; omega) | omega)))
theorem withoutF (H : List Ob) (c : Callr) (o : Nat) (ow : Int) (ho : H[o]? = some (.var [.int .i64 ow])) : SCall Try.prog 144 [callV c, .ref o 0] H (fun r H' => r = .bool (c.owner == ow) ∧ H' = H) := by
  have holt := lt_of_get ho
  have hgl : ∀ L, (H ++ L)[o]? = some (.var [.int .i64 ow]) := fun L => by rw [List.getElem?_append_left holt]; exact ho
  unfold callV
  refine SCall.of_good fun hH => ?_
  have hHk := HLt.add hH
  refine SCall.of_code Tok Try.func144 rfl Try.call144 (n := 8) rfl (by simp) (rs := [.tmp 3]) rfl ?_
  refine EWn.to ?_
  refine EWn.of_c Tok mixed (own := false) keep144 tab144 (by kernel_rfl) ?_
  (repeat (first | simp -dsimp only [zrRoute11, xnils, xnilm, xrange, xmakeMap, xslice3, st_callr, sz_callr, st1_callr, cl_callr, hgl, RB, TB, keep144, tab144, xindexAddr, xindex, xslice, xconvert, xlen, ewOp, FreeW, StabW, SameW, ChangeW, AddW, BaseW, limBytes, simprocAttr, ne_eq] | ((with_reducible refine Need.intro ?_ ?_); (first | trivial | exact ⟨_, rfl⟩ | exact ⟨[], (List.append_nil _).symm⟩ | omega | (simp; done) | (simp; omega) | exact ⟨by first | trivial | (simp; done), _, by first | rfl | (simp; rfl)⟩))))
  refine RetW.auto0 false _ (by first | rfl | exact (List.append_nil _).symm) ?_ ?_
  · (simp (maxDischargeDepth := 6) [LTB, HLt_set, ltL_take, ltL_drop, ltL_rep, ltL_set, upd, eset, hH, hHk, zlRoute11, lt_callr, lt1_callr, ltc_callr] <;> omega)
  (try simp only [wk, wk1, wk0, RB, limBytes, simprocAttr, ne_eq])
  (try (rw [List.take_of_length_le]; rotate_left 1; (· first | (simp; done) | (simp; omega) | omega)))
theorem rClip (H : List Ob) (l : List Callr) (ow : Int) (hs : l.length ≤ 1000000000) : SCall Try.prog 82 [.slice (l.map callV), .int .i64 ow] H (fun r H' => r = .slice ((l.filter fun c => c.owner == ow).map callV) ∧ H' = H) := by
  refine SCall.of_good fun hH => ?_
  have hHk := HLt.add hH
  refine SCall.of_code Tok Try.func82 rfl Try.call82 (n := 9) rfl (by simp) (rs := [.tmp 4]) rfl ?_
  refine EWn.to ?_
  refine EWn.of_c Tok mixed (own := false) keep82 tab82 (by kernel_rfl) ?_
  (repeat (first | simp -dsimp only [zrRoute11, xnils, xnilm, xrange, xmakeMap, xslice3, st_callr, sz_callr, st1_callr, cl_callr, RB, TB, keep82, tab82, xindexAddr, xindex, xslice, xconvert, xlen, ewOp, FreeW, StabW, SameW, ChangeW, AddW, BaseW, limBytes, simprocAttr, ne_eq] | ((with_reducible refine Need.intro ?_ ?_); (first | trivial | exact ⟨_, rfl⟩ | exact ⟨[], (List.append_nil _).symm⟩ | omega | (simp; done) | (simp; omega) | exact ⟨by first | trivial | (simp; done), _, by first | rfl | (simp; rfl)⟩))))
  (first | refine SCall.then (cloneC _ l (by omega)) ?_ | refine SCall.thenA (cloneC _ l (by omega)) (by repeat (first | exact trivial | exact .inl (.inl rfl) | exact .inl (.inr ⟨_, rfl, rfl⟩) | exact .inl rfl | exact .inr ⟨_, rfl, rfl⟩ | refine .inr ⟨_, _, rfl, rfl, ?_⟩ | refine ⟨?_, ?_⟩)) ?_ | refine CallE.intro _ (cloneC _ l (by omega)) ?_ | refine CallE.introA (cloneC _ l (by omega)) (by repeat (first | exact trivial | exact .inl (.inl rfl) | exact .inl (.inr ⟨_, rfl, rfl⟩) | exact .inl rfl | exact .inr ⟨_, rfl, rfl⟩ | refine .inr ⟨_, _, rfl, rfl, ?_⟩ | refine ⟨?_, ?_⟩)) ?_ | refine CallE.intro _ (fun _ => cloneC _ l (by omega)) ?_ | refine CallE.intro _ (fun _ => SCall.arg (by repeat (first | exact trivial | exact .inl (.inl rfl) | exact .inl (.inr ⟨_, rfl, rfl⟩) | exact .inl rfl | exact .inr ⟨_, rfl, rfl⟩ | refine .inr ⟨_, _, rfl, rfl, ?_⟩ | refine ⟨?_, ?_⟩)) (cloneC _ l (by omega))) ?_ | refine CallE2.intro _ _ (cloneC _ l (by omega)) ?_ | refine CallE2.intro _ _ (SCall.arg (by repeat (first | exact trivial | exact .inl (.inl rfl) | exact .inl (.inr ⟨_, rfl, rfl⟩) | exact .inl rfl | exact .inr ⟨_, rfl, rfl⟩ | refine .inr ⟨_, _, rfl, rfl, ?_⟩ | refine ⟨?_, ?_⟩)) (cloneC _ l (by omega))) ?_)
  (repeat (first | simp -dsimp only [zrRoute11, xnils, xnilm, xrange, xmakeMap, xslice3, st_callr, sz_callr, st1_callr, cl_callr, RB, TB, keep82, tab82, xindexAddr, xindex, xslice, xconvert, xlen, ewOp, FreeW, StabW, SameW, ChangeW, AddW, BaseW, limBytes, simprocAttr, ne_eq] | ((with_reducible refine Need.intro ?_ ?_); (first | trivial | exact ⟨_, rfl⟩ | exact ⟨[], (List.append_nil _).symm⟩ | omega | (simp; done) | (simp; omega) | exact ⟨by first | trivial | (simp; done), _, by first | rfl | (simp; rfl)⟩))))
  refine SCall.then (deleteFunc_callr _ l _ [] [.ref H.length 0] (fun c => !(c.owner == ow)) ⟨trivial, by simp [ltL, V.lt]⟩ (H.length + 1) 1 _ (fun x _ L E => clipF _ x H.length ow (by simp)) (by simp) (by simp) (by omega)) ?_
  (repeat (first | simp -dsimp only [zrRoute11, xnils, xnilm, xrange, xmakeMap, xslice3, st_callr, sz_callr, st1_callr, cl_callr, RB, TB, keep82, tab82, xindexAddr, xindex, xslice, xconvert, xlen, ewOp, FreeW, StabW, SameW, ChangeW, AddW, BaseW, limBytes, simprocAttr, ne_eq] | ((with_reducible refine Need.intro ?_ ?_); (first | trivial | exact ⟨_, rfl⟩ | exact ⟨[], (List.append_nil _).symm⟩ | omega | (simp; done) | (simp; omega) | exact ⟨by first | trivial | (simp; done), _, by first | rfl | (simp; rfl)⟩))))
  rw [show (l.filter fun x => !!(x.owner == ow)) = l.filter fun c => c.owner == ow from by simp]
  generalize (l.filter fun c => c.owner == ow) = D
  refine RetW.auto0 false _ (by first | rfl | exact (List.append_nil _).symm) ?_ ?_
  · (simp (maxDischargeDepth := 6) [LTB, HLt_set, ltL_take, ltL_drop, ltL_rep, ltL_set, upd, eset, hH, hHk, zlRoute11, lt_callr, lt1_callr, ltc_callr] <;> omega)
  (try simp only [wk, wk1, wk0, RB, limBytes, simprocAttr, ne_eq])
  (try (rw [List.take_of_length_le]; rotate_left 1; (· first | (simp; done) | (simp; omega) | omega)))
  rw [List.take_left' (by simp)]
  simp
theorem rWithout (H : List Ob) (l : List Callr) (ow : Int) (hs : l.length ≤ 1000000000) : SCall Try.prog 83 [.slice (l.map callV), .int .i64 ow] H (fun r H' => r = .slice ((l.filter fun c => !(c.owner == ow)).map callV) ∧ H' = H) := by
  refine SCall.of_good fun hH => ?_
  have hHk := HLt.add hH
  refine SCall.of_code Tok Try.func83 rfl Try.call83 (n := 9) rfl (by simp) (rs := [.tmp 4]) rfl ?_
  refine EWn.to ?_
  refine EWn.of_c Tok mixed (own := false) keep83 tab83 (by kernel_rfl) ?_
  (repeat (first | simp -dsimp only [zrRoute11, xnils, xnilm, xrange, xmakeMap, xslice3, st_callr, sz_callr, st1_callr, cl_callr, RB, TB, keep83, tab83, xindexAddr, xindex, xslice, xconvert, xlen, ewOp, FreeW, StabW, SameW, ChangeW, AddW, BaseW, limBytes, simprocAttr, ne_eq] | ((with_reducible refine Need.intro ?_ ?_); (first | trivial | exact ⟨_, rfl⟩ | exact ⟨[], (List.append_nil _).symm⟩ | omega | (simp; done) | (simp; omega) | exact ⟨by first | trivial | (simp; done), _, by first | rfl | (simp; rfl)⟩))))
  (first | refine SCall.then (cloneC _ l (by omega)) ?_ | refine SCall.thenA (cloneC _ l (by omega)) (by repeat (first | exact trivial | exact .inl (.inl rfl) | exact .inl (.inr ⟨_, rfl, rfl⟩) | exact .inl rfl | exact .inr ⟨_, rfl, rfl⟩ | refine .inr ⟨_, _, rfl, rfl, ?_⟩ | refine ⟨?_, ?_⟩)) ?_ | refine CallE.intro _ (cloneC _ l (by omega)) ?_ | refine CallE.introA (cloneC _ l (by omega)) (by repeat (first | exact trivial | exact .inl (.inl rfl) | exact .inl (.inr ⟨_, rfl, rfl⟩) | exact .inl rfl | exact .inr ⟨_, rfl, rfl⟩ | refine .inr ⟨_, _, rfl, rfl, ?_⟩ | refine ⟨?_, ?_⟩)) ?_ | refine CallE.intro _ (fun _ => cloneC _ l (by omega)) ?_ | refine CallE.intro _ (fun _ => SCall.arg (by repeat (first | exact trivial | exact .inl (.inl rfl) | exact .inl (.inr ⟨_, rfl, rfl⟩) | exact .inl rfl | exact .inr ⟨_, rfl, rfl⟩ | refine .inr ⟨_, _, rfl, rfl, ?_⟩ | refine ⟨?_, ?_⟩)) (cloneC _ l (by omega))) ?_ | refine CallE2.intro _ _ (cloneC _ l (by omega)) ?_ | refine CallE2.intro _ _ (SCall.arg (by repeat (first | exact trivial | exact .inl (.inl rfl) | exact .inl (.inr ⟨_, rfl, rfl⟩) | exact .inl rfl | exact .inr ⟨_, rfl, rfl⟩ | refine .inr ⟨_, _, rfl, rfl, ?_⟩ | refine ⟨?_, ?_⟩)) (cloneC _ l (by omega))) ?_)
  (repeat (first | simp -dsimp only [zrRoute11, xnils, xnilm, xrange, xmakeMap, xslice3, st_callr, sz_callr, st1_callr, cl_callr, RB, TB, keep83, tab83, xindexAddr, xindex, xslice, xconvert, xlen, ewOp, FreeW, StabW, SameW, ChangeW, AddW, BaseW, limBytes, simprocAttr, ne_eq] | ((with_reducible refine Need.intro ?_ ?_); (first | trivial | exact ⟨_, rfl⟩ | exact ⟨[], (List.append_nil _).symm⟩ | omega | (simp; done) | (simp; omega) | exact ⟨by first | trivial | (simp; done), _, by first | rfl | (simp; rfl)⟩))))
  refine SCall.then (deleteFunc_callr _ l _ [] [.ref H.length 0] (fun c => c.owner == ow) ⟨trivial, by simp [ltL, V.lt]⟩ (H.length + 1) 1 _ (fun x _ L E => withoutF _ x H.length ow (by simp)) (by simp) (by simp) (by omega)) ?_
  (repeat (first | simp -dsimp only [zrRoute11, xnils, xnilm, xrange, xmakeMap, xslice3, st_callr, sz_callr, st1_callr, cl_callr, RB, TB, keep83, tab83, xindexAddr, xindex, xslice, xconvert, xlen, ewOp, FreeW, StabW, SameW, ChangeW, AddW, BaseW, limBytes, simprocAttr, ne_eq] | ((with_reducible refine Need.intro ?_ ?_); (first | trivial | exact ⟨_, rfl⟩ | exact ⟨[], (List.append_nil _).symm⟩ | omega | (simp; done) | (simp; omega) | exact ⟨by first | trivial | (simp; done), _, by first | rfl | (simp; rfl)⟩))))
  generalize (l.filter fun c => !(c.owner == ow)) = D
  refine RetW.auto0 false _ (by first | rfl | exact (List.append_nil _).symm) ?_ ?_
  · (simp (maxDischargeDepth := 6) [LTB, HLt_set, ltL_take, ltL_drop, ltL_rep, ltL_set, upd, eset, hH, hHk, zlRoute11, lt_callr, lt1_callr, ltc_callr] <;> omega)
  (try simp only [wk, wk1, wk0, RB, limBytes, simprocAttr, ne_eq])
  (try (rw [List.take_of_length_le]; rotate_left 1; (· first | (simp; done) | (simp; omega) | omega)))
  rw [List.take_left' (by simp)]
  simp
theorem lSame (H : List Ob) (l m : List (Callr)) : SCall Try.prog 63 [.slice (l.map callV), .slice (m.map callV)] H (fun r H' => r = .bool (decide (l = m)) ∧ H' = H) := by
  refine SCall.sized 0 rfl fun hl => ?_
  rw [List.length_map, maxLen_eq] at hl
  refine SCall.of_good fun hH => ?_
  have hHk := HLt.add hH
  refine SCall.of_code Tok Try.func63 rfl Try.call63 (n := 26) rfl (by simp) (rs := [.tmp 4]) rfl ?_
  refine EWn.to ?_
  refine EWn.of_c Tok mixed (own := false) keep63 tab63 (by kernel_rfl) ?_
  (repeat (first | simp -dsimp only [zrRoute11, xnils, xnilm, xrange, xmakeMap, xslice3, st_callr, sz_callr, st1_callr, cl_callr, RB, TB, keep63, tab63, xindexAddr, xindex, xslice, xconvert, xlen, ewOp, FreeW, StabW, SameW, ChangeW, AddW, BaseW, limBytes, simprocAttr, ne_eq] | ((with_reducible refine Need.intro ?_ ?_); (first | trivial | exact ⟨_, rfl⟩ | exact ⟨[], (List.append_nil _).symm⟩ | omega | (simp; done) | (simp; omega) | exact ⟨by first | trivial | (simp; done), _, by first | rfl | (simp; rfl)⟩))))
  refine IfW.intro (fun h => ?_) (fun h => ?_)
  rotate_left
  · (repeat (first | simp -dsimp only [zrRoute11, xnils, xnilm, xrange, xmakeMap, xslice3, st_callr, sz_callr, st1_callr, cl_callr, h, RB, TB, keep63, tab63, xindexAddr, xindex, xslice, xconvert, xlen, ewOp, FreeW, StabW, SameW, ChangeW, AddW, BaseW, limBytes, simprocAttr, ne_eq] | ((with_reducible refine Need.intro ?_ ?_); (first | trivial | exact ⟨_, rfl⟩ | exact ⟨[], (List.append_nil _).symm⟩ | omega | (simp; done) | (simp; omega) | exact ⟨by first | trivial | (simp; done), _, by first | rfl | (simp; rfl)⟩))))
    refine RetW.auto0 false _ (by first | rfl | exact (List.append_nil _).symm) ?_ ?_
    · (simp (maxDischargeDepth := 6) [LTB, HLt_set, ltL_take, ltL_drop, ltL_rep, ltL_set, upd, eset, hH, hHk, zlRoute11, lt_callr, lt1_callr, ltc_callr] <;> omega)
    (try simp only [wk, wk1, wk0, RB, limBytes, simprocAttr, ne_eq])
    (try (rw [List.take_of_length_le]; rotate_left 1; (· first | (simp; done) | (simp; omega) | omega)))
    have hlm : l ≠ m := by rintro rfl; simp at h
    simp [hlm]
  have hlm : l.length = m.length := by simp at h; omega
  (repeat (first | simp -dsimp only [zrRoute11, xnils, xnilm, xrange, xmakeMap, xslice3, st_callr, sz_callr, st1_callr, cl_callr, h, RB, TB, keep63, tab63, xindexAddr, xindex, xslice, xconvert, xlen, ewOp, FreeW, StabW, SameW, ChangeW, AddW, BaseW, limBytes, simprocAttr, ne_eq] | ((with_reducible refine Need.intro ?_ ?_); (first | trivial | exact ⟨_, rfl⟩ | exact ⟨[], (List.append_nil _).symm⟩ | omega | (simp; done) | (simp; omega) | exact ⟨by first | trivial | (simp; done), _, by first | rfl | (simp; rfl)⟩))))
  refine EWn.loopE (ι := (Nat)) (fun (i : (Nat)) => i ≤ l.length ∧ l.take i = m.take i) (fun (i : (Nat)) => l.length - i) (fun (i : (Nat)) => [(5, .int .i64 i)]) (fun (i : (Nat)) => H) (0) ?_ ?_ ?_ ?_ ?_
  · first | rfl | simp [upd, eset]
  · first | rfl | (simp; done) | exact (set_same (by assumption)).symm
  · rintro i hok; exact ⟨by first | (simp; done) | (simp; omega), by (simp (maxDischargeDepth := 6) [LTB, HLt_set, ltL_take, ltL_drop, ltL_rep, ltL_set, upd, eset, hH, hHk, zlRoute11, lt_callr, lt1_callr, ltc_callr] <;> omega), by (simp (maxDischargeDepth := 6) [LTB, HLt_set, ltL_take, ltL_drop, ltL_rep, ltL_set, upd, eset, hH, hHk, zlRoute11, lt_callr, lt1_callr, ltc_callr] <;> omega)⟩
  · simp
  rintro i ⟨hi, hno⟩
  refine EWn.of_c Tok mixed (own := false) keep63 tab63 (by kernel_rfl) ?_
  (repeat (first | simp -dsimp only [zrRoute11, xnils, xnilm, xrange, xmakeMap, xslice3, st_callr, sz_callr, st1_callr, cl_callr, RB, TB, keep63, tab63, xindexAddr, xindex, xslice, xconvert, xlen, ewOp, FreeW, StabW, SameW, ChangeW, AddW, BaseW, limBytes, simprocAttr, ne_eq] | ((with_reducible refine Need.intro ?_ ?_); (first | trivial | exact ⟨_, rfl⟩ | exact ⟨[], (List.append_nil _).symm⟩ | omega | (simp; done) | (simp; omega) | exact ⟨by first | trivial | (simp; done), _, by first | rfl | (simp; rfl)⟩))))
  refine IfW.intro (fun h1 => ?_) (fun h1 => ?_)
  · have hlt := lt_of h1
    have hlt' : i < m.length := by omega
    (repeat (first | simp -dsimp only [zrRoute11, xnils, xnilm, xrange, xmakeMap, xslice3, st_callr, sz_callr, st1_callr, cl_callr, h1, at_map callV l i hlt, at_map callV m i hlt', callV, RB, TB, keep63, tab63, xindexAddr, xindex, xslice, xconvert, xlen, ewOp, FreeW, StabW, SameW, ChangeW, AddW, BaseW, limBytes, simprocAttr, ne_eq] | ((with_reducible refine Need.intro ?_ ?_); (first | trivial | exact ⟨_, rfl⟩ | exact ⟨[], (List.append_nil _).symm⟩ | omega | (simp; done) | (simp; omega) | exact ⟨by first | trivial | (simp; done), _, by first | rfl | (simp; rfl)⟩))))
    refine IfW.intro (fun hb => ?_) (fun hb => ?_)
    · (repeat (first | simp -dsimp only [zrRoute11, xnils, xnilm, xrange, xmakeMap, xslice3, st_callr, sz_callr, st1_callr, cl_callr, hb, RB, TB, keep63, tab63, xindexAddr, xindex, xslice, xconvert, xlen, ewOp, FreeW, StabW, SameW, ChangeW, AddW, BaseW, limBytes, simprocAttr, ne_eq] | ((with_reducible refine Need.intro ?_ ?_); (first | trivial | exact ⟨_, rfl⟩ | exact ⟨[], (List.append_nil _).symm⟩ | omega | (simp; done) | (simp; omega) | exact ⟨by first | trivial | (simp; done), _, by first | rfl | (simp; rfl)⟩))))
      rw [wrapI (by omega)]
      have hb : l[i] = m[i] := by simp at hb; cases h1 : l[i]; cases h2 : m[i]; simp_all
      refine UpTo.here ⟨(i + 1), ?_, by first | omega | (simp only [List.length_append, List.length_cons, List.length_nil]; omega), by simp [upd, eset], ⟨_, by simp; try rfl⟩⟩
      exact ⟨hlt, by rw [List.take_succ_eq_append_getElem hlt, List.take_succ_eq_append_getElem hlt', hno, hb]⟩
    · (repeat (first | simp -dsimp only [zrRoute11, xnils, xnilm, xrange, xmakeMap, xslice3, st_callr, sz_callr, st1_callr, cl_callr, hb, RB, TB, keep63, tab63, xindexAddr, xindex, xslice, xconvert, xlen, ewOp, FreeW, StabW, SameW, ChangeW, AddW, BaseW, limBytes, simprocAttr, ne_eq] | ((with_reducible refine Need.intro ?_ ?_); (first | trivial | exact ⟨_, rfl⟩ | exact ⟨[], (List.append_nil _).symm⟩ | omega | (simp; done) | (simp; omega) | exact ⟨by first | trivial | (simp; done), _, by first | rfl | (simp; rfl)⟩))))
      refine RetW.auto0 false _ (by first | rfl | exact (List.append_nil _).symm) ?_ ?_
      · (simp (maxDischargeDepth := 6) [LTB, HLt_set, ltL_take, ltL_drop, ltL_rep, ltL_set, upd, eset, hH, hHk, zlRoute11, lt_callr, lt1_callr, ltc_callr] <;> omega)
      (try simp only [wk, wk1, wk0, RB, limBytes, simprocAttr, ne_eq])
      (try (rw [List.take_of_length_le]; rotate_left 1; (· first | (simp; done) | (simp; omega) | omega)))
      have hlm : l ≠ m := by rintro rfl; simp at hb
      simp [hlm]
  · (repeat (first | simp -dsimp only [zrRoute11, xnils, xnilm, xrange, xmakeMap, xslice3, st_callr, sz_callr, st1_callr, cl_callr, h1, RB, TB, keep63, tab63, xindexAddr, xindex, xslice, xconvert, xlen, ewOp, FreeW, StabW, SameW, ChangeW, AddW, BaseW, limBytes, simprocAttr, ne_eq] | ((with_reducible refine Need.intro ?_ ?_); (first | trivial | exact ⟨_, rfl⟩ | exact ⟨[], (List.append_nil _).symm⟩ | omega | (simp; done) | (simp; omega) | exact ⟨by first | trivial | (simp; done), _, by first | rfl | (simp; rfl)⟩))))
    have hge := ge_of h1
    rw [List.take_of_length_le hge, List.take_of_length_le (by omega)] at hno
    refine RetW.auto0 false _ (by first | rfl | exact (List.append_nil _).symm) ?_ ?_
    · (simp (maxDischargeDepth := 6) [LTB, HLt_set, ltL_take, ltL_drop, ltL_rep, ltL_set, upd, eset, hH, hHk, zlRoute11, lt_callr, lt1_callr, ltc_callr] <;> omega)
    (try simp only [wk, wk1, wk0, RB, limBytes, simprocAttr, ne_eq])
    (try (rw [List.take_of_length_le]; rotate_left 1; (· first | (simp; done) | (simp; omega) | omega)))
    simp [hno]

theorem rPhase (H : List Ob) (i many other : Int) (hm : 0 ≤ many ∧ many ≤ 1000000) : SCall Try.prog 125 [.int .i64 i, .int .i64 many, .int .i64 other] H (fun r H' => r = .int .i64 (if i = many - 1 then 2 else other) ∧ H' = H) := by
  have w : IntKind.i64.wrap (many - 1) = many - 1 := wrapI (by omega)
  refine SCall.of_good fun hH => ?_
  have hHk := HLt.add hH
  refine SCall.of_code Tok Try.func125 rfl Try.call125 (n := 12) rfl (by simp) (rs := [.tmp 6]) rfl ?_
  refine EWn.to ?_
  refine EWn.of_c Tok mixed (own := false) keep125 tab125 (by kernel_rfl) ?_
  (repeat (first | simp -dsimp only [zrRoute11, xnils, xnilm, xrange, xmakeMap, xslice3, st_callr, sz_callr, st1_callr, cl_callr, w, RB, TB, keep125, tab125, xindexAddr, xindex, xslice, xconvert, xlen, ewOp, FreeW, StabW, SameW, ChangeW, AddW, BaseW, limBytes, simprocAttr, ne_eq] | ((with_reducible refine Need.intro ?_ ?_); (first | trivial | exact ⟨_, rfl⟩ | exact ⟨[], (List.append_nil _).symm⟩ | omega | (simp; done) | (simp; omega) | exact ⟨by first | trivial | (simp; done), _, by first | rfl | (simp; rfl)⟩))))
  refine IfW.intro (fun h => ?_) (fun h => ?_)
  · (repeat (first | simp -dsimp only [zrRoute11, xnils, xnilm, xrange, xmakeMap, xslice3, st_callr, sz_callr, st1_callr, cl_callr, h, RB, TB, keep125, tab125, xindexAddr, xindex, xslice, xconvert, xlen, ewOp, FreeW, StabW, SameW, ChangeW, AddW, BaseW, limBytes, simprocAttr, ne_eq] | ((with_reducible refine Need.intro ?_ ?_); (first | trivial | exact ⟨_, rfl⟩ | exact ⟨[], (List.append_nil _).symm⟩ | omega | (simp; done) | (simp; omega) | exact ⟨by first | trivial | (simp; done), _, by first | rfl | (simp; rfl)⟩))))
    refine RetW.auto0 false _ (by first | rfl | exact (List.append_nil _).symm) ?_ ?_
    · (simp (maxDischargeDepth := 6) [LTB, HLt_set, ltL_take, ltL_drop, ltL_rep, ltL_set, upd, eset, hH, hHk, zlRoute11, lt_callr, lt1_callr, ltc_callr] <;> omega)
    (try simp only [wk, wk1, wk0, RB, limBytes, simprocAttr, ne_eq])
    (try (rw [List.take_of_length_le]; rotate_left 1; (· first | (simp; done) | (simp; omega) | omega)))
    simp at h
    simp [h]
  · (repeat (first | simp -dsimp only [zrRoute11, xnils, xnilm, xrange, xmakeMap, xslice3, st_callr, sz_callr, st1_callr, cl_callr, h, RB, TB, keep125, tab125, xindexAddr, xindex, xslice, xconvert, xlen, ewOp, FreeW, StabW, SameW, ChangeW, AddW, BaseW, limBytes, simprocAttr, ne_eq] | ((with_reducible refine Need.intro ?_ ?_); (first | trivial | exact ⟨_, rfl⟩ | exact ⟨[], (List.append_nil _).symm⟩ | omega | (simp; done) | (simp; omega) | exact ⟨by first | trivial | (simp; done), _, by first | rfl | (simp; rfl)⟩))))
    refine RetW.auto0 false _ (by first | rfl | exact (List.append_nil _).symm) ?_ ?_
    · (simp (maxDischargeDepth := 6) [LTB, HLt_set, ltL_take, ltL_drop, ltL_rep, ltL_set, upd, eset, hH, hHk, zlRoute11, lt_callr, lt1_callr, ltc_callr] <;> omega)
    (try simp only [wk, wk1, wk0, RB, limBytes, simprocAttr, ne_eq])
    (try (rw [List.take_of_length_le]; rotate_left 1; (· first | (simp; done) | (simp; omega) | omega)))
    simp at h
    simp [h]
def toldF (n : Node) (ev : Int) (cap : Bool) (ph : Int) (l : List Hook) : List Callr := (l.filter fun h => h.ev == ev && (h.cap == cap)).map fun h => ⟨n.owner, h.nm, n.id, ph⟩
theorem toldF_succ (n : Node) (ev : Int) (cap : Bool) (ph : Int) {l : List Hook} {i : Nat} (h : i < l.length) : toldF n ev cap ph (l.take (i + 1)) = toldF n ev cap ph (l.take i) ++ (if (l[i].ev == ev && (l[i].cap == cap)) = true then [⟨n.owner, l[i].nm, n.id, ph⟩] else []) := by
  unfold toldF
  rw [List.take_succ_eq_append_getElem h, List.filter_append, List.map_append]
  congr 1
  rw [List.filter_cons]
  split <;> simp
theorem toldF_len (n : Node) (ev : Int) (cap : Bool) (ph : Int) (l : List Hook) : (toldF n ev cap ph l).length ≤ l.length := by unfold toldF; rw [List.length_map]; exact List.length_filter_le _ _
theorem rTold (H : List Ob) (n : Node) (ev : Int) (cap : Bool) (ph : Int) (hl : n.hooks.length ≤ 1000000000) : SCall Try.prog 124 [nodeV n, .int .i64 ev, .bool cap, .int .i64 ph] H (fun r H' => r = .slice ((toldF n ev cap ph n.hooks).map callV) ∧ H' = H) := by
  refine SCall.of_good fun hH => ?_
  have hHk := HLt.add hH
  refine SCall.of_code Tok Try.func124 rfl Try.call124 (n := 42) rfl (by simp) (rs := [.tmp 8]) rfl ?_
  refine EWn.to ?_
  refine EWn.of_c Tok mixed (own := false) keep124 tab124 (by kernel_rfl) ?_
  (repeat (first | simp -dsimp only [zrRoute11, xnils, xnilm, xrange, xmakeMap, xslice3, st_callr, sz_callr, st1_callr, cl_callr, nodeV, RB, TB, keep124, tab124, xindexAddr, xindex, xslice, xconvert, xlen, ewOp, FreeW, StabW, SameW, ChangeW, AddW, BaseW, limBytes, simprocAttr, ne_eq] | ((with_reducible refine Need.intro ?_ ?_); (first | trivial | exact ⟨_, rfl⟩ | exact ⟨[], (List.append_nil _).symm⟩ | omega | (simp; done) | (simp; omega) | exact ⟨by first | trivial | (simp; done), _, by first | rfl | (simp; rfl)⟩))))
  refine EWn.ghost (Gho.adopt 9 4 rfl) ?_
  simp only [RB, limBytes, simprocAttr, ne_eq]
  refine EWn.loopE (ι := (Nat) × (Nat)) (fun (x_ : (Nat) × (Nat)) => match x_ with | (i, v) => i ≤ n.hooks.length) (fun (x_ : (Nat) × (Nat)) => match x_ with | (i, v) => n.hooks.length - i) (fun (x_ : (Nat) × (Nat)) => match x_ with | (i, v) => [(9, .vec (H.length + 1) v 0 (toldF n ev cap ph (n.hooks.take i)).length), (15, .int .i64 i)]) (fun (x_ : (Nat) × (Nat)) => match x_ with | (i, v) => H ++ [.var [.int .i64 n.id, .int .i64 n.owner, .int .i64 n.parent, .int .i64 n.kind, .str n.tag.text, .slice (n.tag.runs.map runV), .str n.key, .int .i64 n.slot, .slice (n.attrs.map attrV), .slice (n.hooks.map hookV), .slice (n.kids.map vi), .str n.text.text, .slice (n.text.runs.map runV)], .vec v 4 ((toldF n ev cap ph (n.hooks.take i)).map callV)]) (0, 1) ?_ ?_ ?_ ?_ ?_
  · first | rfl | simp [upd, eset]
  · first | rfl | (simp; done) | exact (set_same (by assumption)).symm
  · rintro ⟨i, v⟩ hok; exact ⟨by first | (simp; done) | (simp; omega), by (simp (maxDischargeDepth := 6) [LTB, HLt_set, ltL_take, ltL_drop, ltL_rep, ltL_set, upd, eset, hH, hHk, zlRoute11, lt_callr, lt1_callr, ltc_callr] <;> omega), by (simp (maxDischargeDepth := 6) [LTB, HLt_set, ltL_take, ltL_drop, ltL_rep, ltL_set, upd, eset, hH, hHk, zlRoute11, lt_callr, lt1_callr, ltc_callr] <;> omega)⟩
  · omega
  rintro ⟨i, v⟩ hi
  have htl : (toldF n ev cap ph (n.hooks.take i)).length ≤ i := Nat.le_trans (toldF_len _ _ _ _ _) (by simp; omega)
  refine EWn.of_c Tok mixed (own := false) keep124 tab124 (by kernel_rfl) ?_
  (repeat (first | simp -dsimp only [zrRoute11, xnils, xnilm, xrange, xmakeMap, xslice3, st_callr, sz_callr, st1_callr, cl_callr, RB, TB, keep124, tab124, xindexAddr, xindex, xslice, xconvert, xlen, ewOp, FreeW, StabW, SameW, ChangeW, AddW, BaseW, limBytes, simprocAttr, ne_eq] | ((with_reducible refine Need.intro ?_ ?_); (first | trivial | exact ⟨_, rfl⟩ | exact ⟨[], (List.append_nil _).symm⟩ | omega | (simp; done) | (simp; omega) | exact ⟨by first | trivial | (simp; done), _, by first | rfl | (simp; rfl)⟩))))
  refine IfW.intro (fun h => ?_) (fun h => ?_)
  · have hlt := lt_of h
    have hat := at_map hookV n.hooks i hlt
    have hsucc := toldF_succ n ev cap ph hlt
    generalize n.hooks[i] = hk at hat hsucc
    have w1 : IntKind.i64.wrap ((i : Int) + 1) = ((i + 1 : Nat) : Int) := by rw [wrapI (by omega)]; omega
    (repeat (first | simp -dsimp only [zrRoute11, xnils, xnilm, xrange, xmakeMap, xslice3, st_callr, sz_callr, st1_callr, cl_callr, h, hat, hookV, RB, TB, keep124, tab124, xindexAddr, xindex, xslice, xconvert, xlen, ewOp, FreeW, StabW, SameW, ChangeW, AddW, BaseW, limBytes, simprocAttr, ne_eq] | ((with_reducible refine Need.intro ?_ ?_); (first | trivial | exact ⟨_, rfl⟩ | exact ⟨[], (List.append_nil _).symm⟩ | omega | (simp; done) | (simp; omega) | exact ⟨by first | trivial | (simp; done), _, by first | rfl | (simp; rfl)⟩))))
    refine IfW.intro (fun h1 => ?_) (fun h1 => ?_)
    · (repeat (first | simp -dsimp only [zrRoute11, xnils, xnilm, xrange, xmakeMap, xslice3, st_callr, sz_callr, st1_callr, cl_callr, h1, hat, hookV, RB, TB, keep124, tab124, xindexAddr, xindex, xslice, xconvert, xlen, ewOp, FreeW, StabW, SameW, ChangeW, AddW, BaseW, limBytes, simprocAttr, ne_eq] | ((with_reducible refine Need.intro ?_ ?_); (first | trivial | exact ⟨_, rfl⟩ | exact ⟨[], (List.append_nil _).symm⟩ | omega | (simp; done) | (simp; omega) | exact ⟨by first | trivial | (simp; done), _, by first | rfl | (simp; rfl)⟩))))
      refine IfW.intro (fun h2 => ?_) (fun h2 => ?_)
      · rw [if_pos (by rw [h1, h2]; rfl)] at hsucc
        (repeat (first | simp -dsimp only [zrRoute11, xnils, xnilm, xrange, xmakeMap, xslice3, st_callr, sz_callr, st1_callr, cl_callr, h2, w1, RB, TB, keep124, tab124, xindexAddr, xindex, xslice, xconvert, xlen, ewOp, FreeW, StabW, SameW, ChangeW, AddW, BaseW, limBytes, simprocAttr, ne_eq] | ((with_reducible refine Need.intro ?_ ?_); (first | trivial | exact ⟨_, rfl⟩ | exact ⟨[], (List.append_nil _).symm⟩ | omega | (simp; done) | (simp; omega) | exact ⟨by first | trivial | (simp; done), _, by first | rfl | (simp; rfl)⟩))))
        refine UpTo.here ⟨(i + 1, v + 1), hlt, by simp only; omega, by simp [upd, eset, hsucc], ⟨_, by simp [hsucc, callV]; rfl⟩⟩
      · rw [if_neg (by rw [h1, h2]; simp), List.append_nil] at hsucc
        (repeat (first | simp -dsimp only [zrRoute11, xnils, xnilm, xrange, xmakeMap, xslice3, st_callr, sz_callr, st1_callr, cl_callr, h2, w1, RB, TB, keep124, tab124, xindexAddr, xindex, xslice, xconvert, xlen, ewOp, FreeW, StabW, SameW, ChangeW, AddW, BaseW, limBytes, simprocAttr, ne_eq] | ((with_reducible refine Need.intro ?_ ?_); (first | trivial | exact ⟨_, rfl⟩ | exact ⟨[], (List.append_nil _).symm⟩ | omega | (simp; done) | (simp; omega) | exact ⟨by first | trivial | (simp; done), _, by first | rfl | (simp; rfl)⟩))))
        refine UpTo.here ⟨(i + 1, v), hlt, by simp only; omega, by simp [upd, eset, hsucc], ⟨_, by simp [hsucc]; rfl⟩⟩
    · rw [if_neg (by rw [h1]; simp), List.append_nil] at hsucc
      (repeat (first | simp -dsimp only [zrRoute11, xnils, xnilm, xrange, xmakeMap, xslice3, st_callr, sz_callr, st1_callr, cl_callr, h1, w1, RB, TB, keep124, tab124, xindexAddr, xindex, xslice, xconvert, xlen, ewOp, FreeW, StabW, SameW, ChangeW, AddW, BaseW, limBytes, simprocAttr, ne_eq] | ((with_reducible refine Need.intro ?_ ?_); (first | trivial | exact ⟨_, rfl⟩ | exact ⟨[], (List.append_nil _).symm⟩ | omega | (simp; done) | (simp; omega) | exact ⟨by first | trivial | (simp; done), _, by first | rfl | (simp; rfl)⟩))))
      refine UpTo.here ⟨(i + 1, v), hlt, by simp only; omega, by simp [upd, eset, hsucc], ⟨_, by simp [hsucc]; rfl⟩⟩
  · (repeat (first | simp -dsimp only [zrRoute11, xnils, xnilm, xrange, xmakeMap, xslice3, st_callr, sz_callr, st1_callr, cl_callr, h, RB, TB, keep124, tab124, xindexAddr, xindex, xslice, xconvert, xlen, ewOp, FreeW, StabW, SameW, ChangeW, AddW, BaseW, limBytes, simprocAttr, ne_eq] | ((with_reducible refine Need.intro ?_ ?_); (first | trivial | exact ⟨_, rfl⟩ | exact ⟨[], (List.append_nil _).symm⟩ | omega | (simp; done) | (simp; omega) | exact ⟨by first | trivial | (simp; done), _, by first | rfl | (simp; rfl)⟩))))
    have hi2 : i = n.hooks.length := Nat.le_antisymm hi (ge_of h)
    subst hi2
    rw [List.take_length]
    refine RetW.auto0 false _ (by first | rfl | exact (List.append_nil _).symm) ?_ ?_
    · (simp (maxDischargeDepth := 6) [LTB, HLt_set, ltL_take, ltL_drop, ltL_rep, ltL_set, upd, eset, hH, hHk, zlRoute11, lt_callr, lt1_callr, ltc_callr] <;> omega)
    (try simp only [wk, wk1, wk0, RB, limBytes, simprocAttr, ne_eq])
    (try (rw [List.take_of_length_le]; rotate_left 1; (· first | (simp; done) | (simp; omega) | omega)))
    simp
end Go.Proofs.Ytjplgbalpnlanaa

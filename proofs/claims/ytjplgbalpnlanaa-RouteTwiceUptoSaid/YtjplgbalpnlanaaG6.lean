/- RouteTwice, where what it reads is of bulk at most 1048576: the law returns true and the arguments read as they did. -/
import Derived.Test.YtjplgbalpnlanaaG5
import Derived.Test.YtjplgbalpnlanaaRows
import Derived.ProofKit
import Derived.JoinedCond
/- The walk of the law RouteTells. -/
set_option linter.unusedSimpArgs false
set_option linter.unusedVariables false
set_option maxRecDepth 100000
namespace Go.Proofs.Ytjplgbalpnlanaa
open Go Go.EL
theorem zrRoute91 : type_of% (And.intro (And.intro (And.intro (And.intro (And.intro (@st_run) (@sz_run)) (And.intro (@st1_run) (@cl_run))) (And.intro (And.intro (@st_Str) (@sz_Str)) (And.intro (@st1_Str) (@cl_Str)))) (And.intro (And.intro (And.intro (@st_c) (@sz_c)) (And.intro (@st1_c) (@cl_c))) (And.intro (And.intro (@st_attr) (@sz_attr)) (And.intro (@st1_attr) (@cl_attr))))) (And.intro (And.intro (And.intro (And.intro (@st_hook) (@sz_hook)) (And.intro (@st1_hook) (@cl_hook))) (And.intro (And.intro (@st_node) (@sz_node)) (And.intro (@st1_node) (@cl_node)))) (And.intro (And.intro (And.intro (@st_callr) (@sz_callr)) (And.intro (@st1_callr) (@cl_callr))) (And.intro (And.intro (@st_opr) (@sz_opr)) (And.intro (@st1_opr) (@cl_opr)))))) := And.intro (And.intro (And.intro (And.intro (And.intro (@st_run) (@sz_run)) (And.intro (@st1_run) (@cl_run))) (And.intro (And.intro (@st_Str) (@sz_Str)) (And.intro (@st1_Str) (@cl_Str)))) (And.intro (And.intro (And.intro (@st_c) (@sz_c)) (And.intro (@st1_c) (@cl_c))) (And.intro (And.intro (@st_attr) (@sz_attr)) (And.intro (@st1_attr) (@cl_attr))))) (And.intro (And.intro (And.intro (And.intro (@st_hook) (@sz_hook)) (And.intro (@st1_hook) (@cl_hook))) (And.intro (And.intro (@st_node) (@sz_node)) (And.intro (@st1_node) (@cl_node)))) (And.intro (And.intro (And.intro (@st_callr) (@sz_callr)) (And.intro (@st1_callr) (@cl_callr))) (And.intro (And.intro (@st_opr) (@sz_opr)) (And.intro (@st1_opr) (@cl_opr)))))
theorem zlRoute91 : type_of% (And.intro (And.intro (And.intro (And.intro (@lt_vi) (And.intro (@lt_str) (@lt_vb))) (And.intro (And.intro (@ltc_str) (@ltc_vi)) (And.intro (@lt_run) (@lt1_run)))) (And.intro (And.intro (@ltc_run) (And.intro (@lt_Str) (@lt1_Str))) (And.intro (And.intro (@ltc_Str) (@lt_c)) (And.intro (@lt1_c) (@ltc_c))))) (And.intro (And.intro (And.intro (@lt_attr) (And.intro (@lt1_attr) (@ltc_attr))) (And.intro (And.intro (@lt_hook) (@lt1_hook)) (And.intro (@ltc_hook) (@lt_node)))) (And.intro (And.intro (And.intro (@lt1_node) (@ltc_node)) (And.intro (@lt_callr) (@lt1_callr))) (And.intro (And.intro (@ltc_callr) (@lt_opr)) (And.intro (@lt1_opr) (@ltc_opr)))))) := And.intro (And.intro (And.intro (And.intro (@lt_vi) (And.intro (@lt_str) (@lt_vb))) (And.intro (And.intro (@ltc_str) (@ltc_vi)) (And.intro (@lt_run) (@lt1_run)))) (And.intro (And.intro (@ltc_run) (And.intro (@lt_Str) (@lt1_Str))) (And.intro (And.intro (@ltc_Str) (@lt_c)) (And.intro (@lt1_c) (@ltc_c))))) (And.intro (And.intro (And.intro (@lt_attr) (And.intro (@lt1_attr) (@ltc_attr))) (And.intro (And.intro (@lt_hook) (@lt1_hook)) (And.intro (@ltc_hook) (@lt_node)))) (And.intro (And.intro (And.intro (@lt1_node) (@ltc_node)) (And.intro (@lt_callr) (@lt1_callr))) (And.intro (And.intro (@ltc_callr) (@lt_opr)) (And.intro (@lt1_opr) (@ltc_opr)))))
theorem pInts (H : List Ob) (l m : List (Int)) : SCall Try.prog 46 [.slice (l.map vi), .slice (m.map vi)] H (fun r H' => r = .bool (decide (l = m)) ∧ H' = H) := by
  refine SCall.sized 0 rfl fun hl => ?_
  rw [List.length_map, maxLen_eq] at hl
  refine SCall.of_good fun hH => ?_
  have hHk := HLt.add hH
  refine SCall.of_code Tok Try.func46 rfl Try.call46 (n := 26) rfl (by simp) (rs := [.tmp 4]) rfl ?_
  refine EWn.to ?_
  refine EWn.of_c Tok mixed (own := false) keep46 tab46 (by kernel_rfl) ?_
  (repeat simp -dsimp only [zrRoute91, xnils, xnilm, xrange, xmakeMap, xslice3, RB, TB, keep46, tab46, xindexAddr, xindex, xslice, xconvert, xlen, ewOp, FreeW, StabW, SameW, ChangeW, AddW, BaseW, limBytes, simprocAttr, ne_eq])
  refine IfW.intro (fun h => ?_) (fun h => ?_)
  rotate_left
  · (repeat simp -dsimp only [zrRoute91, xnils, xnilm, xrange, xmakeMap, xslice3, h, RB, TB, keep46, tab46, xindexAddr, xindex, xslice, xconvert, xlen, ewOp, FreeW, StabW, SameW, ChangeW, AddW, BaseW, limBytes, simprocAttr, ne_eq])
    refine RetW.auto0 false _ (by first | rfl | exact (List.append_nil _).symm) ?_ ?_
    · (simp (maxDischargeDepth := 6) [LTB, HLt_set, ltL_take, ltL_drop, ltL_rep, ltL_set, upd, eset, hH, hHk, zlRoute91] <;> omega)
    (try simp only [wk, wk1, wk0, RB, limBytes, simprocAttr, ne_eq])
    skip
    have hlm : l ≠ m := by rintro rfl; simp at h
    simp [hlm]
  have hlm : l.length = m.length := by simp at h; omega
  (repeat simp -dsimp only [zrRoute91, xnils, xnilm, xrange, xmakeMap, xslice3, h, RB, TB, keep46, tab46, xindexAddr, xindex, xslice, xconvert, xlen, ewOp, FreeW, StabW, SameW, ChangeW, AddW, BaseW, limBytes, simprocAttr, ne_eq])
  refine EWn.loopE (ι := (Nat)) (fun (i : (Nat)) => i ≤ l.length ∧ l.take i = m.take i) (fun (i : (Nat)) => l.length - i) (fun (i : (Nat)) => [(5, .int .i64 i)]) (fun (i : (Nat)) => H) (0) ?_ ?_ ?_ ?_ ?_
  · first | rfl | simp [upd, eset]
  · first | rfl | (simp; done) | exact (set_same (by assumption)).symm
  · rintro i hok; exact ⟨by first | (simp; done) | (simp; omega), by (simp (maxDischargeDepth := 6) [LTB, HLt_set, ltL_take, ltL_drop, ltL_rep, ltL_set, upd, eset, hH, hHk, zlRoute91] <;> omega), by (simp (maxDischargeDepth := 6) [LTB, HLt_set, ltL_take, ltL_drop, ltL_rep, ltL_set, upd, eset, hH, hHk, zlRoute91] <;> omega)⟩
  · simp
  rintro i ⟨hi, hno⟩
  refine EWn.of_c Tok mixed (own := false) keep46 tab46 (by kernel_rfl) ?_
  (repeat simp -dsimp only [zrRoute91, xnils, xnilm, xrange, xmakeMap, xslice3, RB, TB, keep46, tab46, xindexAddr, xindex, xslice, xconvert, xlen, ewOp, FreeW, StabW, SameW, ChangeW, AddW, BaseW, limBytes, simprocAttr, ne_eq])
  refine IfW.intro (fun h1 => ?_) (fun h1 => ?_)
  · have hlt := lt_of h1
    have hlt' : i < m.length := by omega
    (repeat (first | simp -dsimp only [zrRoute91, xnils, xnilm, xrange, xmakeMap, xslice3, h1, at_map vi l i hlt, at_map vi m i hlt', vi, RB, TB, keep46, tab46, xindexAddr, xindex, xslice, xconvert, xlen, ewOp, FreeW, StabW, SameW, ChangeW, AddW, BaseW, limBytes, simprocAttr, ne_eq] | ((with_reducible refine Need.intro ?_ ?_); (omega))))
    refine IfW.intro (fun hb => ?_) (fun hb => ?_)
    · (repeat simp -dsimp only [zrRoute91, xnils, xnilm, xrange, xmakeMap, xslice3, hb, RB, TB, keep46, tab46, xindexAddr, xindex, xslice, xconvert, xlen, ewOp, FreeW, StabW, SameW, ChangeW, AddW, BaseW, limBytes, simprocAttr, ne_eq])
      rw [wrapI (by omega)]
      have hb : l[i] = m[i] := by simpa using hb
      refine UpTo.here ⟨(i + 1), ?_, by first | omega | (simp only [List.length_append, List.length_cons, List.length_nil]; omega), by simp [upd, eset], ⟨_, by simp; try rfl⟩⟩
      exact ⟨hlt, by rw [List.take_succ_eq_append_getElem hlt, List.take_succ_eq_append_getElem hlt', hno, hb]⟩
    · (repeat simp -dsimp only [zrRoute91, xnils, xnilm, xrange, xmakeMap, xslice3, hb, RB, TB, keep46, tab46, xindexAddr, xindex, xslice, xconvert, xlen, ewOp, FreeW, StabW, SameW, ChangeW, AddW, BaseW, limBytes, simprocAttr, ne_eq])
      refine RetW.auto0 false _ (by first | rfl | exact (List.append_nil _).symm) ?_ ?_
      · (simp (maxDischargeDepth := 6) [LTB, HLt_set, ltL_take, ltL_drop, ltL_rep, ltL_set, upd, eset, hH, hHk, zlRoute91] <;> omega)
      (try simp only [wk, wk1, wk0, RB, limBytes, simprocAttr, ne_eq])
      skip
      have hlm : l ≠ m := by rintro rfl; simp at hb
      simp [hlm]
  · (repeat simp -dsimp only [zrRoute91, xnils, xnilm, xrange, xmakeMap, xslice3, h1, RB, TB, keep46, tab46, xindexAddr, xindex, xslice, xconvert, xlen, ewOp, FreeW, StabW, SameW, ChangeW, AddW, BaseW, limBytes, simprocAttr, ne_eq])
    have hge := ge_of h1
    rw [List.take_of_length_le hge, List.take_of_length_le (by omega)] at hno
    refine RetW.auto0 false _ (by first | rfl | exact (List.append_nil _).symm) ?_ ?_
    · (simp (maxDischargeDepth := 6) [LTB, HLt_set, ltL_take, ltL_drop, ltL_rep, ltL_set, upd, eset, hH, hHk, zlRoute91] <;> omega)
    (try simp only [wk, wk1, wk0, RB, limBytes, simprocAttr, ne_eq])
    skip
    simp [hno]

theorem up_len (a : Arena) : ∀ (k : Nat) (id : Int) (out r : List Int), upG a k id out = some r → r.length ≤ out.length + k
  | 0, _, _, _, h => by cases h
  | k + 1, id, out, r, h => by
    rw [upG_succ] at h
    cases hn : nget a.nodes id with
    | none => rw [hn] at h; cases h
    | some n =>
      rw [hn] at h
      simp only at h
      split at h
      · injection h with h
        subst h
        rw [List.length_reverse, List.length_append, List.length_singleton]
        omega
      · split at h
        · cases h
        · have := up_len a k _ _ _ h
          simp only [List.length_append, List.length_cons, List.length_nil] at this
          omega
theorem path_len (a : Arena) (id : Int) : (pathG a id).length ≤ a.nodes.length + 1 := by
  unfold pathG
  cases h : upG a (a.nodes.length + 1) id [] with
  | none => simp
  | some r => have := up_len a _ _ _ _ h; simp only [List.length_nil, Option.getD_some] at this ⊢; omega
theorem rPath_len (a : Arena) (k : Nat) (t : Int) : (rPathG a k t).length ≤ a.nodes.length + 1 := by
  unfold rPathG
  have h1 := path_len a t
  have h2 := path_len a (mountG a k (t.tdiv 1048576))
  split
  · exact h1
  · split
    · simp
    · split
      · simp
      · exact h2
theorem wrap_div {t : Int} (h : -9223372036854775808 ≤ t ∧ t ≤ 9223372036854775807) : IntKind.i64.wrap (t.tdiv 1048576) = t.tdiv 1048576 := by
  refine wrapI ?_
  by_cases h0 : 0 ≤ t
  · rw [Int.tdiv_eq_ediv_of_nonneg h0]; omega
  · have e : t.tdiv 1048576 = -((-t).tdiv 1048576) := by rw [Int.neg_tdiv]; omega
    rw [e, Int.tdiv_eq_ediv_of_nonneg (by omega)]; omega
theorem Grown.bound {B i j : Nat} {a : Arena} {ids : List Int} (g : Grown B i j a ids) (hi : i ≤ 1000) {x : Int} (hx : x ∈ ids) : 0 ≤ x ∧ x ≤ 10000000 := by
  rcases g.key x (g.mem x hx) with h | ⟨k, hk, h1, h2⟩
  · omega
  · have := g.used k hk; omega
set_option maxHeartbeats 2000000 in
theorem routeTells (H : List Ob) (l : List OpR) (at_ t ev : Int) (hl : ∀ o ∈ l, o.hooks.length ≤ 1048576) (hat : -9223372036854775808 ≤ at_ ∧ at_ ≤ 9223372036854775807) (ht : -9223372036854775808 ≤ t ∧ t ≤ 9223372036854775807) : SCall Try.prog 9 [.slice (l.map opV), .int .i64 at_, .int .i64 t, .int .i64 ev] H (fun r H' => r = .bool true) := by
  refine SCall.of_good fun hH => ?_
  have hHk := HLt.add hH
  refine SCall.of_code Tok Try.func9 rfl Try.call9 (n := 49) rfl (by simp) (rs := [.tmp 8]) rfl ?_
  refine EWn.to ?_
  refine EWn.of_c Tok mixed (own := false) keep9 tab9 (by kernel_rfl) ?_
  (repeat simp -dsimp only [zrRoute91, xnils, xnilm, xrange, xmakeMap, xslice3, RB, TB, keep9, tab9, xindexAddr, xindex, xslice, xconvert, xlen, ewOp, FreeW, StabW, SameW, ChangeW, AddW, BaseW, limBytes, simprocAttr, ne_eq])
  (refine SCall.then (alive29 _) ?_)
  (repeat simp -dsimp only [zrRoute91, xnils, xnilm, xrange, xmakeMap, xslice3, RB, TB, keep9, tab9, xindexAddr, xindex, xslice, xconvert, xlen, ewOp, FreeW, StabW, SameW, ChangeW, AddW, BaseW, limBytes, simprocAttr, ne_eq])
  refine SCall.mono (built29 _ l hl) ?_
  rintro _ _ ⟨a, ids, p, q, hp, hq, g, rfl, rfl⟩
  have hidl := g.idl
  have hidp : 0 < ids.length := List.length_pos_of_mem g.root
  have hg : ∀ K, arenaAt (H ++ .map (encM a.nodes) a.clock :: .var (arC H.length a) :: K) (H.length + 1) H.length a := g.at H
  have hN : a.nodes.length ≤ 30 := by have := g.len; omega
  have hsz : (idsG a (q + 1) 0).length ≤ 1000000 := by rw [g.ids_len]; omega
  have hB : ∀ p ∈ a.nodes, p.2.2.hooks.length ≤ 2000000 := fun p hp => Nat.le_trans (g.hks p hp) (by omega)
  have htail : ∀ to : Int, IntKind.i64.wrap (to.tdiv 1048576) = to.tdiv 1048576 →
      (∀ K, SCall Try.prog 61 [.ref (H.length + 1) 0, .int .i64 to] (H ++ .map (encM a.nodes) a.clock :: .var (arC H.length a) :: K) (fun r H' => r = .slice ((rPathG a (q + 1) to).map vi) ∧ H' = H ++ .map (encM a.nodes) a.clock :: .var (arC H.length a) :: K)) ∧
      (∀ K, SCall Try.prog 62 [.ref (H.length + 1) 0, .int .i64 to] (H ++ .map (encM a.nodes) a.clock :: .var (arC H.length a) :: K) (fun r H' => r = .slice ((rPathG a (q + 1) to).map vi) ∧ H' = H ++ .map (encM a.nodes) a.clock :: .var (arC H.length a) :: K)) ∧
      (∀ K, SCall Try.prog 64 [.ref (H.length + 1) 0, .int .i64 to, .int .i64 ev] (H ++ .map (encM a.nodes) a.clock :: .var (arC H.length a) :: K) (fun r H' => r = .slice ((callsG a ev (rPathG a (q + 1) to)).map callV) ∧ H' = H ++ .map (encM a.nodes) a.clock :: .var (arC H.length a) :: K)) ∧
      (∀ K, SCall Try.prog 65 [.ref (H.length + 1) 0, .slice ((rPathG a (q + 1) to).map vi), .int .i64 ev] (H ++ .map (encM a.nodes) a.clock :: .var (arC H.length a) :: K) (fun r H' => r = .slice ((callsG a ev (rPathG a (q + 1) to)).map callV) ∧ H' = H ++ .map (encM a.nodes) a.clock :: .var (arC H.length a) :: K)) := fun to hw => by
    have hP : (rPathG a (q + 1) to).length ≤ 100 := by have := rPath_len a (q + 1) to; omega
    exact ⟨fun K => lPath _ _ _ a (hg K) g.oks (by omega) g.keyed (q + 1) (g.deep 0) hsz to, fun K => rPath _ _ _ a (hg K) g.oks (by omega) g.keyed (q + 1) (g.deep 0) hsz to hw, fun K => rCalls _ _ _ a (hg K) g.oks (by omega) g.keyed (q + 1) (g.deep 0) hsz to ev hw hB hP, fun K => lCalls _ _ _ a (hg K) g.oks hB _ ev hP⟩
  (repeat simp -dsimp only [zrRoute91, xnils, xnilm, xrange, xmakeMap, xslice3, RB, TB, keep9, tab9, xindexAddr, xindex, xslice, xconvert, xlen, ewOp, FreeW, StabW, SameW, ChangeW, AddW, BaseW, limBytes, simprocAttr, ne_eq])
  refine IfW.intro (fun h => ?_) (fun h => ?_)
  · have h0 : 0 ≤ at_ := by have := of_decide_eq_true h; omega
    obtain ⟨k, hk, hkw⟩ : ∃ k : Nat, k < ids.length ∧ at_.tmod ids.length = (k : Int) := by
      have h2 := Int.tmod_lt_of_pos at_ (show (0 : Int) < ids.length by omega)
      have h3 := Int.tmod_nonneg (ids.length : Int) h0
      exact ⟨(at_.tmod ids.length).toNat, by omega, by omega⟩
    have hmi := at_map vi ids k hk
    simp only [vi] at hmi
    have hb := g.bound (by omega) (List.getElem_mem hk)
    generalize ids[k] = to at *
    obtain ⟨c1, c2, c3, c4⟩ := htail to (wrap_div (by omega))
    (repeat (first | simp -dsimp only [zrRoute91, xnils, xnilm, xrange, xmakeMap, xslice3, h, hkw, hmi, RB, TB, keep9, tab9, xindexAddr, xindex, xslice, xconvert, xlen, ewOp, FreeW, StabW, SameW, ChangeW, AddW, BaseW, limBytes, simprocAttr, ne_eq] | ((with_reducible refine Need.intro ?_ ?_); (omega))))
    (refine SCall.then (c1 _) ?_)
    (repeat simp -dsimp only [zrRoute91, xnils, xnilm, xrange, xmakeMap, xslice3, RB, TB, keep9, tab9, xindexAddr, xindex, xslice, xconvert, xlen, ewOp, FreeW, StabW, SameW, ChangeW, AddW, BaseW, limBytes, simprocAttr, ne_eq])
    (refine SCall.then (c2 _) ?_)
    (repeat simp -dsimp only [zrRoute91, xnils, xnilm, xrange, xmakeMap, xslice3, RB, TB, keep9, tab9, xindexAddr, xindex, xslice, xconvert, xlen, ewOp, FreeW, StabW, SameW, ChangeW, AddW, BaseW, limBytes, simprocAttr, ne_eq])
    (refine SCall.then (pInts _ _ _) ?_)
    (repeat simp -dsimp only [zrRoute91, xnils, xnilm, xrange, xmakeMap, xslice3, RB, TB, keep9, tab9, xindexAddr, xindex, xslice, xconvert, xlen, ewOp, FreeW, StabW, SameW, ChangeW, AddW, BaseW, limBytes, simprocAttr, ne_eq])
    (refine SCall.then (c3 _) ?_)
    (repeat simp -dsimp only [zrRoute91, xnils, xnilm, xrange, xmakeMap, xslice3, RB, TB, keep9, tab9, xindexAddr, xindex, xslice, xconvert, xlen, ewOp, FreeW, StabW, SameW, ChangeW, AddW, BaseW, limBytes, simprocAttr, ne_eq])
    (refine SCall.then (c4 _) ?_)
    (repeat simp -dsimp only [zrRoute91, xnils, xnilm, xrange, xmakeMap, xslice3, RB, TB, keep9, tab9, xindexAddr, xindex, xslice, xconvert, xlen, ewOp, FreeW, StabW, SameW, ChangeW, AddW, BaseW, limBytes, simprocAttr, ne_eq])
    (refine SCall.then (lSame _ _ _) ?_)
    (repeat simp -dsimp only [zrRoute91, xnils, xnilm, xrange, xmakeMap, xslice3, RB, TB, keep9, tab9, xindexAddr, xindex, xslice, xconvert, xlen, ewOp, FreeW, StabW, SameW, ChangeW, AddW, BaseW, limBytes, simprocAttr, ne_eq])
    refine RetW.auto0 false _ (by first | rfl | exact (List.append_nil _).symm) ?_ ?_
    · (simp (maxDischargeDepth := 6) [LTB, HLt_set, ltL_take, ltL_drop, ltL_rep, ltL_set, upd, eset, hH, hHk, zlRoute91] <;> omega)
    (try simp only [wk, wk1, wk0, RB, limBytes, simprocAttr, ne_eq])
    skip
  · obtain ⟨c1, c2, c3, c4⟩ := htail t (wrap_div (by omega))
    (repeat simp -dsimp only [zrRoute91, xnils, xnilm, xrange, xmakeMap, xslice3, h, RB, TB, keep9, tab9, xindexAddr, xindex, xslice, xconvert, xlen, ewOp, FreeW, StabW, SameW, ChangeW, AddW, BaseW, limBytes, simprocAttr, ne_eq])
    (refine SCall.then (c1 _) ?_)
    (repeat simp -dsimp only [zrRoute91, xnils, xnilm, xrange, xmakeMap, xslice3, RB, TB, keep9, tab9, xindexAddr, xindex, xslice, xconvert, xlen, ewOp, FreeW, StabW, SameW, ChangeW, AddW, BaseW, limBytes, simprocAttr, ne_eq])
    (refine SCall.then (c2 _) ?_)
    (repeat simp -dsimp only [zrRoute91, xnils, xnilm, xrange, xmakeMap, xslice3, RB, TB, keep9, tab9, xindexAddr, xindex, xslice, xconvert, xlen, ewOp, FreeW, StabW, SameW, ChangeW, AddW, BaseW, limBytes, simprocAttr, ne_eq])
    (refine SCall.then (pInts _ _ _) ?_)
    (repeat simp -dsimp only [zrRoute91, xnils, xnilm, xrange, xmakeMap, xslice3, RB, TB, keep9, tab9, xindexAddr, xindex, xslice, xconvert, xlen, ewOp, FreeW, StabW, SameW, ChangeW, AddW, BaseW, limBytes, simprocAttr, ne_eq])
    (refine SCall.then (c3 _) ?_)
    (repeat simp -dsimp only [zrRoute91, xnils, xnilm, xrange, xmakeMap, xslice3, RB, TB, keep9, tab9, xindexAddr, xindex, xslice, xconvert, xlen, ewOp, FreeW, StabW, SameW, ChangeW, AddW, BaseW, limBytes, simprocAttr, ne_eq])
    (refine SCall.then (c4 _) ?_)
    (repeat simp -dsimp only [zrRoute91, xnils, xnilm, xrange, xmakeMap, xslice3, RB, TB, keep9, tab9, xindexAddr, xindex, xslice, xconvert, xlen, ewOp, FreeW, StabW, SameW, ChangeW, AddW, BaseW, limBytes, simprocAttr, ne_eq])
    (refine SCall.then (lSame _ _ _) ?_)
    (repeat simp -dsimp only [zrRoute91, xnils, xnilm, xrange, xmakeMap, xslice3, RB, TB, keep9, tab9, xindexAddr, xindex, xslice, xconvert, xlen, ewOp, FreeW, StabW, SameW, ChangeW, AddW, BaseW, limBytes, simprocAttr, ne_eq])
    refine RetW.auto0 false _ (by first | rfl | exact (List.append_nil _).symm) ?_ ?_
    · (simp (maxDischargeDepth := 6) [LTB, HLt_set, ltL_take, ltL_drop, ltL_rep, ltL_set, upd, eset, hH, hHk, zlRoute91] <;> omega)
    (try simp only [wk, wk1, wk0, RB, limBytes, simprocAttr, ne_eq])
    skip
end Go.Proofs.Ytjplgbalpnlanaa

/- The walk of the law RouteTwice. -/
set_option maxHeartbeats 600000
set_option linter.unusedSimpArgs false
set_option linter.unusedVariables false
set_option maxRecDepth 100000
namespace Go.Proofs.Ytjplgbalpnlanaa
open Go Go.EL
theorem zrRoute101 : type_of% (And.intro (And.intro (And.intro (And.intro (And.intro (@st_run) (@sz_run)) (And.intro (@st1_run) (@cl_run))) (And.intro (And.intro (@st_Str) (@sz_Str)) (And.intro (@st1_Str) (@cl_Str)))) (And.intro (And.intro (And.intro (@st_c) (@sz_c)) (And.intro (@st1_c) (@cl_c))) (And.intro (And.intro (@st_attr) (@sz_attr)) (And.intro (@st1_attr) (@cl_attr))))) (And.intro (And.intro (And.intro (And.intro (@st_hook) (@sz_hook)) (And.intro (@st1_hook) (@cl_hook))) (And.intro (And.intro (@st_node) (@sz_node)) (And.intro (@st1_node) (@cl_node)))) (And.intro (And.intro (And.intro (@st_callr) (@sz_callr)) (And.intro (@st1_callr) (@cl_callr))) (And.intro (And.intro (@st_opr) (@sz_opr)) (And.intro (@st1_opr) (@cl_opr)))))) := And.intro (And.intro (And.intro (And.intro (And.intro (@st_run) (@sz_run)) (And.intro (@st1_run) (@cl_run))) (And.intro (And.intro (@st_Str) (@sz_Str)) (And.intro (@st1_Str) (@cl_Str)))) (And.intro (And.intro (And.intro (@st_c) (@sz_c)) (And.intro (@st1_c) (@cl_c))) (And.intro (And.intro (@st_attr) (@sz_attr)) (And.intro (@st1_attr) (@cl_attr))))) (And.intro (And.intro (And.intro (And.intro (@st_hook) (@sz_hook)) (And.intro (@st1_hook) (@cl_hook))) (And.intro (And.intro (@st_node) (@sz_node)) (And.intro (@st1_node) (@cl_node)))) (And.intro (And.intro (And.intro (@st_callr) (@sz_callr)) (And.intro (@st1_callr) (@cl_callr))) (And.intro (And.intro (@st_opr) (@sz_opr)) (And.intro (@st1_opr) (@cl_opr)))))
theorem zlRoute101 : type_of% (And.intro (And.intro (And.intro (And.intro (@lt_vi) (And.intro (@lt_str) (@lt_vb))) (And.intro (And.intro (@ltc_str) (@ltc_vi)) (And.intro (@lt_run) (@lt1_run)))) (And.intro (And.intro (@ltc_run) (And.intro (@lt_Str) (@lt1_Str))) (And.intro (And.intro (@ltc_Str) (@lt_c)) (And.intro (@lt1_c) (@ltc_c))))) (And.intro (And.intro (And.intro (@lt_attr) (And.intro (@lt1_attr) (@ltc_attr))) (And.intro (And.intro (@lt_hook) (@lt1_hook)) (And.intro (@ltc_hook) (@lt_node)))) (And.intro (And.intro (And.intro (@lt1_node) (@ltc_node)) (And.intro (@lt_callr) (@lt1_callr))) (And.intro (And.intro (@ltc_callr) (@lt_opr)) (And.intro (@lt1_opr) (@ltc_opr)))))) := And.intro (And.intro (And.intro (And.intro (@lt_vi) (And.intro (@lt_str) (@lt_vb))) (And.intro (And.intro (@ltc_str) (@ltc_vi)) (And.intro (@lt_run) (@lt1_run)))) (And.intro (And.intro (@ltc_run) (And.intro (@lt_Str) (@lt1_Str))) (And.intro (And.intro (@ltc_Str) (@lt_c)) (And.intro (@lt1_c) (@ltc_c))))) (And.intro (And.intro (And.intro (@lt_attr) (And.intro (@lt1_attr) (@ltc_attr))) (And.intro (And.intro (@lt_hook) (@lt1_hook)) (And.intro (@ltc_hook) (@lt_node)))) (And.intro (And.intro (And.intro (@lt1_node) (@ltc_node)) (And.intro (@lt_callr) (@lt1_callr))) (And.intro (And.intro (@ltc_callr) (@lt_opr)) (And.intro (@lt1_opr) (@ltc_opr)))))
/-- a path that is told ends where it began, and comes there once -/
theorem up_last (a : Arena) : ∀ (k : Nat) (id : Int) (out r : List Int), Keyed a.nodes → out.Nodup → id ∉ out → upG a k id out = some r → r.Nodup ∧ ∃ u, r = u ++ (out ++ [id]).take 1
  | 0, _, _, _, _, _, _, h => by cases h
  | k + 1, id, out, r, hk, hn, hi, h => by
    rw [upG_succ] at h
    cases hg : nget a.nodes id with
    | none => rw [hg] at h; cases h
    | some n =>
      have hid : n.id = id := nget_key hk hg
      rw [hg] at h
      simp only [hid] at h
      have hnd : (out ++ [id]).Nodup := by
        rw [List.nodup_append]
        refine ⟨hn, by simp, ?_⟩
        intro x hx y hy
        simp at hy
        subst hy
        exact fun e => hi (e ▸ hx)
      split at h
      · injection h with h
        subst h
        refine ⟨List.pairwise_reverse.2 (hnd.imp fun h => Ne.symm h), ?_⟩
        cases ho : out ++ [id] with
        | nil => simp at ho
        | cons x l => exact ⟨l.reverse, by simp⟩
      · split at h
        · cases h
        · rename_i h1 h2
          obtain ⟨g1, u, g2⟩ := up_last a k n.parent _ r hk hnd h2 h
          refine ⟨g1, u, ?_⟩
          rw [g2]
          congr 1
          cases out with
          | nil => simp
          | cons x l => simp
theorem path_last {a : Arena} (hk : Keyed a.nodes) (id : Int) : (pathG a id).Nodup ∧ (pathG a id = [] ∨ ∃ u, pathG a id = u ++ [id]) := by
  unfold pathG
  cases h : upG a (a.nodes.length + 1) id [] with
  | none => simp
  | some r =>
    obtain ⟨g1, u, g2⟩ := up_last a _ id [] r hk (by simp) (by simp) h
    exact ⟨g1, .inr ⟨u, by simpa using g2⟩⟩
def evs (ev : Int) (l : List Hook) : Nat := (l.filter fun h => h.ev == ev).length
theorem toldF_two (n : Node) (ev : Int) (p q : Int) : ∀ l : List Hook, (toldF n ev true p l).length + (toldF n ev false q l).length = evs ev l
  | [] => rfl
  | h :: l => by
    have ih := toldF_two n ev p q l
    unfold toldF evs at *
    simp only [List.length_map] at ih ⊢
    obtain ⟨e, c, m⟩ := h
    cases h1 : (e == ev) <;> cases c <;> simp [h1] <;> (try simp at ih) <;> omega
def sumE (a : Arena) (ev : Int) (l : List Int) : Nat := (l.map fun x => evs ev (nodeAt a x).hooks).sum
theorem callsG_len (a : Arena) (ev : Int) (l : List Int) : (callsG a ev l).length = sumE a ev l := by
  have h0 : ∀ v : List (Nat × Int), (callsA a ev l true 1 v).length + (callsA a ev l false 3 v).length = (v.map fun p => evs ev (nodeAt a p.2).hooks).sum := by
    intro v
    induction v with
    | nil => rfl
    | cons p v ih =>
      rw [show p :: v = [p] ++ v from rfl, callsA_app, callsA_app, callsA_one, callsA_one]
      simp only [List.length_append, List.map_append, List.map_cons, List.map_nil, List.sum_append, List.sum_cons, List.sum_nil]
      rw [← toldF_two (nodeAt a p.2) ev (phB p.1 l.length 1) (phB p.1 l.length 3)]
      omega
  have h1 : (callsA a ev l false 3 (visB l)).length = (callsA a ev l false 3 (visF l)).length := by
    rw [visB_eq]
    unfold callsA
    rw [List.length_flatMap, List.length_flatMap, List.map_reverse, List.sum_reverse]
  unfold callsG sumE
  rw [List.length_append, h1, h0]
  congr 1
  unfold visF
  rw [List.map_map]
  conv => rhs; rw [← List.zipIdx_map_fst 0 l, List.map_map]
  rfl
/-- each call that is told -/
theorem callsG_mem {a : Arena} (hk : Keyed a.nodes) {ev : Int} {id : Int} {c : Callr} (h : c ∈ callsG a ev (pathG a id)) (hall : ∀ x ∈ pathG a id, (nget a.nodes x).isSome = true) : c.node ∈ pathG a id ∧ (c.phase = 1 ∨ c.phase = 2 ∨ c.phase = 3) ∧ (c.phase = 2 ↔ c.node = id) := by
  obtain ⟨hnd, hlast⟩ := path_last hk id
  have key : ∀ (cap : Bool) (o : Int) (v : List (Nat × Int)), (o = 1 ∨ o = 3) → (∀ p ∈ v, ∃ hp : p.1 < (pathG a id).length, (pathG a id)[p.1] = p.2) → c ∈ callsA a ev (pathG a id) cap o v → c.node ∈ pathG a id ∧ (c.phase = 1 ∨ c.phase = 2 ∨ c.phase = 3) ∧ (c.phase = 2 ↔ c.node = id) := by
    intro cap o v ho hv hc
    unfold callsA at hc
    obtain ⟨p, hp, hc⟩ := List.mem_flatMap.1 hc
    unfold toldF at hc
    obtain ⟨x, _, rfl⟩ := List.mem_map.1 hc
    obtain ⟨hlt, he⟩ := hv p hp
    have hm : p.2 ∈ pathG a id := he ▸ List.getElem_mem hlt
    have hnode : (nodeAt a p.2).id = p.2 := by
      obtain ⟨n, hn⟩ := Option.isSome_iff_exists.1 (hall _ hm)
      rw [nodeAt_some hn]
      show n.id = p.2
      exact nget_key hk hn
    simp only [hnode]
    refine ⟨hm, ?_, ?_⟩
    · unfold phB; split
      · exact .inr (.inl rfl)
      · rcases ho with h | h
        · exact .inl h
        · exact .inr (.inr h)
    · unfold phB
      rcases hlast with h0 | ⟨u, hu⟩
      · rw [h0] at hlt; simp at hlt
      · have hid : (pathG a id)[(pathG a id).length - 1]'(by omega) = id := by
          simp only [hu, List.length_append, List.length_singleton, Nat.add_sub_cancel]
          rw [List.getElem_append_right (by simp)]
          simp
        by_cases e : p.1 + 1 = (pathG a id).length
        · rw [if_pos e]
          refine ⟨fun _ => ?_, fun _ => rfl⟩
          have e2 : p.1 = (pathG a id).length - 1 := by omega
          rw [← he]
          simp only [e2]
          exact hid
        · rw [if_neg e]
          refine ⟨fun h2 => ?_, fun h2 => ?_⟩
          · rcases ho with h | h <;> omega
          · exfalso
            have := (List.getElem_inj hnd).1 (he.trans (h2.trans hid.symm))
            omega
  unfold callsG at h
  rcases List.mem_append.1 h with h | h
  · refine key true 1 _ (.inl rfl) (fun p hp => ?_) h
    unfold visF at hp
    obtain ⟨q, hq, rfl⟩ := List.mem_map.1 hp
    obtain ⟨h1, h2, h3⟩ := List.mem_zipIdx hq
    simp only
    exact ⟨by omega, by rw [h3]; simp⟩
  · refine key false 3 _ (.inr rfl) (fun p hp => ?_) h
    rw [visB_eq] at hp
    unfold visF at hp
    obtain ⟨q, hq, rfl⟩ := List.mem_map.1 (List.mem_reverse.1 hp)
    obtain ⟨h1, h2, h3⟩ := List.mem_zipIdx hq
    simp only
    exact ⟨by omega, by rw [h3]; simp⟩
theorem up_all (a : Arena) : ∀ (k : Nat) (id : Int) (out r : List Int), (∀ x ∈ out, (nget a.nodes x).isSome = true) → Keyed a.nodes → upG a k id out = some r → ∀ x ∈ r, (nget a.nodes x).isSome = true
  | 0, _, _, _, _, _, h => by cases h
  | k + 1, id, out, r, ho, hk, h => by
    rw [upG_succ] at h
    cases hg : nget a.nodes id with
    | none => rw [hg] at h; cases h
    | some n =>
      have hid : n.id = id := nget_key hk hg
      rw [hg] at h
      simp only [hid] at h
      have ho2 : ∀ x ∈ out ++ [id], (nget a.nodes x).isSome = true := fun x hx => by
        rcases List.mem_append.1 hx with hx | hx
        · exact ho x hx
        · simp at hx; subst hx; rw [hg]; rfl
      split at h
      · injection h with h
        subst h
        intro x hx
        exact ho2 x (List.mem_reverse.1 hx)
      · split at h
        · cases h
        · exact up_all a k _ _ _ ho2 hk h
theorem path_all {a : Arena} (hk : Keyed a.nodes) (id : Int) : ∀ x ∈ pathG a id, (nget a.nodes x).isSome = true := by
  unfold pathG
  cases h : upG a (a.nodes.length + 1) id [] with
  | none => simp
  | some r => exact up_all a _ id [] r (by simp) hk h
end Go.Proofs.Ytjplgbalpnlanaa

/- The walk of the law RouteTwice. -/
set_option linter.unusedSimpArgs false
set_option linter.unusedVariables false
set_option maxRecDepth 100000
namespace Go.Proofs.Ytjplgbalpnlanaa
open Go Go.EL
theorem zrRoute111 : type_of% (And.intro (And.intro (And.intro (And.intro (And.intro (@st_run) (@sz_run)) (And.intro (@st1_run) (@cl_run))) (And.intro (And.intro (@st_Str) (@sz_Str)) (And.intro (@st1_Str) (@cl_Str)))) (And.intro (And.intro (And.intro (@st_c) (@sz_c)) (And.intro (@st1_c) (@cl_c))) (And.intro (And.intro (@st_attr) (@sz_attr)) (And.intro (@st1_attr) (@cl_attr))))) (And.intro (And.intro (And.intro (And.intro (@st_hook) (@sz_hook)) (And.intro (@st1_hook) (@cl_hook))) (And.intro (And.intro (@st_node) (@sz_node)) (And.intro (@st1_node) (@cl_node)))) (And.intro (And.intro (And.intro (@st_callr) (@sz_callr)) (And.intro (@st1_callr) (@cl_callr))) (And.intro (And.intro (@st_opr) (@sz_opr)) (And.intro (@st1_opr) (@cl_opr)))))) := And.intro (And.intro (And.intro (And.intro (And.intro (@st_run) (@sz_run)) (And.intro (@st1_run) (@cl_run))) (And.intro (And.intro (@st_Str) (@sz_Str)) (And.intro (@st1_Str) (@cl_Str)))) (And.intro (And.intro (And.intro (@st_c) (@sz_c)) (And.intro (@st1_c) (@cl_c))) (And.intro (And.intro (@st_attr) (@sz_attr)) (And.intro (@st1_attr) (@cl_attr))))) (And.intro (And.intro (And.intro (And.intro (@st_hook) (@sz_hook)) (And.intro (@st1_hook) (@cl_hook))) (And.intro (And.intro (@st_node) (@sz_node)) (And.intro (@st1_node) (@cl_node)))) (And.intro (And.intro (And.intro (@st_callr) (@sz_callr)) (And.intro (@st1_callr) (@cl_callr))) (And.intro (And.intro (@st_opr) (@sz_opr)) (And.intro (@st1_opr) (@cl_opr)))))
theorem zlRoute111 : type_of% (And.intro (And.intro (And.intro (And.intro (@lt_vi) (And.intro (@lt_str) (@lt_vb))) (And.intro (And.intro (@ltc_str) (@ltc_vi)) (And.intro (@lt_run) (@lt1_run)))) (And.intro (And.intro (@ltc_run) (And.intro (@lt_Str) (@lt1_Str))) (And.intro (And.intro (@ltc_Str) (@lt_c)) (And.intro (@lt1_c) (@ltc_c))))) (And.intro (And.intro (And.intro (@lt_attr) (And.intro (@lt1_attr) (@ltc_attr))) (And.intro (And.intro (@lt_hook) (@lt1_hook)) (And.intro (@ltc_hook) (@lt_node)))) (And.intro (And.intro (And.intro (@lt1_node) (@ltc_node)) (And.intro (@lt_callr) (@lt1_callr))) (And.intro (And.intro (@ltc_callr) (@lt_opr)) (And.intro (@lt1_opr) (@ltc_opr)))))) := And.intro (And.intro (And.intro (And.intro (@lt_vi) (And.intro (@lt_str) (@lt_vb))) (And.intro (And.intro (@ltc_str) (@ltc_vi)) (And.intro (@lt_run) (@lt1_run)))) (And.intro (And.intro (@ltc_run) (And.intro (@lt_Str) (@lt1_Str))) (And.intro (And.intro (@ltc_Str) (@lt_c)) (And.intro (@lt1_c) (@ltc_c))))) (And.intro (And.intro (And.intro (@lt_attr) (And.intro (@lt1_attr) (@ltc_attr))) (And.intro (And.intro (@lt_hook) (@lt1_hook)) (And.intro (@ltc_hook) (@lt_node)))) (And.intro (And.intro (And.intro (@lt1_node) (@ltc_node)) (And.intro (@lt_callr) (@lt1_callr))) (And.intro (And.intro (@ltc_callr) (@lt_opr)) (And.intro (@lt1_opr) (@ltc_opr)))))
theorem evs_succ (ev : Int) {l : List Hook} {i : Nat} (h : i < l.length) : evs ev (l.take (i + 1)) = evs ev (l.take i) + if (l[i].ev == ev) = true then 1 else 0 := by
  unfold evs
  rw [List.take_succ_eq_append_getElem h, List.filter_append, List.length_append]
  congr 1
  cases h1 : (l[i].ev == ev) <;> simp [h1]
theorem evs_le (ev : Int) (l : List Hook) : evs ev l ≤ l.length := List.length_filter_le _ _
theorem sumE_succ (a : Arena) (ev : Int) {l : List Int} {i : Nat} (h : i < l.length) : sumE a ev (l.take (i + 1)) = sumE a ev (l.take i) + evs ev (nodeAt a l[i]).hooks := by
  unfold sumE
  rw [List.take_succ_eq_append_getElem h, List.map_append, List.sum_append]
  simp
theorem sumE_le {a : Arena} {B : Nat} (hB : ∀ p ∈ a.nodes, p.2.2.hooks.length ≤ B) (ev : Int) : ∀ l : List Int, sumE a ev l ≤ l.length * B
  | [] => by simp [sumE]
  | x :: l => by
    have ih := sumE_le hB ev l
    have h1 := evs_le ev (nodeAt a x).hooks
    have h2 := nodeAt_hooks hB x
    unfold sumE at *
    simp only [List.map_cons, List.sum_cons, List.length_cons, Nat.add_mul]
    omega
set_option maxHeartbeats 4000000 in
theorem routeTwice (H : List Ob) (l : List OpR) (at_ ev : Int) (hl : ∀ o ∈ l, o.hooks.length ≤ 1048576) : SCall Try.prog 10 [.slice (l.map opV), .int .i64 at_, .int .i64 ev] H (fun r H' => r = .bool true) := by
  refine SCall.of_good fun hH => ?_
  have hHk := HLt.add hH
  refine SCall.of_code Tok Try.func10 rfl Try.call10 (n := 142) rfl (by simp) (rs := [.tmp 6]) rfl ?_
  refine EWn.to ?_
  refine EWn.of_c Tok mixed (own := false) keep10 tab10 (by kernel_rfl) ?_
  (repeat simp -dsimp only [zrRoute111, xnils, xnilm, xrange, xmakeMap, xslice3, RB, TB, keep10, tab10, xindexAddr, xindex, xslice, xconvert, xlen, ewOp, FreeW, StabW, SameW, ChangeW, AddW, BaseW, limBytes, simprocAttr, ne_eq])
  (refine SCall.then (alive29 _) ?_)
  (repeat simp -dsimp only [zrRoute111, xnils, xnilm, xrange, xmakeMap, xslice3, RB, TB, keep10, tab10, xindexAddr, xindex, xslice, xconvert, xlen, ewOp, FreeW, StabW, SameW, ChangeW, AddW, BaseW, limBytes, simprocAttr, ne_eq])
  refine SCall.mono (built29 _ l hl) ?_
  rintro _ _ ⟨a, ids, p, q, hp, hq, g, rfl, rfl⟩
  have hidl := g.idl
  have hidp : 0 < ids.length := List.length_pos_of_mem g.root
  have hg : ∀ K, arenaAt (H ++ .map (encM a.nodes) a.clock :: .var (arC H.length a) :: K) (H.length + 1) H.length a := g.at H
  have hN : a.nodes.length ≤ 30 := by have := g.len; omega
  have hsz : (idsG a (q + 1) 0).length ≤ 1000000 := by rw [g.ids_len]; omega
  have hB : ∀ p ∈ a.nodes, p.2.2.hooks.length ≤ 2000000 := fun p hp => Nat.le_trans (g.hks p hp) (by omega)
  obtain ⟨k, hk, hkw⟩ := tmodn at_ ids.length hidp (by omega)
  have hmi := at_map vi ids k hk
  simp only [vi] at hmi
  have hb := g.bound (by omega) (List.getElem_mem hk)
  have hmem := g.mem _ (List.getElem_mem hk)
  generalize ids[k] = to at *
  have hr : rPathG a (q + 1) to = pathG a to := by unfold rPathG; rw [if_pos hmem]
  have hP : (rPathG a (q + 1) to).length ≤ 100 := by have := rPath_len a (q + 1) to; omega
  have c1 := fun K => rCalls _ _ _ a (hg K) g.oks (by omega) g.keyed (q + 1) (g.deep 0) hsz to ev (wrap_div (by omega)) hB hP
  have c2 := fun K => dPath _ _ _ a (hg K) g.oks (by omega) g.keyed to
  rw [hr] at hP
  rw [hr] at c1
  have hcm : ∀ c ∈ callsG a ev (pathG a to), c.node ∈ pathG a to ∧ (c.phase = 1 ∨ c.phase = 2 ∨ c.phase = 3) ∧ (c.phase = 2 ↔ c.node = to) := fun c hc => callsG_mem g.keyed hc (path_all g.keyed to)
  have hcl := callsG_len a ev (pathG a to)
  have hsl := sumE_le hB ev (pathG a to)
  generalize callsG a ev (pathG a to) = cs at *
  generalize pathG a to = P at *
  have hsP : ∀ i, sumE a ev (P.take i) ≤ 200000000 := fun i => by
    have h1 := sumE_le hB ev (P.take i)
    have h3 : (P.take i).length * 2000000 ≤ 100 * 2000000 := Nat.mul_le_mul_right _ (by rw [List.length_take]; omega)
    omega
  have hcl2 : cs.length ≤ 200000000 := by
    have h3 : P.length * 2000000 ≤ 100 * 2000000 := Nat.mul_le_mul_right _ hP
    omega
  (repeat (first | simp -dsimp only [zrRoute111, xnils, xnilm, xrange, xmakeMap, xslice3, hkw, hmi, RB, TB, keep10, tab10, xindexAddr, xindex, xslice, xconvert, xlen, ewOp, FreeW, StabW, SameW, ChangeW, AddW, BaseW, limBytes, simprocAttr, ne_eq] | ((with_reducible refine Need.intro ?_ ?_); (omega))))
  (refine SCall.then (c1 _) ?_)
  (repeat simp -dsimp only [zrRoute111, xnils, xnilm, xrange, xmakeMap, xslice3, RB, TB, keep10, tab10, xindexAddr, xindex, xslice, xconvert, xlen, ewOp, FreeW, StabW, SameW, ChangeW, AddW, BaseW, limBytes, simprocAttr, ne_eq])
  (refine SCall.then (c2 _) ?_)
  (repeat simp -dsimp only [zrRoute111, xnils, xnilm, xrange, xmakeMap, xslice3, RB, TB, keep10, tab10, xindexAddr, xindex, xslice, xconvert, xlen, ewOp, FreeW, StabW, SameW, ChangeW, AddW, BaseW, limBytes, simprocAttr, ne_eq])
  refine EWn.loopE (ι := (Nat)) (fun (i : (Nat)) => i ≤ P.length) (fun (i : (Nat)) => P.length - i) (fun (i : (Nat)) => [(12, .int .i64 (sumE a ev (P.take i))), (13, .int .i64 i)]) (fun (i : (Nat)) => H ++ [.map (encM a.nodes) a.clock, .var (arC H.length a)]) (0) ?_ ?_ ?_ ?_ ?_
  · first | rfl | (simp [upd, eset]; done) | (simp [upd, eset, sumE]; done)
  · simp [sumE]
  · rintro i hok; exact ⟨by first | (simp; done) | (simp; omega), by (simp (maxDischargeDepth := 6) [LTB, HLt_set, ltL_take, ltL_drop, ltL_rep, ltL_set, upd, eset, hH, hHk, lt_encM, lt_arC, ltL_nodeC, zlRoute111] <;> omega), by (simp (maxDischargeDepth := 6) [LTB, HLt_set, ltL_take, ltL_drop, ltL_rep, ltL_set, upd, eset, hH, hHk, lt_encM, lt_arC, ltL_nodeC, zlRoute111] <;> omega)⟩
  · omega
  rintro i hi
  refine EWn.of_c Tok mixed (own := false) keep10 tab10 (by kernel_rfl) ?_
  (repeat simp -dsimp only [zrRoute111, xnils, xnilm, xrange, xmakeMap, xslice3, RB, TB, keep10, tab10, xindexAddr, xindex, xslice, xconvert, xlen, ewOp, FreeW, StabW, SameW, ChangeW, AddW, BaseW, limBytes, simprocAttr, ne_eq])
  refine IfW.intro (fun hs => ?_) (fun hs => ?_)
  · have hlt := lt_of hs
    have hm2 := at_map vi P i hlt
    simp only [vi] at hm2
    have s1 := sumE_succ a ev hlt
    have hs0 := hsP i
    have hhk := nodeAt_hooks hB P[i]
    (repeat (first | simp -dsimp only [zrRoute111, xnils, xnilm, xrange, xmakeMap, xslice3, hs, hm2, RB, TB, keep10, tab10, xindexAddr, xindex, xslice, xconvert, xlen, ewOp, FreeW, StabW, SameW, ChangeW, AddW, BaseW, limBytes, simprocAttr, ne_eq] | ((with_reducible refine Need.intro ?_ ?_); (omega))))
    (refine SCall.then (aGetF _ _ _ a (hg _) g.oks P[i]) ?_)
    (repeat simp -dsimp only [zrRoute111, xnils, xnilm, xrange, xmakeMap, xslice3, nodeV, RB, TB, keep10, tab10, xindexAddr, xindex, xslice, xconvert, xlen, ewOp, FreeW, StabW, SameW, ChangeW, AddW, BaseW, limBytes, simprocAttr, ne_eq])
    generalize nodeAt a P[i] = n at *
    generalize sumE a ev (P.take i) = S at *
    refine EWn.loopE (ι := (Nat)) (fun (k : (Nat)) => k ≤ n.hooks.length) (fun (k : (Nat)) => n.hooks.length - k) (fun (k : (Nat)) => [(12, .int .i64 ((S + evs ev (n.hooks.take k) : Nat) : Int)), (16, .int .i64 k)]) (fun (k : (Nat)) => H ++ [.map (encM a.nodes) a.clock, .var (arC H.length a), .var (nodeV n).cells]) (0) ?_ ?_ ?_ ?_ ?_
    · first | rfl | (simp [upd, eset]; done) | (simp [upd, eset, evs, nodeV, V.cells]; done)
    · simp [evs, nodeV, V.cells]
    · rintro k hok; exact ⟨by first | (simp; done) | (simp; omega), by (simp (maxDischargeDepth := 6) [LTB, HLt_set, ltL_take, ltL_drop, ltL_rep, ltL_set, upd, eset, hH, hHk, lt_encM, lt_arC, ltL_nodeC, zlRoute111] <;> omega), by (simp (maxDischargeDepth := 6) [LTB, HLt_set, ltL_take, ltL_drop, ltL_rep, ltL_set, upd, eset, hH, hHk, lt_encM, lt_arC, ltL_nodeC, zlRoute111] <;> omega)⟩
    · omega
    rintro k hk2
    refine EWn.of_c Tok mixed (own := false) keep10 tab10 (by kernel_rfl) ?_
    (repeat simp -dsimp only [zrRoute111, xnils, xnilm, xrange, xmakeMap, xslice3, nodeV, RB, TB, keep10, tab10, xindexAddr, xindex, xslice, xconvert, xlen, ewOp, FreeW, StabW, SameW, ChangeW, AddW, BaseW, limBytes, simprocAttr, ne_eq])
    refine IfW.intro (fun h1 => ?_) (fun h1 => ?_)
    · have hlt2 := lt_of h1
      have hat2 := at_map hookV n.hooks k hlt2
      have t1 := evs_succ ev hlt2
      have t2 := evs_le ev (n.hooks.take k)
      rw [List.length_take] at t2
      generalize n.hooks[k] = hx at hat2 t1
      simp only [hookV] at hat2
      have wk : IntKind.i64.wrap ((k : Int) + 1) = ((k + 1 : Nat) : Int) := by rw [wrapI (by omega)]; omega
      (repeat (first | simp -dsimp only [zrRoute111, xnils, xnilm, xrange, xmakeMap, xslice3, h1, hat2, RB, TB, keep10, tab10, xindexAddr, xindex, xslice, xconvert, xlen, ewOp, FreeW, StabW, SameW, ChangeW, AddW, BaseW, limBytes, simprocAttr, ne_eq] | ((with_reducible refine Need.intro ?_ ?_); (omega))))
      refine IfW.intro (fun h2 => ?_) (fun h2 => ?_)
      · rw [h2, if_pos rfl] at t1
        (repeat simp -dsimp only [zrRoute111, xnils, xnilm, xrange, xmakeMap, xslice3, h2, wk, RB, TB, keep10, tab10, xindexAddr, xindex, xslice, xconvert, xlen, ewOp, FreeW, StabW, SameW, ChangeW, AddW, BaseW, limBytes, simprocAttr, ne_eq])
        rw [wrapI (by omega)]
        refine UpTo.here ⟨k + 1, hlt2, by simp only; omega, by simp [upd, eset, t1]; try omega, ⟨_, by simp [nodeV, V.cells]; rfl⟩⟩
      · rw [h2, if_neg (by simp)] at t1
        (repeat simp -dsimp only [zrRoute111, xnils, xnilm, xrange, xmakeMap, xslice3, h2, wk, RB, TB, keep10, tab10, xindexAddr, xindex, xslice, xconvert, xlen, ewOp, FreeW, StabW, SameW, ChangeW, AddW, BaseW, limBytes, simprocAttr, ne_eq])
        refine UpTo.here ⟨k + 1, hlt2, by simp only; omega, by simp [upd, eset, t1], ⟨_, by simp [nodeV, V.cells]; rfl⟩⟩
    · have hk3 : k = n.hooks.length := Nat.le_antisymm hk2 (ge_of h1)
      subst hk3
      have t2 := evs_le ev n.hooks
      rw [List.take_length]
      (repeat simp -dsimp only [zrRoute111, xnils, xnilm, xrange, xmakeMap, xslice3, h1, RB, TB, keep10, tab10, xindexAddr, xindex, xslice, xconvert, xlen, ewOp, FreeW, StabW, SameW, ChangeW, AddW, BaseW, limBytes, simprocAttr, ne_eq])
      rw [wrapI (by omega)]
      refine UpTo.here ⟨i + 1, hlt, by simp only; omega, by simp [upd, eset, s1], ⟨_, by simp; rfl⟩⟩
  · have hi2 : i = P.length := Nat.le_antisymm hi (ge_of hs)
    subst hi2
    rw [List.take_length, ← hcl]
    (repeat simp -dsimp only [zrRoute111, xnils, xnilm, xrange, xmakeMap, xslice3, hs, RB, TB, keep10, tab10, xindexAddr, xindex, xslice, xconvert, xlen, ewOp, FreeW, StabW, SameW, ChangeW, AddW, BaseW, limBytes, simprocAttr, ne_eq])
    refine EWn.loopE (ι := (Nat)) (fun (i : (Nat)) => i ≤ cs.length) (fun (i : (Nat)) => cs.length - i) (fun (i : (Nat)) => [(17, .int .i64 i)]) (fun (i : (Nat)) => H ++ [.map (encM a.nodes) a.clock, .var (arC H.length a)]) (0) ?_ ?_ ?_ ?_ ?_
    · first | rfl | simp [upd, eset]
    · first | rfl | (simp; done) | exact (set_same (by assumption)).symm
    · rintro i hok; exact ⟨by first | (simp; done) | (simp; omega), by (simp (maxDischargeDepth := 6) [LTB, HLt_set, ltL_take, ltL_drop, ltL_rep, ltL_set, upd, eset, hH, hHk, lt_encM, lt_arC, ltL_nodeC, zlRoute111] <;> omega), by (simp (maxDischargeDepth := 6) [LTB, HLt_set, ltL_take, ltL_drop, ltL_rep, ltL_set, upd, eset, hH, hHk, lt_encM, lt_arC, ltL_nodeC, zlRoute111] <;> omega)⟩
    · omega
    rintro i hi
    refine EWn.of_c Tok mixed (own := false) keep10 tab10 (by kernel_rfl) ?_
    (repeat simp -dsimp only [zrRoute111, xnils, xnilm, xrange, xmakeMap, xslice3, RB, TB, keep10, tab10, xindexAddr, xindex, xslice, xconvert, xlen, ewOp, FreeW, StabW, SameW, ChangeW, AddW, BaseW, limBytes, simprocAttr, ne_eq])
    refine IfW.intro (fun hs => ?_) (fun hs => ?_)
    · have hlt := lt_of hs
      have hat3 := at_map callV cs i hlt
      obtain ⟨m1, m2, m3⟩ := hcm _ (List.getElem_mem hlt)
      generalize cs[i] = c at *
      simp only [callV] at hat3
      (repeat simp -dsimp only [zrRoute111, xnils, xnilm, xrange, xmakeMap, xslice3, hs, RB, TB, keep10, tab10, xindexAddr, xindex, xslice, xconvert, xlen, ewOp, FreeW, StabW, SameW, ChangeW, AddW, BaseW, limBytes, simprocAttr, ne_eq])
      refine EWn.loopE (ι := (Nat)) (fun (k : (Nat)) => k ≤ P.length) (fun (k : (Nat)) => P.length - k) (fun (k : (Nat)) => [(18, .bool (decide (c.node ∈ P.take k))), (19, .int .i64 k)]) (fun (k : (Nat)) => H ++ [.map (encM a.nodes) a.clock, .var (arC H.length a)]) (0) ?_ ?_ ?_ ?_ ?_
      · first | rfl | simp [upd, eset]
      · first | rfl | (simp; done) | exact (set_same (by assumption)).symm
      · rintro k hok; exact ⟨by first | (simp; done) | (simp; omega), by (simp (maxDischargeDepth := 6) [LTB, HLt_set, ltL_take, ltL_drop, ltL_rep, ltL_set, upd, eset, hH, hHk, lt_encM, lt_arC, ltL_nodeC, zlRoute111] <;> omega), by (simp (maxDischargeDepth := 6) [LTB, HLt_set, ltL_take, ltL_drop, ltL_rep, ltL_set, upd, eset, hH, hHk, lt_encM, lt_arC, ltL_nodeC, zlRoute111] <;> omega)⟩
      · omega
      rintro k hk
      refine EWn.of_c Tok mixed (own := false) keep10 tab10 (by kernel_rfl) ?_
      (repeat simp -dsimp only [zrRoute111, xnils, xnilm, xrange, xmakeMap, xslice3, RB, TB, keep10, tab10, xindexAddr, xindex, xslice, xconvert, xlen, ewOp, FreeW, StabW, SameW, ChangeW, AddW, BaseW, limBytes, simprocAttr, ne_eq])
      refine IfW.intro (fun h1 => ?_) (fun h1 => ?_)
      · have hlt2 := lt_of h1
        have hm4 := at_map vi P k hlt2
        simp only [vi] at hm4
        have ts : (decide (c.node ∈ P.take (k + 1))) = (decide (c.node ∈ P.take k) || (P[k] == c.node)) := by
          rw [List.take_succ_eq_append_getElem hlt2]
          simp only [List.mem_append, List.mem_singleton, Bool.decide_or]
          congr 1
          rw [Bool.eq_iff_iff]
          simp only [decide_eq_true_eq, beq_iff_eq]
          exact eq_comm
        have wk : IntKind.i64.wrap ((k : Int) + 1) = ((k + 1 : Nat) : Int) := by rw [wrapI (by omega)]; omega
        cases hd : decide (c.node ∈ P.take k)
        · rw [hd, Bool.false_or] at ts
          (repeat (first | simp -dsimp only [zrRoute111, xnils, xnilm, xrange, xmakeMap, xslice3, h1, hd, hm4, hat3, wk, RB, TB, keep10, tab10, xindexAddr, xindex, xslice, xconvert, xlen, ewOp, FreeW, StabW, SameW, ChangeW, AddW, BaseW, limBytes, simprocAttr, ne_eq] | ((with_reducible refine Need.intro ?_ ?_); (omega))))
          refine UpTo.here ⟨k + 1, hlt2, by simp only; omega, by simp [upd, eset, ts], ⟨_, by simp; try rfl⟩⟩
        · rw [hd, Bool.true_or] at ts
          (repeat simp -dsimp only [zrRoute111, xnils, xnilm, xrange, xmakeMap, xslice3, h1, hd, hm4, hat3, wk, RB, TB, keep10, tab10, xindexAddr, xindex, xslice, xconvert, xlen, ewOp, FreeW, StabW, SameW, ChangeW, AddW, BaseW, limBytes, simprocAttr, ne_eq])
          refine UpTo.here ⟨k + 1, hlt2, by simp only; omega, by simp [upd, eset, ts], ⟨_, by simp; try rfl⟩⟩
      · have hk3 : k = P.length := Nat.le_antisymm hk (ge_of h1)
        subst hk3
        rw [List.take_length]
        have e1 : decide (c.node ∈ P) = true := decide_eq_true m1
        have e2 : decide (c.phase < 1) = false := decide_eq_false (by omega)
        have e3 : decide (c.phase > 3) = false := decide_eq_false (by omega)
        have e4 : (c.phase == 2) = (c.node == to) := by rw [Bool.eq_iff_iff]; simpa using m3
        have wk : IntKind.i64.wrap ((i : Int) + 1) = ((i + 1 : Nat) : Int) := by rw [wrapI (by omega)]; omega
        have e5 : ((c.phase == 2) == (c.node == to)) = true := by rw [e4]; simp
        (repeat simp -dsimp only [zrRoute111, xnils, xnilm, xrange, xmakeMap, xslice3, h1, e1, RB, TB, keep10, tab10, xindexAddr, xindex, xslice, xconvert, xlen, ewOp, FreeW, StabW, SameW, ChangeW, AddW, BaseW, limBytes, simprocAttr, ne_eq])
        (repeat (first | simp -dsimp only [zrRoute111, xnils, xnilm, xrange, xmakeMap, xslice3, hat3, e2, RB, TB, keep10, tab10, xindexAddr, xindex, xslice, xconvert, xlen, ewOp, FreeW, StabW, SameW, ChangeW, AddW, BaseW, limBytes, simprocAttr, ne_eq] | ((with_reducible refine Need.intro ?_ ?_); (omega))))
        (repeat (first | simp -dsimp only [zrRoute111, xnils, xnilm, xrange, xmakeMap, xslice3, hat3, e3, RB, TB, keep10, tab10, xindexAddr, xindex, xslice, xconvert, xlen, ewOp, FreeW, StabW, SameW, ChangeW, AddW, BaseW, limBytes, simprocAttr, ne_eq] | ((with_reducible refine Need.intro ?_ ?_); (omega))))
        (repeat simp -dsimp only [zrRoute111, xnils, xnilm, xrange, xmakeMap, xslice3, hat3, e5, RB, TB, keep10, tab10, xindexAddr, xindex, xslice, xconvert, xlen, ewOp, FreeW, StabW, SameW, ChangeW, AddW, BaseW, limBytes, simprocAttr, ne_eq])
        rw [wk]
        refine UpTo.here ⟨i + 1, hlt, by simp only; omega, by simp [upd, eset], ⟨_, by simp; try rfl⟩⟩
    · (repeat simp -dsimp only [zrRoute111, xnils, xnilm, xrange, xmakeMap, xslice3, hs, RB, TB, keep10, tab10, xindexAddr, xindex, xslice, xconvert, xlen, ewOp, FreeW, StabW, SameW, ChangeW, AddW, BaseW, limBytes, simprocAttr, ne_eq])
      refine RetW.auto0 false _ (by first | rfl | exact (List.append_nil _).symm) ?_ ?_
      · (simp (maxDischargeDepth := 6) [LTB, HLt_set, ltL_take, ltL_drop, ltL_rep, ltL_set, upd, eset, hH, hHk, lt_encM, lt_arC, ltL_nodeC, zlRoute111] <;> omega)
      (try simp only [wk, wk1, wk0, RB, limBytes, simprocAttr, ne_eq])
      skip
end Go.Proofs.Ytjplgbalpnlanaa

/- RouteTwice, where what it reads is of bulk at most 1048576: the law returns true and the arguments read as they did. -/
set_option linter.unusedSimpArgs false
set_option linter.unusedVariables false
set_option maxRecDepth 100000
set_option maxHeartbeats 1000000
namespace Go.Proofs.Ytjplgbalpnlanaa
open Go Go.EL

mutual
theorem bulk_eq {H : Type} : ∀ d : DataW H, bulk d = Rows.uptoBulk d
  | .lit l => by cases l <;> simp [bulk, Rows.uptoBulk]
  | .nil => by simp [bulk, Rows.uptoBulk]
  | .ptr d => by simp only [bulk, Rows.uptoBulk, bulk_eq d]
  | .slice a b => by simp only [bulk, Rows.uptoBulk, bulkAll_eq a, bulkAll_eq b]
  | .agg ps => by simp only [bulk, Rows.uptoBulk, bulkAll_eq ps]
  | .iface t d => by simp only [bulk, Rows.uptoBulk, bulk_eq d]
  | .map es => by simp only [bulk, Rows.uptoBulk, bulkEntries_eq es]
  | .held _ => by simp [bulk, Rows.uptoBulk]
theorem bulkAll_eq {H : Type} : ∀ l : List (DataW H), bulkAll l = Rows.uptoBulkAll l
  | [] => by simp [bulkAll, Rows.uptoBulkAll]
  | d :: r => by simp only [bulkAll, Rows.uptoBulkAll, bulk_eq d, bulkAll_eq r]
theorem bulkEntries_eq {H : Type} : ∀ l : List (Lit × DataW H), bulkEntries l = Rows.uptoBulkEntries l
  | [] => by simp [bulkEntries, Rows.uptoBulkEntries]
  | d :: r => by simp only [bulkEntries, Rows.uptoBulkEntries, bulkEntry_eq d, bulkEntries_eq r]
theorem bulkEntry_eq {H : Type} : ∀ x : Lit × DataW H, bulkEntry x = Rows.uptoBulkEntry x
  | (k, d) => by cases k <;> simp [bulkEntry, Rows.uptoBulkEntry, bulk_eq d]
end
theorem le_sum {α : Type} (g : α → Nat) : ∀ {l : List α} {x : α}, x ∈ l → g x ≤ (l.map g).sum
  | y :: l, x, h => by
    simp only [List.map_cons, List.sum_cons]
    rcases List.mem_cons.1 h with rfl | h
    · omega
    · have := le_sum g h; omega
theorem len_sum {α : Type} (g : α → Nat) (hg : ∀ x, 1 ≤ g x) : ∀ (l : List α), l.length ≤ (l.map g).sum
  | [] => by simp
  | y :: l => by
    have := len_sum g hg l
    have := hg y
    simp only [List.map_cons, List.sum_cons, List.length_cons]
    omega
theorem own_none : ownKnob Try.prog.godebug = none := by kernel_rfl
theorem laid_out : laidOutB Try.prog = true := by kernel_rfl

theorem dec_hook : Dec Try.prog 64 hookV (fun _ => True) (fun _ => 1) := by
  refine Dec.of (Dec.struct Try.underlying64 (DecFs.cons rfl (next := 1) (by kernel_rfl) (Dec.int Try.underlying3) (DecFs.cons rfl (next := 2) (by kernel_rfl) (Dec.bool Try.underlying4) (DecFs.cons rfl (next := 3) (by kernel_rfl) (Dec.int Try.underlying3) DecFs.nil)))) (fun x => ⟨x.1, x.2.1, x.2.2.1⟩) (fun x _ => ⟨rfl, trivial, by first | omega | (simp only; omega)⟩)
theorem dec_hooks : Dec Try.prog 50 (fun l : List Hook => V.slice (l.map hookV)) (fun _ => True) (fun l => l.length) :=
  Dec.of (Dec.slice Try.underlying50 (of_decide_eq_true (by kernel_rfl)) dec_hook) id (fun x _ => ⟨rfl, trivial, by have := len_sum (fun x : Hook => 1) (fun x => by omega) x; simp only [id]; omega⟩)
theorem dec_op : Dec Try.prog 186 opV (fun _ => True) (fun o => o.hooks.length + 1) := by
  refine Dec.of (Dec.struct Try.underlying186 (DecFs.cons rfl (next := 1) (by kernel_rfl) (Dec.int Try.underlying3) (DecFs.cons rfl (next := 2) (by kernel_rfl) (Dec.int Try.underlying3) (DecFs.cons rfl (next := 3) (by kernel_rfl) (Dec.int Try.underlying3) (DecFs.cons rfl (next := 4) (by kernel_rfl) (Dec.int Try.underlying3) (DecFs.cons rfl (next := 5) (by kernel_rfl) dec_hooks DecFs.nil)))))) (fun x => ⟨x.1, x.2.1, x.2.2.1, x.2.2.2.1, x.2.2.2.2.1⟩) (fun x _ => ⟨rfl, trivial, by first | omega | (simp only; omega)⟩)
theorem dec_ops : Dec Try.prog 89 (fun l : List OpR => V.slice (l.map opV)) (fun _ => True) (fun l => (l.map fun o => o.hooks.length + 1).sum) :=
  Dec.of (Dec.slice Try.underlying89 (of_decide_eq_true (by kernel_rfl)) dec_op) id (fun x _ => ⟨rfl, trivial, by simp only [id]; omega⟩)
theorem i64_of {n : Int} (h : (Lit.int .i64 n).wf = true) : -9223372036854775808 ≤ n ∧ n ≤ 9223372036854775807 := by
  have e1 : IntKind.min .i64 = -9223372036854775808 := by decide
  have e2 : IntKind.max .i64 = 9223372036854775807 := by decide
  simp only [Lit.wf, Bool.and_eq_true, decide_eq_true_eq, e1, e2] at h
  exact h
open Go.ChangeShapes Go.WideShapes Go.ChangeAt Go.RowKit in
theorem routeTwice_lifted (os : Os) (started : os.Started) (H : Type) (enc : TypeId × Value → H) (F : Stop.Interp) :
    ReturnsInHanded {} Try.checked os 10 .any ((Rows.OpenSpec.upto Rows.routeTwiceSpec).pre6 enc Try.prog Try.f10 Rows.routeTwiceUptoRow.domain false) (((Rows.OpenSpec.upto Rows.routeTwiceSpec).at F).post enc Try.prog Try.f10 false true false false) := by
  refine returnsInHanded_of_cond (C := Try.checked) (s := Rows.OpenSpec.upto Rows.routeTwiceSpec) (k := Rows.uptoSmall) rfl own_none started (by kernel_rfl) Try.func10
    (OpenSpec.witness (enc := enc) (C := Try.checked) (s := Rows.OpenSpec.upto Rows.routeTwiceSpec) (k := Rows.uptoSmall) rfl false ⟨#[], #[.slice none 0 0, .int .i64 0, .int .i64 0], []⟩ 8 (by kernel_rfl) (by kernel_rfl) (by kernel_rfl)
      (x := ([.nil, .lit (.int .i64 0), .lit (.int .i64 0)], [], [])) (by kernel_rfl) rfl (by kernel_rfl)) ?_
  intro W base args ds gs before hval0 hW _ hk _
  have hval : ∀ (j : Nat) t v, Try.f10.params[j]? = some t → args[j]? = some v → Value.okWide Try.prog W .any base t v := hval0
  obtain ⟨p0_, q0_, hA, _⟩ := id hW
  have hA0 : DataW.TrodAll enc Try.prog W 0 (fun _ => true) true Try.f10.params.toList args.toList ds p0_ := hA
  rw [Try.params10] at hA0 hval
  obtain ⟨v0, v1, v2, d0, d1, d2, p0, p1, p2, rfl, rfl, rfl, h0, h1, h2⟩ := trodAll_three hA0
  obtain ⟨l, hp_l, hz_l, hv_l⟩ := dec_ops.value h0 (fun _ => okAgg_leaf (by simp) (ok_slice Try.underlying89 (hval 0 89 v0 rfl rfl)))
  obtain ⟨at_, hp_at_, hz_at_, hv_at_⟩ := (Dec.int Try.underlying3).value h1 (fun _ => okAgg_leaf (by simp) (ok_int Try.underlying3 (hval 1 3 v1 rfl rfl)))
  obtain ⟨ev, hp_ev, hz_ev, hv_ev⟩ := (Dec.int Try.underlying3).value h2 (fun _ => okAgg_leaf (by simp) (ok_int Try.underlying3 (hval 2 3 v2 rfl rfl)))
  have hb : Rows.uptoBulkAll ([d0, d1, d2] ++ gs) ≤ 1048576 := of_decide_eq_true hk
  rw [← bulkAll_eq] at hb
  simp only [List.cons_append, bulkAll] at hb
  exact row_contract (P := Try.prog) (s := Rows.routeTwiceSpec) (vs := [.slice (l.map opV), .int .i64 at_, .int .i64 ev]) laid_out (by kernel_rfl) rfl Try.call10 rfl Try.underlying4 hW ⟨rfl, rfl, rfl⟩ ⟨hv_l, hv_at_, hv_ev, trivial⟩ (routeTwice [] l at_ ev (fun o ho => by have := le_sum (fun o : OpR => o.hooks.length + 1) ho; omega))
theorem routeTwice_upto : Rows.RouteTwiceUptoSaid :=
  OpenClaim.holds_of_cond 10 Try.f10 rfl rfl rfl rfl rfl rfl rfl ⟨rfl, rfl, rfl, rfl, rfl⟩ rfl rfl rfl rfl rfl (by kernel_rfl) Try.func10 (by kernel_rfl)
    (of_decide_eq_true (by kernel_rfl)) (by unfold Func.isWrapper; first | (rw [if_neg (by decide +kernel)]; exact ⟨rfl, rfl⟩) | (rw [if_pos (by decide +kernel)]; kernel_rfl))
    (fun os started H enc _ F => routeTwice_lifted os started H enc F)
end Go.Proofs.Ytjplgbalpnlanaa

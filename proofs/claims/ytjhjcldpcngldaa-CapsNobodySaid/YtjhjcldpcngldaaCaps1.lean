/- The walks of package caps: a table of handles. -/
import Derived.Test.YtjhjcldpcngldaaMark0
set_option maxHeartbeats 600000
set_option linter.unusedSimpArgs false
set_option linter.unusedVariables false
set_option maxRecDepth 100000
namespace Go.Proofs.Ytjhjcldpcngldaa
open Go Go.EL
theorem cIs_f (H : List Ob) (t : Nat) (ow : Int) (l : List Int)  (ht : H[t]? = some (.var [.int .i64 ow, .fslice (l.map vi)]))  (hl : 0 < l.length) : SCall Try.prog 83 [.ref t 0] H (fun r H' => r = .bool true ∧ H' = H) := by
  have htlt := lt_of_get ht
  refine SCall.of_good fun hH => ?_
  have hHk := HLt.add hH
  refine SCall.of_code Tok Try.func83 rfl Try.call83 (n := 13) rfl (by simp) (rs := [.tmp 2]) rfl ?_
  refine EWn.to ?_
  refine EWn.of_c Tok mixed (own := false) keep83 tab83 (by kernel_rfl) ?_
  (repeat (first | simp -dsimp only [ht, RB, TB, keep83, tab83, xindexAddr, xindex, xslice, xconvert, xlen, ewOp, FreeW, StabW, SameW, ChangeW, AddW, limBytes, simprocAttr, ne_eq] | ((with_reducible refine Need.intro ?_ ?_); (first | trivial | exact ⟨_, rfl⟩ | omega | (simp; done) | (simp; omega) | exact ⟨by first | trivial | (simp; done), _, by first | rfl | (simp; rfl)⟩))))
  refine RetW.auto0 false _ (by first | rfl | exact (List.append_nil _).symm) ?_ ?_
  · (simp (maxDischargeDepth := 6) [LTB, HLt_set, ltL_take, ltL_drop, ltL_rep, ltL_set, upd, eset, hH, hHk, htlt, lt_vi, lt_str, lt_vb, ltc_str, ltc_vi] <;> omega)
  (try simp only [wk, wk1, wk0, RB, limBytes, simprocAttr, ne_eq])
  (try (rw [List.take_of_length_le]; rotate_left 1; (· first | (simp; done) | (simp; omega) | omega)))
  simp; omega
theorem cFind_f (H : List Ob) (t : Nat) (ow : Int) (l : List Int)  (k : Int) (ht : H[t]? = some (.var [.int .i64 ow, .fslice (l.map vi)]))  (hl : 0 < l.length) (hl2 : l.length ≤ 1000000000) : SCall Try.prog 20 [.ref t 0, .int .i64 k] H (fun r H' => r = (if h : 1 ≤ k ∧ k ≤ l.length then .tuple [.int .i64 (l[(k - 1).toNat]'(by omega)), .int .i64 0] else .tuple [.int .i64 0, .int .i64 20]) ∧ H' = H) := by
  have htlt := lt_of_get ht
  refine SCall.of_good fun hH => ?_
  have hHk := HLt.add hH
  refine SCall.of_code Tok Try.func20 rfl Try.call20 (n := 30) rfl (by simp) (rs := [.tmp 4, .tmp 5]) rfl ?_
  refine EWn.to ?_
  refine EWn.of_c Tok mixed (own := false) keep20 tab20 (by kernel_rfl) ?_
  (repeat (first | simp -dsimp only [ht, RB, TB, keep20, tab20, xindexAddr, xindex, xslice, xconvert, xlen, ewOp, FreeW, StabW, SameW, ChangeW, AddW, limBytes, simprocAttr, ne_eq] | ((with_reducible refine Need.intro ?_ ?_); (first | trivial | exact ⟨_, rfl⟩ | omega | (simp; done) | (simp; omega) | exact ⟨by first | trivial | (simp; done), _, by first | rfl | (simp; rfl)⟩))))
  (first | refine SCall.then (cIs_f _ t ow l  ht  hl) ?_ | refine SCall.thenA (cIs_f _ t ow l  ht  hl) (by repeat (first | exact trivial | exact .inl (.inl rfl) | exact .inl (.inr ⟨_, rfl, rfl⟩) | exact .inl rfl | exact .inr ⟨_, rfl, rfl⟩ | refine .inr ⟨_, _, rfl, rfl, ?_⟩ | refine ⟨?_, ?_⟩)) ?_ | refine CallE.intro _ (cIs_f _ t ow l  ht  hl) ?_ | refine CallE.introA (cIs_f _ t ow l  ht  hl) (by repeat (first | exact trivial | exact .inl (.inl rfl) | exact .inl (.inr ⟨_, rfl, rfl⟩) | exact .inl rfl | exact .inr ⟨_, rfl, rfl⟩ | refine .inr ⟨_, _, rfl, rfl, ?_⟩ | refine ⟨?_, ?_⟩)) ?_ | refine CallE.intro _ (fun _ => cIs_f _ t ow l  ht  hl) ?_ | refine CallE.intro _ (fun _ => SCall.arg (by repeat (first | exact trivial | exact .inl (.inl rfl) | exact .inl (.inr ⟨_, rfl, rfl⟩) | exact .inl rfl | exact .inr ⟨_, rfl, rfl⟩ | refine .inr ⟨_, _, rfl, rfl, ?_⟩ | refine ⟨?_, ?_⟩)) (cIs_f _ t ow l  ht  hl)) ?_ | refine CallE2.intro _ _ (cIs_f _ t ow l  ht  hl) ?_ | refine CallE2.intro _ _ (SCall.arg (by repeat (first | exact trivial | exact .inl (.inl rfl) | exact .inl (.inr ⟨_, rfl, rfl⟩) | exact .inl rfl | exact .inr ⟨_, rfl, rfl⟩ | refine .inr ⟨_, _, rfl, rfl, ?_⟩ | refine ⟨?_, ?_⟩)) (cIs_f _ t ow l  ht  hl)) ?_)
  (repeat (first | simp -dsimp only [RB, TB, keep20, tab20, xindexAddr, xindex, xslice, xconvert, xlen, ewOp, FreeW, StabW, SameW, ChangeW, AddW, limBytes, simprocAttr, ne_eq] | ((with_reducible refine Need.intro ?_ ?_); (first | trivial | exact ⟨_, rfl⟩ | omega | (simp; done) | (simp; omega) | exact ⟨by first | trivial | (simp; done), _, by first | rfl | (simp; rfl)⟩))))
  cases h1 : decide (k < 1)
  · have h1' := of_decide_eq_false h1
    (repeat (first | simp -dsimp only [h1, ht, RB, TB, keep20, tab20, xindexAddr, xindex, xslice, xconvert, xlen, ewOp, FreeW, StabW, SameW, ChangeW, AddW, limBytes, simprocAttr, ne_eq] | ((with_reducible refine Need.intro ?_ ?_); (first | trivial | exact ⟨_, rfl⟩ | omega | (simp; done) | (simp; omega) | exact ⟨by first | trivial | (simp; done), _, by first | rfl | (simp; rfl)⟩))))
    refine IfW.intro (fun h2 => ?_) (fun h2 => ?_)
    · have h2' := of_decide_eq_true h2
      (repeat (first | simp -dsimp only [h2, ht, RB, TB, keep20, tab20, xindexAddr, xindex, xslice, xconvert, xlen, ewOp, FreeW, StabW, SameW, ChangeW, AddW, limBytes, simprocAttr, ne_eq] | ((with_reducible refine Need.intro ?_ ?_); (first | trivial | exact ⟨_, rfl⟩ | omega | (simp; done) | (simp; omega) | exact ⟨by first | trivial | (simp; done), _, by first | rfl | (simp; rfl)⟩))))
      refine RetW.auto0 false _ (by first | rfl | exact (List.append_nil _).symm) ?_ ?_
      · (simp (maxDischargeDepth := 6) [LTB, HLt_set, ltL_take, ltL_drop, ltL_rep, ltL_set, upd, eset, hH, hHk, htlt, lt_vi, lt_str, lt_vb, ltc_str, ltc_vi] <;> omega)
      (try simp only [wk, wk1, wk0, RB, limBytes, simprocAttr, ne_eq])
      (try (rw [List.take_of_length_le]; rotate_left 1; (· first | (simp; done) | (simp; omega) | omega)))
      rw [dif_neg (by omega)]
    · have h2' := of_decide_eq_false h2
      have hw : IntKind.i64.wrap (k - 1) = k - 1 := wrapI (by omega)
      have hk : (k - 1).toNat < l.length := by omega
      (repeat (first | simp -dsimp only [h2, ht, hw, at_map vi l (k - 1).toNat hk, vi, RB, TB, keep20, tab20, xindexAddr, xindex, xslice, xconvert, xlen, ewOp, FreeW, StabW, SameW, ChangeW, AddW, limBytes, simprocAttr, ne_eq] | ((with_reducible refine Need.intro ?_ ?_); (first | trivial | exact ⟨_, rfl⟩ | omega | (simp; done) | (simp; omega) | exact ⟨by first | trivial | (simp; done), _, by first | rfl | (simp; rfl)⟩))))
      refine RetW.auto0 false _ (by first | rfl | exact (List.append_nil _).symm) ?_ ?_
      · (simp (maxDischargeDepth := 6) [LTB, HLt_set, ltL_take, ltL_drop, ltL_rep, ltL_set, upd, eset, hH, hHk, htlt, lt_vi, lt_str, lt_vb, ltc_str, ltc_vi] <;> omega)
      (try simp only [wk, wk1, wk0, RB, limBytes, simprocAttr, ne_eq])
      (try (rw [List.take_of_length_le]; rotate_left 1; (· first | (simp; done) | (simp; omega) | omega)))
      rw [dif_pos (by omega)]
  · (repeat (first | simp -dsimp only [h1, ht, RB, TB, keep20, tab20, xindexAddr, xindex, xslice, xconvert, xlen, ewOp, FreeW, StabW, SameW, ChangeW, AddW, limBytes, simprocAttr, ne_eq] | ((with_reducible refine Need.intro ?_ ?_); (first | trivial | exact ⟨_, rfl⟩ | omega | (simp; done) | (simp; omega) | exact ⟨by first | trivial | (simp; done), _, by first | rfl | (simp; rfl)⟩))))
    refine RetW.auto0 false _ (by first | rfl | exact (List.append_nil _).symm) ?_ ?_
    · (simp (maxDischargeDepth := 6) [LTB, HLt_set, ltL_take, ltL_drop, ltL_rep, ltL_set, upd, eset, hH, hHk, htlt, lt_vi, lt_str, lt_vb, ltc_str, ltc_vi] <;> omega)
    (try simp only [wk, wk1, wk0, RB, limBytes, simprocAttr, ne_eq])
    (try (rw [List.take_of_length_le]; rotate_left 1; (· first | (simp; done) | (simp; omega) | omega)))
    have h1' := of_decide_eq_true h1
    rw [dif_neg (by omega)]
theorem cCount_f (H : List Ob) (t : Nat) (ow : Int) (l : List Int)  (ht : H[t]? = some (.var [.int .i64 ow, .fslice (l.map vi)]))  (hl : 0 < l.length) : SCall Try.prog 21 [.ref t 0] H (fun r H' => r = .int .i64 l.length ∧ H' = H) := by
  have htlt := lt_of_get ht
  refine SCall.of_good fun hH => ?_
  have hHk := HLt.add hH
  refine SCall.of_code Tok Try.func21 rfl Try.call21 (n := 11) rfl (by simp) (rs := [.tmp 2]) rfl ?_
  refine EWn.to ?_
  refine EWn.of_c Tok mixed (own := false) keep21 tab21 (by kernel_rfl) ?_
  (repeat (first | simp -dsimp only [ht, RB, TB, keep21, tab21, xindexAddr, xindex, xslice, xconvert, xlen, ewOp, FreeW, StabW, SameW, ChangeW, AddW, limBytes, simprocAttr, ne_eq] | ((with_reducible refine Need.intro ?_ ?_); (first | trivial | exact ⟨_, rfl⟩ | omega | (simp; done) | (simp; omega) | exact ⟨by first | trivial | (simp; done), _, by first | rfl | (simp; rfl)⟩))))
  (first | refine SCall.then (cIs_f _ t ow l  ht  hl) ?_ | refine SCall.thenA (cIs_f _ t ow l  ht  hl) (by repeat (first | exact trivial | exact .inl (.inl rfl) | exact .inl (.inr ⟨_, rfl, rfl⟩) | exact .inl rfl | exact .inr ⟨_, rfl, rfl⟩ | refine .inr ⟨_, _, rfl, rfl, ?_⟩ | refine ⟨?_, ?_⟩)) ?_ | refine CallE.intro _ (cIs_f _ t ow l  ht  hl) ?_ | refine CallE.introA (cIs_f _ t ow l  ht  hl) (by repeat (first | exact trivial | exact .inl (.inl rfl) | exact .inl (.inr ⟨_, rfl, rfl⟩) | exact .inl rfl | exact .inr ⟨_, rfl, rfl⟩ | refine .inr ⟨_, _, rfl, rfl, ?_⟩ | refine ⟨?_, ?_⟩)) ?_ | refine CallE.intro _ (fun _ => cIs_f _ t ow l  ht  hl) ?_ | refine CallE.intro _ (fun _ => SCall.arg (by repeat (first | exact trivial | exact .inl (.inl rfl) | exact .inl (.inr ⟨_, rfl, rfl⟩) | exact .inl rfl | exact .inr ⟨_, rfl, rfl⟩ | refine .inr ⟨_, _, rfl, rfl, ?_⟩ | refine ⟨?_, ?_⟩)) (cIs_f _ t ow l  ht  hl)) ?_ | refine CallE2.intro _ _ (cIs_f _ t ow l  ht  hl) ?_ | refine CallE2.intro _ _ (SCall.arg (by repeat (first | exact trivial | exact .inl (.inl rfl) | exact .inl (.inr ⟨_, rfl, rfl⟩) | exact .inl rfl | exact .inr ⟨_, rfl, rfl⟩ | refine .inr ⟨_, _, rfl, rfl, ?_⟩ | refine ⟨?_, ?_⟩)) (cIs_f _ t ow l  ht  hl)) ?_)
  (repeat (first | simp -dsimp only [RB, TB, keep21, tab21, xindexAddr, xindex, xslice, xconvert, xlen, ewOp, FreeW, StabW, SameW, ChangeW, AddW, limBytes, simprocAttr, ne_eq] | ((with_reducible refine Need.intro ?_ ?_); (first | trivial | exact ⟨_, rfl⟩ | omega | (simp; done) | (simp; omega) | exact ⟨by first | trivial | (simp; done), _, by first | rfl | (simp; rfl)⟩))))
  (repeat (first | simp -dsimp only [ht, RB, TB, keep21, tab21, xindexAddr, xindex, xslice, xconvert, xlen, ewOp, FreeW, StabW, SameW, ChangeW, AddW, limBytes, simprocAttr, ne_eq] | ((with_reducible refine Need.intro ?_ ?_); (first | trivial | exact ⟨_, rfl⟩ | omega | (simp; done) | (simp; omega) | exact ⟨by first | trivial | (simp; done), _, by first | rfl | (simp; rfl)⟩))))
  refine RetW.auto0 false _ (by first | rfl | exact (List.append_nil _).symm) ?_ ?_
  · (simp (maxDischargeDepth := 6) [LTB, HLt_set, ltL_take, ltL_drop, ltL_rep, ltL_set, upd, eset, hH, hHk, htlt, lt_vi, lt_str, lt_vb, ltc_str, ltc_vi] <;> omega)
  (try simp only [wk, wk1, wk0, RB, limBytes, simprocAttr, ne_eq])
  (try (rw [List.take_of_length_le]; rotate_left 1; (· first | (simp; done) | (simp; omega) | omega)))
theorem cOwner_f (H : List Ob) (t : Nat) (ow : Int) (l : List Int)  (ht : H[t]? = some (.var [.int .i64 ow, .fslice (l.map vi)]))  (hl : 0 < l.length) : SCall Try.prog 23 [.ref t 0] H (fun r H' => r = .int .i64 ow ∧ H' = H) := by
  have htlt := lt_of_get ht
  refine SCall.of_good fun hH => ?_
  have hHk := HLt.add hH
  refine SCall.of_code Tok Try.func23 rfl Try.call23 (n := 10) rfl (by simp) (rs := [.tmp 2]) rfl ?_
  refine EWn.to ?_
  refine EWn.of_c Tok mixed (own := false) keep23 tab23 (by kernel_rfl) ?_
  (repeat (first | simp -dsimp only [ht, RB, TB, keep23, tab23, xindexAddr, xindex, xslice, xconvert, xlen, ewOp, FreeW, StabW, SameW, ChangeW, AddW, limBytes, simprocAttr, ne_eq] | ((with_reducible refine Need.intro ?_ ?_); (first | trivial | exact ⟨_, rfl⟩ | omega | (simp; done) | (simp; omega) | exact ⟨by first | trivial | (simp; done), _, by first | rfl | (simp; rfl)⟩))))
  (first | refine SCall.then (cIs_f _ t ow l  ht  hl) ?_ | refine SCall.thenA (cIs_f _ t ow l  ht  hl) (by repeat (first | exact trivial | exact .inl (.inl rfl) | exact .inl (.inr ⟨_, rfl, rfl⟩) | exact .inl rfl | exact .inr ⟨_, rfl, rfl⟩ | refine .inr ⟨_, _, rfl, rfl, ?_⟩ | refine ⟨?_, ?_⟩)) ?_ | refine CallE.intro _ (cIs_f _ t ow l  ht  hl) ?_ | refine CallE.introA (cIs_f _ t ow l  ht  hl) (by repeat (first | exact trivial | exact .inl (.inl rfl) | exact .inl (.inr ⟨_, rfl, rfl⟩) | exact .inl rfl | exact .inr ⟨_, rfl, rfl⟩ | refine .inr ⟨_, _, rfl, rfl, ?_⟩ | refine ⟨?_, ?_⟩)) ?_ | refine CallE.intro _ (fun _ => cIs_f _ t ow l  ht  hl) ?_ | refine CallE.intro _ (fun _ => SCall.arg (by repeat (first | exact trivial | exact .inl (.inl rfl) | exact .inl (.inr ⟨_, rfl, rfl⟩) | exact .inl rfl | exact .inr ⟨_, rfl, rfl⟩ | refine .inr ⟨_, _, rfl, rfl, ?_⟩ | refine ⟨?_, ?_⟩)) (cIs_f _ t ow l  ht  hl)) ?_ | refine CallE2.intro _ _ (cIs_f _ t ow l  ht  hl) ?_ | refine CallE2.intro _ _ (SCall.arg (by repeat (first | exact trivial | exact .inl (.inl rfl) | exact .inl (.inr ⟨_, rfl, rfl⟩) | exact .inl rfl | exact .inr ⟨_, rfl, rfl⟩ | refine .inr ⟨_, _, rfl, rfl, ?_⟩ | refine ⟨?_, ?_⟩)) (cIs_f _ t ow l  ht  hl)) ?_)
  (repeat (first | simp -dsimp only [RB, TB, keep23, tab23, xindexAddr, xindex, xslice, xconvert, xlen, ewOp, FreeW, StabW, SameW, ChangeW, AddW, limBytes, simprocAttr, ne_eq] | ((with_reducible refine Need.intro ?_ ?_); (first | trivial | exact ⟨_, rfl⟩ | omega | (simp; done) | (simp; omega) | exact ⟨by first | trivial | (simp; done), _, by first | rfl | (simp; rfl)⟩))))
  (repeat (first | simp -dsimp only [ht, RB, TB, keep23, tab23, xindexAddr, xindex, xslice, xconvert, xlen, ewOp, FreeW, StabW, SameW, ChangeW, AddW, limBytes, simprocAttr, ne_eq] | ((with_reducible refine Need.intro ?_ ?_); (first | trivial | exact ⟨_, rfl⟩ | omega | (simp; done) | (simp; omega) | exact ⟨by first | trivial | (simp; done), _, by first | rfl | (simp; rfl)⟩))))
  refine RetW.auto0 false _ (by first | rfl | exact (List.append_nil _).symm) ?_ ?_
  · (simp (maxDischargeDepth := 6) [LTB, HLt_set, ltL_take, ltL_drop, ltL_rep, ltL_set, upd, eset, hH, hHk, htlt, lt_vi, lt_str, lt_vb, ltc_str, ltc_vi] <;> omega)
  (try simp only [wk, wk1, wk0, RB, limBytes, simprocAttr, ne_eq])
  (try (rw [List.take_of_length_le]; rotate_left 1; (· first | (simp; done) | (simp; omega) | omega)))
theorem cMount_f (H : List Ob) (t : Nat) (ow : Int) (l : List Int)  (ht : H[t]? = some (.var [.int .i64 ow, .fslice (l.map vi)]))  (hl : 0 < l.length) : SCall Try.prog 22 [.ref t 0] H (fun r H' => r = .int .i64 l[0] ∧ H' = H) := by
  have htlt := lt_of_get ht
  refine SCall.of_good fun hH => ?_
  have hHk := HLt.add hH
  refine SCall.of_code Tok Try.func22 rfl Try.call22 (n := 12) rfl (by simp) (rs := [.tmp 2]) rfl ?_
  refine EWn.to ?_
  refine EWn.of_c Tok mixed (own := false) keep22 tab22 (by kernel_rfl) ?_
  (repeat (first | simp -dsimp only [ht, RB, TB, keep22, tab22, xindexAddr, xindex, xslice, xconvert, xlen, ewOp, FreeW, StabW, SameW, ChangeW, AddW, limBytes, simprocAttr, ne_eq] | ((with_reducible refine Need.intro ?_ ?_); (first | trivial | exact ⟨_, rfl⟩ | omega | (simp; done) | (simp; omega) | exact ⟨by first | trivial | (simp; done), _, by first | rfl | (simp; rfl)⟩))))
  (first | refine SCall.then (cIs_f _ t ow l  ht  hl) ?_ | refine SCall.thenA (cIs_f _ t ow l  ht  hl) (by repeat (first | exact trivial | exact .inl (.inl rfl) | exact .inl (.inr ⟨_, rfl, rfl⟩) | exact .inl rfl | exact .inr ⟨_, rfl, rfl⟩ | refine .inr ⟨_, _, rfl, rfl, ?_⟩ | refine ⟨?_, ?_⟩)) ?_ | refine CallE.intro _ (cIs_f _ t ow l  ht  hl) ?_ | refine CallE.introA (cIs_f _ t ow l  ht  hl) (by repeat (first | exact trivial | exact .inl (.inl rfl) | exact .inl (.inr ⟨_, rfl, rfl⟩) | exact .inl rfl | exact .inr ⟨_, rfl, rfl⟩ | refine .inr ⟨_, _, rfl, rfl, ?_⟩ | refine ⟨?_, ?_⟩)) ?_ | refine CallE.intro _ (fun _ => cIs_f _ t ow l  ht  hl) ?_ | refine CallE.intro _ (fun _ => SCall.arg (by repeat (first | exact trivial | exact .inl (.inl rfl) | exact .inl (.inr ⟨_, rfl, rfl⟩) | exact .inl rfl | exact .inr ⟨_, rfl, rfl⟩ | refine .inr ⟨_, _, rfl, rfl, ?_⟩ | refine ⟨?_, ?_⟩)) (cIs_f _ t ow l  ht  hl)) ?_ | refine CallE2.intro _ _ (cIs_f _ t ow l  ht  hl) ?_ | refine CallE2.intro _ _ (SCall.arg (by repeat (first | exact trivial | exact .inl (.inl rfl) | exact .inl (.inr ⟨_, rfl, rfl⟩) | exact .inl rfl | exact .inr ⟨_, rfl, rfl⟩ | refine .inr ⟨_, _, rfl, rfl, ?_⟩ | refine ⟨?_, ?_⟩)) (cIs_f _ t ow l  ht  hl)) ?_)
  (repeat (first | simp -dsimp only [RB, TB, keep22, tab22, xindexAddr, xindex, xslice, xconvert, xlen, ewOp, FreeW, StabW, SameW, ChangeW, AddW, limBytes, simprocAttr, ne_eq] | ((with_reducible refine Need.intro ?_ ?_); (first | trivial | exact ⟨_, rfl⟩ | omega | (simp; done) | (simp; omega) | exact ⟨by first | trivial | (simp; done), _, by first | rfl | (simp; rfl)⟩))))
  (repeat (first | simp -dsimp only [ht, at_map vi l 0 hl, vi, RB, TB, keep22, tab22, xindexAddr, xindex, xslice, xconvert, xlen, ewOp, FreeW, StabW, SameW, ChangeW, AddW, limBytes, simprocAttr, ne_eq] | ((with_reducible refine Need.intro ?_ ?_); (first | trivial | exact ⟨_, rfl⟩ | omega | (simp; done) | (simp; omega) | exact ⟨by first | trivial | (simp; done), _, by first | rfl | (simp; rfl)⟩))))
  refine RetW.auto0 false _ (by first | rfl | exact (List.append_nil _).symm) ?_ ?_
  · (simp (maxDischargeDepth := 6) [LTB, HLt_set, ltL_take, ltL_drop, ltL_rep, ltL_set, upd, eset, hH, hHk, htlt, lt_vi, lt_str, lt_vb, ltc_str, ltc_vi] <;> omega)
  (try simp only [wk, wk1, wk0, RB, limBytes, simprocAttr, ne_eq])
  (try (rw [List.take_of_length_le]; rotate_left 1; (· first | (simp; done) | (simp; omega) | omega)))

theorem cIs_v (H : List Ob) (t : Nat) (ow : Int) (l : List Int) (o ver : Nat) (ht : H[t]? = some (.var [.int .i64 ow, .vec o ver 0 l.length])) (ho : H[o]? = some (.vec ver 1 (l.map vi))) (hl : 0 < l.length) : SCall Try.prog 83 [.ref t 0] H (fun r H' => r = .bool true ∧ H' = H) := by
  have htlt := lt_of_get ht
  refine SCall.of_good fun hH => ?_
  have hHk := HLt.add hH
  refine SCall.of_code Tok Try.func83 rfl Try.call83 (n := 13) rfl (by simp) (rs := [.tmp 2]) rfl ?_
  refine EWn.to ?_
  refine EWn.of_c Tok mixed (own := false) keep83 tab83 (by kernel_rfl) ?_
  (repeat (first | simp -dsimp only [ht, ho, RB, TB, keep83, tab83, xindexAddr, xindex, xslice, xconvert, xlen, ewOp, FreeW, StabW, SameW, ChangeW, AddW, limBytes, simprocAttr, ne_eq] | ((with_reducible refine Need.intro ?_ ?_); (first | trivial | exact ⟨_, rfl⟩ | omega | (simp; done) | (simp; omega) | exact ⟨by first | trivial | (simp; done), _, by first | rfl | (simp; rfl)⟩))))
  refine RetW.auto0 false _ (by first | rfl | exact (List.append_nil _).symm) ?_ ?_
  · (simp (maxDischargeDepth := 6) [LTB, HLt_set, ltL_take, ltL_drop, ltL_rep, ltL_set, upd, eset, hH, hHk, htlt, lt_vi, lt_str, lt_vb, ltc_str, ltc_vi] <;> omega)
  (try simp only [wk, wk1, wk0, RB, limBytes, simprocAttr, ne_eq])
  (try (rw [List.take_of_length_le]; rotate_left 1; (· first | (simp; done) | (simp; omega) | omega)))
  simp; omega
theorem cFind_v (H : List Ob) (t : Nat) (ow : Int) (l : List Int) (o ver : Nat) (k : Int) (ht : H[t]? = some (.var [.int .i64 ow, .vec o ver 0 l.length])) (ho : H[o]? = some (.vec ver 1 (l.map vi))) (hl : 0 < l.length) (hl2 : l.length ≤ 1000000000) : SCall Try.prog 20 [.ref t 0, .int .i64 k] H (fun r H' => r = (if h : 1 ≤ k ∧ k ≤ l.length then .tuple [.int .i64 (l[(k - 1).toNat]'(by omega)), .int .i64 0] else .tuple [.int .i64 0, .int .i64 20]) ∧ H' = H) := by
  have htlt := lt_of_get ht
  refine SCall.of_good fun hH => ?_
  have hHk := HLt.add hH
  refine SCall.of_code Tok Try.func20 rfl Try.call20 (n := 30) rfl (by simp) (rs := [.tmp 4, .tmp 5]) rfl ?_
  refine EWn.to ?_
  refine EWn.of_c Tok mixed (own := false) keep20 tab20 (by kernel_rfl) ?_
  (repeat (first | simp -dsimp only [ht, ho, RB, TB, keep20, tab20, xindexAddr, xindex, xslice, xconvert, xlen, ewOp, FreeW, StabW, SameW, ChangeW, AddW, limBytes, simprocAttr, ne_eq] | ((with_reducible refine Need.intro ?_ ?_); (first | trivial | exact ⟨_, rfl⟩ | omega | (simp; done) | (simp; omega) | exact ⟨by first | trivial | (simp; done), _, by first | rfl | (simp; rfl)⟩))))
  (first | refine SCall.then (cIs_v _ t ow l o ver ht ho hl) ?_ | refine SCall.thenA (cIs_v _ t ow l o ver ht ho hl) (by repeat (first | exact trivial | exact .inl (.inl rfl) | exact .inl (.inr ⟨_, rfl, rfl⟩) | exact .inl rfl | exact .inr ⟨_, rfl, rfl⟩ | refine .inr ⟨_, _, rfl, rfl, ?_⟩ | refine ⟨?_, ?_⟩)) ?_ | refine CallE.intro _ (cIs_v _ t ow l o ver ht ho hl) ?_ | refine CallE.introA (cIs_v _ t ow l o ver ht ho hl) (by repeat (first | exact trivial | exact .inl (.inl rfl) | exact .inl (.inr ⟨_, rfl, rfl⟩) | exact .inl rfl | exact .inr ⟨_, rfl, rfl⟩ | refine .inr ⟨_, _, rfl, rfl, ?_⟩ | refine ⟨?_, ?_⟩)) ?_ | refine CallE.intro _ (fun _ => cIs_v _ t ow l o ver ht ho hl) ?_ | refine CallE.intro _ (fun _ => SCall.arg (by repeat (first | exact trivial | exact .inl (.inl rfl) | exact .inl (.inr ⟨_, rfl, rfl⟩) | exact .inl rfl | exact .inr ⟨_, rfl, rfl⟩ | refine .inr ⟨_, _, rfl, rfl, ?_⟩ | refine ⟨?_, ?_⟩)) (cIs_v _ t ow l o ver ht ho hl)) ?_ | refine CallE2.intro _ _ (cIs_v _ t ow l o ver ht ho hl) ?_ | refine CallE2.intro _ _ (SCall.arg (by repeat (first | exact trivial | exact .inl (.inl rfl) | exact .inl (.inr ⟨_, rfl, rfl⟩) | exact .inl rfl | exact .inr ⟨_, rfl, rfl⟩ | refine .inr ⟨_, _, rfl, rfl, ?_⟩ | refine ⟨?_, ?_⟩)) (cIs_v _ t ow l o ver ht ho hl)) ?_)
  (repeat (first | simp -dsimp only [RB, TB, keep20, tab20, xindexAddr, xindex, xslice, xconvert, xlen, ewOp, FreeW, StabW, SameW, ChangeW, AddW, limBytes, simprocAttr, ne_eq] | ((with_reducible refine Need.intro ?_ ?_); (first | trivial | exact ⟨_, rfl⟩ | omega | (simp; done) | (simp; omega) | exact ⟨by first | trivial | (simp; done), _, by first | rfl | (simp; rfl)⟩))))
  cases h1 : decide (k < 1)
  · have h1' := of_decide_eq_false h1
    (repeat (first | simp -dsimp only [h1, ht, ho, RB, TB, keep20, tab20, xindexAddr, xindex, xslice, xconvert, xlen, ewOp, FreeW, StabW, SameW, ChangeW, AddW, limBytes, simprocAttr, ne_eq] | ((with_reducible refine Need.intro ?_ ?_); (first | trivial | exact ⟨_, rfl⟩ | omega | (simp; done) | (simp; omega) | exact ⟨by first | trivial | (simp; done), _, by first | rfl | (simp; rfl)⟩))))
    refine IfW.intro (fun h2 => ?_) (fun h2 => ?_)
    · have h2' := of_decide_eq_true h2
      (repeat (first | simp -dsimp only [h2, ht, ho, RB, TB, keep20, tab20, xindexAddr, xindex, xslice, xconvert, xlen, ewOp, FreeW, StabW, SameW, ChangeW, AddW, limBytes, simprocAttr, ne_eq] | ((with_reducible refine Need.intro ?_ ?_); (first | trivial | exact ⟨_, rfl⟩ | omega | (simp; done) | (simp; omega) | exact ⟨by first | trivial | (simp; done), _, by first | rfl | (simp; rfl)⟩))))
      refine RetW.auto0 false _ (by first | rfl | exact (List.append_nil _).symm) ?_ ?_
      · (simp (maxDischargeDepth := 6) [LTB, HLt_set, ltL_take, ltL_drop, ltL_rep, ltL_set, upd, eset, hH, hHk, htlt, lt_vi, lt_str, lt_vb, ltc_str, ltc_vi] <;> omega)
      (try simp only [wk, wk1, wk0, RB, limBytes, simprocAttr, ne_eq])
      (try (rw [List.take_of_length_le]; rotate_left 1; (· first | (simp; done) | (simp; omega) | omega)))
      rw [dif_neg (by omega)]
    · have h2' := of_decide_eq_false h2
      have hw : IntKind.i64.wrap (k - 1) = k - 1 := wrapI (by omega)
      have hk : (k - 1).toNat < l.length := by omega
      (repeat (first | simp -dsimp only [h2, ht, ho, hw, at_map vi l (k - 1).toNat hk, vi, RB, TB, keep20, tab20, xindexAddr, xindex, xslice, xconvert, xlen, ewOp, FreeW, StabW, SameW, ChangeW, AddW, limBytes, simprocAttr, ne_eq] | ((with_reducible refine Need.intro ?_ ?_); (first | trivial | exact ⟨_, rfl⟩ | omega | (simp; done) | (simp; omega) | exact ⟨by first | trivial | (simp; done), _, by first | rfl | (simp; rfl)⟩))))
      refine RetW.auto0 false _ (by first | rfl | exact (List.append_nil _).symm) ?_ ?_
      · (simp (maxDischargeDepth := 6) [LTB, HLt_set, ltL_take, ltL_drop, ltL_rep, ltL_set, upd, eset, hH, hHk, htlt, lt_vi, lt_str, lt_vb, ltc_str, ltc_vi] <;> omega)
      (try simp only [wk, wk1, wk0, RB, limBytes, simprocAttr, ne_eq])
      (try (rw [List.take_of_length_le]; rotate_left 1; (· first | (simp; done) | (simp; omega) | omega)))
      rw [dif_pos (by omega)]
  · (repeat (first | simp -dsimp only [h1, ht, ho, RB, TB, keep20, tab20, xindexAddr, xindex, xslice, xconvert, xlen, ewOp, FreeW, StabW, SameW, ChangeW, AddW, limBytes, simprocAttr, ne_eq] | ((with_reducible refine Need.intro ?_ ?_); (first | trivial | exact ⟨_, rfl⟩ | omega | (simp; done) | (simp; omega) | exact ⟨by first | trivial | (simp; done), _, by first | rfl | (simp; rfl)⟩))))
    refine RetW.auto0 false _ (by first | rfl | exact (List.append_nil _).symm) ?_ ?_
    · (simp (maxDischargeDepth := 6) [LTB, HLt_set, ltL_take, ltL_drop, ltL_rep, ltL_set, upd, eset, hH, hHk, htlt, lt_vi, lt_str, lt_vb, ltc_str, ltc_vi] <;> omega)
    (try simp only [wk, wk1, wk0, RB, limBytes, simprocAttr, ne_eq])
    (try (rw [List.take_of_length_le]; rotate_left 1; (· first | (simp; done) | (simp; omega) | omega)))
    have h1' := of_decide_eq_true h1
    rw [dif_neg (by omega)]
theorem cCount_v (H : List Ob) (t : Nat) (ow : Int) (l : List Int) (o ver : Nat) (ht : H[t]? = some (.var [.int .i64 ow, .vec o ver 0 l.length])) (ho : H[o]? = some (.vec ver 1 (l.map vi))) (hl : 0 < l.length) : SCall Try.prog 21 [.ref t 0] H (fun r H' => r = .int .i64 l.length ∧ H' = H) := by
  have htlt := lt_of_get ht
  refine SCall.of_good fun hH => ?_
  have hHk := HLt.add hH
  refine SCall.of_code Tok Try.func21 rfl Try.call21 (n := 11) rfl (by simp) (rs := [.tmp 2]) rfl ?_
  refine EWn.to ?_
  refine EWn.of_c Tok mixed (own := false) keep21 tab21 (by kernel_rfl) ?_
  (repeat (first | simp -dsimp only [ht, ho, RB, TB, keep21, tab21, xindexAddr, xindex, xslice, xconvert, xlen, ewOp, FreeW, StabW, SameW, ChangeW, AddW, limBytes, simprocAttr, ne_eq] | ((with_reducible refine Need.intro ?_ ?_); (first | trivial | exact ⟨_, rfl⟩ | omega | (simp; done) | (simp; omega) | exact ⟨by first | trivial | (simp; done), _, by first | rfl | (simp; rfl)⟩))))
  (first | refine SCall.then (cIs_v _ t ow l o ver ht ho hl) ?_ | refine SCall.thenA (cIs_v _ t ow l o ver ht ho hl) (by repeat (first | exact trivial | exact .inl (.inl rfl) | exact .inl (.inr ⟨_, rfl, rfl⟩) | exact .inl rfl | exact .inr ⟨_, rfl, rfl⟩ | refine .inr ⟨_, _, rfl, rfl, ?_⟩ | refine ⟨?_, ?_⟩)) ?_ | refine CallE.intro _ (cIs_v _ t ow l o ver ht ho hl) ?_ | refine CallE.introA (cIs_v _ t ow l o ver ht ho hl) (by repeat (first | exact trivial | exact .inl (.inl rfl) | exact .inl (.inr ⟨_, rfl, rfl⟩) | exact .inl rfl | exact .inr ⟨_, rfl, rfl⟩ | refine .inr ⟨_, _, rfl, rfl, ?_⟩ | refine ⟨?_, ?_⟩)) ?_ | refine CallE.intro _ (fun _ => cIs_v _ t ow l o ver ht ho hl) ?_ | refine CallE.intro _ (fun _ => SCall.arg (by repeat (first | exact trivial | exact .inl (.inl rfl) | exact .inl (.inr ⟨_, rfl, rfl⟩) | exact .inl rfl | exact .inr ⟨_, rfl, rfl⟩ | refine .inr ⟨_, _, rfl, rfl, ?_⟩ | refine ⟨?_, ?_⟩)) (cIs_v _ t ow l o ver ht ho hl)) ?_ | refine CallE2.intro _ _ (cIs_v _ t ow l o ver ht ho hl) ?_ | refine CallE2.intro _ _ (SCall.arg (by repeat (first | exact trivial | exact .inl (.inl rfl) | exact .inl (.inr ⟨_, rfl, rfl⟩) | exact .inl rfl | exact .inr ⟨_, rfl, rfl⟩ | refine .inr ⟨_, _, rfl, rfl, ?_⟩ | refine ⟨?_, ?_⟩)) (cIs_v _ t ow l o ver ht ho hl)) ?_)
  (repeat (first | simp -dsimp only [RB, TB, keep21, tab21, xindexAddr, xindex, xslice, xconvert, xlen, ewOp, FreeW, StabW, SameW, ChangeW, AddW, limBytes, simprocAttr, ne_eq] | ((with_reducible refine Need.intro ?_ ?_); (first | trivial | exact ⟨_, rfl⟩ | omega | (simp; done) | (simp; omega) | exact ⟨by first | trivial | (simp; done), _, by first | rfl | (simp; rfl)⟩))))
  (repeat (first | simp -dsimp only [ht, ho, RB, TB, keep21, tab21, xindexAddr, xindex, xslice, xconvert, xlen, ewOp, FreeW, StabW, SameW, ChangeW, AddW, limBytes, simprocAttr, ne_eq] | ((with_reducible refine Need.intro ?_ ?_); (first | trivial | exact ⟨_, rfl⟩ | omega | (simp; done) | (simp; omega) | exact ⟨by first | trivial | (simp; done), _, by first | rfl | (simp; rfl)⟩))))
  refine RetW.auto0 false _ (by first | rfl | exact (List.append_nil _).symm) ?_ ?_
  · (simp (maxDischargeDepth := 6) [LTB, HLt_set, ltL_take, ltL_drop, ltL_rep, ltL_set, upd, eset, hH, hHk, htlt, lt_vi, lt_str, lt_vb, ltc_str, ltc_vi] <;> omega)
  (try simp only [wk, wk1, wk0, RB, limBytes, simprocAttr, ne_eq])
  (try (rw [List.take_of_length_le]; rotate_left 1; (· first | (simp; done) | (simp; omega) | omega)))
theorem cOwner_v (H : List Ob) (t : Nat) (ow : Int) (l : List Int) (o ver : Nat) (ht : H[t]? = some (.var [.int .i64 ow, .vec o ver 0 l.length])) (ho : H[o]? = some (.vec ver 1 (l.map vi))) (hl : 0 < l.length) : SCall Try.prog 23 [.ref t 0] H (fun r H' => r = .int .i64 ow ∧ H' = H) := by
  have htlt := lt_of_get ht
  refine SCall.of_good fun hH => ?_
  have hHk := HLt.add hH
  refine SCall.of_code Tok Try.func23 rfl Try.call23 (n := 10) rfl (by simp) (rs := [.tmp 2]) rfl ?_
  refine EWn.to ?_
  refine EWn.of_c Tok mixed (own := false) keep23 tab23 (by kernel_rfl) ?_
  (repeat (first | simp -dsimp only [ht, ho, RB, TB, keep23, tab23, xindexAddr, xindex, xslice, xconvert, xlen, ewOp, FreeW, StabW, SameW, ChangeW, AddW, limBytes, simprocAttr, ne_eq] | ((with_reducible refine Need.intro ?_ ?_); (first | trivial | exact ⟨_, rfl⟩ | omega | (simp; done) | (simp; omega) | exact ⟨by first | trivial | (simp; done), _, by first | rfl | (simp; rfl)⟩))))
  (first | refine SCall.then (cIs_v _ t ow l o ver ht ho hl) ?_ | refine SCall.thenA (cIs_v _ t ow l o ver ht ho hl) (by repeat (first | exact trivial | exact .inl (.inl rfl) | exact .inl (.inr ⟨_, rfl, rfl⟩) | exact .inl rfl | exact .inr ⟨_, rfl, rfl⟩ | refine .inr ⟨_, _, rfl, rfl, ?_⟩ | refine ⟨?_, ?_⟩)) ?_ | refine CallE.intro _ (cIs_v _ t ow l o ver ht ho hl) ?_ | refine CallE.introA (cIs_v _ t ow l o ver ht ho hl) (by repeat (first | exact trivial | exact .inl (.inl rfl) | exact .inl (.inr ⟨_, rfl, rfl⟩) | exact .inl rfl | exact .inr ⟨_, rfl, rfl⟩ | refine .inr ⟨_, _, rfl, rfl, ?_⟩ | refine ⟨?_, ?_⟩)) ?_ | refine CallE.intro _ (fun _ => cIs_v _ t ow l o ver ht ho hl) ?_ | refine CallE.intro _ (fun _ => SCall.arg (by repeat (first | exact trivial | exact .inl (.inl rfl) | exact .inl (.inr ⟨_, rfl, rfl⟩) | exact .inl rfl | exact .inr ⟨_, rfl, rfl⟩ | refine .inr ⟨_, _, rfl, rfl, ?_⟩ | refine ⟨?_, ?_⟩)) (cIs_v _ t ow l o ver ht ho hl)) ?_ | refine CallE2.intro _ _ (cIs_v _ t ow l o ver ht ho hl) ?_ | refine CallE2.intro _ _ (SCall.arg (by repeat (first | exact trivial | exact .inl (.inl rfl) | exact .inl (.inr ⟨_, rfl, rfl⟩) | exact .inl rfl | exact .inr ⟨_, rfl, rfl⟩ | refine .inr ⟨_, _, rfl, rfl, ?_⟩ | refine ⟨?_, ?_⟩)) (cIs_v _ t ow l o ver ht ho hl)) ?_)
  (repeat (first | simp -dsimp only [RB, TB, keep23, tab23, xindexAddr, xindex, xslice, xconvert, xlen, ewOp, FreeW, StabW, SameW, ChangeW, AddW, limBytes, simprocAttr, ne_eq] | ((with_reducible refine Need.intro ?_ ?_); (first | trivial | exact ⟨_, rfl⟩ | omega | (simp; done) | (simp; omega) | exact ⟨by first | trivial | (simp; done), _, by first | rfl | (simp; rfl)⟩))))
  (repeat (first | simp -dsimp only [ht, ho, RB, TB, keep23, tab23, xindexAddr, xindex, xslice, xconvert, xlen, ewOp, FreeW, StabW, SameW, ChangeW, AddW, limBytes, simprocAttr, ne_eq] | ((with_reducible refine Need.intro ?_ ?_); (first | trivial | exact ⟨_, rfl⟩ | omega | (simp; done) | (simp; omega) | exact ⟨by first | trivial | (simp; done), _, by first | rfl | (simp; rfl)⟩))))
  refine RetW.auto0 false _ (by first | rfl | exact (List.append_nil _).symm) ?_ ?_
  · (simp (maxDischargeDepth := 6) [LTB, HLt_set, ltL_take, ltL_drop, ltL_rep, ltL_set, upd, eset, hH, hHk, htlt, lt_vi, lt_str, lt_vb, ltc_str, ltc_vi] <;> omega)
  (try simp only [wk, wk1, wk0, RB, limBytes, simprocAttr, ne_eq])
  (try (rw [List.take_of_length_le]; rotate_left 1; (· first | (simp; done) | (simp; omega) | omega)))
theorem cMount_v (H : List Ob) (t : Nat) (ow : Int) (l : List Int) (o ver : Nat) (ht : H[t]? = some (.var [.int .i64 ow, .vec o ver 0 l.length])) (ho : H[o]? = some (.vec ver 1 (l.map vi))) (hl : 0 < l.length) : SCall Try.prog 22 [.ref t 0] H (fun r H' => r = .int .i64 l[0] ∧ H' = H) := by
  have htlt := lt_of_get ht
  refine SCall.of_good fun hH => ?_
  have hHk := HLt.add hH
  refine SCall.of_code Tok Try.func22 rfl Try.call22 (n := 12) rfl (by simp) (rs := [.tmp 2]) rfl ?_
  refine EWn.to ?_
  refine EWn.of_c Tok mixed (own := false) keep22 tab22 (by kernel_rfl) ?_
  (repeat (first | simp -dsimp only [ht, ho, RB, TB, keep22, tab22, xindexAddr, xindex, xslice, xconvert, xlen, ewOp, FreeW, StabW, SameW, ChangeW, AddW, limBytes, simprocAttr, ne_eq] | ((with_reducible refine Need.intro ?_ ?_); (first | trivial | exact ⟨_, rfl⟩ | omega | (simp; done) | (simp; omega) | exact ⟨by first | trivial | (simp; done), _, by first | rfl | (simp; rfl)⟩))))
  (first | refine SCall.then (cIs_v _ t ow l o ver ht ho hl) ?_ | refine SCall.thenA (cIs_v _ t ow l o ver ht ho hl) (by repeat (first | exact trivial | exact .inl (.inl rfl) | exact .inl (.inr ⟨_, rfl, rfl⟩) | exact .inl rfl | exact .inr ⟨_, rfl, rfl⟩ | refine .inr ⟨_, _, rfl, rfl, ?_⟩ | refine ⟨?_, ?_⟩)) ?_ | refine CallE.intro _ (cIs_v _ t ow l o ver ht ho hl) ?_ | refine CallE.introA (cIs_v _ t ow l o ver ht ho hl) (by repeat (first | exact trivial | exact .inl (.inl rfl) | exact .inl (.inr ⟨_, rfl, rfl⟩) | exact .inl rfl | exact .inr ⟨_, rfl, rfl⟩ | refine .inr ⟨_, _, rfl, rfl, ?_⟩ | refine ⟨?_, ?_⟩)) ?_ | refine CallE.intro _ (fun _ => cIs_v _ t ow l o ver ht ho hl) ?_ | refine CallE.intro _ (fun _ => SCall.arg (by repeat (first | exact trivial | exact .inl (.inl rfl) | exact .inl (.inr ⟨_, rfl, rfl⟩) | exact .inl rfl | exact .inr ⟨_, rfl, rfl⟩ | refine .inr ⟨_, _, rfl, rfl, ?_⟩ | refine ⟨?_, ?_⟩)) (cIs_v _ t ow l o ver ht ho hl)) ?_ | refine CallE2.intro _ _ (cIs_v _ t ow l o ver ht ho hl) ?_ | refine CallE2.intro _ _ (SCall.arg (by repeat (first | exact trivial | exact .inl (.inl rfl) | exact .inl (.inr ⟨_, rfl, rfl⟩) | exact .inl rfl | exact .inr ⟨_, rfl, rfl⟩ | refine .inr ⟨_, _, rfl, rfl, ?_⟩ | refine ⟨?_, ?_⟩)) (cIs_v _ t ow l o ver ht ho hl)) ?_)
  (repeat (first | simp -dsimp only [RB, TB, keep22, tab22, xindexAddr, xindex, xslice, xconvert, xlen, ewOp, FreeW, StabW, SameW, ChangeW, AddW, limBytes, simprocAttr, ne_eq] | ((with_reducible refine Need.intro ?_ ?_); (first | trivial | exact ⟨_, rfl⟩ | omega | (simp; done) | (simp; omega) | exact ⟨by first | trivial | (simp; done), _, by first | rfl | (simp; rfl)⟩))))
  (repeat (first | simp -dsimp only [ht, ho, at_map vi l 0 hl, vi, RB, TB, keep22, tab22, xindexAddr, xindex, xslice, xconvert, xlen, ewOp, FreeW, StabW, SameW, ChangeW, AddW, limBytes, simprocAttr, ne_eq] | ((with_reducible refine Need.intro ?_ ?_); (first | trivial | exact ⟨_, rfl⟩ | omega | (simp; done) | (simp; omega) | exact ⟨by first | trivial | (simp; done), _, by first | rfl | (simp; rfl)⟩))))
  refine RetW.auto0 false _ (by first | rfl | exact (List.append_nil _).symm) ?_ ?_
  · (simp (maxDischargeDepth := 6) [LTB, HLt_set, ltL_take, ltL_drop, ltL_rep, ltL_set, upd, eset, hH, hHk, htlt, lt_vi, lt_str, lt_vb, ltc_str, ltc_vi] <;> omega)
  (try simp only [wk, wk1, wk0, RB, limBytes, simprocAttr, ne_eq])
  (try (rw [List.take_of_length_le]; rotate_left 1; (· first | (simp; done) | (simp; omega) | omega)))

theorem indexFunc_int (H : List Ob) (l : List (Int)) (k : FuncId) (fi ca : List V) (p : Int → Bool) (hf : ∀ x ∈ l, SCall Try.prog k (fi ++ vi x :: ca) H (fun r H' => r = .bool (p x) ∧ H' = H)) (hlf : ltL H.length fi ∧ ltL H.length ca) : SCall Try.prog 84 [.slice (l.map vi), .fn (.func k) fi ca] H (fun r H' => r = .int .i64 (ix p l) ∧ H' = H) := by
  obtain ⟨hl1, hl2⟩ := hlf
  refine SCall.sized 0 rfl fun hl => ?_
  rw [List.length_map, maxLen_eq] at hl
  refine SCall.of_good fun hH => ?_
  have hHk := HLt.add hH
  refine SCall.of_code Tok Try.func84 rfl Try.call84 (n := 19) rfl (by simp) (rs := [.tmp 4]) rfl ?_
  refine EWn.to ?_
  refine EWn.of_c Tok mixed (own := false) keep84 tab84 (by kernel_rfl) ?_
  (repeat (first | simp -dsimp only [RB, TB, keep84, tab84, xindexAddr, xindex, xslice, xconvert, xlen, ewOp, FreeW, StabW, SameW, ChangeW, AddW, limBytes, simprocAttr, ne_eq] | ((with_reducible refine Need.intro ?_ ?_); (first | trivial | exact ⟨_, rfl⟩ | omega | (simp; done) | (simp; omega) | exact ⟨by first | trivial | (simp; done), _, by first | rfl | (simp; rfl)⟩))))
  refine EWn.loopE (ι := (Nat)) (fun (i : (Nat)) => i ≤ l.length ∧ ∀ x ∈ l.take i, p x = false) (fun (i : (Nat)) => l.length - i) (fun (i : (Nat)) => [(8, .int .i64 i)]) (fun (i : (Nat)) => H) (0) ?_ ?_ ?_ ?_ ?_
  · first | rfl | simp [upd, eset]
  · first | rfl | (simp; done) | exact (set_same (by assumption)).symm
  · rintro i hok; exact ⟨by first | (simp; done) | (simp; omega), by (simp (maxDischargeDepth := 6) [LTB, HLt_set, ltL_take, ltL_drop, ltL_rep, ltL_set, upd, eset, hH, hHk, hl1, hl2, lt_vi, lt_str, lt_vb, ltc_str, ltc_vi] <;> omega), by (simp (maxDischargeDepth := 6) [LTB, HLt_set, ltL_take, ltL_drop, ltL_rep, ltL_set, upd, eset, hH, hHk, hl1, hl2, lt_vi, lt_str, lt_vb, ltc_str, ltc_vi] <;> omega)⟩
  · simp
  rintro i ⟨hi, hno⟩
  refine EWn.of_c Tok mixed (own := false) keep84 tab84 (by kernel_rfl) ?_
  (repeat (first | simp -dsimp only [RB, TB, keep84, tab84, xindexAddr, xindex, xslice, xconvert, xlen, ewOp, FreeW, StabW, SameW, ChangeW, AddW, limBytes, simprocAttr, ne_eq] | ((with_reducible refine Need.intro ?_ ?_); (first | trivial | exact ⟨_, rfl⟩ | omega | (simp; done) | (simp; omega) | exact ⟨by first | trivial | (simp; done), _, by first | rfl | (simp; rfl)⟩))))
  refine IfW.intro (fun h => ?_) (fun h => ?_)
  · have hlt := lt_of h
    (repeat (first | simp -dsimp only [h, at_map vi l i hlt, vi, RB, TB, keep84, tab84, xindexAddr, xindex, xslice, xconvert, xlen, ewOp, FreeW, StabW, SameW, ChangeW, AddW, limBytes, simprocAttr, ne_eq] | ((with_reducible refine Need.intro ?_ ?_); (first | trivial | exact ⟨_, rfl⟩ | omega | (simp; done) | (simp; omega) | exact ⟨by first | trivial | (simp; done), _, by first | rfl | (simp; rfl)⟩))))
    refine SCall.then (hf l[i] (List.getElem_mem hlt)) ?_
    (repeat (first | simp -dsimp only [RB, TB, keep84, tab84, xindexAddr, xindex, xslice, xconvert, xlen, ewOp, FreeW, StabW, SameW, ChangeW, AddW, limBytes, simprocAttr, ne_eq] | ((with_reducible refine Need.intro ?_ ?_); (first | trivial | exact ⟨_, rfl⟩ | omega | (simp; done) | (simp; omega) | exact ⟨by first | trivial | (simp; done), _, by first | rfl | (simp; rfl)⟩))))
    refine IfW.intro (fun hb => ?_) (fun hb => ?_)
    · (repeat (first | simp -dsimp only [hb, RB, TB, keep84, tab84, xindexAddr, xindex, xslice, xconvert, xlen, ewOp, FreeW, StabW, SameW, ChangeW, AddW, limBytes, simprocAttr, ne_eq] | ((with_reducible refine Need.intro ?_ ?_); (first | trivial | exact ⟨_, rfl⟩ | omega | (simp; done) | (simp; omega) | exact ⟨by first | trivial | (simp; done), _, by first | rfl | (simp; rfl)⟩))))
      refine RetW.auto0 false _ (by first | rfl | exact (List.append_nil _).symm) ?_ ?_
      · (simp (maxDischargeDepth := 6) [LTB, HLt_set, ltL_take, ltL_drop, ltL_rep, ltL_set, upd, eset, hH, hHk, hl1, hl2, lt_vi, lt_str, lt_vb, ltc_str, ltc_vi] <;> omega)
      (try simp only [wk, wk1, wk0, RB, limBytes, simprocAttr, ne_eq])
      (try (rw [List.take_of_length_le]; rotate_left 1; (· first | (simp; done) | (simp; omega) | omega)))
      rw [ix_hit hlt hb hno]
    · (repeat (first | simp -dsimp only [hb, RB, TB, keep84, tab84, xindexAddr, xindex, xslice, xconvert, xlen, ewOp, FreeW, StabW, SameW, ChangeW, AddW, limBytes, simprocAttr, ne_eq] | ((with_reducible refine Need.intro ?_ ?_); (first | trivial | exact ⟨_, rfl⟩ | omega | (simp; done) | (simp; omega) | exact ⟨by first | trivial | (simp; done), _, by first | rfl | (simp; rfl)⟩))))
      rw [wrapI (by omega)]
      refine UpTo.here ⟨(i + 1), ?_, by first | omega | (simp only [List.length_append, List.length_cons, List.length_nil]; omega), by simp [upd, eset], ⟨_, by simp; try rfl⟩⟩
      exact ⟨hlt, take_step hlt hb hno⟩
  · (repeat (first | simp -dsimp only [h, RB, TB, keep84, tab84, xindexAddr, xindex, xslice, xconvert, xlen, ewOp, FreeW, StabW, SameW, ChangeW, AddW, limBytes, simprocAttr, ne_eq] | ((with_reducible refine Need.intro ?_ ?_); (first | trivial | exact ⟨_, rfl⟩ | omega | (simp; done) | (simp; omega) | exact ⟨by first | trivial | (simp; done), _, by first | rfl | (simp; rfl)⟩))))
    refine RetW.auto0 false _ (by first | rfl | exact (List.append_nil _).symm) ?_ ?_
    · (simp (maxDischargeDepth := 6) [LTB, HLt_set, ltL_take, ltL_drop, ltL_rep, ltL_set, upd, eset, hH, hHk, hl1, hl2, lt_vi, lt_str, lt_vb, ltc_str, ltc_vi] <;> omega)
    (try simp only [wk, wk1, wk0, RB, limBytes, simprocAttr, ne_eq])
    (try (rw [List.take_of_length_le]; rotate_left 1; (· first | (simp; done) | (simp; omega) | omega)))
    rw [ix_none (take_all (ge_of h) hno)]
theorem indexFunc_int_vec (H : List Ob) (l : List (Int)) (k : FuncId) (fi ca : List V) (p : Int → Bool) (hf : ∀ x ∈ l, SCall Try.prog k (fi ++ vi x :: ca) H (fun r H' => r = .bool (p x) ∧ H' = H)) (hlf : ltL H.length fi ∧ ltL H.length ca) (o ver n : Nat) (ho : H[o]? = some (.vec ver 1 (l.map vi))) (hn : n = l.length) (hl : l.length ≤ 1000000000000) : SCall Try.prog 84 [.vec o ver 0 n, .fn (.func k) fi ca] H (fun r H' => r = .int .i64 (ix p l) ∧ H' = H) := by
  subst hn
  obtain ⟨hl1, hl2⟩ := hlf
  have holt := lt_of_get ho
  refine SCall.of_good fun hH => ?_
  have hHk := HLt.add hH
  refine SCall.of_code Tok Try.func84 rfl Try.call84 (n := 19) rfl (by simp) (rs := [.tmp 4]) rfl ?_
  refine EWn.to ?_
  refine EWn.of_c Tok mixed (own := false) keep84 tab84 (by kernel_rfl) ?_
  (repeat (first | simp -dsimp only [ho, RB, TB, keep84, tab84, xindexAddr, xindex, xslice, xconvert, xlen, ewOp, FreeW, StabW, SameW, ChangeW, AddW, limBytes, simprocAttr, ne_eq] | ((with_reducible refine Need.intro ?_ ?_); (first | trivial | exact ⟨_, rfl⟩ | omega | (simp; done) | (simp; omega) | exact ⟨by first | trivial | (simp; done), _, by first | rfl | (simp; rfl)⟩))))
  refine EWn.loopE (ι := (Nat)) (fun (i : (Nat)) => i ≤ l.length ∧ ∀ x ∈ l.take i, p x = false) (fun (i : (Nat)) => l.length - i) (fun (i : (Nat)) => [(8, .int .i64 i)]) (fun (i : (Nat)) => H) (0) ?_ ?_ ?_ ?_ ?_
  · first | rfl | simp [upd, eset]
  · first | rfl | (simp; done) | exact (set_same (by assumption)).symm
  · rintro i hok; exact ⟨by first | (simp; done) | (simp; omega), by (simp (maxDischargeDepth := 6) [LTB, HLt_set, ltL_take, ltL_drop, ltL_rep, ltL_set, upd, eset, hH, hHk, hl1, hl2, holt, lt_vi, lt_str, lt_vb, ltc_str, ltc_vi] <;> omega), by (simp (maxDischargeDepth := 6) [LTB, HLt_set, ltL_take, ltL_drop, ltL_rep, ltL_set, upd, eset, hH, hHk, hl1, hl2, holt, lt_vi, lt_str, lt_vb, ltc_str, ltc_vi] <;> omega)⟩
  · simp
  rintro i ⟨hi, hno⟩
  refine EWn.of_c Tok mixed (own := false) keep84 tab84 (by kernel_rfl) ?_
  (repeat (first | simp -dsimp only [ho, RB, TB, keep84, tab84, xindexAddr, xindex, xslice, xconvert, xlen, ewOp, FreeW, StabW, SameW, ChangeW, AddW, limBytes, simprocAttr, ne_eq] | ((with_reducible refine Need.intro ?_ ?_); (first | trivial | exact ⟨_, rfl⟩ | omega | (simp; done) | (simp; omega) | exact ⟨by first | trivial | (simp; done), _, by first | rfl | (simp; rfl)⟩))))
  refine IfW.intro (fun h => ?_) (fun h => ?_)
  · have hlt := lt_of h
    (repeat (first | simp -dsimp only [h, ho, at_map vi l i hlt, vi, RB, TB, keep84, tab84, xindexAddr, xindex, xslice, xconvert, xlen, ewOp, FreeW, StabW, SameW, ChangeW, AddW, limBytes, simprocAttr, ne_eq] | ((with_reducible refine Need.intro ?_ ?_); (first | trivial | exact ⟨_, rfl⟩ | omega | (simp; done) | (simp; omega) | exact ⟨by first | trivial | (simp; done), _, by first | rfl | (simp; rfl)⟩))))
    refine SCall.then (hf l[i] (List.getElem_mem hlt)) ?_
    (repeat (first | simp -dsimp only [RB, TB, keep84, tab84, xindexAddr, xindex, xslice, xconvert, xlen, ewOp, FreeW, StabW, SameW, ChangeW, AddW, limBytes, simprocAttr, ne_eq] | ((with_reducible refine Need.intro ?_ ?_); (first | trivial | exact ⟨_, rfl⟩ | omega | (simp; done) | (simp; omega) | exact ⟨by first | trivial | (simp; done), _, by first | rfl | (simp; rfl)⟩))))
    refine IfW.intro (fun hb => ?_) (fun hb => ?_)
    · (repeat (first | simp -dsimp only [hb, RB, TB, keep84, tab84, xindexAddr, xindex, xslice, xconvert, xlen, ewOp, FreeW, StabW, SameW, ChangeW, AddW, limBytes, simprocAttr, ne_eq] | ((with_reducible refine Need.intro ?_ ?_); (first | trivial | exact ⟨_, rfl⟩ | omega | (simp; done) | (simp; omega) | exact ⟨by first | trivial | (simp; done), _, by first | rfl | (simp; rfl)⟩))))
      refine RetW.auto0 false _ (by first | rfl | exact (List.append_nil _).symm) ?_ ?_
      · (simp (maxDischargeDepth := 6) [LTB, HLt_set, ltL_take, ltL_drop, ltL_rep, ltL_set, upd, eset, hH, hHk, hl1, hl2, holt, lt_vi, lt_str, lt_vb, ltc_str, ltc_vi] <;> omega)
      (try simp only [wk, wk1, wk0, RB, limBytes, simprocAttr, ne_eq])
      (try (rw [List.take_of_length_le]; rotate_left 1; (· first | (simp; done) | (simp; omega) | omega)))
      rw [ix_hit hlt hb hno]
    · (repeat (first | simp -dsimp only [hb, RB, TB, keep84, tab84, xindexAddr, xindex, xslice, xconvert, xlen, ewOp, FreeW, StabW, SameW, ChangeW, AddW, limBytes, simprocAttr, ne_eq] | ((with_reducible refine Need.intro ?_ ?_); (first | trivial | exact ⟨_, rfl⟩ | omega | (simp; done) | (simp; omega) | exact ⟨by first | trivial | (simp; done), _, by first | rfl | (simp; rfl)⟩))))
      rw [wrapI (by omega)]
      refine UpTo.here ⟨(i + 1), ?_, by first | omega | (simp only [List.length_append, List.length_cons, List.length_nil]; omega), by simp [upd, eset], ⟨_, by simp; try rfl⟩⟩
      exact ⟨hlt, take_step hlt hb hno⟩
  · (repeat (first | simp -dsimp only [h, RB, TB, keep84, tab84, xindexAddr, xindex, xslice, xconvert, xlen, ewOp, FreeW, StabW, SameW, ChangeW, AddW, limBytes, simprocAttr, ne_eq] | ((with_reducible refine Need.intro ?_ ?_); (first | trivial | exact ⟨_, rfl⟩ | omega | (simp; done) | (simp; omega) | exact ⟨by first | trivial | (simp; done), _, by first | rfl | (simp; rfl)⟩))))
    refine RetW.auto0 false _ (by first | rfl | exact (List.append_nil _).symm) ?_ ?_
    · (simp (maxDischargeDepth := 6) [LTB, HLt_set, ltL_take, ltL_drop, ltL_rep, ltL_set, upd, eset, hH, hHk, hl1, hl2, holt, lt_vi, lt_str, lt_vb, ltc_str, ltc_vi] <;> omega)
    (try simp only [wk, wk1, wk0, RB, limBytes, simprocAttr, ne_eq])
    (try (rw [List.take_of_length_le]; rotate_left 1; (· first | (simp; done) | (simp; omega) | omega)))
    rw [ix_none (take_all (ge_of h) hno)]

theorem cGrant1 (H : List Ob) (k x : Int) (o : Nat) (ho : H[o]? = some (.var [.int .i64 x])) : SCall Try.prog 85 [.int .i64 k, .ref o 0] H (fun r H' => r = .bool (k == x) ∧ H' = H) := by
  have holt := lt_of_get ho
  refine SCall.of_good fun hH => ?_
  have hHk := HLt.add hH
  refine SCall.of_code Tok Try.func85 rfl Try.call85 (n := 7) rfl (by simp) (rs := [.tmp 3]) rfl ?_
  refine EWn.to ?_
  refine EWn.of_c Tok mixed (own := false) keep85 tab85 (by kernel_rfl) ?_
  (repeat (first | simp -dsimp only [ho, RB, TB, keep85, tab85, xindexAddr, xindex, xslice, xconvert, xlen, ewOp, FreeW, StabW, SameW, ChangeW, AddW, limBytes, simprocAttr, ne_eq] | ((with_reducible refine Need.intro ?_ ?_); (first | trivial | exact ⟨_, rfl⟩ | omega | (simp; done) | (simp; omega) | exact ⟨by first | trivial | (simp; done), _, by first | rfl | (simp; rfl)⟩))))
  refine RetW.auto0 false _ (by first | rfl | exact (List.append_nil _).symm) ?_ ?_
  · (simp (maxDischargeDepth := 6) [LTB, HLt_set, ltL_take, ltL_drop, ltL_rep, ltL_set, upd, eset, hH, hHk, holt, lt_vi, lt_str, lt_vb, ltc_str, ltc_vi] <;> omega)
  (try simp only [wk, wk1, wk0, RB, limBytes, simprocAttr, ne_eq])
  (try (rw [List.take_of_length_le]; rotate_left 1; (· first | (simp; done) | (simp; omega) | omega)))
theorem cNew (H : List Ob) (ow m : Int) : SCall Try.prog 18 [.int .i64 ow, .int .i64 m] H (fun r H' => r = .ref H.length 0 ∧ H' = H ++ [.var [.int .i64 ow, .fslice [.int .i64 m]]]) := by
  refine SCall.of_good fun hH => ?_
  have hHk := HLt.add hH
  refine SCall.of_code Tok Try.func18 rfl Try.call18 (n := 10) rfl (by simp) (rs := [.tmp 4]) rfl ?_
  refine EWn.to ?_
  refine EWn.of_c Tok mixed (own := false) keep18 tab18 (by kernel_rfl) ?_
  (repeat (first | simp -dsimp only [RB, TB, keep18, tab18, xindexAddr, xindex, xslice, xconvert, xlen, ewOp, FreeW, StabW, SameW, ChangeW, AddW, limBytes, simprocAttr, ne_eq] | ((with_reducible refine Need.intro ?_ ?_); (first | trivial | exact ⟨_, rfl⟩ | omega | (simp; done) | (simp; omega) | exact ⟨by first | trivial | (simp; done), _, by first | rfl | (simp; rfl)⟩))))
  refine RetW.auto false [.var [.int .i64 ow, .fslice [.int .i64 m]]] _ (by first | rfl | simp) ?_ ?_ ?_
  · (simp (maxDischargeDepth := 6) [LTB, HLt_set, ltL_take, ltL_drop, ltL_rep, ltL_set, upd, eset, hH, hHk, lt_vi, lt_str, lt_vb, ltc_str, ltc_vi] <;> omega)
  · (simp (maxDischargeDepth := 6) [LTB, HLt_set, ltL_take, ltL_drop, ltL_rep, ltL_set, upd, eset, hH, hHk, lt_vi, lt_str, lt_vb, ltc_str, ltc_vi] <;> omega)
  (try simp only [wk, wk1, wk0, RB, limBytes, simprocAttr, ne_eq])
  (try (rw [List.take_of_length_le]; rotate_left 1; (· first | (simp; done) | (simp; omega) | omega)))
  done
/-- what a grant comes to: the ids, the handle, the error -/
def grantT (l : List Int) (id : Int) : List Int × Int × Int :=
  if 0 ≤ ix (fun k => k == id) l then (l, ix (fun k => k == id) l + 1, 0) else if 64 ≤ l.length then (l, 0, 10) else (l ++ [id], l.length + 1, 0)
theorem ix_lt {α : Type} (p : α → Bool) (l : List α) : -1 ≤ ix p l ∧ ix p l < l.length := by
  unfold ix
  split
  · omega
  · omega
theorem cGrant_fs (H : List Ob) (t : Nat) (ow m : Int) (ht : H[t]? = some (.var [.int .i64 ow, .fslice [.int .i64 m]])) :
    SCall Try.prog 19 [.ref t 0, .int .i64 m] H (fun r H' => r = .tuple [.int .i64 1, .int .i64 0] ∧ H' = H) := by
  have htlt := lt_of_get ht
  have ht2 : ∀ L, (H ++ L)[t]? = some (.var [.int .i64 ow, .fslice [.int .i64 m]]) := fun L => getold ht
  refine SCall.of_good fun hH => ?_
  have hHk := HLt.add hH
  refine SCall.of_code Tok Try.func19 rfl Try.call19 (n := 41) rfl (by simp) (rs := [.tmp 4, .tmp 5]) rfl ?_
  refine EWn.to ?_
  refine EWn.of_c Tok mixed (own := false) keep19 tab19 (by kernel_rfl) ?_
  (repeat (first | simp -dsimp only [ht, RB, TB, keep19, tab19, xindexAddr, xindex, xslice, xconvert, xlen, ewOp, FreeW, StabW, SameW, ChangeW, AddW, limBytes, simprocAttr, ne_eq] | ((with_reducible refine Need.intro ?_ ?_); (first | trivial | exact ⟨_, rfl⟩ | omega | (simp; done) | (simp; omega) | exact ⟨by first | trivial | (simp; done), _, by first | rfl | (simp; rfl)⟩))))
  (first | refine SCall.then (cIs_f _ t ow [m] (ht2 _) (by simp)) ?_ | refine SCall.thenA (cIs_f _ t ow [m] (ht2 _) (by simp)) (by repeat (first | exact trivial | exact .inl (.inl rfl) | exact .inl (.inr ⟨_, rfl, rfl⟩) | exact .inl rfl | exact .inr ⟨_, rfl, rfl⟩ | refine .inr ⟨_, _, rfl, rfl, ?_⟩ | refine ⟨?_, ?_⟩)) ?_ | refine CallE.intro _ (cIs_f _ t ow [m] (ht2 _) (by simp)) ?_ | refine CallE.introA (cIs_f _ t ow [m] (ht2 _) (by simp)) (by repeat (first | exact trivial | exact .inl (.inl rfl) | exact .inl (.inr ⟨_, rfl, rfl⟩) | exact .inl rfl | exact .inr ⟨_, rfl, rfl⟩ | refine .inr ⟨_, _, rfl, rfl, ?_⟩ | refine ⟨?_, ?_⟩)) ?_ | refine CallE.intro _ (fun _ => cIs_f _ t ow [m] (ht2 _) (by simp)) ?_ | refine CallE.intro _ (fun _ => SCall.arg (by repeat (first | exact trivial | exact .inl (.inl rfl) | exact .inl (.inr ⟨_, rfl, rfl⟩) | exact .inl rfl | exact .inr ⟨_, rfl, rfl⟩ | refine .inr ⟨_, _, rfl, rfl, ?_⟩ | refine ⟨?_, ?_⟩)) (cIs_f _ t ow [m] (ht2 _) (by simp))) ?_ | refine CallE2.intro _ _ (cIs_f _ t ow [m] (ht2 _) (by simp)) ?_ | refine CallE2.intro _ _ (SCall.arg (by repeat (first | exact trivial | exact .inl (.inl rfl) | exact .inl (.inr ⟨_, rfl, rfl⟩) | exact .inl rfl | exact .inr ⟨_, rfl, rfl⟩ | refine .inr ⟨_, _, rfl, rfl, ?_⟩ | refine ⟨?_, ?_⟩)) (cIs_f _ t ow [m] (ht2 _) (by simp))) ?_)
  (repeat (first | simp -dsimp only [RB, TB, keep19, tab19, xindexAddr, xindex, xslice, xconvert, xlen, ewOp, FreeW, StabW, SameW, ChangeW, AddW, limBytes, simprocAttr, ne_eq] | ((with_reducible refine Need.intro ?_ ?_); (first | trivial | exact ⟨_, rfl⟩ | omega | (simp; done) | (simp; omega) | exact ⟨by first | trivial | (simp; done), _, by first | rfl | (simp; rfl)⟩))))
  (repeat (first | simp -dsimp only [ht2, RB, TB, keep19, tab19, xindexAddr, xindex, xslice, xconvert, xlen, ewOp, FreeW, StabW, SameW, ChangeW, AddW, limBytes, simprocAttr, ne_eq] | ((with_reducible refine Need.intro ?_ ?_); (first | trivial | exact ⟨_, rfl⟩ | omega | (simp; done) | (simp; omega) | exact ⟨by first | trivial | (simp; done), _, by first | rfl | (simp; rfl)⟩))))
  (first | refine SCall.then (indexFunc_int _ [m] 85 [] [.ref H.length 0] (fun k => k == m) (fun x _ => cGrant1 _ x m H.length (by simp)) (by simp [ltL, V.lt])) ?_ | refine SCall.thenA (indexFunc_int _ [m] 85 [] [.ref H.length 0] (fun k => k == m) (fun x _ => cGrant1 _ x m H.length (by simp)) (by simp [ltL, V.lt])) (by repeat (first | exact trivial | exact .inl (.inl rfl) | exact .inl (.inr ⟨_, rfl, rfl⟩) | exact .inl rfl | exact .inr ⟨_, rfl, rfl⟩ | refine .inr ⟨_, _, rfl, rfl, ?_⟩ | refine ⟨?_, ?_⟩)) ?_ | refine CallE.intro _ (indexFunc_int _ [m] 85 [] [.ref H.length 0] (fun k => k == m) (fun x _ => cGrant1 _ x m H.length (by simp)) (by simp [ltL, V.lt])) ?_ | refine CallE.introA (indexFunc_int _ [m] 85 [] [.ref H.length 0] (fun k => k == m) (fun x _ => cGrant1 _ x m H.length (by simp)) (by simp [ltL, V.lt])) (by repeat (first | exact trivial | exact .inl (.inl rfl) | exact .inl (.inr ⟨_, rfl, rfl⟩) | exact .inl rfl | exact .inr ⟨_, rfl, rfl⟩ | refine .inr ⟨_, _, rfl, rfl, ?_⟩ | refine ⟨?_, ?_⟩)) ?_ | refine CallE.intro _ (fun _ => indexFunc_int _ [m] 85 [] [.ref H.length 0] (fun k => k == m) (fun x _ => cGrant1 _ x m H.length (by simp)) (by simp [ltL, V.lt])) ?_ | refine CallE.intro _ (fun _ => SCall.arg (by repeat (first | exact trivial | exact .inl (.inl rfl) | exact .inl (.inr ⟨_, rfl, rfl⟩) | exact .inl rfl | exact .inr ⟨_, rfl, rfl⟩ | refine .inr ⟨_, _, rfl, rfl, ?_⟩ | refine ⟨?_, ?_⟩)) (indexFunc_int _ [m] 85 [] [.ref H.length 0] (fun k => k == m) (fun x _ => cGrant1 _ x m H.length (by simp)) (by simp [ltL, V.lt]))) ?_ | refine CallE2.intro _ _ (indexFunc_int _ [m] 85 [] [.ref H.length 0] (fun k => k == m) (fun x _ => cGrant1 _ x m H.length (by simp)) (by simp [ltL, V.lt])) ?_ | refine CallE2.intro _ _ (SCall.arg (by repeat (first | exact trivial | exact .inl (.inl rfl) | exact .inl (.inr ⟨_, rfl, rfl⟩) | exact .inl rfl | exact .inr ⟨_, rfl, rfl⟩ | refine .inr ⟨_, _, rfl, rfl, ?_⟩ | refine ⟨?_, ?_⟩)) (indexFunc_int _ [m] 85 [] [.ref H.length 0] (fun k => k == m) (fun x _ => cGrant1 _ x m H.length (by simp)) (by simp [ltL, V.lt]))) ?_)
  (repeat (first | simp -dsimp only [RB, TB, keep19, tab19, xindexAddr, xindex, xslice, xconvert, xlen, ewOp, FreeW, StabW, SameW, ChangeW, AddW, limBytes, simprocAttr, ne_eq] | ((with_reducible refine Need.intro ?_ ?_); (first | trivial | exact ⟨_, rfl⟩ | omega | (simp; done) | (simp; omega) | exact ⟨by first | trivial | (simp; done), _, by first | rfl | (simp; rfl)⟩))))
  have e : ix (fun k => k == m) [m] = 0 := by simp [ix, List.findIdx_cons]
  rw [e]
  (repeat (first | simp -dsimp only [show decide ((0 : Int) ≥ 0) = true from by decide, wrap_1, RB, TB, keep19, tab19, xindexAddr, xindex, xslice, xconvert, xlen, ewOp, FreeW, StabW, SameW, ChangeW, AddW, limBytes, simprocAttr, ne_eq] | ((with_reducible refine Need.intro ?_ ?_); (first | trivial | exact ⟨_, rfl⟩ | omega | (simp; done) | (simp; omega) | exact ⟨by first | trivial | (simp; done), _, by first | rfl | (simp; rfl)⟩))))
  refine RetW.auto0 false _ (by first | rfl | exact (List.append_nil _).symm) ?_ ?_
  · (simp (maxDischargeDepth := 6) [LTB, HLt_set, ltL_take, ltL_drop, ltL_rep, ltL_set, upd, eset, hH, hHk, htlt, lt_vi, lt_str, lt_vb, ltc_str, ltc_vi] <;> omega)
  (try simp only [wk, wk1, wk0, RB, limBytes, simprocAttr, ne_eq])
  (try (rw [List.take_of_length_le]; rotate_left 1; (· first | (simp; done) | (simp; omega) | omega)))
theorem cGrant_fn (H : List Ob) (t : Nat) (ow m id : Int) (hm : m ≠ id) (ht : H[t]? = some (.var [.int .i64 ow, .fslice [.int .i64 m]])) :
    SCall Try.prog 19 [.ref t 0, .int .i64 id] H (fun r H' => r = .tuple [.int .i64 2, .int .i64 0] ∧ H' = H.set t (.var [.int .i64 ow, .vec (H.length + 1) 1 0 2]) ++ [.var [.int .i64 id], .vec 1 1 [.int .i64 m, .int .i64 id]]) := by
  have htlt := lt_of_get ht
  have ht2 : ∀ L, (H ++ L)[t]? = some (.var [.int .i64 ow, .fslice [.int .i64 m]]) := fun L => getold ht
  refine SCall.of_good fun hH => ?_
  have hHk := HLt.add hH
  refine SCall.of_code Tok Try.func19 rfl Try.call19 (n := 41) rfl (by simp) (rs := [.tmp 4, .tmp 5]) rfl ?_
  refine EWn.to ?_
  refine EWn.of_c Tok mixed (own := false) keep19 tab19 (by kernel_rfl) ?_
  (repeat (first | simp -dsimp only [ht, RB, TB, keep19, tab19, xindexAddr, xindex, xslice, xconvert, xlen, ewOp, FreeW, StabW, SameW, ChangeW, AddW, limBytes, simprocAttr, ne_eq] | ((with_reducible refine Need.intro ?_ ?_); (first | trivial | exact ⟨_, rfl⟩ | omega | (simp; done) | (simp; omega) | exact ⟨by first | trivial | (simp; done), _, by first | rfl | (simp; rfl)⟩))))
  (first | refine SCall.then (cIs_f _ t ow [m] (ht2 _) (by simp)) ?_ | refine SCall.thenA (cIs_f _ t ow [m] (ht2 _) (by simp)) (by repeat (first | exact trivial | exact .inl (.inl rfl) | exact .inl (.inr ⟨_, rfl, rfl⟩) | exact .inl rfl | exact .inr ⟨_, rfl, rfl⟩ | refine .inr ⟨_, _, rfl, rfl, ?_⟩ | refine ⟨?_, ?_⟩)) ?_ | refine CallE.intro _ (cIs_f _ t ow [m] (ht2 _) (by simp)) ?_ | refine CallE.introA (cIs_f _ t ow [m] (ht2 _) (by simp)) (by repeat (first | exact trivial | exact .inl (.inl rfl) | exact .inl (.inr ⟨_, rfl, rfl⟩) | exact .inl rfl | exact .inr ⟨_, rfl, rfl⟩ | refine .inr ⟨_, _, rfl, rfl, ?_⟩ | refine ⟨?_, ?_⟩)) ?_ | refine CallE.intro _ (fun _ => cIs_f _ t ow [m] (ht2 _) (by simp)) ?_ | refine CallE.intro _ (fun _ => SCall.arg (by repeat (first | exact trivial | exact .inl (.inl rfl) | exact .inl (.inr ⟨_, rfl, rfl⟩) | exact .inl rfl | exact .inr ⟨_, rfl, rfl⟩ | refine .inr ⟨_, _, rfl, rfl, ?_⟩ | refine ⟨?_, ?_⟩)) (cIs_f _ t ow [m] (ht2 _) (by simp))) ?_ | refine CallE2.intro _ _ (cIs_f _ t ow [m] (ht2 _) (by simp)) ?_ | refine CallE2.intro _ _ (SCall.arg (by repeat (first | exact trivial | exact .inl (.inl rfl) | exact .inl (.inr ⟨_, rfl, rfl⟩) | exact .inl rfl | exact .inr ⟨_, rfl, rfl⟩ | refine .inr ⟨_, _, rfl, rfl, ?_⟩ | refine ⟨?_, ?_⟩)) (cIs_f _ t ow [m] (ht2 _) (by simp))) ?_)
  (repeat (first | simp -dsimp only [RB, TB, keep19, tab19, xindexAddr, xindex, xslice, xconvert, xlen, ewOp, FreeW, StabW, SameW, ChangeW, AddW, limBytes, simprocAttr, ne_eq] | ((with_reducible refine Need.intro ?_ ?_); (first | trivial | exact ⟨_, rfl⟩ | omega | (simp; done) | (simp; omega) | exact ⟨by first | trivial | (simp; done), _, by first | rfl | (simp; rfl)⟩))))
  (repeat (first | simp -dsimp only [ht2, RB, TB, keep19, tab19, xindexAddr, xindex, xslice, xconvert, xlen, ewOp, FreeW, StabW, SameW, ChangeW, AddW, limBytes, simprocAttr, ne_eq] | ((with_reducible refine Need.intro ?_ ?_); (first | trivial | exact ⟨_, rfl⟩ | omega | (simp; done) | (simp; omega) | exact ⟨by first | trivial | (simp; done), _, by first | rfl | (simp; rfl)⟩))))
  (first | refine SCall.then (indexFunc_int _ [m] 85 [] [.ref H.length 0] (fun k => k == id) (fun x _ => cGrant1 _ x id H.length (by simp)) (by simp [ltL, V.lt])) ?_ | refine SCall.thenA (indexFunc_int _ [m] 85 [] [.ref H.length 0] (fun k => k == id) (fun x _ => cGrant1 _ x id H.length (by simp)) (by simp [ltL, V.lt])) (by repeat (first | exact trivial | exact .inl (.inl rfl) | exact .inl (.inr ⟨_, rfl, rfl⟩) | exact .inl rfl | exact .inr ⟨_, rfl, rfl⟩ | refine .inr ⟨_, _, rfl, rfl, ?_⟩ | refine ⟨?_, ?_⟩)) ?_ | refine CallE.intro _ (indexFunc_int _ [m] 85 [] [.ref H.length 0] (fun k => k == id) (fun x _ => cGrant1 _ x id H.length (by simp)) (by simp [ltL, V.lt])) ?_ | refine CallE.introA (indexFunc_int _ [m] 85 [] [.ref H.length 0] (fun k => k == id) (fun x _ => cGrant1 _ x id H.length (by simp)) (by simp [ltL, V.lt])) (by repeat (first | exact trivial | exact .inl (.inl rfl) | exact .inl (.inr ⟨_, rfl, rfl⟩) | exact .inl rfl | exact .inr ⟨_, rfl, rfl⟩ | refine .inr ⟨_, _, rfl, rfl, ?_⟩ | refine ⟨?_, ?_⟩)) ?_ | refine CallE.intro _ (fun _ => indexFunc_int _ [m] 85 [] [.ref H.length 0] (fun k => k == id) (fun x _ => cGrant1 _ x id H.length (by simp)) (by simp [ltL, V.lt])) ?_ | refine CallE.intro _ (fun _ => SCall.arg (by repeat (first | exact trivial | exact .inl (.inl rfl) | exact .inl (.inr ⟨_, rfl, rfl⟩) | exact .inl rfl | exact .inr ⟨_, rfl, rfl⟩ | refine .inr ⟨_, _, rfl, rfl, ?_⟩ | refine ⟨?_, ?_⟩)) (indexFunc_int _ [m] 85 [] [.ref H.length 0] (fun k => k == id) (fun x _ => cGrant1 _ x id H.length (by simp)) (by simp [ltL, V.lt]))) ?_ | refine CallE2.intro _ _ (indexFunc_int _ [m] 85 [] [.ref H.length 0] (fun k => k == id) (fun x _ => cGrant1 _ x id H.length (by simp)) (by simp [ltL, V.lt])) ?_ | refine CallE2.intro _ _ (SCall.arg (by repeat (first | exact trivial | exact .inl (.inl rfl) | exact .inl (.inr ⟨_, rfl, rfl⟩) | exact .inl rfl | exact .inr ⟨_, rfl, rfl⟩ | refine .inr ⟨_, _, rfl, rfl, ?_⟩ | refine ⟨?_, ?_⟩)) (indexFunc_int _ [m] 85 [] [.ref H.length 0] (fun k => k == id) (fun x _ => cGrant1 _ x id H.length (by simp)) (by simp [ltL, V.lt]))) ?_)
  (repeat (first | simp -dsimp only [RB, TB, keep19, tab19, xindexAddr, xindex, xslice, xconvert, xlen, ewOp, FreeW, StabW, SameW, ChangeW, AddW, limBytes, simprocAttr, ne_eq] | ((with_reducible refine Need.intro ?_ ?_); (first | trivial | exact ⟨_, rfl⟩ | omega | (simp; done) | (simp; omega) | exact ⟨by first | trivial | (simp; done), _, by first | rfl | (simp; rfl)⟩))))
  have e : ix (fun k => k == id) [m] = -1 := ix_none (by simp [hm])
  rw [e]
  (repeat (first | simp -dsimp only [show decide ((-1 : Int) ≥ 0) = false from by decide, ht2, setold htlt, getset htlt, hgetS, hget0S, RB, TB, keep19, tab19, xindexAddr, xindex, xslice, xconvert, xlen, ewOp, FreeW, StabW, SameW, ChangeW, AddW, limBytes, simprocAttr, ne_eq] | ((with_reducible refine Need.intro ?_ ?_); (first | trivial | exact ⟨_, rfl⟩ | omega | (simp; done) | (simp; omega) | exact ⟨by first | trivial | (simp; done), _, by first | rfl | (simp; rfl)⟩))))
  refine RetW.keep false (by first | exact Nat.le_refl _ | simp) ?_ ?_ ?_
  · (simp (maxDischargeDepth := 6) [LTB, HLt_set, ltL_take, ltL_drop, ltL_rep, ltL_set, upd, eset, hH, hHk, htlt, lt_vi, lt_str, lt_vb, ltc_str, ltc_vi] <;> omega)
  · (simp (maxDischargeDepth := 6) [LTB, HLt_set, ltL_take, ltL_drop, ltL_rep, ltL_set, upd, eset, hH, hHk, htlt, lt_vi, lt_str, lt_vb, ltc_str, ltc_vi] <;> omega)
  (try simp only [wk, wk1, wk0, RB, limBytes, simprocAttr, ne_eq])
  done
/-- a grant in a table that has grown -/
theorem cGrant_v (H : List Ob) (t : Nat) (ow : Int) (l : List Int) (o ver : Nat) (id : Int) (ht : H[t]? = some (.var [.int .i64 ow, .vec o ver 0 l.length])) (ho : H[o]? = some (.vec ver 1 (l.map vi))) (hto : t ≠ o) (hl : 0 < l.length) (hl2 : l.length ≤ 100000)
    (hx : ¬ 0 ≤ ix (fun k => k == id) l) (h64 : l.length < 64) :
    SCall Try.prog 19 [.ref t 0, .int .i64 id] H (fun r H' => r = .tuple [.int .i64 (l.length + 1 : Nat), .int .i64 0] ∧ H' = (H.set o (.vec (ver + 1) 1 ((l ++ [id]).map vi))).set t (.var [.int .i64 ow, .vec o (ver + 1) 0 (l.length + 1)])) := by
  have htlt := lt_of_get ht
  have holt := lt_of_get ho
  have ht2 : ∀ L, (H ++ L)[t]? = some (.var [.int .i64 ow, .vec o ver 0 l.length]) := fun L => getold ht
  have ho2 : ∀ L, (H ++ L)[o]? = some (.vec ver 1 (l.map vi)) := fun L => getold ho
  have hts : ∀ x L, (H.set o x ++ L)[t]? = some (.var [.int .i64 ow, .vec o ver 0 l.length]) := fun x L => getold (by rw [List.getElem?_set_ne (Ne.symm hto)]; exact ht)
  have hss : ∀ x y L, ((H.set o x ++ L).set t y)[t]? = some y := fun x y L => by rw [List.getElem?_set_self (by simp; omega)]
  have hso : ∀ x y L, ((H.set o x ++ L).set t y)[o]? = some x := fun x y L => by rw [List.getElem?_set_ne hto, getset holt]
  refine SCall.of_good fun hH => ?_
  have hHk := HLt.add hH
  refine SCall.of_code Tok Try.func19 rfl Try.call19 (n := 41) rfl (by simp) (rs := [.tmp 4, .tmp 5]) rfl ?_
  refine EWn.to ?_
  refine EWn.of_c Tok mixed (own := false) keep19 tab19 (by kernel_rfl) ?_
  (repeat (first | simp -dsimp only [ht, ho, RB, TB, keep19, tab19, xindexAddr, xindex, xslice, xconvert, xlen, ewOp, FreeW, StabW, SameW, ChangeW, AddW, limBytes, simprocAttr, ne_eq] | ((with_reducible refine Need.intro ?_ ?_); (first | trivial | exact ⟨_, rfl⟩ | omega | (simp; done) | (simp; omega) | exact ⟨by first | trivial | (simp; done), _, by first | rfl | (simp; rfl)⟩))))
  (first | refine SCall.then (cIs_v _ t ow l o ver (ht2 _) (ho2 _) hl) ?_ | refine SCall.thenA (cIs_v _ t ow l o ver (ht2 _) (ho2 _) hl) (by repeat (first | exact trivial | exact .inl (.inl rfl) | exact .inl (.inr ⟨_, rfl, rfl⟩) | exact .inl rfl | exact .inr ⟨_, rfl, rfl⟩ | refine .inr ⟨_, _, rfl, rfl, ?_⟩ | refine ⟨?_, ?_⟩)) ?_ | refine CallE.intro _ (cIs_v _ t ow l o ver (ht2 _) (ho2 _) hl) ?_ | refine CallE.introA (cIs_v _ t ow l o ver (ht2 _) (ho2 _) hl) (by repeat (first | exact trivial | exact .inl (.inl rfl) | exact .inl (.inr ⟨_, rfl, rfl⟩) | exact .inl rfl | exact .inr ⟨_, rfl, rfl⟩ | refine .inr ⟨_, _, rfl, rfl, ?_⟩ | refine ⟨?_, ?_⟩)) ?_ | refine CallE.intro _ (fun _ => cIs_v _ t ow l o ver (ht2 _) (ho2 _) hl) ?_ | refine CallE.intro _ (fun _ => SCall.arg (by repeat (first | exact trivial | exact .inl (.inl rfl) | exact .inl (.inr ⟨_, rfl, rfl⟩) | exact .inl rfl | exact .inr ⟨_, rfl, rfl⟩ | refine .inr ⟨_, _, rfl, rfl, ?_⟩ | refine ⟨?_, ?_⟩)) (cIs_v _ t ow l o ver (ht2 _) (ho2 _) hl)) ?_ | refine CallE2.intro _ _ (cIs_v _ t ow l o ver (ht2 _) (ho2 _) hl) ?_ | refine CallE2.intro _ _ (SCall.arg (by repeat (first | exact trivial | exact .inl (.inl rfl) | exact .inl (.inr ⟨_, rfl, rfl⟩) | exact .inl rfl | exact .inr ⟨_, rfl, rfl⟩ | refine .inr ⟨_, _, rfl, rfl, ?_⟩ | refine ⟨?_, ?_⟩)) (cIs_v _ t ow l o ver (ht2 _) (ho2 _) hl)) ?_)
  (repeat (first | simp -dsimp only [RB, TB, keep19, tab19, xindexAddr, xindex, xslice, xconvert, xlen, ewOp, FreeW, StabW, SameW, ChangeW, AddW, limBytes, simprocAttr, ne_eq] | ((with_reducible refine Need.intro ?_ ?_); (first | trivial | exact ⟨_, rfl⟩ | omega | (simp; done) | (simp; omega) | exact ⟨by first | trivial | (simp; done), _, by first | rfl | (simp; rfl)⟩))))
  (repeat (first | simp -dsimp only [ht2, ho2, RB, TB, keep19, tab19, xindexAddr, xindex, xslice, xconvert, xlen, ewOp, FreeW, StabW, SameW, ChangeW, AddW, limBytes, simprocAttr, ne_eq] | ((with_reducible refine Need.intro ?_ ?_); (first | trivial | exact ⟨_, rfl⟩ | omega | (simp; done) | (simp; omega) | exact ⟨by first | trivial | (simp; done), _, by first | rfl | (simp; rfl)⟩))))
  (first | refine SCall.then (indexFunc_int_vec _ l 85 [] [.ref H.length 0] (fun k => k == id) (fun x _ => cGrant1 _ x id H.length (by simp)) (by simp [ltL, V.lt]) o ver l.length (ho2 _) rfl (by omega)) ?_ | refine SCall.thenA (indexFunc_int_vec _ l 85 [] [.ref H.length 0] (fun k => k == id) (fun x _ => cGrant1 _ x id H.length (by simp)) (by simp [ltL, V.lt]) o ver l.length (ho2 _) rfl (by omega)) (by repeat (first | exact trivial | exact .inl (.inl rfl) | exact .inl (.inr ⟨_, rfl, rfl⟩) | exact .inl rfl | exact .inr ⟨_, rfl, rfl⟩ | refine .inr ⟨_, _, rfl, rfl, ?_⟩ | refine ⟨?_, ?_⟩)) ?_ | refine CallE.intro _ (indexFunc_int_vec _ l 85 [] [.ref H.length 0] (fun k => k == id) (fun x _ => cGrant1 _ x id H.length (by simp)) (by simp [ltL, V.lt]) o ver l.length (ho2 _) rfl (by omega)) ?_ | refine CallE.introA (indexFunc_int_vec _ l 85 [] [.ref H.length 0] (fun k => k == id) (fun x _ => cGrant1 _ x id H.length (by simp)) (by simp [ltL, V.lt]) o ver l.length (ho2 _) rfl (by omega)) (by repeat (first | exact trivial | exact .inl (.inl rfl) | exact .inl (.inr ⟨_, rfl, rfl⟩) | exact .inl rfl | exact .inr ⟨_, rfl, rfl⟩ | refine .inr ⟨_, _, rfl, rfl, ?_⟩ | refine ⟨?_, ?_⟩)) ?_ | refine CallE.intro _ (fun _ => indexFunc_int_vec _ l 85 [] [.ref H.length 0] (fun k => k == id) (fun x _ => cGrant1 _ x id H.length (by simp)) (by simp [ltL, V.lt]) o ver l.length (ho2 _) rfl (by omega)) ?_ | refine CallE.intro _ (fun _ => SCall.arg (by repeat (first | exact trivial | exact .inl (.inl rfl) | exact .inl (.inr ⟨_, rfl, rfl⟩) | exact .inl rfl | exact .inr ⟨_, rfl, rfl⟩ | refine .inr ⟨_, _, rfl, rfl, ?_⟩ | refine ⟨?_, ?_⟩)) (indexFunc_int_vec _ l 85 [] [.ref H.length 0] (fun k => k == id) (fun x _ => cGrant1 _ x id H.length (by simp)) (by simp [ltL, V.lt]) o ver l.length (ho2 _) rfl (by omega))) ?_ | refine CallE2.intro _ _ (indexFunc_int_vec _ l 85 [] [.ref H.length 0] (fun k => k == id) (fun x _ => cGrant1 _ x id H.length (by simp)) (by simp [ltL, V.lt]) o ver l.length (ho2 _) rfl (by omega)) ?_ | refine CallE2.intro _ _ (SCall.arg (by repeat (first | exact trivial | exact .inl (.inl rfl) | exact .inl (.inr ⟨_, rfl, rfl⟩) | exact .inl rfl | exact .inr ⟨_, rfl, rfl⟩ | refine .inr ⟨_, _, rfl, rfl, ?_⟩ | refine ⟨?_, ?_⟩)) (indexFunc_int_vec _ l 85 [] [.ref H.length 0] (fun k => k == id) (fun x _ => cGrant1 _ x id H.length (by simp)) (by simp [ltL, V.lt]) o ver l.length (ho2 _) rfl (by omega))) ?_)
  (repeat (first | simp -dsimp only [RB, TB, keep19, tab19, xindexAddr, xindex, xslice, xconvert, xlen, ewOp, FreeW, StabW, SameW, ChangeW, AddW, limBytes, simprocAttr, ne_eq] | ((with_reducible refine Need.intro ?_ ?_); (first | trivial | exact ⟨_, rfl⟩ | omega | (simp; done) | (simp; omega) | exact ⟨by first | trivial | (simp; done), _, by first | rfl | (simp; rfl)⟩))))
  (repeat (first | simp -dsimp only [show decide (ix (fun k => k == id) l ≥ 0) = false from decide_eq_false (by omega), ht2, ho2, RB, TB, keep19, tab19, xindexAddr, xindex, xslice, xconvert, xlen, ewOp, FreeW, StabW, SameW, ChangeW, AddW, limBytes, simprocAttr, ne_eq] | ((with_reducible refine Need.intro ?_ ?_); (first | trivial | exact ⟨_, rfl⟩ | omega | (simp; done) | (simp; omega) | exact ⟨by first | trivial | (simp; done), _, by first | rfl | (simp; rfl)⟩))))
  (repeat (first | simp -dsimp only [show decide ((l.length : Int) ≥ 64) = false from decide_eq_false (by omega), ht2, ho2, hts, setold htlt, setold holt, getset htlt, hgetS, hget0S, hss, hso, RB, TB, keep19, tab19, xindexAddr, xindex, xslice, xconvert, xlen, ewOp, FreeW, StabW, SameW, ChangeW, AddW, limBytes, simprocAttr, ne_eq] | ((with_reducible refine Need.intro ?_ ?_); (first | trivial | exact ⟨_, rfl⟩ | omega | (simp; done) | (simp; omega) | exact ⟨by first | trivial | (simp; done), _, by first | rfl | (simp; rfl)⟩))))
  rw [List.set_append_left _ _ (by simpa using htlt)]
  have hml : ∀ n, ltL n (l.map vi) := fun n => lt_vi n l
  refine RetW.cutK false ((H.set o (.vec (ver + 1) 1 (l.map vi ++ [.int .i64 id]))).set t (.var [.int .i64 ow, .vec o (ver + 1) 0 (l.length + 1)])) _ (by first | rfl | (simp; done) | (simp; rfl)) (by simp) ?_ ?_ ?_
  · (simp (maxDischargeDepth := 6) [LTB, HLt_set, ltL_take, ltL_drop, ltL_rep, ltL_set, upd, eset, hH, hHk, htlt, holt, lt_vi, lt_str, lt_vb, ltc_str, ltc_vi] <;> omega)
  · (simp (maxDischargeDepth := 6) [LTB, HLt_set, ltL_take, ltL_drop, ltL_rep, ltL_set, upd, eset, hH, hHk, htlt, holt, lt_vi, lt_str, lt_vb, ltc_str, ltc_vi] <;> omega)
  (try simp only [wk, wk1, wk0, RB, limBytes, simprocAttr, ne_eq])
  (try (rw [List.take_of_length_le]; rotate_left 1; (· first | (simp; done) | (simp; omega) | omega)))
  simp [vi]
end Go.Proofs.Ytjhjcldpcngldaa

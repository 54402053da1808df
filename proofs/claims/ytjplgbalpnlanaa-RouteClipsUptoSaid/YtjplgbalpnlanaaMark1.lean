/- The walks of package mark, and of the reference's texts: near, put, Of, Fix, Same; Of, Same. -/
import Derived.Test.YtjplgbalpnlanaaMark0
set_option maxHeartbeats 600000
set_option linter.unusedSimpArgs false
set_option linter.unusedVariables false
set_option maxRecDepth 100000
namespace Go.Proofs.Ytjplgbalpnlanaa
open Go Go.EL
theorem zrMark11 : type_of% (And.intro (And.intro (And.intro (@st_run) (And.intro (@sz_run) (@st1_run))) (And.intro (@cl_run) (And.intro (@st_Str) (@sz_Str)))) (And.intro (And.intro (@st1_Str) (And.intro (@cl_Str) (@st_c))) (And.intro (@sz_c) (And.intro (@st1_c) (@cl_c))))) := And.intro (And.intro (And.intro (@st_run) (And.intro (@sz_run) (@st1_run))) (And.intro (@cl_run) (And.intro (@st_Str) (@sz_Str)))) (And.intro (And.intro (@st1_Str) (And.intro (@cl_Str) (@st_c))) (And.intro (@sz_c) (And.intro (@st1_c) (@cl_c))))
theorem zlMark11 : type_of% (And.intro (And.intro (And.intro (@lt_vi) (And.intro (@lt_str) (@lt_vb))) (And.intro (And.intro (@ltc_str) (@ltc_vi)) (And.intro (@lt_run) (@lt1_run)))) (And.intro (And.intro (@ltc_run) (And.intro (@lt_Str) (@lt1_Str))) (And.intro (And.intro (@ltc_Str) (@lt_c)) (And.intro (@lt1_c) (@ltc_c))))) := And.intro (And.intro (And.intro (@lt_vi) (And.intro (@lt_str) (@lt_vb))) (And.intro (And.intro (@ltc_str) (@ltc_vi)) (And.intro (@lt_run) (@lt1_run)))) (And.intro (And.intro (@ltc_run) (And.intro (@lt_Str) (@lt1_Str))) (And.intro (And.intro (@ltc_Str) (@lt_c)) (And.intro (@lt1_c) (@ltc_c))))
theorem mnear (H : List Ob) (o : Int) : SCall Try.prog 110 [.int .i64 o] H (fun r H' => r = .int .i64 (near o) ∧ H' = H) := by
  refine SCall.of_good fun hH => ?_
  have hHk := HLt.add hH
  refine SCall.of_code Tok Try.func110 rfl Try.call110 (n := 6) rfl (by simp) (rs := [.tmp 2]) rfl ?_
  refine EWn.to ?_
  refine EWn.of_c Tok mixed (own := false) keep110 tab110 (by kernel_rfl) ?_
  (repeat (first | simp -dsimp only [zrMark11, RB, TB, keep110, tab110, xindexAddr, xindex, xslice, xconvert, xlen, ewOp, FreeW, StabW, SameW, ChangeW, AddW, BaseW, limBytes, simprocAttr, ne_eq] | ((with_reducible refine Need.intro ?_ ?_); (first | trivial | exact ⟨_, rfl⟩ | exact ⟨[], (List.append_nil _).symm⟩ | omega | (simp; done) | (simp; omega) | exact ⟨by first | trivial | (simp; done), _, by first | rfl | (simp; rfl)⟩))))
  refine RetW.auto0 false _ (by first | rfl | exact (List.append_nil _).symm) ?_ ?_
  · (simp (maxDischargeDepth := 6) [LTB, HLt_set, ltL_take, ltL_drop, ltL_rep, ltL_set, upd, eset, hH, hHk, zlMark11] <;> omega)
  (try simp only [wk, wk1, wk0, RB, limBytes, simprocAttr, ne_eq])
  (try (rw [List.take_of_length_le]; rotate_left 1; (· first | (simp; done) | (simp; omega) | omega)))
  simp [near]
/-- does the row grow? -/
def grewR (l : List (Int × Int)) (n o : Int) : Nat := if n < 1 then 0 else match l.getLast? with
  | none => 1
  | some (_, o') => if o' = o then 0 else 1
theorem mput (H : List Ob) (l : List (Int × Int)) (n og : Int) (o ver : Nat) (ho : H[o]? = some (.vec ver 2 (l.map runV))) (hl : l.length ≤ 1000000000000) (hb : ∀ p ∈ l, 0 ≤ p.1 ∧ p.1 ≤ 1000000000000) (hn : n ≤ 1000000000000) :
    SCall Try.prog 109 [.vec o ver 0 l.length, .int .i64 n, .int .i64 og] H (fun r H' => r = .vec o (ver + grewR l n og) 0 (putR l n og).length ∧ H' = H.set o (.vec (ver + grewR l n og) 2 ((putR l n og).map runV))) := by
  have holt := lt_of_get ho
  have hll := lt_run H.length l
  refine SCall.of_good fun hH => ?_
  have hHk := HLt.add hH
  refine SCall.of_code Tok Try.func109 rfl Try.call109 (n := 42) rfl (by simp) (rs := [.tmp 6]) rfl ?_
  refine EWn.to ?_
  refine EWn.of_c Tok mixed (own := false) keep109 tab109 (by kernel_rfl) ?_
  (repeat (first | simp -dsimp only [zrMark11, ho, RB, TB, keep109, tab109, xindexAddr, xindex, xslice, xconvert, xlen, ewOp, FreeW, StabW, SameW, ChangeW, AddW, BaseW, limBytes, simprocAttr, ne_eq] | ((with_reducible refine Need.intro ?_ ?_); (first | trivial | exact ⟨_, rfl⟩ | exact ⟨[], (List.append_nil _).symm⟩ | omega | (simp; done) | (simp; omega) | exact ⟨by first | trivial | (simp; done), _, by first | rfl | (simp; rfl)⟩))))
  rw [wrapI (by omega)]
  refine IfW.intro (fun h => ?_) (fun h => ?_)
  · have h1 : n < 1 := of_decide_eq_true h
    (repeat (first | simp -dsimp only [zrMark11, h, RB, TB, keep109, tab109, xindexAddr, xindex, xslice, xconvert, xlen, ewOp, FreeW, StabW, SameW, ChangeW, AddW, BaseW, limBytes, simprocAttr, ne_eq] | ((with_reducible refine Need.intro ?_ ?_); (first | trivial | exact ⟨_, rfl⟩ | exact ⟨[], (List.append_nil _).symm⟩ | omega | (simp; done) | (simp; omega) | exact ⟨by first | trivial | (simp; done), _, by first | rfl | (simp; rfl)⟩))))
    refine RetW.keep false (by first | exact Nat.le_refl _ | simp) ?_ ?_ ?_
    · (simp (maxDischargeDepth := 6) [LTB, HLt_set, ltL_take, ltL_drop, ltL_rep, ltL_set, upd, eset, hH, hHk, zlMark11] <;> omega)
    · (simp (maxDischargeDepth := 6) [LTB, HLt_set, ltL_take, ltL_drop, ltL_rep, ltL_set, upd, eset, hH, hHk, zlMark11] <;> omega)
    (try simp only [wk, wk1, wk0, RB, limBytes, simprocAttr, ne_eq])
    have : ¬ H.length ≤ o := by omega
    simp [grewR, putR, h1, this, set_same ho]
  have h1 : ¬ n < 1 := of_decide_eq_false h
  (repeat (first | simp -dsimp only [zrMark11, h, RB, TB, keep109, tab109, xindexAddr, xindex, xslice, xconvert, xlen, ewOp, FreeW, StabW, SameW, ChangeW, AddW, BaseW, limBytes, simprocAttr, ne_eq] | ((with_reducible refine Need.intro ?_ ?_); (first | trivial | exact ⟨_, rfl⟩ | exact ⟨[], (List.append_nil _).symm⟩ | omega | (simp; done) | (simp; omega) | exact ⟨by first | trivial | (simp; done), _, by first | rfl | (simp; rfl)⟩))))
  have hnl : ¬ H.length ≤ o := by omega
  rcases List.eq_nil_or_concat l with hl0 | ⟨ys, ⟨k, o'⟩, hl0⟩
  · subst hl0
    (repeat (first | simp -dsimp only [zrMark11, ho, show (decide (((0 : Nat) : Int) - 1 ≥ 0)) = false from by decide, RB, TB, keep109, tab109, xindexAddr, xindex, xslice, xconvert, xlen, ewOp, FreeW, StabW, SameW, ChangeW, AddW, BaseW, limBytes, simprocAttr, ne_eq] | ((with_reducible refine Need.intro ?_ ?_); (first | trivial | exact ⟨_, rfl⟩ | exact ⟨[], (List.append_nil _).symm⟩ | omega | (simp; done) | (simp; omega) | exact ⟨by first | trivial | (simp; done), _, by first | rfl | (simp; rfl)⟩))))
    refine RetW.keep false (by first | exact Nat.le_refl _ | simp) ?_ ?_ ?_
    · (simp (maxDischargeDepth := 6) [LTB, HLt_set, ltL_take, ltL_drop, ltL_rep, ltL_set, upd, eset, hH, hHk, zlMark11] <;> omega)
    · (simp (maxDischargeDepth := 6) [LTB, HLt_set, ltL_take, ltL_drop, ltL_rep, ltL_set, upd, eset, hH, hHk, zlMark11] <;> omega)
    (try simp only [wk, wk1, wk0, RB, limBytes, simprocAttr, ne_eq])
    simp [grewR, putR, h1, hnl, runV]
  · rw [List.concat_eq_append] at hl0
    subst hl0
    have hlast : (ys ++ [(k, o')]).length = ys.length + 1 := by simp
    have hk := hb (k, o') (by simp)
    simp only at hk
    have hidx : ys.length < (ys ++ [(k, o')]).length := by simp
    have e0 : ((ys ++ [(k, o')]).length : Int) - 1 = (ys.length : Int) := by simp
    have hat := at_map runV (ys ++ [(k, o')]) ys.length hidx
    have hel : (ys ++ [(k, o')])[ys.length] = (k, o') := by simp
    rw [e0]
    generalize hL : ys ++ [(k, o')] = L at *
    (repeat (first | simp -dsimp only [zrMark11, ho, show (decide ((ys.length : Int) ≥ 0)) = true from by simp, hat, hel, runV, RB, TB, keep109, tab109, xindexAddr, xindex, xslice, xconvert, xlen, ewOp, FreeW, StabW, SameW, ChangeW, AddW, BaseW, limBytes, simprocAttr, ne_eq] | ((with_reducible refine Need.intro ?_ ?_); (first | trivial | exact ⟨_, rfl⟩ | exact ⟨[], (List.append_nil _).symm⟩ | omega | (simp; done) | (simp; omega) | exact ⟨by first | trivial | (simp; done), _, by first | rfl | (simp; rfl)⟩))))
    refine IfW.intro (fun h2 => ?_) (fun h2 => ?_)
    · have h2' : o' = og := by simpa using h2
      (repeat (first | simp -dsimp only [zrMark11, h2, ho, hat, hel, runV, RB, TB, keep109, tab109, xindexAddr, xindex, xslice, xconvert, xlen, ewOp, FreeW, StabW, SameW, ChangeW, AddW, BaseW, limBytes, simprocAttr, ne_eq] | ((with_reducible refine Need.intro ?_ ?_); (first | trivial | exact ⟨_, rfl⟩ | exact ⟨[], (List.append_nil _).symm⟩ | omega | (simp; done) | (simp; omega) | exact ⟨by first | trivial | (simp; done), _, by first | rfl | (simp; rfl)⟩))))
      have hgl : L.getLast? = some (k, o') := by rw [← hL]; simp
      have hp : putR L n og = ys ++ [(k + n, og)] := by unfold putR; rw [if_neg h1, hgl, ← hL]; simp [h2']
      have hg : grewR L n og = 0 := by unfold grewR; rw [if_neg h1, hgl]; simp [h2']
      rw [wrapI (by omega), hp, hg]
      refine RetW.keep false (by simp) ?_ ?_ ?_
      · rw [List.length_set]; exact HLt_set hH (by simp only [Ob.lt, ltL_iff]; intro x hx; rcases List.mem_or_eq_of_mem_set hx with hx | rfl; exact ltL_iff.1 hll x hx; simp [V.lt, ltL])
      · intro h; exact absurd (by simpa using h) hnl
      · have hlen : L.length = (ys ++ [(k + n, og)]).length := by rw [← hL]; simp
        have hset : (L.map runV).set ys.length (V.agg [V.int .i64 (k + n), V.int .i64 o']) = (ys ++ [(k + n, og)]).map runV := by
          rw [← hL, List.map_append, List.set_append_right _ _ (by simp)]
          simp [runV, h2']
        rw [hset]
        simp [wk, wk1, wk0, hnl, hlen]
    · have h2' : ¬ o' = og := by simpa using h2
      (repeat (first | simp -dsimp only [zrMark11, h2, ho, hat, hel, runV, RB, TB, keep109, tab109, xindexAddr, xindex, xslice, xconvert, xlen, ewOp, FreeW, StabW, SameW, ChangeW, AddW, BaseW, limBytes, simprocAttr, ne_eq] | ((with_reducible refine Need.intro ?_ ?_); (first | trivial | exact ⟨_, rfl⟩ | exact ⟨[], (List.append_nil _).symm⟩ | omega | (simp; done) | (simp; omega) | exact ⟨by first | trivial | (simp; done), _, by first | rfl | (simp; rfl)⟩))))
      have hgl : L.getLast? = some (k, o') := by rw [← hL]; simp
      have hp : putR L n og = L ++ [(n, og)] := by unfold putR; rw [if_neg h1, hgl]; simp [h2']
      have hg : grewR L n og = 1 := by unfold grewR; rw [if_neg h1, hgl]; simp [h2']
      rw [hp, hg]
      refine RetW.keep false (by simp) ?_ ?_ ?_
      · rw [List.length_set]; exact HLt_set hH (by simp [Ob.lt, ltL_append, hll, ltL, V.lt])
      · intro h; exact absurd (by simpa using h) hnl
      · simp [wk, wk1, wk0, hnl, runV]
/-- put upon nothing -/
theorem mput_nil (H : List Ob) (n : Nat) (og : Int) : SCall Try.prog 109 [.fslice [], .int .i64 n, .int .i64 og] H (fun r H' => r = .slice ((rle (List.replicate n og)).map runV) ∧ H' = H) := by
  refine SCall.of_good fun hH => ?_
  have hHk := HLt.add hH
  refine SCall.of_code Tok Try.func109 rfl Try.call109 (n := 42) rfl (by simp) (rs := [.tmp 6]) rfl ?_
  refine EWn.to ?_
  refine EWn.of_c Tok mixed (own := false) keep109 tab109 (by kernel_rfl) ?_
  (repeat (first | simp -dsimp only [zrMark11, RB, TB, keep109, tab109, xindexAddr, xindex, xslice, xconvert, xlen, ewOp, FreeW, StabW, SameW, ChangeW, AddW, BaseW, limBytes, simprocAttr, ne_eq] | ((with_reducible refine Need.intro ?_ ?_); (first | trivial | exact ⟨_, rfl⟩ | exact ⟨[], (List.append_nil _).symm⟩ | omega | (simp; done) | (simp; omega) | exact ⟨by first | trivial | (simp; done), _, by first | rfl | (simp; rfl)⟩))))
  refine IfW.intro (fun h => ?_) (fun h => ?_)
  · have h1 : n = 0 := by have := of_decide_eq_true h; omega
    subst h1
    (repeat (first | simp -dsimp only [zrMark11, h, RB, TB, keep109, tab109, xindexAddr, xindex, xslice, xconvert, xlen, ewOp, FreeW, StabW, SameW, ChangeW, AddW, BaseW, limBytes, simprocAttr, ne_eq] | ((with_reducible refine Need.intro ?_ ?_); (first | trivial | exact ⟨_, rfl⟩ | exact ⟨[], (List.append_nil _).symm⟩ | omega | (simp; done) | (simp; omega) | exact ⟨by first | trivial | (simp; done), _, by first | rfl | (simp; rfl)⟩))))
    refine RetW.auto0 false _ (by first | rfl | exact (List.append_nil _).symm) ?_ ?_
    · (simp (maxDischargeDepth := 6) [LTB, HLt_set, ltL_take, ltL_drop, ltL_rep, ltL_set, upd, eset, hH, hHk, zlMark11] <;> omega)
    (try simp only [wk, wk1, wk0, RB, limBytes, simprocAttr, ne_eq])
    (try (rw [List.take_of_length_le]; rotate_left 1; (· first | (simp; done) | (simp; omega) | omega)))
    simp [rle]
  · have h1 : n ≠ 0 := by have := of_decide_eq_false h; omega
    (repeat (first | simp -dsimp only [zrMark11, h, RB, TB, keep109, tab109, xindexAddr, xindex, xslice, xconvert, xlen, ewOp, FreeW, StabW, SameW, ChangeW, AddW, BaseW, limBytes, simprocAttr, ne_eq] | ((with_reducible refine Need.intro ?_ ?_); (first | trivial | exact ⟨_, rfl⟩ | exact ⟨[], (List.append_nil _).symm⟩ | omega | (simp; done) | (simp; omega) | exact ⟨by first | trivial | (simp; done), _, by first | rfl | (simp; rfl)⟩))))
    refine RetW.auto0 false _ (by first | rfl | exact (List.append_nil _).symm) ?_ ?_
    · (simp (maxDischargeDepth := 6) [LTB, HLt_set, ltL_take, ltL_drop, ltL_rep, ltL_set, upd, eset, hH, hHk, zlMark11] <;> omega)
    (try simp only [wk, wk1, wk0, RB, limBytes, simprocAttr, ne_eq])
    (try (rw [List.take_of_length_le]; rotate_left 1; (· first | (simp; done) | (simp; omega) | omega)))
    simp [rle_rep, h1, runV]
theorem mOf (H : List Ob) (t : List UInt8) (o : Int) : SCall Try.prog 38 [.str t, .int .i64 o] H (fun r H' => r = strV ⟨t, rle (List.replicate t.length (near o))⟩ ∧ H' = H) := by
  refine SCall.of_good fun hH => ?_
  have hHk := HLt.add hH
  refine SCall.of_code Tok Try.func38 rfl Try.call38 (n := 12) rfl (by simp) (rs := [.cell 4 30]) rfl ?_
  refine EWn.to ?_
  refine EWn.of_c Tok mixed (own := false) keep38 tab38 (by kernel_rfl) ?_
  (repeat (first | simp -dsimp only [zrMark11, RB, TB, keep38, tab38, xindexAddr, xindex, xslice, xconvert, xlen, ewOp, FreeW, StabW, SameW, ChangeW, AddW, BaseW, limBytes, simprocAttr, ne_eq] | ((with_reducible refine Need.intro ?_ ?_); (first | trivial | exact ⟨_, rfl⟩ | exact ⟨[], (List.append_nil _).symm⟩ | omega | (simp; done) | (simp; omega) | exact ⟨by first | trivial | (simp; done), _, by first | rfl | (simp; rfl)⟩))))
  (first | refine SCall.then (mnear _ o) ?_ | refine SCall.thenA (mnear _ o) (by repeat (first | exact trivial | exact .inl (.inl rfl) | exact .inl (.inr ⟨_, rfl, rfl⟩) | exact .inl rfl | exact .inr ⟨_, rfl, rfl⟩ | refine .inr ⟨_, _, rfl, rfl, ?_⟩ | refine ⟨?_, ?_⟩)) ?_ | refine CallE.intro _ (mnear _ o) ?_ | refine CallE.introA (mnear _ o) (by repeat (first | exact trivial | exact .inl (.inl rfl) | exact .inl (.inr ⟨_, rfl, rfl⟩) | exact .inl rfl | exact .inr ⟨_, rfl, rfl⟩ | refine .inr ⟨_, _, rfl, rfl, ?_⟩ | refine ⟨?_, ?_⟩)) ?_ | refine CallE.intro _ (fun _ => mnear _ o) ?_ | refine CallE.intro _ (fun _ => SCall.arg (by repeat (first | exact trivial | exact .inl (.inl rfl) | exact .inl (.inr ⟨_, rfl, rfl⟩) | exact .inl rfl | exact .inr ⟨_, rfl, rfl⟩ | refine .inr ⟨_, _, rfl, rfl, ?_⟩ | refine ⟨?_, ?_⟩)) (mnear _ o)) ?_ | refine CallE2.intro _ _ (mnear _ o) ?_ | refine CallE2.intro _ _ (SCall.arg (by repeat (first | exact trivial | exact .inl (.inl rfl) | exact .inl (.inr ⟨_, rfl, rfl⟩) | exact .inl rfl | exact .inr ⟨_, rfl, rfl⟩ | refine .inr ⟨_, _, rfl, rfl, ?_⟩ | refine ⟨?_, ?_⟩)) (mnear _ o)) ?_)
  (repeat (first | simp -dsimp only [zrMark11, RB, TB, keep38, tab38, xindexAddr, xindex, xslice, xconvert, xlen, ewOp, FreeW, StabW, SameW, ChangeW, AddW, BaseW, limBytes, simprocAttr, ne_eq] | ((with_reducible refine Need.intro ?_ ?_); (first | trivial | exact ⟨_, rfl⟩ | exact ⟨[], (List.append_nil _).symm⟩ | omega | (simp; done) | (simp; omega) | exact ⟨by first | trivial | (simp; done), _, by first | rfl | (simp; rfl)⟩))))
  (first | refine SCall.then (mput_nil _ t.length (near o)) ?_ | refine SCall.thenA (mput_nil _ t.length (near o)) (by repeat (first | exact trivial | exact .inl (.inl rfl) | exact .inl (.inr ⟨_, rfl, rfl⟩) | exact .inl rfl | exact .inr ⟨_, rfl, rfl⟩ | refine .inr ⟨_, _, rfl, rfl, ?_⟩ | refine ⟨?_, ?_⟩)) ?_ | refine CallE.intro _ (mput_nil _ t.length (near o)) ?_ | refine CallE.introA (mput_nil _ t.length (near o)) (by repeat (first | exact trivial | exact .inl (.inl rfl) | exact .inl (.inr ⟨_, rfl, rfl⟩) | exact .inl rfl | exact .inr ⟨_, rfl, rfl⟩ | refine .inr ⟨_, _, rfl, rfl, ?_⟩ | refine ⟨?_, ?_⟩)) ?_ | refine CallE.intro _ (fun _ => mput_nil _ t.length (near o)) ?_ | refine CallE.intro _ (fun _ => SCall.arg (by repeat (first | exact trivial | exact .inl (.inl rfl) | exact .inl (.inr ⟨_, rfl, rfl⟩) | exact .inl rfl | exact .inr ⟨_, rfl, rfl⟩ | refine .inr ⟨_, _, rfl, rfl, ?_⟩ | refine ⟨?_, ?_⟩)) (mput_nil _ t.length (near o))) ?_ | refine CallE2.intro _ _ (mput_nil _ t.length (near o)) ?_ | refine CallE2.intro _ _ (SCall.arg (by repeat (first | exact trivial | exact .inl (.inl rfl) | exact .inl (.inr ⟨_, rfl, rfl⟩) | exact .inl rfl | exact .inr ⟨_, rfl, rfl⟩ | refine .inr ⟨_, _, rfl, rfl, ?_⟩ | refine ⟨?_, ?_⟩)) (mput_nil _ t.length (near o))) ?_)
  (repeat (first | simp -dsimp only [zrMark11, RB, TB, keep38, tab38, xindexAddr, xindex, xslice, xconvert, xlen, ewOp, FreeW, StabW, SameW, ChangeW, AddW, BaseW, limBytes, simprocAttr, ne_eq] | ((with_reducible refine Need.intro ?_ ?_); (first | trivial | exact ⟨_, rfl⟩ | exact ⟨[], (List.append_nil _).symm⟩ | omega | (simp; done) | (simp; omega) | exact ⟨by first | trivial | (simp; done), _, by first | rfl | (simp; rfl)⟩))))
  refine RetW.auto0 false _ (by first | rfl | exact (List.append_nil _).symm) ?_ ?_
  · (simp (maxDischargeDepth := 6) [LTB, HLt_set, ltL_take, ltL_drop, ltL_rep, ltL_set, upd, eset, hH, hHk, zlMark11] <;> omega)
  (try simp only [wk, wk1, wk0, RB, limBytes, simprocAttr, ne_eq])
  (try (rw [List.take_of_length_le]; rotate_left 1; (· first | (simp; done) | (simp; omega) | omega)))
  rfl
theorem mFix (H : List Ob) (s : Str) (hs : okS s) : SCall Try.prog 93 [strV s] H (fun r H' => r = strV (fixS s) ∧ H' = H) := by
  obtain ⟨text, runs⟩ := s
  obtain ⟨hs1, hs2⟩ := hs
  simp only at hs1 hs2
  unfold strV
  refine SCall.of_good fun hH => ?_
  have hHk := HLt.add hH
  refine SCall.of_code Tok Try.func93 rfl Try.call93 (n := 44) rfl (by simp) (rs := [.cell 2 30]) rfl ?_
  refine EWn.to ?_
  refine EWn.of_c Tok mixed (own := false) keep93 tab93 (by kernel_rfl) ?_
  (repeat (first | simp -dsimp only [zrMark11, RB, TB, keep93, tab93, xindexAddr, xindex, xslice, xconvert, xlen, ewOp, FreeW, StabW, SameW, ChangeW, AddW, BaseW, limBytes, simprocAttr, ne_eq] | ((with_reducible refine Need.intro ?_ ?_); (first | trivial | exact ⟨_, rfl⟩ | exact ⟨[], (List.append_nil _).symm⟩ | omega | (simp; done) | (simp; omega) | exact ⟨by first | trivial | (simp; done), _, by first | rfl | (simp; rfl)⟩))))
  refine EWn.ghost (Gho.adoptCell (H.length + 2) 1 2 (by simp only [RB, hget]; rfl) rfl (by simp)) ?_
  simp only [RB, limBytes, simprocAttr, ne_eq]
  refine EWn.loopE (ι := (Nat) × (Nat)) (fun (x_ : (Nat) × (Nat)) => match x_ with | (i, ver) => i ≤ runs.length) (fun (x_ : (Nat) × (Nat)) => match x_ with | (i, ver) => runs.length - i) (fun (x_ : (Nat) × (Nat)) => match x_ with | (i, ver) => [(4, .int .i64 ((text.length - (origF text.length (runs.take i) []).length : Nat) : Int)), (17, .int .i64 i)]) (fun (x_ : (Nat) × (Nat)) => match x_ with | (i, ver) => H ++ [.var [.str text, .slice (runs.map runV)], .var [.str [], .fslice []], .var [.str text, .vec (H.length + 3) ver 0 (rle (origF text.length (runs.take i) [])).length], .vec ver 2 ((rle (origF text.length (runs.take i) [])).map runV)]) (0, 1) ?_ ?_ ?_ ?_ ?_
  · first | rfl | (simp [upd, eset]; done) | (simp [upd, eset, origF, rle]; done)
  · simp [origF, rle]
  · rintro ⟨i, ver⟩ hok; exact ⟨by first | (simp; done) | (simp; omega), by (simp (maxDischargeDepth := 6) [LTB, HLt_set, ltL_take, ltL_drop, ltL_rep, ltL_set, upd, eset, hH, hHk, zlMark11] <;> omega), by (simp (maxDischargeDepth := 6) [LTB, HLt_set, ltL_take, ltL_drop, ltL_rep, ltL_set, upd, eset, hH, hHk, zlMark11] <;> omega)⟩
  · omega
  rintro ⟨i, ver⟩ hi
  have hacc := (origF_len text.length (runs.take i) [] (Nat.zero_le _)).1
  refine EWn.of_c Tok mixed (own := false) keep93 tab93 (by kernel_rfl) ?_
  (repeat (first | simp -dsimp only [zrMark11, RB, TB, keep93, tab93, xindexAddr, xindex, xslice, xconvert, xlen, ewOp, FreeW, StabW, SameW, ChangeW, AddW, BaseW, limBytes, simprocAttr, ne_eq] | ((with_reducible refine Need.intro ?_ ?_); (first | trivial | exact ⟨_, rfl⟩ | exact ⟨[], (List.append_nil _).symm⟩ | omega | (simp; done) | (simp; omega) | exact ⟨by first | trivial | (simp; done), _, by first | rfl | (simp; rfl)⟩))))
  refine IfW.intro (fun h => ?_) (fun h => ?_)
  · have hlt := lt_of h
    have hsucc : origF text.length (runs.take (i + 1)) [] = origF text.length (runs.take i) [] ++ List.replicate (min runs[i].1.toNat (text.length - (origF text.length (runs.take i) []).length)) (near runs[i].2) := by
      rw [List.take_succ_eq_append_getElem hlt, origF_append]; rfl
    have hacc2 := (origF_len text.length (runs.take (i + 1)) [] (Nat.zero_le _)).1
    generalize origF text.length (runs.take i) [] = acc at *
    generalize hk : min runs[i].1.toNat (text.length - acc.length) = k at *
    have hmin : min (max runs[i].1 0) ((text.length - acc.length : Nat) : Int) = (k : Int) := by omega
    have hrl := rle_len acc
    have hrb : ∀ p ∈ rle acc, 0 ≤ p.1 ∧ p.1 ≤ 1000000000000 := fun p hp => by have := rle_bound hp; omega
    (repeat (first | simp -dsimp only [zrMark11, h, at_map runV runs i hlt, runV, hmin, RB, TB, keep93, tab93, xindexAddr, xindex, xslice, xconvert, xlen, ewOp, FreeW, StabW, SameW, ChangeW, AddW, BaseW, limBytes, simprocAttr, ne_eq] | ((with_reducible refine Need.intro ?_ ?_); (first | trivial | exact ⟨_, rfl⟩ | exact ⟨[], (List.append_nil _).symm⟩ | omega | (simp; done) | (simp; omega) | exact ⟨by first | trivial | (simp; done), _, by first | rfl | (simp; rfl)⟩))))
    (first | refine SCall.then (mnear _ _) ?_ | refine SCall.thenA (mnear _ _) (by repeat (first | exact trivial | exact .inl (.inl rfl) | exact .inl (.inr ⟨_, rfl, rfl⟩) | exact .inl rfl | exact .inr ⟨_, rfl, rfl⟩ | refine .inr ⟨_, _, rfl, rfl, ?_⟩ | refine ⟨?_, ?_⟩)) ?_ | refine CallE.intro _ (mnear _ _) ?_ | refine CallE.introA (mnear _ _) (by repeat (first | exact trivial | exact .inl (.inl rfl) | exact .inl (.inr ⟨_, rfl, rfl⟩) | exact .inl rfl | exact .inr ⟨_, rfl, rfl⟩ | refine .inr ⟨_, _, rfl, rfl, ?_⟩ | refine ⟨?_, ?_⟩)) ?_ | refine CallE.intro _ (fun _ => mnear _ _) ?_ | refine CallE.intro _ (fun _ => SCall.arg (by repeat (first | exact trivial | exact .inl (.inl rfl) | exact .inl (.inr ⟨_, rfl, rfl⟩) | exact .inl rfl | exact .inr ⟨_, rfl, rfl⟩ | refine .inr ⟨_, _, rfl, rfl, ?_⟩ | refine ⟨?_, ?_⟩)) (mnear _ _)) ?_ | refine CallE2.intro _ _ (mnear _ _) ?_ | refine CallE2.intro _ _ (SCall.arg (by repeat (first | exact trivial | exact .inl (.inl rfl) | exact .inl (.inr ⟨_, rfl, rfl⟩) | exact .inl rfl | exact .inr ⟨_, rfl, rfl⟩ | refine .inr ⟨_, _, rfl, rfl, ?_⟩ | refine ⟨?_, ?_⟩)) (mnear _ _)) ?_)
    (repeat (first | simp -dsimp only [zrMark11, RB, TB, keep93, tab93, xindexAddr, xindex, xslice, xconvert, xlen, ewOp, FreeW, StabW, SameW, ChangeW, AddW, BaseW, limBytes, simprocAttr, ne_eq] | ((with_reducible refine Need.intro ?_ ?_); (first | trivial | exact ⟨_, rfl⟩ | exact ⟨[], (List.append_nil _).symm⟩ | omega | (simp; done) | (simp; omega) | exact ⟨by first | trivial | (simp; done), _, by first | rfl | (simp; rfl)⟩))))
    (first | refine SCall.then (mput _ (rle acc) k (near runs[i].2) (H.length + 3) ver (by simp only [RB, hget]) (by omega) hrb (by omega)) ?_ | refine SCall.thenA (mput _ (rle acc) k (near runs[i].2) (H.length + 3) ver (by simp only [RB, hget]) (by omega) hrb (by omega)) (by repeat (first | exact trivial | exact .inl (.inl rfl) | exact .inl (.inr ⟨_, rfl, rfl⟩) | exact .inl rfl | exact .inr ⟨_, rfl, rfl⟩ | refine .inr ⟨_, _, rfl, rfl, ?_⟩ | refine ⟨?_, ?_⟩)) ?_ | refine CallE.intro _ (mput _ (rle acc) k (near runs[i].2) (H.length + 3) ver (by simp only [RB, hget]) (by omega) hrb (by omega)) ?_ | refine CallE.introA (mput _ (rle acc) k (near runs[i].2) (H.length + 3) ver (by simp only [RB, hget]) (by omega) hrb (by omega)) (by repeat (first | exact trivial | exact .inl (.inl rfl) | exact .inl (.inr ⟨_, rfl, rfl⟩) | exact .inl rfl | exact .inr ⟨_, rfl, rfl⟩ | refine .inr ⟨_, _, rfl, rfl, ?_⟩ | refine ⟨?_, ?_⟩)) ?_ | refine CallE.intro _ (fun _ => mput _ (rle acc) k (near runs[i].2) (H.length + 3) ver (by simp only [RB, hget]) (by omega) hrb (by omega)) ?_ | refine CallE.intro _ (fun _ => SCall.arg (by repeat (first | exact trivial | exact .inl (.inl rfl) | exact .inl (.inr ⟨_, rfl, rfl⟩) | exact .inl rfl | exact .inr ⟨_, rfl, rfl⟩ | refine .inr ⟨_, _, rfl, rfl, ?_⟩ | refine ⟨?_, ?_⟩)) (mput _ (rle acc) k (near runs[i].2) (H.length + 3) ver (by simp only [RB, hget]) (by omega) hrb (by omega))) ?_ | refine CallE2.intro _ _ (mput _ (rle acc) k (near runs[i].2) (H.length + 3) ver (by simp only [RB, hget]) (by omega) hrb (by omega)) ?_ | refine CallE2.intro _ _ (SCall.arg (by repeat (first | exact trivial | exact .inl (.inl rfl) | exact .inl (.inr ⟨_, rfl, rfl⟩) | exact .inl rfl | exact .inr ⟨_, rfl, rfl⟩ | refine .inr ⟨_, _, rfl, rfl, ?_⟩ | refine ⟨?_, ?_⟩)) (mput _ (rle acc) k (near runs[i].2) (H.length + 3) ver (by simp only [RB, hget]) (by omega) hrb (by omega))) ?_)
    (repeat (first | simp -dsimp only [zrMark11, RB, TB, keep93, tab93, xindexAddr, xindex, xslice, xconvert, xlen, ewOp, FreeW, StabW, SameW, ChangeW, AddW, BaseW, limBytes, simprocAttr, ne_eq] | ((with_reducible refine Need.intro ?_ ?_); (first | trivial | exact ⟨_, rfl⟩ | exact ⟨[], (List.append_nil _).symm⟩ | omega | (simp; done) | (simp; omega) | exact ⟨by first | trivial | (simp; done), _, by first | rfl | (simp; rfl)⟩))))
    have hk2 : k ≤ text.length - acc.length := by omega
    have hput : putR (rle acc) k (near runs[i].2) = rle (acc ++ List.replicate k (near runs[i].2)) := (rle_append _ _ _).symm
    rw [hput]
    rw [wrapI (by omega), wrapI (by omega)]
    refine UpTo.here ⟨(i + 1, ver + grewR (rle acc) k (near runs[i].2)), hlt, by simp only; omega, ?_, ⟨_, by simp only [hsucc]; simp; rfl⟩⟩
    simp only [hsucc]
    simp [upd, eset]
    omega
  · have hi2 : i = runs.length := Nat.le_antisymm hi (ge_of h)
    subst hi2
    rw [List.take_length] at hacc ⊢
    have horig : orig ⟨text, runs⟩ = origF text.length runs [] ++ List.replicate (text.length - (origF text.length runs []).length) 65536 := rfl
    generalize origF text.length runs [] = acc at *
    have hrl := rle_len acc
    have hrb : ∀ p ∈ rle acc, 0 ≤ p.1 ∧ p.1 ≤ 1000000000000 := fun p hp => by have := rle_bound hp; omega
    (repeat (first | simp -dsimp only [zrMark11, h, RB, TB, keep93, tab93, xindexAddr, xindex, xslice, xconvert, xlen, ewOp, FreeW, StabW, SameW, ChangeW, AddW, BaseW, limBytes, simprocAttr, ne_eq] | ((with_reducible refine Need.intro ?_ ?_); (first | trivial | exact ⟨_, rfl⟩ | exact ⟨[], (List.append_nil _).symm⟩ | omega | (simp; done) | (simp; omega) | exact ⟨by first | trivial | (simp; done), _, by first | rfl | (simp; rfl)⟩))))
    (first | refine SCall.then (mput _ (rle acc) ((text.length - acc.length : Nat) : Int) 65536 (H.length + 3) ver (by simp only [RB, hget]) (by omega) hrb (by omega)) ?_ | refine SCall.thenA (mput _ (rle acc) ((text.length - acc.length : Nat) : Int) 65536 (H.length + 3) ver (by simp only [RB, hget]) (by omega) hrb (by omega)) (by repeat (first | exact trivial | exact .inl (.inl rfl) | exact .inl (.inr ⟨_, rfl, rfl⟩) | exact .inl rfl | exact .inr ⟨_, rfl, rfl⟩ | refine .inr ⟨_, _, rfl, rfl, ?_⟩ | refine ⟨?_, ?_⟩)) ?_ | refine CallE.intro _ (mput _ (rle acc) ((text.length - acc.length : Nat) : Int) 65536 (H.length + 3) ver (by simp only [RB, hget]) (by omega) hrb (by omega)) ?_ | refine CallE.introA (mput _ (rle acc) ((text.length - acc.length : Nat) : Int) 65536 (H.length + 3) ver (by simp only [RB, hget]) (by omega) hrb (by omega)) (by repeat (first | exact trivial | exact .inl (.inl rfl) | exact .inl (.inr ⟨_, rfl, rfl⟩) | exact .inl rfl | exact .inr ⟨_, rfl, rfl⟩ | refine .inr ⟨_, _, rfl, rfl, ?_⟩ | refine ⟨?_, ?_⟩)) ?_ | refine CallE.intro _ (fun _ => mput _ (rle acc) ((text.length - acc.length : Nat) : Int) 65536 (H.length + 3) ver (by simp only [RB, hget]) (by omega) hrb (by omega)) ?_ | refine CallE.intro _ (fun _ => SCall.arg (by repeat (first | exact trivial | exact .inl (.inl rfl) | exact .inl (.inr ⟨_, rfl, rfl⟩) | exact .inl rfl | exact .inr ⟨_, rfl, rfl⟩ | refine .inr ⟨_, _, rfl, rfl, ?_⟩ | refine ⟨?_, ?_⟩)) (mput _ (rle acc) ((text.length - acc.length : Nat) : Int) 65536 (H.length + 3) ver (by simp only [RB, hget]) (by omega) hrb (by omega))) ?_ | refine CallE2.intro _ _ (mput _ (rle acc) ((text.length - acc.length : Nat) : Int) 65536 (H.length + 3) ver (by simp only [RB, hget]) (by omega) hrb (by omega)) ?_ | refine CallE2.intro _ _ (SCall.arg (by repeat (first | exact trivial | exact .inl (.inl rfl) | exact .inl (.inr ⟨_, rfl, rfl⟩) | exact .inl rfl | exact .inr ⟨_, rfl, rfl⟩ | refine .inr ⟨_, _, rfl, rfl, ?_⟩ | refine ⟨?_, ?_⟩)) (mput _ (rle acc) ((text.length - acc.length : Nat) : Int) 65536 (H.length + 3) ver (by simp only [RB, hget]) (by omega) hrb (by omega))) ?_)
    (repeat (first | simp -dsimp only [zrMark11, RB, TB, keep93, tab93, xindexAddr, xindex, xslice, xconvert, xlen, ewOp, FreeW, StabW, SameW, ChangeW, AddW, BaseW, limBytes, simprocAttr, ne_eq] | ((with_reducible refine Need.intro ?_ ?_); (first | trivial | exact ⟨_, rfl⟩ | exact ⟨[], (List.append_nil _).symm⟩ | omega | (simp; done) | (simp; omega) | exact ⟨by first | trivial | (simp; done), _, by first | rfl | (simp; rfl)⟩))))
    rw [← rle_append]
    refine RetW.auto0 false _ (by first | rfl | exact (List.append_nil _).symm) ?_ ?_
    · (simp (maxDischargeDepth := 6) [LTB, HLt_set, ltL_take, ltL_drop, ltL_rep, ltL_set, upd, eset, hH, hHk, zlMark11] <;> omega)
    (try simp only [wk, wk1, wk0, RB, limBytes, simprocAttr, ne_eq])
    (try (rw [List.take_of_length_le]; rotate_left 1; (· first | (simp; done) | (simp; omega) | omega)))
    simp [strV, fixS, horig]
theorem rSame (H : List Ob) (l m : List (UInt8 × Int)) : SCall Try.prog 103 [.slice (l.map cV), .slice (m.map cV)] H (fun r H' => r = .bool (decide (l = m)) ∧ H' = H) := by
  refine SCall.sized 0 rfl fun hl => ?_
  rw [List.length_map, maxLen_eq] at hl
  refine SCall.of_good fun hH => ?_
  have hHk := HLt.add hH
  refine SCall.of_code Tok Try.func103 rfl Try.call103 (n := 26) rfl (by simp) (rs := [.tmp 4]) rfl ?_
  refine EWn.to ?_
  refine EWn.of_c Tok mixed (own := false) keep103 tab103 (by kernel_rfl) ?_
  (repeat (first | simp -dsimp only [zrMark11, RB, TB, keep103, tab103, xindexAddr, xindex, xslice, xconvert, xlen, ewOp, FreeW, StabW, SameW, ChangeW, AddW, BaseW, limBytes, simprocAttr, ne_eq] | ((with_reducible refine Need.intro ?_ ?_); (first | trivial | exact ⟨_, rfl⟩ | exact ⟨[], (List.append_nil _).symm⟩ | omega | (simp; done) | (simp; omega) | exact ⟨by first | trivial | (simp; done), _, by first | rfl | (simp; rfl)⟩))))
  refine IfW.intro (fun h => ?_) (fun h => ?_)
  rotate_left
  · (repeat (first | simp -dsimp only [zrMark11, h, RB, TB, keep103, tab103, xindexAddr, xindex, xslice, xconvert, xlen, ewOp, FreeW, StabW, SameW, ChangeW, AddW, BaseW, limBytes, simprocAttr, ne_eq] | ((with_reducible refine Need.intro ?_ ?_); (first | trivial | exact ⟨_, rfl⟩ | exact ⟨[], (List.append_nil _).symm⟩ | omega | (simp; done) | (simp; omega) | exact ⟨by first | trivial | (simp; done), _, by first | rfl | (simp; rfl)⟩))))
    refine RetW.auto0 false _ (by first | rfl | exact (List.append_nil _).symm) ?_ ?_
    · (simp (maxDischargeDepth := 6) [LTB, HLt_set, ltL_take, ltL_drop, ltL_rep, ltL_set, upd, eset, hH, hHk, zlMark11] <;> omega)
    (try simp only [wk, wk1, wk0, RB, limBytes, simprocAttr, ne_eq])
    (try (rw [List.take_of_length_le]; rotate_left 1; (· first | (simp; done) | (simp; omega) | omega)))
    have hlm : l ≠ m := by rintro rfl; simp at h
    simp [hlm]
  have hlm : l.length = m.length := by simp at h; omega
  (repeat (first | simp -dsimp only [zrMark11, h, RB, TB, keep103, tab103, xindexAddr, xindex, xslice, xconvert, xlen, ewOp, FreeW, StabW, SameW, ChangeW, AddW, BaseW, limBytes, simprocAttr, ne_eq] | ((with_reducible refine Need.intro ?_ ?_); (first | trivial | exact ⟨_, rfl⟩ | exact ⟨[], (List.append_nil _).symm⟩ | omega | (simp; done) | (simp; omega) | exact ⟨by first | trivial | (simp; done), _, by first | rfl | (simp; rfl)⟩))))
  refine EWn.loopE (ι := (Nat)) (fun (i : (Nat)) => i ≤ l.length ∧ l.take i = m.take i) (fun (i : (Nat)) => l.length - i) (fun (i : (Nat)) => [(5, .int .i64 i)]) (fun (i : (Nat)) => H) (0) ?_ ?_ ?_ ?_ ?_
  · first | rfl | simp [upd, eset]
  · first | rfl | (simp; done) | exact (set_same (by assumption)).symm
  · rintro i hok; exact ⟨by first | (simp; done) | (simp; omega), by (simp (maxDischargeDepth := 6) [LTB, HLt_set, ltL_take, ltL_drop, ltL_rep, ltL_set, upd, eset, hH, hHk, zlMark11] <;> omega), by (simp (maxDischargeDepth := 6) [LTB, HLt_set, ltL_take, ltL_drop, ltL_rep, ltL_set, upd, eset, hH, hHk, zlMark11] <;> omega)⟩
  · simp
  rintro i ⟨hi, hno⟩
  refine EWn.of_c Tok mixed (own := false) keep103 tab103 (by kernel_rfl) ?_
  (repeat (first | simp -dsimp only [zrMark11, RB, TB, keep103, tab103, xindexAddr, xindex, xslice, xconvert, xlen, ewOp, FreeW, StabW, SameW, ChangeW, AddW, BaseW, limBytes, simprocAttr, ne_eq] | ((with_reducible refine Need.intro ?_ ?_); (first | trivial | exact ⟨_, rfl⟩ | exact ⟨[], (List.append_nil _).symm⟩ | omega | (simp; done) | (simp; omega) | exact ⟨by first | trivial | (simp; done), _, by first | rfl | (simp; rfl)⟩))))
  refine IfW.intro (fun h1 => ?_) (fun h1 => ?_)
  · have hlt := lt_of h1
    have hlt' : i < m.length := by omega
    (repeat (first | simp -dsimp only [zrMark11, h1, at_map cV l i hlt, at_map cV m i hlt', cV, vb, RB, TB, keep103, tab103, xindexAddr, xindex, xslice, xconvert, xlen, ewOp, FreeW, StabW, SameW, ChangeW, AddW, BaseW, limBytes, simprocAttr, ne_eq] | ((with_reducible refine Need.intro ?_ ?_); (first | trivial | exact ⟨_, rfl⟩ | exact ⟨[], (List.append_nil _).symm⟩ | omega | (simp; done) | (simp; omega) | exact ⟨by first | trivial | (simp; done), _, by first | rfl | (simp; rfl)⟩))))
    refine IfW.intro (fun hb => ?_) (fun hb => ?_)
    · (repeat (first | simp -dsimp only [zrMark11, hb, RB, TB, keep103, tab103, xindexAddr, xindex, xslice, xconvert, xlen, ewOp, FreeW, StabW, SameW, ChangeW, AddW, BaseW, limBytes, simprocAttr, ne_eq] | ((with_reducible refine Need.intro ?_ ?_); (first | trivial | exact ⟨_, rfl⟩ | exact ⟨[], (List.append_nil _).symm⟩ | omega | (simp; done) | (simp; omega) | exact ⟨by first | trivial | (simp; done), _, by first | rfl | (simp; rfl)⟩))))
      rw [wrapI (by omega)]
      have hb : l[i] = m[i] := by simp at hb; exact Prod.ext (UInt8.toNat_inj.1 (by omega)) hb.2
      refine UpTo.here ⟨(i + 1), ?_, by first | omega | (simp only [List.length_append, List.length_cons, List.length_nil]; omega), by simp [upd, eset], ⟨_, by simp; try rfl⟩⟩
      exact ⟨hlt, by rw [List.take_succ_eq_append_getElem hlt, List.take_succ_eq_append_getElem hlt', hno, hb]⟩
    · (repeat (first | simp -dsimp only [zrMark11, hb, RB, TB, keep103, tab103, xindexAddr, xindex, xslice, xconvert, xlen, ewOp, FreeW, StabW, SameW, ChangeW, AddW, BaseW, limBytes, simprocAttr, ne_eq] | ((with_reducible refine Need.intro ?_ ?_); (first | trivial | exact ⟨_, rfl⟩ | exact ⟨[], (List.append_nil _).symm⟩ | omega | (simp; done) | (simp; omega) | exact ⟨by first | trivial | (simp; done), _, by first | rfl | (simp; rfl)⟩))))
      refine RetW.auto0 false _ (by first | rfl | exact (List.append_nil _).symm) ?_ ?_
      · (simp (maxDischargeDepth := 6) [LTB, HLt_set, ltL_take, ltL_drop, ltL_rep, ltL_set, upd, eset, hH, hHk, zlMark11] <;> omega)
      (try simp only [wk, wk1, wk0, RB, limBytes, simprocAttr, ne_eq])
      (try (rw [List.take_of_length_le]; rotate_left 1; (· first | (simp; done) | (simp; omega) | omega)))
      have hlm : l ≠ m := by rintro rfl; simp at hb
      simp [hlm]
  · (repeat (first | simp -dsimp only [zrMark11, h1, RB, TB, keep103, tab103, xindexAddr, xindex, xslice, xconvert, xlen, ewOp, FreeW, StabW, SameW, ChangeW, AddW, BaseW, limBytes, simprocAttr, ne_eq] | ((with_reducible refine Need.intro ?_ ?_); (first | trivial | exact ⟨_, rfl⟩ | exact ⟨[], (List.append_nil _).symm⟩ | omega | (simp; done) | (simp; omega) | exact ⟨by first | trivial | (simp; done), _, by first | rfl | (simp; rfl)⟩))))
    have hge := ge_of h1
    rw [List.take_of_length_le hge, List.take_of_length_le (by omega)] at hno
    refine RetW.auto0 false _ (by first | rfl | exact (List.append_nil _).symm) ?_ ?_
    · (simp (maxDischargeDepth := 6) [LTB, HLt_set, ltL_take, ltL_drop, ltL_rep, ltL_set, upd, eset, hH, hHk, zlMark11] <;> omega)
    (try simp only [wk, wk1, wk0, RB, limBytes, simprocAttr, ne_eq])
    (try (rw [List.take_of_length_le]; rotate_left 1; (· first | (simp; done) | (simp; omega) | omega)))
    simp [hno]

theorem rnear (H : List Ob) (o : Int) : SCall Try.prog 159 [.int .i64 o] H (fun r H' => r = .int .i64 (near o) ∧ H' = H) := by
  refine SCall.of_good fun hH => ?_
  have hHk := HLt.add hH
  refine SCall.of_code Tok Try.func159 rfl Try.call159 (n := 6) rfl (by simp) (rs := [.tmp 2]) rfl ?_
  refine EWn.to ?_
  refine EWn.of_c Tok mixed (own := false) keep159 tab159 (by kernel_rfl) ?_
  (repeat (first | simp -dsimp only [zrMark11, RB, TB, keep159, tab159, xindexAddr, xindex, xslice, xconvert, xlen, ewOp, FreeW, StabW, SameW, ChangeW, AddW, BaseW, limBytes, simprocAttr, ne_eq] | ((with_reducible refine Need.intro ?_ ?_); (first | trivial | exact ⟨_, rfl⟩ | exact ⟨[], (List.append_nil _).symm⟩ | omega | (simp; done) | (simp; omega) | exact ⟨by first | trivial | (simp; done), _, by first | rfl | (simp; rfl)⟩))))
  refine RetW.auto0 false _ (by first | rfl | exact (List.append_nil _).symm) ?_ ?_
  · (simp (maxDischargeDepth := 6) [LTB, HLt_set, ltL_take, ltL_drop, ltL_rep, ltL_set, upd, eset, hH, hHk, zlMark11] <;> omega)
  (try simp only [wk, wk1, wk0, RB, limBytes, simprocAttr, ne_eq])
  (try (rw [List.take_of_length_le]; rotate_left 1; (· first | (simp; done) | (simp; omega) | omega)))
  simp [near]
theorem rOf (H : List Ob) (s : Str) (hs : okS s) : SCall Try.prog 104 [strV s] H (fun r H' => r = .slice ((ofS s).map cV) ∧ H' = H) := by
  obtain ⟨text, runs⟩ := s
  obtain ⟨hs1, hs2⟩ := hs
  simp only at hs1 hs2
  unfold strV
  refine SCall.of_good fun hH => ?_
  have hHk := HLt.add hH
  refine SCall.of_code Tok Try.func104 rfl Try.call104 (n := 63) rfl (by simp) (rs := [.tmp 2]) rfl ?_
  refine EWn.to ?_
  refine EWn.of_c Tok mixed (own := false) keep104 tab104 (by kernel_rfl) ?_
  (repeat (first | simp -dsimp only [zrMark11, RB, TB, keep104, tab104, xindexAddr, xindex, xslice, xconvert, xlen, ewOp, FreeW, StabW, SameW, ChangeW, AddW, BaseW, limBytes, simprocAttr, ne_eq] | ((with_reducible refine Need.intro ?_ ?_); (first | trivial | exact ⟨_, rfl⟩ | exact ⟨[], (List.append_nil _).symm⟩ | omega | (simp; done) | (simp; omega) | exact ⟨by first | trivial | (simp; done), _, by first | rfl | (simp; rfl)⟩))))
  refine EWn.ghost (Gho.adopt 3 2 rfl) ?_
  refine EWn.loopE (ι := (Nat) × (Nat)) (fun (x_ : (Nat) × (Nat)) => match x_ with | (i, ver) => i ≤ runs.length) (fun (x_ : (Nat) × (Nat)) => match x_ with | (i, ver) => runs.length - i) (fun (x_ : (Nat) × (Nat)) => match x_ with | (i, ver) => [(4, .int .i64 i), (3, .vec (H.length + 1) ver 0 (origF text.length (runs.take i) []).length)]) (fun (x_ : (Nat) × (Nat)) => match x_ with | (i, ver) => H ++ [.var [.str text, .slice (runs.map runV)], .vec ver 2 ((text.zip (origF text.length (runs.take i) [])).map cV)]) (0, 1) ?_ ?_ ?_ ?_ ?_
  · first | rfl | (simp [upd, eset]; done) | (simp [upd, eset, origF]; done)
  · simp [origF]
  · rintro ⟨i, ver⟩ hok; exact ⟨by first | (simp; done) | (simp; omega), by (simp (maxDischargeDepth := 6) [LTB, HLt_set, ltL_take, ltL_drop, ltL_rep, ltL_set, upd, eset, hH, hHk, zlMark11] <;> omega), by (simp (maxDischargeDepth := 6) [LTB, HLt_set, ltL_take, ltL_drop, ltL_rep, ltL_set, upd, eset, hH, hHk, zlMark11] <;> omega)⟩
  · omega
  rintro ⟨i, ver⟩ hi
  have hacc := (origF_len text.length (runs.take i) [] (Nat.zero_le _)).1
  refine EWn.of_c Tok mixed (own := false) keep104 tab104 (by kernel_rfl) ?_
  (repeat (first | simp -dsimp only [zrMark11, RB, TB, keep104, tab104, xindexAddr, xindex, xslice, xconvert, xlen, ewOp, FreeW, StabW, SameW, ChangeW, AddW, BaseW, limBytes, simprocAttr, ne_eq] | ((with_reducible refine Need.intro ?_ ?_); (first | trivial | exact ⟨_, rfl⟩ | exact ⟨[], (List.append_nil _).symm⟩ | omega | (simp; done) | (simp; omega) | exact ⟨by first | trivial | (simp; done), _, by first | rfl | (simp; rfl)⟩))))
  refine IfW.intro (fun h => ?_) (fun h => ?_)
  · have hlt := lt_of h
    have hsucc : origF text.length (runs.take (i + 1)) [] = origF text.length (runs.take i) [] ++ List.replicate (min runs[i].1.toNat (text.length - (origF text.length (runs.take i) []).length)) (near runs[i].2) := by
      rw [List.take_succ_eq_append_getElem hlt, origF_append]; rfl
    generalize origF text.length (runs.take i) [] = acc at *
    (repeat (first | simp -dsimp only [zrMark11, h, RB, TB, keep104, tab104, xindexAddr, xindex, xslice, xconvert, xlen, ewOp, FreeW, StabW, SameW, ChangeW, AddW, BaseW, limBytes, simprocAttr, ne_eq] | ((with_reducible refine Need.intro ?_ ?_); (first | trivial | exact ⟨_, rfl⟩ | exact ⟨[], (List.append_nil _).symm⟩ | omega | (simp; done) | (simp; omega) | exact ⟨by first | trivial | (simp; done), _, by first | rfl | (simp; rfl)⟩))))
    refine EWn.loopE (ι := (Nat) × (Nat)) (fun (x_ : (Nat) × (Nat)) => match x_ with | (k, ver) => k ≤ runs[i].1.toNat ∧ acc.length + k ≤ text.length) (fun (x_ : (Nat) × (Nat)) => match x_ with | (k, ver) => text.length - k) (fun (x_ : (Nat) × (Nat)) => match x_ with | (k, ver) => [(5, .int .i64 k), (3, .vec (H.length + 1) ver 0 (acc.length + k))]) (fun (x_ : (Nat) × (Nat)) => match x_ with | (k, ver) => H ++ [.var [.str text, .slice (runs.map runV)], .vec ver 2 ((text.zip (acc ++ List.replicate k (near runs[i].2))).map cV)]) (0, ver) ?_ ?_ ?_ ?_ ?_
    · first | rfl | simp [upd, eset]
    · first | rfl | (simp; done) | exact (set_same (by assumption)).symm
    · rintro ⟨k, ver⟩ hok; exact ⟨by first | (simp; done) | (simp; omega), by (simp (maxDischargeDepth := 6) [LTB, HLt_set, ltL_take, ltL_drop, ltL_rep, ltL_set, upd, eset, hH, hHk, zlMark11] <;> omega), by (simp (maxDischargeDepth := 6) [LTB, HLt_set, ltL_take, ltL_drop, ltL_rep, ltL_set, upd, eset, hH, hHk, zlMark11] <;> omega)⟩
    · omega
    rintro ⟨k, ver⟩ ⟨hk1, hk2⟩
    refine EWn.of_c Tok mixed (own := false) keep104 tab104 (by kernel_rfl) ?_
    (repeat (first | simp -dsimp only [zrMark11, at_map runV runs i hlt, runV, RB, TB, keep104, tab104, xindexAddr, xindex, xslice, xconvert, xlen, ewOp, FreeW, StabW, SameW, ChangeW, AddW, BaseW, limBytes, simprocAttr, ne_eq] | ((with_reducible refine Need.intro ?_ ?_); (first | trivial | exact ⟨_, rfl⟩ | exact ⟨[], (List.append_nil _).symm⟩ | omega | (simp; done) | (simp; omega) | exact ⟨by first | trivial | (simp; done), _, by first | rfl | (simp; rfl)⟩))))
    have hexit : (runs[i].1 ≤ k ∨ text.length ≤ acc.length + k) → origF text.length (runs.take (i + 1)) [] = acc ++ List.replicate k (near runs[i].2) := fun h => by rw [hsucc]; congr 2; omega
    refine IfW.intro (fun hc => ?_) (fun hc => ?_)
    · have hc1 := of_decide_eq_true hc
      (repeat (first | simp -dsimp only [zrMark11, hc, RB, TB, keep104, tab104, xindexAddr, xindex, xslice, xconvert, xlen, ewOp, FreeW, StabW, SameW, ChangeW, AddW, BaseW, limBytes, simprocAttr, ne_eq] | ((with_reducible refine Need.intro ?_ ?_); (first | trivial | exact ⟨_, rfl⟩ | exact ⟨[], (List.append_nil _).symm⟩ | omega | (simp; done) | (simp; omega) | exact ⟨by first | trivial | (simp; done), _, by first | rfl | (simp; rfl)⟩))))
      refine IfW.intro (fun hd => ?_) (fun hd => ?_)
      · have hd1 : acc.length + k < text.length := by have := of_decide_eq_true hd; omega
        have hidx : text.getD (acc.length + k) 0 = text[acc.length + k] := by simp [hd1]
        (repeat (first | simp -dsimp only [zrMark11, hc, hd, at_map runV runs i hlt, runV, hidx, RB, TB, keep104, tab104, xindexAddr, xindex, xslice, xconvert, xlen, ewOp, FreeW, StabW, SameW, ChangeW, AddW, BaseW, limBytes, simprocAttr, ne_eq] | ((with_reducible refine Need.intro ?_ ?_); (first | trivial | exact ⟨_, rfl⟩ | exact ⟨[], (List.append_nil _).symm⟩ | omega | (simp; done) | (simp; omega) | exact ⟨by first | trivial | (simp; done), _, by first | rfl | (simp; rfl)⟩))))
        (first | refine SCall.then (rnear _ _) ?_ | refine SCall.thenA (rnear _ _) (by repeat (first | exact trivial | exact .inl (.inl rfl) | exact .inl (.inr ⟨_, rfl, rfl⟩) | exact .inl rfl | exact .inr ⟨_, rfl, rfl⟩ | refine .inr ⟨_, _, rfl, rfl, ?_⟩ | refine ⟨?_, ?_⟩)) ?_ | refine CallE.intro _ (rnear _ _) ?_ | refine CallE.introA (rnear _ _) (by repeat (first | exact trivial | exact .inl (.inl rfl) | exact .inl (.inr ⟨_, rfl, rfl⟩) | exact .inl rfl | exact .inr ⟨_, rfl, rfl⟩ | refine .inr ⟨_, _, rfl, rfl, ?_⟩ | refine ⟨?_, ?_⟩)) ?_ | refine CallE.intro _ (fun _ => rnear _ _) ?_ | refine CallE.intro _ (fun _ => SCall.arg (by repeat (first | exact trivial | exact .inl (.inl rfl) | exact .inl (.inr ⟨_, rfl, rfl⟩) | exact .inl rfl | exact .inr ⟨_, rfl, rfl⟩ | refine .inr ⟨_, _, rfl, rfl, ?_⟩ | refine ⟨?_, ?_⟩)) (rnear _ _)) ?_ | refine CallE2.intro _ _ (rnear _ _) ?_ | refine CallE2.intro _ _ (SCall.arg (by repeat (first | exact trivial | exact .inl (.inl rfl) | exact .inl (.inr ⟨_, rfl, rfl⟩) | exact .inl rfl | exact .inr ⟨_, rfl, rfl⟩ | refine .inr ⟨_, _, rfl, rfl, ?_⟩ | refine ⟨?_, ?_⟩)) (rnear _ _)) ?_)
        (repeat (first | simp -dsimp only [zrMark11, RB, TB, keep104, tab104, xindexAddr, xindex, xslice, xconvert, xlen, ewOp, FreeW, StabW, SameW, ChangeW, AddW, BaseW, limBytes, simprocAttr, ne_eq] | ((with_reducible refine Need.intro ?_ ?_); (first | trivial | exact ⟨_, rfl⟩ | exact ⟨[], (List.append_nil _).symm⟩ | omega | (simp; done) | (simp; omega) | exact ⟨by first | trivial | (simp; done), _, by first | rfl | (simp; rfl)⟩))))
        rw [wrapI (by omega)]
        have hz := zip_snoc (t := text) (acc := acc ++ List.replicate k (near runs[i].2)) (near runs[i].2) (by simpa using hd1)
        have hr : acc ++ List.replicate k (near runs[i].2) ++ [near runs[i].2] = acc ++ List.replicate (k + 1) (near runs[i].2) := by rw [List.append_assoc, ← List.replicate_succ']
        rw [hr] at hz
        refine UpTo.here ⟨(k + 1, ver + 1), ⟨by omega, by omega⟩, by simp only; omega, by simp [upd, eset] <;> omega, ⟨[], ?_⟩⟩
        simp only [hz]
        first | (simp [cV, vb]; done) | (simp [cV, vb, hd1]; done)
      · have hd1 : text.length ≤ acc.length + k := by have := of_decide_eq_false hd; omega
        have hx := hexit (.inr hd1)
        (repeat (first | simp -dsimp only [zrMark11, hc, hd, RB, TB, keep104, tab104, xindexAddr, xindex, xslice, xconvert, xlen, ewOp, FreeW, StabW, SameW, ChangeW, AddW, BaseW, limBytes, simprocAttr, ne_eq] | ((with_reducible refine Need.intro ?_ ?_); (first | trivial | exact ⟨_, rfl⟩ | exact ⟨[], (List.append_nil _).symm⟩ | omega | (simp; done) | (simp; omega) | exact ⟨by first | trivial | (simp; done), _, by first | rfl | (simp; rfl)⟩))))
        rw [wrapI (by omega)]
        refine UpTo.here ⟨(i + 1, ver), hlt, by simp only; omega, by simp only [hx]; simp [upd, eset], ⟨[], by simp only [hx]; simp⟩⟩
    · have hc1 := of_decide_eq_false hc
      have hx := hexit (.inl (by omega))
      (repeat (first | simp -dsimp only [zrMark11, hc, RB, TB, keep104, tab104, xindexAddr, xindex, xslice, xconvert, xlen, ewOp, FreeW, StabW, SameW, ChangeW, AddW, BaseW, limBytes, simprocAttr, ne_eq] | ((with_reducible refine Need.intro ?_ ?_); (first | trivial | exact ⟨_, rfl⟩ | exact ⟨[], (List.append_nil _).symm⟩ | omega | (simp; done) | (simp; omega) | exact ⟨by first | trivial | (simp; done), _, by first | rfl | (simp; rfl)⟩))))
      rw [wrapI (by omega)]
      refine UpTo.here ⟨(i + 1, ver), hlt, by simp only; omega, by simp only [hx]; simp [upd, eset], ⟨[], by simp only [hx]; simp⟩⟩
  · have hi2 : i = runs.length := Nat.le_antisymm hi (ge_of h)
    subst hi2
    rw [List.take_length] at hacc ⊢
    have horig : orig ⟨text, runs⟩ = origF text.length runs [] ++ List.replicate (text.length - (origF text.length runs []).length) 65536 := rfl
    generalize origF text.length runs [] = acc at *
    (repeat (first | simp -dsimp only [zrMark11, h, RB, TB, keep104, tab104, xindexAddr, xindex, xslice, xconvert, xlen, ewOp, FreeW, StabW, SameW, ChangeW, AddW, BaseW, limBytes, simprocAttr, ne_eq] | ((with_reducible refine Need.intro ?_ ?_); (first | trivial | exact ⟨_, rfl⟩ | exact ⟨[], (List.append_nil _).symm⟩ | omega | (simp; done) | (simp; omega) | exact ⟨by first | trivial | (simp; done), _, by first | rfl | (simp; rfl)⟩))))
    refine EWn.ghost (Gho.restr [1, 3]) ?_
    simp only [RB, limBytes, simprocAttr, ne_eq]
    refine EWn.loopE (ι := (Nat) × (Nat)) (fun (x_ : (Nat) × (Nat)) => match x_ with | (k, ver) => acc.length + k ≤ text.length) (fun (x_ : (Nat) × (Nat)) => match x_ with | (k, ver) => text.length - k) (fun (x_ : (Nat) × (Nat)) => match x_ with | (k, ver) => [(3, .vec (H.length + 1) ver 0 (acc.length + k))]) (fun (x_ : (Nat) × (Nat)) => match x_ with | (k, ver) => H ++ [.var [.str text, .slice (runs.map runV)], .vec ver 2 ((text.zip (acc ++ List.replicate k 65536)).map cV)]) (0, ver) ?_ ?_ ?_ ?_ ?_
    · first | rfl | simp [upd, eset]
    · first | rfl | (simp; done) | exact (set_same (by assumption)).symm
    · rintro ⟨k, ver⟩ hok; exact ⟨by first | (simp; done) | (simp; omega), by (simp (maxDischargeDepth := 6) [LTB, HLt_set, ltL_take, ltL_drop, ltL_rep, ltL_set, upd, eset, hH, hHk, zlMark11] <;> omega), by (simp (maxDischargeDepth := 6) [LTB, HLt_set, ltL_take, ltL_drop, ltL_rep, ltL_set, upd, eset, hH, hHk, zlMark11] <;> omega)⟩
    · omega
    rintro ⟨k, ver⟩ hk2
    refine EWn.of_c Tok mixed (own := false) keep104 tab104 (by kernel_rfl) ?_
    (repeat (first | simp -dsimp only [zrMark11, RB, TB, keep104, tab104, xindexAddr, xindex, xslice, xconvert, xlen, ewOp, FreeW, StabW, SameW, ChangeW, AddW, BaseW, limBytes, simprocAttr, ne_eq] | ((with_reducible refine Need.intro ?_ ?_); (first | trivial | exact ⟨_, rfl⟩ | exact ⟨[], (List.append_nil _).symm⟩ | omega | (simp; done) | (simp; omega) | exact ⟨by first | trivial | (simp; done), _, by first | rfl | (simp; rfl)⟩))))
    refine IfW.intro (fun hd => ?_) (fun hd => ?_)
    · have hd1 : acc.length + k < text.length := by have := of_decide_eq_true hd; omega
      have hidx : text.getD (acc.length + k) 0 = text[acc.length + k] := by simp [hd1]
      (repeat (first | simp -dsimp only [zrMark11, hd, hidx, RB, TB, keep104, tab104, xindexAddr, xindex, xslice, xconvert, xlen, ewOp, FreeW, StabW, SameW, ChangeW, AddW, BaseW, limBytes, simprocAttr, ne_eq] | ((with_reducible refine Need.intro ?_ ?_); (first | trivial | exact ⟨_, rfl⟩ | exact ⟨[], (List.append_nil _).symm⟩ | omega | (simp; done) | (simp; omega) | exact ⟨by first | trivial | (simp; done), _, by first | rfl | (simp; rfl)⟩))))
      have hz := zip_snoc (t := text) (acc := acc ++ List.replicate k 65536) 65536 (by simpa using hd1)
      have hr : acc ++ List.replicate k (65536 : Int) ++ [65536] = acc ++ List.replicate (k + 1) 65536 := by rw [List.append_assoc, ← List.replicate_succ']
      rw [hr] at hz
      refine UpTo.here ⟨(k + 1, ver + 1), by simp only; omega, by simp only; omega, by simp [upd, eset] <;> omega, ⟨[], ?_⟩⟩
      simp only [hz]
      first | (simp [cV, vb]; done) | (simp [cV, vb, hd1]; done)
    · have hd1 : text.length ≤ acc.length + k := by have := of_decide_eq_false hd; omega
      (repeat (first | simp -dsimp only [zrMark11, hd, RB, TB, keep104, tab104, xindexAddr, xindex, xslice, xconvert, xlen, ewOp, FreeW, StabW, SameW, ChangeW, AddW, BaseW, limBytes, simprocAttr, ne_eq] | ((with_reducible refine Need.intro ?_ ?_); (first | trivial | exact ⟨_, rfl⟩ | exact ⟨[], (List.append_nil _).symm⟩ | omega | (simp; done) | (simp; omega) | exact ⟨by first | trivial | (simp; done), _, by first | rfl | (simp; rfl)⟩))))
      have hk3 : k = text.length - acc.length := by omega
      subst hk3
      have hol := orig_len ⟨text, runs⟩
      refine RetW.auto0 false _ (by first | rfl | exact (List.append_nil _).symm) ?_ ?_
      · (simp (maxDischargeDepth := 6) [LTB, HLt_set, ltL_take, ltL_drop, ltL_rep, ltL_set, upd, eset, hH, hHk, zlMark11] <;> omega)
      (try simp only [wk, wk1, wk0, RB, limBytes, simprocAttr, ne_eq])
      (try (rw [List.take_of_length_le]; rotate_left 1; (· first | (simp; done) | (simp; omega) | omega)))
      simp [ofS, horig] <;> omega
end Go.Proofs.Ytjplgbalpnlanaa

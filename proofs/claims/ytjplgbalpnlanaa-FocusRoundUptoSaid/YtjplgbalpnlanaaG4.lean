import Derived.Test.YtjplgbalpnlanaaG3
import Derived.Laws.Externs
/- The walks of package mark, and of the reference's texts: near, put, Of, Fix, Same; Of, Same. -/
set_option maxHeartbeats 600000
set_option linter.unusedSimpArgs false
set_option linter.unusedVariables false
set_option maxRecDepth 100000
namespace Go.Proofs.Ytjplgbalpnlanaa
open Go Go.EL
theorem zrMark11 : type_of% (And.intro (And.intro (And.intro (@st_run) (And.intro (@sz_run) (@st1_run))) (And.intro (@cl_run) (And.intro (@st_Str) (@sz_Str)))) (And.intro (And.intro (@st1_Str) (And.intro (@cl_Str) (@st_c))) (And.intro (@sz_c) (And.intro (@st1_c) (@cl_c))))) := And.intro (And.intro (And.intro (@st_run) (And.intro (@sz_run) (@st1_run))) (And.intro (@cl_run) (And.intro (@st_Str) (@sz_Str)))) (And.intro (And.intro (@st1_Str) (And.intro (@cl_Str) (@st_c))) (And.intro (@sz_c) (And.intro (@st1_c) (@cl_c))))
theorem zlMark11 : type_of% (And.intro (And.intro (And.intro (@lt_vi) (And.intro (@lt_str) (@lt_vb))) (And.intro (And.intro (@ltc_str) (@ltc_vi)) (And.intro (@lt_run) (@lt1_run)))) (And.intro (And.intro (@ltc_run) (And.intro (@lt_Str) (@lt1_Str))) (And.intro (And.intro (@ltc_Str) (@lt_c)) (And.intro (@lt1_c) (@ltc_c))))) := And.intro (And.intro (And.intro (@lt_vi) (And.intro (@lt_str) (@lt_vb))) (And.intro (And.intro (@ltc_str) (@ltc_vi)) (And.intro (@lt_run) (@lt1_run)))) (And.intro (And.intro (@ltc_run) (And.intro (@lt_Str) (@lt1_Str))) (And.intro (And.intro (@ltc_Str) (@lt_c)) (And.intro (@lt1_c) (@ltc_c))))
theorem mnear (H : List Ob) (o : Int) : SCall Try.prog 110 [.int .i64 o] H (fun r H' => r = .int .i64 (near o) ∧ H' = H) := by
  refine SCall.of_good fun hH => ?_
  have hHk := HLt.add hH
  refine SCall.of_code Tok Try.func110 rfl Try.call110 (n := 6) rfl (by simp) (rs := [.tmp 2]) rfl ?_
  refine EWn.to ?_
  refine EWn.of_c Tok mixed (own := false) keep110 tab110 (by kernel_rfl) ?_
  (repeat simp -dsimp only [zrMark11, RB, TB, keep110, tab110, xindexAddr, xindex, xslice, xconvert, xlen, ewOp, FreeW, StabW, SameW, ChangeW, AddW, BaseW, limBytes, simprocAttr, ne_eq])
  refine RetW.auto0 false _ (by first | rfl | exact (List.append_nil _).symm) ?_ ?_
  · (simp (maxDischargeDepth := 6) [LTB, HLt_set, ltL_take, ltL_drop, ltL_rep, ltL_set, upd, eset, hH, hHk, zlMark11] <;> omega)
  (try simp only [wk, wk1, wk0, RB, limBytes, simprocAttr, ne_eq])
  skip
  simp [near]
/-- does the row grow? -/
def grewR (l : List (Int × Int)) (n o : Int) : Nat := if n < 1 then 0 else match l.getLast? with
  | none => 1
  | some (_, o') => if o' = o then 0 else 1
theorem mput (H : List Ob) (l : List (Int × Int)) (n og : Int) (o ver : Nat) (ho : H[o]? = some (.vec ver 2 (l.map runV))) (hl : l.length ≤ 1000000000000) (hb : ∀ p ∈ l, 0 ≤ p.1 ∧ p.1 ≤ 1000000000000) (hn : n ≤ 1000000000000) :
    SCall Try.prog 109 [.vec o ver 0 l.length, .int .i64 n, .int .i64 og] H (fun r H' => r = .vec o (ver + grewR l n og) 0 (putR l n og).length ∧ H' = H.set o (.vec (ver + grewR l n og) 2 ((putR l n og).map runV))) := by
  have holt := lt_of_get ho
  have hll := lt_run H.length l
  refine SCall.of_good fun hH => ?_
  have hHk := HLt.add hH
  refine SCall.of_code Tok Try.func109 rfl Try.call109 (n := 42) rfl (by simp) (rs := [.tmp 6]) rfl ?_
  refine EWn.to ?_
  refine EWn.of_c Tok mixed (own := false) keep109 tab109 (by kernel_rfl) ?_
  (repeat simp -dsimp only [zrMark11, ho, RB, TB, keep109, tab109, xindexAddr, xindex, xslice, xconvert, xlen, ewOp, FreeW, StabW, SameW, ChangeW, AddW, BaseW, limBytes, simprocAttr, ne_eq])
  rw [wrapI (by omega)]
  refine IfW.intro (fun h => ?_) (fun h => ?_)
  · have h1 : n < 1 := of_decide_eq_true h
    (repeat simp -dsimp only [zrMark11, h, RB, TB, keep109, tab109, xindexAddr, xindex, xslice, xconvert, xlen, ewOp, FreeW, StabW, SameW, ChangeW, AddW, BaseW, limBytes, simprocAttr, ne_eq])
    refine RetW.keep false (by first | exact Nat.le_refl _ | simp) ?_ ?_ ?_
    · (simp (maxDischargeDepth := 6) [LTB, HLt_set, ltL_take, ltL_drop, ltL_rep, ltL_set, upd, eset, hH, hHk, zlMark11] <;> omega)
    · (simp (maxDischargeDepth := 6) [LTB, HLt_set, ltL_take, ltL_drop, ltL_rep, ltL_set, upd, eset, hH, hHk, zlMark11] <;> omega)
    (try simp only [wk, wk1, wk0, RB, limBytes, simprocAttr, ne_eq])
    have : ¬ H.length ≤ o := by omega
    simp [grewR, putR, h1, this, set_same ho]
  have h1 : ¬ n < 1 := of_decide_eq_false h
  (repeat simp -dsimp only [zrMark11, h, RB, TB, keep109, tab109, xindexAddr, xindex, xslice, xconvert, xlen, ewOp, FreeW, StabW, SameW, ChangeW, AddW, BaseW, limBytes, simprocAttr, ne_eq])
  have hnl : ¬ H.length ≤ o := by omega
  rcases List.eq_nil_or_concat l with hl0 | ⟨ys, ⟨k, o'⟩, hl0⟩
  · subst hl0
    (repeat (first | simp -dsimp only [zrMark11, ho, show (decide (((0 : Nat) : Int) - 1 ≥ 0)) = false from by decide, RB, TB, keep109, tab109, xindexAddr, xindex, xslice, xconvert, xlen, ewOp, FreeW, StabW, SameW, ChangeW, AddW, BaseW, limBytes, simprocAttr, ne_eq] | ((with_reducible refine Need.intro ?_ ?_); (trivial))))
    refine RetW.keep false (by first | exact Nat.le_refl _ | simp) ?_ ?_ ?_
    · (simp (maxDischargeDepth := 6) [LTB, HLt_set, ltL_take, ltL_drop, ltL_rep, ltL_set, upd, eset, hH, hHk, zlMark11] <;> omega)
    · (simp (maxDischargeDepth := 6) [LTB, HLt_set, ltL_take, ltL_drop, ltL_rep, ltL_set, upd, eset, hH, hHk, zlMark11] <;> omega)
    (try simp only [wk, wk1, wk0, RB, limBytes, simprocAttr, ne_eq])
    simp [grewR, putR, h1, hnl, runV]
  · rw [List.concat_eq_append] at hl0
    subst hl0
    have hlast : (ys ++ [(k, o')]).length = ys.length + 1 := by simp
    have hk := hb (k, o') (by simp)
    simp only at hk
    have hidx : ys.length < (ys ++ [(k, o')]).length := by simp
    have e0 : ((ys ++ [(k, o')]).length : Int) - 1 = (ys.length : Int) := by simp
    have hat := at_map runV (ys ++ [(k, o')]) ys.length hidx
    have hel : (ys ++ [(k, o')])[ys.length] = (k, o') := by simp
    rw [e0]
    generalize hL : ys ++ [(k, o')] = L at *
    (repeat (first | simp -dsimp only [zrMark11, ho, show (decide ((ys.length : Int) ≥ 0)) = true from by simp, hat, hel, runV, RB, TB, keep109, tab109, xindexAddr, xindex, xslice, xconvert, xlen, ewOp, FreeW, StabW, SameW, ChangeW, AddW, BaseW, limBytes, simprocAttr, ne_eq] | ((with_reducible refine Need.intro ?_ ?_); (first | trivial | omega))))
    refine IfW.intro (fun h2 => ?_) (fun h2 => ?_)
    · have h2' : o' = og := by simpa using h2
      (repeat (first | simp -dsimp only [zrMark11, h2, ho, hat, hel, runV, RB, TB, keep109, tab109, xindexAddr, xindex, xslice, xconvert, xlen, ewOp, FreeW, StabW, SameW, ChangeW, AddW, BaseW, limBytes, simprocAttr, ne_eq] | ((with_reducible refine Need.intro ?_ ?_); (first | trivial | omega))))
      have hgl : L.getLast? = some (k, o') := by rw [← hL]; simp
      have hp : putR L n og = ys ++ [(k + n, og)] := by unfold putR; rw [if_neg h1, hgl, ← hL]; simp [h2']
      have hg : grewR L n og = 0 := by unfold grewR; rw [if_neg h1, hgl]; simp [h2']
      rw [wrapI (by omega), hp, hg]
      refine RetW.keep false (by simp) ?_ ?_ ?_
      · rw [List.length_set]; exact HLt_set hH (by simp only [Ob.lt, ltL_iff]; intro x hx; rcases List.mem_or_eq_of_mem_set hx with hx | rfl; exact ltL_iff.1 hll x hx; simp [V.lt, ltL])
      · intro h; exact absurd (by simpa using h) hnl
      · have hlen : L.length = (ys ++ [(k + n, og)]).length := by rw [← hL]; simp
        have hset : (L.map runV).set ys.length (V.agg [V.int .i64 (k + n), V.int .i64 o']) = (ys ++ [(k + n, og)]).map runV := by
          rw [← hL, List.map_append, List.set_append_right _ _ (by simp)]
          simp [runV, h2']
        rw [hset]
        simp [wk, wk1, wk0, hnl, hlen]
    · have h2' : ¬ o' = og := by simpa using h2
      (repeat (first | simp -dsimp only [zrMark11, h2, ho, hat, hel, runV, RB, TB, keep109, tab109, xindexAddr, xindex, xslice, xconvert, xlen, ewOp, FreeW, StabW, SameW, ChangeW, AddW, BaseW, limBytes, simprocAttr, ne_eq] | ((with_reducible refine Need.intro ?_ ?_); (first | trivial | omega))))
      have hgl : L.getLast? = some (k, o') := by rw [← hL]; simp
      have hp : putR L n og = L ++ [(n, og)] := by unfold putR; rw [if_neg h1, hgl]; simp [h2']
      have hg : grewR L n og = 1 := by unfold grewR; rw [if_neg h1, hgl]; simp [h2']
      rw [hp, hg]
      refine RetW.keep false (by simp) ?_ ?_ ?_
      · rw [List.length_set]; exact HLt_set hH (by simp [Ob.lt, ltL_append, hll, ltL, V.lt])
      · intro h; exact absurd (by simpa using h) hnl
      · simp [wk, wk1, wk0, hnl, runV]
/-- put upon nothing -/
theorem mput_nil (H : List Ob) (n : Nat) (og : Int) : SCall Try.prog 109 [.fslice [], .int .i64 n, .int .i64 og] H (fun r H' => r = .slice ((rle (List.replicate n og)).map runV) ∧ H' = H) := by
  refine SCall.of_good fun hH => ?_
  have hHk := HLt.add hH
  refine SCall.of_code Tok Try.func109 rfl Try.call109 (n := 42) rfl (by simp) (rs := [.tmp 6]) rfl ?_
  refine EWn.to ?_
  refine EWn.of_c Tok mixed (own := false) keep109 tab109 (by kernel_rfl) ?_
  (repeat simp -dsimp only [zrMark11, RB, TB, keep109, tab109, xindexAddr, xindex, xslice, xconvert, xlen, ewOp, FreeW, StabW, SameW, ChangeW, AddW, BaseW, limBytes, simprocAttr, ne_eq])
  refine IfW.intro (fun h => ?_) (fun h => ?_)
  · have h1 : n = 0 := by have := of_decide_eq_true h; omega
    subst h1
    (repeat simp -dsimp only [zrMark11, h, RB, TB, keep109, tab109, xindexAddr, xindex, xslice, xconvert, xlen, ewOp, FreeW, StabW, SameW, ChangeW, AddW, BaseW, limBytes, simprocAttr, ne_eq])
    refine RetW.auto0 false _ (by first | rfl | exact (List.append_nil _).symm) ?_ ?_
    · (simp (maxDischargeDepth := 6) [LTB, HLt_set, ltL_take, ltL_drop, ltL_rep, ltL_set, upd, eset, hH, hHk, zlMark11] <;> omega)
    (try simp only [wk, wk1, wk0, RB, limBytes, simprocAttr, ne_eq])
    skip
    simp [rle]
  · have h1 : n ≠ 0 := by have := of_decide_eq_false h; omega
    (repeat (first | simp -dsimp only [zrMark11, h, RB, TB, keep109, tab109, xindexAddr, xindex, xslice, xconvert, xlen, ewOp, FreeW, StabW, SameW, ChangeW, AddW, BaseW, limBytes, simprocAttr, ne_eq] | ((with_reducible refine Need.intro ?_ ?_); (trivial))))
    refine RetW.auto0 false _ (by first | rfl | exact (List.append_nil _).symm) ?_ ?_
    · (simp (maxDischargeDepth := 6) [LTB, HLt_set, ltL_take, ltL_drop, ltL_rep, ltL_set, upd, eset, hH, hHk, zlMark11] <;> omega)
    (try simp only [wk, wk1, wk0, RB, limBytes, simprocAttr, ne_eq])
    skip
    simp [rle_rep, h1, runV]
theorem mOf (H : List Ob) (t : List UInt8) (o : Int) : SCall Try.prog 38 [.str t, .int .i64 o] H (fun r H' => r = strV ⟨t, rle (List.replicate t.length (near o))⟩ ∧ H' = H) := by
  refine SCall.of_good fun hH => ?_
  have hHk := HLt.add hH
  refine SCall.of_code Tok Try.func38 rfl Try.call38 (n := 12) rfl (by simp) (rs := [.cell 4 30]) rfl ?_
  refine EWn.to ?_
  refine EWn.of_c Tok mixed (own := false) keep38 tab38 (by kernel_rfl) ?_
  (repeat simp -dsimp only [zrMark11, RB, TB, keep38, tab38, xindexAddr, xindex, xslice, xconvert, xlen, ewOp, FreeW, StabW, SameW, ChangeW, AddW, BaseW, limBytes, simprocAttr, ne_eq])
  (refine SCall.then (mnear _ o) ?_)
  (repeat simp -dsimp only [zrMark11, RB, TB, keep38, tab38, xindexAddr, xindex, xslice, xconvert, xlen, ewOp, FreeW, StabW, SameW, ChangeW, AddW, BaseW, limBytes, simprocAttr, ne_eq])
  (refine SCall.then (mput_nil _ t.length (near o)) ?_)
  (repeat (first | simp -dsimp only [zrMark11, RB, TB, keep38, tab38, xindexAddr, xindex, xslice, xconvert, xlen, ewOp, FreeW, StabW, SameW, ChangeW, AddW, BaseW, limBytes, simprocAttr, ne_eq] | ((with_reducible refine Need.intro ?_ ?_); (trivial))))
  refine RetW.auto0 false _ (by first | rfl | exact (List.append_nil _).symm) ?_ ?_
  · (simp (maxDischargeDepth := 6) [LTB, HLt_set, ltL_take, ltL_drop, ltL_rep, ltL_set, upd, eset, hH, hHk, zlMark11] <;> omega)
  (try simp only [wk, wk1, wk0, RB, limBytes, simprocAttr, ne_eq])
  skip
  rfl
theorem mFix (H : List Ob) (s : Str) (hs : okS s) : SCall Try.prog 93 [strV s] H (fun r H' => r = strV (fixS s) ∧ H' = H) := by
  obtain ⟨text, runs⟩ := s
  obtain ⟨hs1, hs2⟩ := hs
  simp only at hs1 hs2
  unfold strV
  refine SCall.of_good fun hH => ?_
  have hHk := HLt.add hH
  refine SCall.of_code Tok Try.func93 rfl Try.call93 (n := 44) rfl (by simp) (rs := [.cell 2 30]) rfl ?_
  refine EWn.to ?_
  refine EWn.of_c Tok mixed (own := false) keep93 tab93 (by kernel_rfl) ?_
  (repeat (first | simp -dsimp only [zrMark11, RB, TB, keep93, tab93, xindexAddr, xindex, xslice, xconvert, xlen, ewOp, FreeW, StabW, SameW, ChangeW, AddW, BaseW, limBytes, simprocAttr, ne_eq] | ((with_reducible refine Need.intro ?_ ?_); (trivial))))
  refine EWn.ghost (Gho.adoptCell (H.length + 2) 1 2 (by simp only [RB, hget]; rfl) rfl (by simp)) ?_
  simp only [RB, limBytes, simprocAttr, ne_eq]
  refine EWn.loopE (ι := (Nat) × (Nat)) (fun (x_ : (Nat) × (Nat)) => match x_ with | (i, ver) => i ≤ runs.length) (fun (x_ : (Nat) × (Nat)) => match x_ with | (i, ver) => runs.length - i) (fun (x_ : (Nat) × (Nat)) => match x_ with | (i, ver) => [(4, .int .i64 ((text.length - (origF text.length (runs.take i) []).length : Nat) : Int)), (17, .int .i64 i)]) (fun (x_ : (Nat) × (Nat)) => match x_ with | (i, ver) => H ++ [.var [.str text, .slice (runs.map runV)], .var [.str [], .fslice []], .var [.str text, .vec (H.length + 3) ver 0 (rle (origF text.length (runs.take i) [])).length], .vec ver 2 ((rle (origF text.length (runs.take i) [])).map runV)]) (0, 1) ?_ ?_ ?_ ?_ ?_
  · first | rfl | (simp [upd, eset]; done) | (simp [upd, eset, origF, rle]; done)
  · simp [origF, rle]
  · rintro ⟨i, ver⟩ hok; exact ⟨by first | (simp; done) | (simp; omega), by (simp (maxDischargeDepth := 6) [LTB, HLt_set, ltL_take, ltL_drop, ltL_rep, ltL_set, upd, eset, hH, hHk, zlMark11] <;> omega), by (simp (maxDischargeDepth := 6) [LTB, HLt_set, ltL_take, ltL_drop, ltL_rep, ltL_set, upd, eset, hH, hHk, zlMark11] <;> omega)⟩
  · omega
  rintro ⟨i, ver⟩ hi
  have hacc := (origF_len text.length (runs.take i) [] (Nat.zero_le _)).1
  refine EWn.of_c Tok mixed (own := false) keep93 tab93 (by kernel_rfl) ?_
  (repeat simp -dsimp only [zrMark11, RB, TB, keep93, tab93, xindexAddr, xindex, xslice, xconvert, xlen, ewOp, FreeW, StabW, SameW, ChangeW, AddW, BaseW, limBytes, simprocAttr, ne_eq])
  refine IfW.intro (fun h => ?_) (fun h => ?_)
  · have hlt := lt_of h
    have hsucc : origF text.length (runs.take (i + 1)) [] = origF text.length (runs.take i) [] ++ List.replicate (min runs[i].1.toNat (text.length - (origF text.length (runs.take i) []).length)) (near runs[i].2) := by
      rw [List.take_succ_eq_append_getElem hlt, origF_append]; rfl
    have hacc2 := (origF_len text.length (runs.take (i + 1)) [] (Nat.zero_le _)).1
    generalize origF text.length (runs.take i) [] = acc at *
    generalize hk : min runs[i].1.toNat (text.length - acc.length) = k at *
    have hmin : min (max runs[i].1 0) ((text.length - acc.length : Nat) : Int) = (k : Int) := by omega
    have hrl := rle_len acc
    have hrb : ∀ p ∈ rle acc, 0 ≤ p.1 ∧ p.1 ≤ 1000000000000 := fun p hp => by have := rle_bound hp; omega
    (repeat (first | simp -dsimp only [zrMark11, h, at_map runV runs i hlt, runV, hmin, RB, TB, keep93, tab93, xindexAddr, xindex, xslice, xconvert, xlen, ewOp, FreeW, StabW, SameW, ChangeW, AddW, BaseW, limBytes, simprocAttr, ne_eq] | ((with_reducible refine Need.intro ?_ ?_); (omega))))
    (refine CallE.intro _ (mnear _ _) ?_)
    skip
    (refine CallE2.intro _ _ (mput _ (rle acc) k (near runs[i].2) (H.length + 3) ver (by simp only [RB, hget]) (by omega) hrb (by omega)) ?_)
    (repeat simp -dsimp only [zrMark11, RB, TB, keep93, tab93, xindexAddr, xindex, xslice, xconvert, xlen, ewOp, FreeW, StabW, SameW, ChangeW, AddW, BaseW, limBytes, simprocAttr, ne_eq])
    have hk2 : k ≤ text.length - acc.length := by omega
    have hput : putR (rle acc) k (near runs[i].2) = rle (acc ++ List.replicate k (near runs[i].2)) := (rle_append _ _ _).symm
    rw [hput]
    rw [wrapI (by omega), wrapI (by omega)]
    refine UpTo.here ⟨(i + 1, ver + grewR (rle acc) k (near runs[i].2)), hlt, by simp only; omega, ?_, ⟨_, by simp only [hsucc]; simp; rfl⟩⟩
    simp only [hsucc]
    simp [upd, eset]
    omega
  · have hi2 : i = runs.length := Nat.le_antisymm hi (ge_of h)
    subst hi2
    rw [List.take_length] at hacc ⊢
    have horig : orig ⟨text, runs⟩ = origF text.length runs [] ++ List.replicate (text.length - (origF text.length runs []).length) 65536 := rfl
    generalize origF text.length runs [] = acc at *
    have hrl := rle_len acc
    have hrb : ∀ p ∈ rle acc, 0 ≤ p.1 ∧ p.1 ≤ 1000000000000 := fun p hp => by have := rle_bound hp; omega
    (repeat simp -dsimp only [zrMark11, h, RB, TB, keep93, tab93, xindexAddr, xindex, xslice, xconvert, xlen, ewOp, FreeW, StabW, SameW, ChangeW, AddW, BaseW, limBytes, simprocAttr, ne_eq])
    (refine SCall.then (mput _ (rle acc) ((text.length - acc.length : Nat) : Int) 65536 (H.length + 3) ver (by simp only [RB, hget]) (by omega) hrb (by omega)) ?_)
    (repeat simp -dsimp only [zrMark11, RB, TB, keep93, tab93, xindexAddr, xindex, xslice, xconvert, xlen, ewOp, FreeW, StabW, SameW, ChangeW, AddW, BaseW, limBytes, simprocAttr, ne_eq])
    rw [← rle_append]
    refine RetW.auto0 false _ (by first | rfl | exact (List.append_nil _).symm) ?_ ?_
    · (simp (maxDischargeDepth := 6) [LTB, HLt_set, ltL_take, ltL_drop, ltL_rep, ltL_set, upd, eset, hH, hHk, zlMark11] <;> omega)
    (try simp only [wk, wk1, wk0, RB, limBytes, simprocAttr, ne_eq])
    (try (rw [List.take_of_length_le]; rotate_left 1; (· first | (simp; done) | (simp; omega) | omega)))
    simp [strV, fixS, horig]
theorem rSame (H : List Ob) (l m : List (UInt8 × Int)) : SCall Try.prog 103 [.slice (l.map cV), .slice (m.map cV)] H (fun r H' => r = .bool (decide (l = m)) ∧ H' = H) := by
  refine SCall.sized 0 rfl fun hl => ?_
  rw [List.length_map, maxLen_eq] at hl
  refine SCall.of_good fun hH => ?_
  have hHk := HLt.add hH
  refine SCall.of_code Tok Try.func103 rfl Try.call103 (n := 26) rfl (by simp) (rs := [.tmp 4]) rfl ?_
  refine EWn.to ?_
  refine EWn.of_c Tok mixed (own := false) keep103 tab103 (by kernel_rfl) ?_
  (repeat simp -dsimp only [zrMark11, RB, TB, keep103, tab103, xindexAddr, xindex, xslice, xconvert, xlen, ewOp, FreeW, StabW, SameW, ChangeW, AddW, BaseW, limBytes, simprocAttr, ne_eq])
  refine IfW.intro (fun h => ?_) (fun h => ?_)
  rotate_left
  · (repeat simp -dsimp only [zrMark11, h, RB, TB, keep103, tab103, xindexAddr, xindex, xslice, xconvert, xlen, ewOp, FreeW, StabW, SameW, ChangeW, AddW, BaseW, limBytes, simprocAttr, ne_eq])
    refine RetW.auto0 false _ (by first | rfl | exact (List.append_nil _).symm) ?_ ?_
    · (simp (maxDischargeDepth := 6) [LTB, HLt_set, ltL_take, ltL_drop, ltL_rep, ltL_set, upd, eset, hH, hHk, zlMark11] <;> omega)
    (try simp only [wk, wk1, wk0, RB, limBytes, simprocAttr, ne_eq])
    skip
    have hlm : l ≠ m := by rintro rfl; simp at h
    simp [hlm]
  have hlm : l.length = m.length := by simp at h; omega
  (repeat simp -dsimp only [zrMark11, h, RB, TB, keep103, tab103, xindexAddr, xindex, xslice, xconvert, xlen, ewOp, FreeW, StabW, SameW, ChangeW, AddW, BaseW, limBytes, simprocAttr, ne_eq])
  refine EWn.loopE (ι := (Nat)) (fun (i : (Nat)) => i ≤ l.length ∧ l.take i = m.take i) (fun (i : (Nat)) => l.length - i) (fun (i : (Nat)) => [(5, .int .i64 i)]) (fun (i : (Nat)) => H) (0) ?_ ?_ ?_ ?_ ?_
  · first | rfl | simp [upd, eset]
  · first | rfl | (simp; done) | exact (set_same (by assumption)).symm
  · rintro i hok; exact ⟨by first | (simp; done) | (simp; omega), by (simp (maxDischargeDepth := 6) [LTB, HLt_set, ltL_take, ltL_drop, ltL_rep, ltL_set, upd, eset, hH, hHk, zlMark11] <;> omega), by (simp (maxDischargeDepth := 6) [LTB, HLt_set, ltL_take, ltL_drop, ltL_rep, ltL_set, upd, eset, hH, hHk, zlMark11] <;> omega)⟩
  · simp
  rintro i ⟨hi, hno⟩
  refine EWn.of_c Tok mixed (own := false) keep103 tab103 (by kernel_rfl) ?_
  (repeat simp -dsimp only [zrMark11, RB, TB, keep103, tab103, xindexAddr, xindex, xslice, xconvert, xlen, ewOp, FreeW, StabW, SameW, ChangeW, AddW, BaseW, limBytes, simprocAttr, ne_eq])
  refine IfW.intro (fun h1 => ?_) (fun h1 => ?_)
  · have hlt := lt_of h1
    have hlt' : i < m.length := by omega
    (repeat (first | simp -dsimp only [zrMark11, h1, at_map cV l i hlt, at_map cV m i hlt', cV, vb, RB, TB, keep103, tab103, xindexAddr, xindex, xslice, xconvert, xlen, ewOp, FreeW, StabW, SameW, ChangeW, AddW, BaseW, limBytes, simprocAttr, ne_eq] | ((with_reducible refine Need.intro ?_ ?_); (omega))))
    refine IfW.intro (fun hb => ?_) (fun hb => ?_)
    · (repeat simp -dsimp only [zrMark11, hb, RB, TB, keep103, tab103, xindexAddr, xindex, xslice, xconvert, xlen, ewOp, FreeW, StabW, SameW, ChangeW, AddW, BaseW, limBytes, simprocAttr, ne_eq])
      rw [wrapI (by omega)]
      have hb : l[i] = m[i] := by simp at hb; exact Prod.ext (UInt8.toNat_inj.1 (by omega)) hb.2
      refine UpTo.here ⟨(i + 1), ?_, by first | omega | (simp only [List.length_append, List.length_cons, List.length_nil]; omega), by simp [upd, eset], ⟨_, by simp; try rfl⟩⟩
      exact ⟨hlt, by rw [List.take_succ_eq_append_getElem hlt, List.take_succ_eq_append_getElem hlt', hno, hb]⟩
    · (repeat simp -dsimp only [zrMark11, hb, RB, TB, keep103, tab103, xindexAddr, xindex, xslice, xconvert, xlen, ewOp, FreeW, StabW, SameW, ChangeW, AddW, BaseW, limBytes, simprocAttr, ne_eq])
      refine RetW.auto0 false _ (by first | rfl | exact (List.append_nil _).symm) ?_ ?_
      · (simp (maxDischargeDepth := 6) [LTB, HLt_set, ltL_take, ltL_drop, ltL_rep, ltL_set, upd, eset, hH, hHk, zlMark11] <;> omega)
      (try simp only [wk, wk1, wk0, RB, limBytes, simprocAttr, ne_eq])
      skip
      have hlm : l ≠ m := by rintro rfl; simp at hb
      simp [hlm]
  · (repeat simp -dsimp only [zrMark11, h1, RB, TB, keep103, tab103, xindexAddr, xindex, xslice, xconvert, xlen, ewOp, FreeW, StabW, SameW, ChangeW, AddW, BaseW, limBytes, simprocAttr, ne_eq])
    have hge := ge_of h1
    rw [List.take_of_length_le hge, List.take_of_length_le (by omega)] at hno
    refine RetW.auto0 false _ (by first | rfl | exact (List.append_nil _).symm) ?_ ?_
    · (simp (maxDischargeDepth := 6) [LTB, HLt_set, ltL_take, ltL_drop, ltL_rep, ltL_set, upd, eset, hH, hHk, zlMark11] <;> omega)
    (try simp only [wk, wk1, wk0, RB, limBytes, simprocAttr, ne_eq])
    skip
    simp [hno]

theorem rnear (H : List Ob) (o : Int) : SCall Try.prog 159 [.int .i64 o] H (fun r H' => r = .int .i64 (near o) ∧ H' = H) := by
  refine SCall.of_good fun hH => ?_
  have hHk := HLt.add hH
  refine SCall.of_code Tok Try.func159 rfl Try.call159 (n := 6) rfl (by simp) (rs := [.tmp 2]) rfl ?_
  refine EWn.to ?_
  refine EWn.of_c Tok mixed (own := false) keep159 tab159 (by kernel_rfl) ?_
  (repeat simp -dsimp only [zrMark11, RB, TB, keep159, tab159, xindexAddr, xindex, xslice, xconvert, xlen, ewOp, FreeW, StabW, SameW, ChangeW, AddW, BaseW, limBytes, simprocAttr, ne_eq])
  refine RetW.auto0 false _ (by first | rfl | exact (List.append_nil _).symm) ?_ ?_
  · (simp (maxDischargeDepth := 6) [LTB, HLt_set, ltL_take, ltL_drop, ltL_rep, ltL_set, upd, eset, hH, hHk, zlMark11] <;> omega)
  (try simp only [wk, wk1, wk0, RB, limBytes, simprocAttr, ne_eq])
  skip
  simp [near]
theorem rOf (H : List Ob) (s : Str) (hs : okS s) : SCall Try.prog 104 [strV s] H (fun r H' => r = .slice ((ofS s).map cV) ∧ H' = H) := by
  obtain ⟨text, runs⟩ := s
  obtain ⟨hs1, hs2⟩ := hs
  simp only at hs1 hs2
  unfold strV
  refine SCall.of_good fun hH => ?_
  have hHk := HLt.add hH
  refine SCall.of_code Tok Try.func104 rfl Try.call104 (n := 63) rfl (by simp) (rs := [.tmp 2]) rfl ?_
  refine EWn.to ?_
  refine EWn.of_c Tok mixed (own := false) keep104 tab104 (by kernel_rfl) ?_
  (repeat simp -dsimp only [zrMark11, RB, TB, keep104, tab104, xindexAddr, xindex, xslice, xconvert, xlen, ewOp, FreeW, StabW, SameW, ChangeW, AddW, BaseW, limBytes, simprocAttr, ne_eq])
  refine EWn.ghost (Gho.adopt 3 2 rfl) ?_
  refine EWn.loopE (ι := (Nat) × (Nat)) (fun (x_ : (Nat) × (Nat)) => match x_ with | (i, ver) => i ≤ runs.length) (fun (x_ : (Nat) × (Nat)) => match x_ with | (i, ver) => runs.length - i) (fun (x_ : (Nat) × (Nat)) => match x_ with | (i, ver) => [(4, .int .i64 i), (3, .vec (H.length + 1) ver 0 (origF text.length (runs.take i) []).length)]) (fun (x_ : (Nat) × (Nat)) => match x_ with | (i, ver) => H ++ [.var [.str text, .slice (runs.map runV)], .vec ver 2 ((text.zip (origF text.length (runs.take i) [])).map cV)]) (0, 1) ?_ ?_ ?_ ?_ ?_
  · first | rfl | (simp [upd, eset]; done) | (simp [upd, eset, origF]; done)
  · simp [origF]
  · rintro ⟨i, ver⟩ hok; exact ⟨by first | (simp; done) | (simp; omega), by (simp (maxDischargeDepth := 6) [LTB, HLt_set, ltL_take, ltL_drop, ltL_rep, ltL_set, upd, eset, hH, hHk, zlMark11] <;> omega), by (simp (maxDischargeDepth := 6) [LTB, HLt_set, ltL_take, ltL_drop, ltL_rep, ltL_set, upd, eset, hH, hHk, zlMark11] <;> omega)⟩
  · omega
  rintro ⟨i, ver⟩ hi
  have hacc := (origF_len text.length (runs.take i) [] (Nat.zero_le _)).1
  refine EWn.of_c Tok mixed (own := false) keep104 tab104 (by kernel_rfl) ?_
  (repeat simp -dsimp only [zrMark11, RB, TB, keep104, tab104, xindexAddr, xindex, xslice, xconvert, xlen, ewOp, FreeW, StabW, SameW, ChangeW, AddW, BaseW, limBytes, simprocAttr, ne_eq])
  refine IfW.intro (fun h => ?_) (fun h => ?_)
  · have hlt := lt_of h
    have hsucc : origF text.length (runs.take (i + 1)) [] = origF text.length (runs.take i) [] ++ List.replicate (min runs[i].1.toNat (text.length - (origF text.length (runs.take i) []).length)) (near runs[i].2) := by
      rw [List.take_succ_eq_append_getElem hlt, origF_append]; rfl
    generalize origF text.length (runs.take i) [] = acc at *
    (repeat simp -dsimp only [zrMark11, h, RB, TB, keep104, tab104, xindexAddr, xindex, xslice, xconvert, xlen, ewOp, FreeW, StabW, SameW, ChangeW, AddW, BaseW, limBytes, simprocAttr, ne_eq])
    refine EWn.loopE (ι := (Nat) × (Nat)) (fun (x_ : (Nat) × (Nat)) => match x_ with | (k, ver) => k ≤ runs[i].1.toNat ∧ acc.length + k ≤ text.length) (fun (x_ : (Nat) × (Nat)) => match x_ with | (k, ver) => text.length - k) (fun (x_ : (Nat) × (Nat)) => match x_ with | (k, ver) => [(5, .int .i64 k), (3, .vec (H.length + 1) ver 0 (acc.length + k))]) (fun (x_ : (Nat) × (Nat)) => match x_ with | (k, ver) => H ++ [.var [.str text, .slice (runs.map runV)], .vec ver 2 ((text.zip (acc ++ List.replicate k (near runs[i].2))).map cV)]) (0, ver) ?_ ?_ ?_ ?_ ?_
    · first | rfl | simp [upd, eset]
    · first | rfl | (simp; done) | exact (set_same (by assumption)).symm
    · rintro ⟨k, ver⟩ hok; exact ⟨by first | (simp; done) | (simp; omega), by (simp (maxDischargeDepth := 6) [LTB, HLt_set, ltL_take, ltL_drop, ltL_rep, ltL_set, upd, eset, hH, hHk, zlMark11] <;> omega), by (simp (maxDischargeDepth := 6) [LTB, HLt_set, ltL_take, ltL_drop, ltL_rep, ltL_set, upd, eset, hH, hHk, zlMark11] <;> omega)⟩
    · omega
    rintro ⟨k, ver⟩ ⟨hk1, hk2⟩
    refine EWn.of_c Tok mixed (own := false) keep104 tab104 (by kernel_rfl) ?_
    (repeat (first | simp -dsimp only [zrMark11, at_map runV runs i hlt, runV, RB, TB, keep104, tab104, xindexAddr, xindex, xslice, xconvert, xlen, ewOp, FreeW, StabW, SameW, ChangeW, AddW, BaseW, limBytes, simprocAttr, ne_eq] | ((with_reducible refine Need.intro ?_ ?_); (omega))))
    have hexit : (runs[i].1 ≤ k ∨ text.length ≤ acc.length + k) → origF text.length (runs.take (i + 1)) [] = acc ++ List.replicate k (near runs[i].2) := fun h => by rw [hsucc]; congr 2; omega
    refine IfW.intro (fun hc => ?_) (fun hc => ?_)
    · have hc1 := of_decide_eq_true hc
      (repeat simp -dsimp only [zrMark11, hc, RB, TB, keep104, tab104, xindexAddr, xindex, xslice, xconvert, xlen, ewOp, FreeW, StabW, SameW, ChangeW, AddW, BaseW, limBytes, simprocAttr, ne_eq])
      refine IfW.intro (fun hd => ?_) (fun hd => ?_)
      · have hd1 : acc.length + k < text.length := by have := of_decide_eq_true hd; omega
        have hidx : text.getD (acc.length + k) 0 = text[acc.length + k] := by simp [hd1]
        (repeat (first | simp -dsimp only [zrMark11, hc, hd, at_map runV runs i hlt, runV, hidx, RB, TB, keep104, tab104, xindexAddr, xindex, xslice, xconvert, xlen, ewOp, FreeW, StabW, SameW, ChangeW, AddW, BaseW, limBytes, simprocAttr, ne_eq] | ((with_reducible refine Need.intro ?_ ?_); (omega))))
        (refine CallE.intro _ (rnear _ _) ?_)
        (repeat (first | simp -dsimp only [zrMark11, RB, TB, keep104, tab104, xindexAddr, xindex, xslice, xconvert, xlen, ewOp, FreeW, StabW, SameW, ChangeW, AddW, BaseW, limBytes, simprocAttr, ne_eq] | ((with_reducible refine Need.intro ?_ ?_); (first | trivial | (simp; omega)))))
        rw [wrapI (by omega)]
        have hz := zip_snoc (t := text) (acc := acc ++ List.replicate k (near runs[i].2)) (near runs[i].2) (by simpa using hd1)
        have hr : acc ++ List.replicate k (near runs[i].2) ++ [near runs[i].2] = acc ++ List.replicate (k + 1) (near runs[i].2) := by rw [List.append_assoc, ← List.replicate_succ']
        rw [hr] at hz
        refine UpTo.here ⟨(k + 1, ver + 1), ⟨by omega, by omega⟩, by simp only; omega, by simp [upd, eset] <;> omega, ⟨[], ?_⟩⟩
        simp only [hz]
        first | (simp [cV, vb]; done) | (simp [cV, vb, hd1]; done)
      · have hd1 : text.length ≤ acc.length + k := by have := of_decide_eq_false hd; omega
        have hx := hexit (.inr hd1)
        (repeat simp -dsimp only [zrMark11, hc, hd, RB, TB, keep104, tab104, xindexAddr, xindex, xslice, xconvert, xlen, ewOp, FreeW, StabW, SameW, ChangeW, AddW, BaseW, limBytes, simprocAttr, ne_eq])
        rw [wrapI (by omega)]
        refine UpTo.here ⟨(i + 1, ver), hlt, by simp only; omega, by simp only [hx]; simp [upd, eset], ⟨[], by simp only [hx]; simp⟩⟩
    · have hc1 := of_decide_eq_false hc
      have hx := hexit (.inl (by omega))
      (repeat simp -dsimp only [zrMark11, hc, RB, TB, keep104, tab104, xindexAddr, xindex, xslice, xconvert, xlen, ewOp, FreeW, StabW, SameW, ChangeW, AddW, BaseW, limBytes, simprocAttr, ne_eq])
      rw [wrapI (by omega)]
      refine UpTo.here ⟨(i + 1, ver), hlt, by simp only; omega, by simp only [hx]; simp [upd, eset], ⟨[], by simp only [hx]; simp⟩⟩
  · have hi2 : i = runs.length := Nat.le_antisymm hi (ge_of h)
    subst hi2
    rw [List.take_length] at hacc ⊢
    have horig : orig ⟨text, runs⟩ = origF text.length runs [] ++ List.replicate (text.length - (origF text.length runs []).length) 65536 := rfl
    generalize origF text.length runs [] = acc at *
    (repeat simp -dsimp only [zrMark11, h, RB, TB, keep104, tab104, xindexAddr, xindex, xslice, xconvert, xlen, ewOp, FreeW, StabW, SameW, ChangeW, AddW, BaseW, limBytes, simprocAttr, ne_eq])
    refine EWn.ghost (Gho.restr [1, 3]) ?_
    simp only [RB, limBytes, simprocAttr, ne_eq]
    refine EWn.loopE (ι := (Nat) × (Nat)) (fun (x_ : (Nat) × (Nat)) => match x_ with | (k, ver) => acc.length + k ≤ text.length) (fun (x_ : (Nat) × (Nat)) => match x_ with | (k, ver) => text.length - k) (fun (x_ : (Nat) × (Nat)) => match x_ with | (k, ver) => [(3, .vec (H.length + 1) ver 0 (acc.length + k))]) (fun (x_ : (Nat) × (Nat)) => match x_ with | (k, ver) => H ++ [.var [.str text, .slice (runs.map runV)], .vec ver 2 ((text.zip (acc ++ List.replicate k 65536)).map cV)]) (0, ver) ?_ ?_ ?_ ?_ ?_
    · first | rfl | simp [upd, eset]
    · first | rfl | (simp; done) | exact (set_same (by assumption)).symm
    · rintro ⟨k, ver⟩ hok; exact ⟨by first | (simp; done) | (simp; omega), by (simp (maxDischargeDepth := 6) [LTB, HLt_set, ltL_take, ltL_drop, ltL_rep, ltL_set, upd, eset, hH, hHk, zlMark11] <;> omega), by (simp (maxDischargeDepth := 6) [LTB, HLt_set, ltL_take, ltL_drop, ltL_rep, ltL_set, upd, eset, hH, hHk, zlMark11] <;> omega)⟩
    · omega
    rintro ⟨k, ver⟩ hk2
    refine EWn.of_c Tok mixed (own := false) keep104 tab104 (by kernel_rfl) ?_
    (repeat simp -dsimp only [zrMark11, RB, TB, keep104, tab104, xindexAddr, xindex, xslice, xconvert, xlen, ewOp, FreeW, StabW, SameW, ChangeW, AddW, BaseW, limBytes, simprocAttr, ne_eq])
    refine IfW.intro (fun hd => ?_) (fun hd => ?_)
    · have hd1 : acc.length + k < text.length := by have := of_decide_eq_true hd; omega
      have hidx : text.getD (acc.length + k) 0 = text[acc.length + k] := by simp [hd1]
      (repeat (first | simp -dsimp only [zrMark11, hd, hidx, RB, TB, keep104, tab104, xindexAddr, xindex, xslice, xconvert, xlen, ewOp, FreeW, StabW, SameW, ChangeW, AddW, BaseW, limBytes, simprocAttr, ne_eq] | ((with_reducible refine Need.intro ?_ ?_); (first | trivial | omega | (simp; omega)))))
      have hz := zip_snoc (t := text) (acc := acc ++ List.replicate k 65536) 65536 (by simpa using hd1)
      have hr : acc ++ List.replicate k (65536 : Int) ++ [65536] = acc ++ List.replicate (k + 1) 65536 := by rw [List.append_assoc, ← List.replicate_succ']
      rw [hr] at hz
      refine UpTo.here ⟨(k + 1, ver + 1), by simp only; omega, by simp only; omega, by simp [upd, eset] <;> omega, ⟨[], ?_⟩⟩
      simp only [hz]
      first | (simp [cV, vb]; done) | (simp [cV, vb, hd1]; done)
    · have hd1 : text.length ≤ acc.length + k := by have := of_decide_eq_false hd; omega
      (repeat simp -dsimp only [zrMark11, hd, RB, TB, keep104, tab104, xindexAddr, xindex, xslice, xconvert, xlen, ewOp, FreeW, StabW, SameW, ChangeW, AddW, BaseW, limBytes, simprocAttr, ne_eq])
      have hk3 : k = text.length - acc.length := by omega
      subst hk3
      have hol := orig_len ⟨text, runs⟩
      refine RetW.auto0 false _ (by first | rfl | exact (List.append_nil _).symm) ?_ ?_
      · (simp (maxDischargeDepth := 6) [LTB, HLt_set, ltL_take, ltL_drop, ltL_rep, ltL_set, upd, eset, hH, hHk, zlMark11] <;> omega)
      (try simp only [wk, wk1, wk0, RB, limBytes, simprocAttr, ne_eq])
      (try (rw [List.take_of_length_le]; rotate_left 1; (· first | (simp; done) | (simp; omega) | omega)))
      simp [ofS, horig] <;> omega
end Go.Proofs.Ytjplgbalpnlanaa

/- The walks of package attrs, and of the plain comparing. -/
set_option maxHeartbeats 600000
set_option linter.unusedSimpArgs false
set_option linter.unusedVariables false
set_option maxRecDepth 100000
namespace Go.Proofs.Ytjplgbalpnlanaa
open Go Go.EL
theorem zrAttrs11 : type_of% (And.intro (And.intro (And.intro (And.intro (@st_run) (@sz_run)) (And.intro (@st1_run) (@cl_run))) (And.intro (And.intro (@st_Str) (@sz_Str)) (And.intro (@st1_Str) (@cl_Str)))) (And.intro (And.intro (And.intro (@st_c) (@sz_c)) (And.intro (@st1_c) (@cl_c))) (And.intro (And.intro (@st_attr) (@sz_attr)) (And.intro (@st1_attr) (@cl_attr))))) := And.intro (And.intro (And.intro (And.intro (@st_run) (@sz_run)) (And.intro (@st1_run) (@cl_run))) (And.intro (And.intro (@st_Str) (@sz_Str)) (And.intro (@st1_Str) (@cl_Str)))) (And.intro (And.intro (And.intro (@st_c) (@sz_c)) (And.intro (@st1_c) (@cl_c))) (And.intro (And.intro (@st_attr) (@sz_attr)) (And.intro (@st1_attr) (@cl_attr))))
theorem zlAttrs11 : type_of% (And.intro (And.intro (And.intro (And.intro (@lt_vi) (@lt_str)) (And.intro (@lt_vb) (@ltc_str))) (And.intro (And.intro (@ltc_vi) (@lt_run)) (And.intro (@lt1_run) (@ltc_run)))) (And.intro (And.intro (And.intro (@lt_Str) (@lt1_Str)) (And.intro (@ltc_Str) (@lt_c))) (And.intro (And.intro (@lt1_c) (@ltc_c)) (And.intro (@lt_attr) (And.intro (@lt1_attr) (@ltc_attr)))))) := And.intro (And.intro (And.intro (And.intro (@lt_vi) (@lt_str)) (And.intro (@lt_vb) (@ltc_str))) (And.intro (And.intro (@ltc_vi) (@lt_run)) (And.intro (@lt1_run) (@ltc_run)))) (And.intro (And.intro (And.intro (@lt_Str) (@lt1_Str)) (And.intro (@ltc_Str) (@lt_c))) (And.intro (And.intro (@lt1_c) (@ltc_c)) (And.intro (@lt_attr) (And.intro (@lt1_attr) (@ltc_attr)))))
theorem pStr (H : List Ob) (a b : Str) (ha : okS a) (hb : okS b) : SCall Try.prog 31 [strV a, strV b] H (fun r H' => r = .bool (decide (fixS a = fixS b)) ∧ H' = H) := by
  have e : decide (ofS a = ofS b) = decide (fixS a = fixS b) := decide_eq_decide.2 (by rw [ofS_inj, like_iff])
  obtain ⟨at_, ar⟩ := a
  obtain ⟨bt, br⟩ := b
  unfold strV
  refine SCall.of_good fun hH => ?_
  have hHk := HLt.add hH
  refine SCall.of_code Tok Try.func31 rfl Try.call31 (n := 10) rfl (by simp) (rs := [.tmp 4]) rfl ?_
  refine EWn.to ?_
  refine EWn.of_c Tok mixed (own := false) keep31 tab31 (by kernel_rfl) ?_
  (repeat simp -dsimp only [zrAttrs11, RB, TB, keep31, tab31, xindexAddr, xindex, xslice, xconvert, xlen, ewOp, FreeW, StabW, SameW, ChangeW, AddW, BaseW, limBytes, simprocAttr, ne_eq])
  (refine CallE.intro _ (rOf _ ⟨at_, ar⟩ ha) ?_)
  (repeat simp -dsimp only [zrAttrs11, RB, TB, keep31, tab31, xindexAddr, xindex, xslice, xconvert, xlen, ewOp, FreeW, StabW, SameW, ChangeW, AddW, BaseW, limBytes, simprocAttr, ne_eq])
  (refine CallE.intro _ (rOf _ ⟨bt, br⟩ hb) ?_)
  skip
  (refine CallE.intro _ (rSame _ (ofS ⟨at_, ar⟩) (ofS ⟨bt, br⟩)) ?_)
  (repeat simp -dsimp only [zrAttrs11, RB, TB, keep31, tab31, xindexAddr, xindex, xslice, xconvert, xlen, ewOp, FreeW, StabW, SameW, ChangeW, AddW, BaseW, limBytes, simprocAttr, ne_eq])
  refine RetW.auto0 false _ (by first | rfl | exact (List.append_nil _).symm) ?_ ?_
  · (simp (maxDischargeDepth := 6) [LTB, HLt_set, ltL_take, ltL_drop, ltL_rep, ltL_set, upd, eset, hH, hHk, zlAttrs11] <;> omega)
  (try simp only [wk, wk1, wk0, RB, limBytes, simprocAttr, ne_eq])
  skip
  rw [e]
theorem pAttrs (H : List Ob) (l m : List Attr) (hl : ∀ a ∈ l, okA a) (hm : ∀ a ∈ m, okA a) : SCall Try.prog 86 [.slice (l.map attrV), .slice (m.map attrV)] H (fun r H' => r = .bool (decide (l.map ownA = m.map ownA)) ∧ H' = H) := by
  refine SCall.sized 0 rfl fun hsz => ?_
  rw [List.length_map, maxLen_eq] at hsz
  refine SCall.of_good fun hH => ?_
  have hHk := HLt.add hH
  refine SCall.of_code Tok Try.func86 rfl Try.call86 (n := 43) rfl (by simp) (rs := [.tmp 4]) rfl ?_
  refine EWn.to ?_
  refine EWn.of_c Tok mixed (own := false) keep86 tab86 (by kernel_rfl) ?_
  (repeat simp -dsimp only [zrAttrs11, RB, TB, keep86, tab86, xindexAddr, xindex, xslice, xconvert, xlen, ewOp, FreeW, StabW, SameW, ChangeW, AddW, BaseW, limBytes, simprocAttr, ne_eq])
  refine IfW.intro (fun h => ?_) (fun h => ?_)
  rotate_left
  · (repeat simp -dsimp only [zrAttrs11, h, RB, TB, keep86, tab86, xindexAddr, xindex, xslice, xconvert, xlen, ewOp, FreeW, StabW, SameW, ChangeW, AddW, BaseW, limBytes, simprocAttr, ne_eq])
    refine RetW.auto0 false _ (by first | rfl | exact (List.append_nil _).symm) ?_ ?_
    · (simp (maxDischargeDepth := 6) [LTB, HLt_set, ltL_take, ltL_drop, ltL_rep, ltL_set, upd, eset, hH, hHk, zlAttrs11] <;> omega)
    (try simp only [wk, wk1, wk0, RB, limBytes, simprocAttr, ne_eq])
    skip
    have hlm : l.map ownA ≠ m.map ownA := by intro h0; have := congrArg List.length h0; simp at this h; omega
    simp [hlm]
  have hlm : l.length = m.length := by simp at h; omega
  (repeat simp -dsimp only [zrAttrs11, h, RB, TB, keep86, tab86, xindexAddr, xindex, xslice, xconvert, xlen, ewOp, FreeW, StabW, SameW, ChangeW, AddW, BaseW, limBytes, simprocAttr, ne_eq])
  refine EWn.loopE (ι := (Nat)) (fun (i : (Nat)) => i ≤ l.length ∧ (l.take i).map ownA = (m.take i).map ownA) (fun (i : (Nat)) => l.length - i) (fun (i : (Nat)) => [(5, .int .i64 i)]) (fun (i : (Nat)) => H) (0) ?_ ?_ ?_ ?_ ?_
  · first | rfl | simp [upd, eset]
  · first | rfl | (simp; done) | exact (set_same (by assumption)).symm
  · rintro i hok; exact ⟨by first | (simp; done) | (simp; omega), by (simp (maxDischargeDepth := 6) [LTB, HLt_set, ltL_take, ltL_drop, ltL_rep, ltL_set, upd, eset, hH, hHk, zlAttrs11] <;> omega), by (simp (maxDischargeDepth := 6) [LTB, HLt_set, ltL_take, ltL_drop, ltL_rep, ltL_set, upd, eset, hH, hHk, zlAttrs11] <;> omega)⟩
  · simp
  rintro i ⟨hi, hno⟩
  refine EWn.of_c Tok mixed (own := false) keep86 tab86 (by kernel_rfl) ?_
  (repeat simp -dsimp only [zrAttrs11, RB, TB, keep86, tab86, xindexAddr, xindex, xslice, xconvert, xlen, ewOp, FreeW, StabW, SameW, ChangeW, AddW, BaseW, limBytes, simprocAttr, ne_eq])
  refine IfW.intro (fun h1 => ?_) (fun h1 => ?_)
  · have hlt := lt_of h1
    have hlt' : i < m.length := by omega
    (repeat (first | simp -dsimp only [zrAttrs11, h1, at_map attrV l i hlt, at_map attrV m i hlt', attrV, RB, TB, keep86, tab86, xindexAddr, xindex, xslice, xconvert, xlen, ewOp, FreeW, StabW, SameW, ChangeW, AddW, BaseW, limBytes, simprocAttr, ne_eq] | ((with_reducible refine Need.intro ?_ ?_); (omega))))
    have o1 := hl l[i] (List.getElem_mem hlt)
    have o2 := hm m[i] (List.getElem_mem hlt')
    (refine CallE.intro _ (pStr _ l[i].name m[i].name o1.1 o2.1) ?_)
    (repeat simp -dsimp only [zrAttrs11, RB, TB, keep86, tab86, xindexAddr, xindex, xslice, xconvert, xlen, ewOp, FreeW, StabW, SameW, ChangeW, AddW, BaseW, limBytes, simprocAttr, ne_eq])
    have bad : ownA l[i] ≠ ownA m[i] → decide (l.map ownA = m.map ownA) = false := fun hne => decide_eq_false fun h0 => by
      have := congrArg (fun x => x[i]?) h0
      simp only [List.getElem?_map, List.getElem?_eq_getElem hlt, List.getElem?_eq_getElem hlt', Option.map_some] at this
      injection this with this
      exact hne this
    refine IfW.intro (fun hb => ?_) (fun hb => ?_)
    · (repeat (first | simp -dsimp only [zrAttrs11, hb, h1, at_map attrV l i hlt, at_map attrV m i hlt', attrV, RB, TB, keep86, tab86, xindexAddr, xindex, xslice, xconvert, xlen, ewOp, FreeW, StabW, SameW, ChangeW, AddW, BaseW, limBytes, simprocAttr, ne_eq] | ((with_reducible refine Need.intro ?_ ?_); (omega))))
      (refine CallE.intro _ (pStr _ l[i].value m[i].value o1.2 o2.2) ?_)
      (repeat simp -dsimp only [zrAttrs11, RB, TB, keep86, tab86, xindexAddr, xindex, xslice, xconvert, xlen, ewOp, FreeW, StabW, SameW, ChangeW, AddW, BaseW, limBytes, simprocAttr, ne_eq])
      refine IfW.intro (fun hc => ?_) (fun hc => ?_)
      · (repeat simp -dsimp only [zrAttrs11, hb, hc, RB, TB, keep86, tab86, xindexAddr, xindex, xslice, xconvert, xlen, ewOp, FreeW, StabW, SameW, ChangeW, AddW, BaseW, limBytes, simprocAttr, ne_eq])
        rw [wrapI (by omega)]
        refine UpTo.here ⟨(i + 1), ?_, by first | omega | (simp only [List.length_append, List.length_cons, List.length_nil]; omega), by simp [upd, eset], ⟨_, by simp; try rfl⟩⟩
        have hb := of_decide_eq_true hb
        have hc := of_decide_eq_true hc
        have he : ownA l[i] = ownA m[i] := by unfold ownA; rw [hb, hc]
        exact ⟨hlt, by rw [List.take_succ_eq_append_getElem hlt, List.take_succ_eq_append_getElem hlt', List.map_append, List.map_append, hno]; simp [he]⟩
      · (repeat simp -dsimp only [zrAttrs11, hb, hc, RB, TB, keep86, tab86, xindexAddr, xindex, xslice, xconvert, xlen, ewOp, FreeW, StabW, SameW, ChangeW, AddW, BaseW, limBytes, simprocAttr, ne_eq])
        refine RetW.auto0 false _ (by first | rfl | exact (List.append_nil _).symm) ?_ ?_
        · (simp (maxDischargeDepth := 6) [LTB, HLt_set, ltL_take, ltL_drop, ltL_rep, ltL_set, upd, eset, hH, hHk, zlAttrs11] <;> omega)
        (try simp only [wk, wk1, wk0, RB, limBytes, simprocAttr, ne_eq])
        skip
        rw [bad (fun h0 => of_decide_eq_false hc (by unfold ownA at h0; injection h0))]
    · (repeat simp -dsimp only [zrAttrs11, hb, RB, TB, keep86, tab86, xindexAddr, xindex, xslice, xconvert, xlen, ewOp, FreeW, StabW, SameW, ChangeW, AddW, BaseW, limBytes, simprocAttr, ne_eq])
      refine RetW.auto0 false _ (by first | rfl | exact (List.append_nil _).symm) ?_ ?_
      · (simp (maxDischargeDepth := 6) [LTB, HLt_set, ltL_take, ltL_drop, ltL_rep, ltL_set, upd, eset, hH, hHk, zlAttrs11] <;> omega)
      (try simp only [wk, wk1, wk0, RB, limBytes, simprocAttr, ne_eq])
      skip
      rw [bad (fun h0 => of_decide_eq_false hb (by unfold ownA at h0; injection h0))]
  · (repeat simp -dsimp only [zrAttrs11, h1, RB, TB, keep86, tab86, xindexAddr, xindex, xslice, xconvert, xlen, ewOp, FreeW, StabW, SameW, ChangeW, AddW, BaseW, limBytes, simprocAttr, ne_eq])
    have hge := ge_of h1
    rw [List.take_of_length_le hge, List.take_of_length_le (by omega)] at hno
    refine RetW.auto0 false _ (by first | rfl | exact (List.append_nil _).symm) ?_ ?_
    · (simp (maxDischargeDepth := 6) [LTB, HLt_set, ltL_take, ltL_drop, ltL_rep, ltL_set, upd, eset, hH, hHk, zlAttrs11] <;> omega)
    (try simp only [wk, wk1, wk0, RB, limBytes, simprocAttr, ne_eq])
    skip
    simp [hno]
theorem aOwn (H : List Ob) (a : Attr) (h : okA a) : SCall Try.prog 154 [attrV a] H (fun r H' => r = attrV (ownA a) ∧ H' = H) := by
  obtain ⟨⟨nt, nr⟩, ⟨vt, vr⟩⟩ := a
  unfold attrV
  refine SCall.of_good fun hH => ?_
  have hHk := HLt.add hH
  refine SCall.of_code Tok Try.func154 rfl Try.call154 (n := 10) rfl (by simp) (rs := [.cell 2 126]) rfl ?_
  refine EWn.to ?_
  refine EWn.of_c Tok mixed (own := false) keep154 tab154 (by kernel_rfl) ?_
  (repeat simp -dsimp only [zrAttrs11, RB, TB, keep154, tab154, xindexAddr, xindex, xslice, xconvert, xlen, ewOp, FreeW, StabW, SameW, ChangeW, AddW, BaseW, limBytes, simprocAttr, ne_eq])
  (refine CallE.intro _ (mFix _ ⟨nt, nr⟩ h.1) ?_)
  (repeat simp -dsimp only [zrAttrs11, strV, RB, TB, keep154, tab154, xindexAddr, xindex, xslice, xconvert, xlen, ewOp, FreeW, StabW, SameW, ChangeW, AddW, BaseW, limBytes, simprocAttr, ne_eq])
  (refine CallE.intro _ (mFix _ ⟨vt, vr⟩ h.2) ?_)
  (repeat (first | simp -dsimp only [zrAttrs11, strV, RB, TB, keep154, tab154, xindexAddr, xindex, xslice, xconvert, xlen, ewOp, FreeW, StabW, SameW, ChangeW, AddW, BaseW, limBytes, simprocAttr, ne_eq] | ((with_reducible refine Need.intro ?_ ?_); (trivial))))
  refine RetW.auto0 false _ (by first | rfl | exact (List.append_nil _).symm) ?_ ?_
  · (simp (maxDischargeDepth := 6) [LTB, HLt_set, ltL_take, ltL_drop, ltL_rep, ltL_set, upd, eset, hH, hHk, zlAttrs11] <;> omega)
  (try simp only [wk, wk1, wk0, RB, limBytes, simprocAttr, ne_eq])
  skip
  rfl
end Go.Proofs.Ytjplgbalpnlanaa

/- The walks of package arena: nodes, own, slices.Clone, is, New. -/
set_option maxHeartbeats 600000
set_option linter.unusedSimpArgs false
set_option linter.unusedVariables false
set_option maxRecDepth 100000
namespace Go.Proofs.Ytjplgbalpnlanaa
open Go Go.EL
theorem zrArena01 : type_of% (And.intro (And.intro (And.intro (And.intro (@st_run) (@sz_run)) (And.intro (@st1_run) (@cl_run))) (And.intro (And.intro (@st_Str) (@sz_Str)) (And.intro (@st1_Str) (@cl_Str)))) (And.intro (And.intro (And.intro (@st_c) (@sz_c)) (And.intro (@st1_c) (@cl_c))) (And.intro (And.intro (@st_attr) (@sz_attr)) (And.intro (@st1_attr) (@cl_attr))))) := And.intro (And.intro (And.intro (And.intro (@st_run) (@sz_run)) (And.intro (@st1_run) (@cl_run))) (And.intro (And.intro (@st_Str) (@sz_Str)) (And.intro (@st1_Str) (@cl_Str)))) (And.intro (And.intro (And.intro (@st_c) (@sz_c)) (And.intro (@st1_c) (@cl_c))) (And.intro (And.intro (@st_attr) (@sz_attr)) (And.intro (@st1_attr) (@cl_attr))))
theorem zlArena01 : type_of% (And.intro (And.intro (And.intro (And.intro (@lt_vi) (@lt_str)) (And.intro (@lt_vb) (@ltc_str))) (And.intro (And.intro (@ltc_vi) (@lt_run)) (And.intro (@lt1_run) (@ltc_run)))) (And.intro (And.intro (And.intro (@lt_Str) (@lt1_Str)) (And.intro (@ltc_Str) (@lt_c))) (And.intro (And.intro (@lt1_c) (@ltc_c)) (And.intro (@lt_attr) (And.intro (@lt1_attr) (@ltc_attr)))))) := And.intro (And.intro (And.intro (And.intro (@lt_vi) (@lt_str)) (And.intro (@lt_vb) (@ltc_str))) (And.intro (And.intro (@ltc_vi) (@lt_run)) (And.intro (@lt1_run) (@ltc_run)))) (And.intro (And.intro (And.intro (@lt_Str) (@lt1_Str)) (And.intro (@ltc_Str) (@lt_c))) (And.intro (And.intro (@lt1_c) (@ltc_c)) (And.intro (@lt_attr) (And.intro (@lt1_attr) (@ltc_attr)))))
structure Hook where
  ev : Int
  cap : Bool
  nm : Int
structure Node where
  id : Int
  owner : Int
  parent : Int
  kind : Int
  tag : Str
  key : List UInt8
  slot : Int
  attrs : List Attr
  hooks : List Hook
  kids : List Int
  text : Str
def hookV (h : Hook) : V := .agg [.int .i64 h.ev, .bool h.cap, .int .i64 h.nm]
theorem lt_hook (n : Nat) (l : List (Hook)) : ltL n (l.map hookV) := ltL_map (f := hookV) (fun _ => by simp [hookV, V.lt, ltL]) l
theorem lt1_hook (n : Nat) (x : Hook) : V.lt n (hookV x) := by simp [hookV, V.lt, ltL]
theorem ltc_hook {α : Type} (n : Nat) (g : α → Hook) (l : List α) : ltL n (l.map (hookV ∘ g)) := ltL_map (f := hookV ∘ g) (fun x => lt1_hook n (g x)) l
theorem st_hook (l : List (Hook)) : (∀ x, x ∈ l.map hookV → x.storable) = True := eq_true (storable_map (f := hookV) (fun _ => trivial) l)
theorem sz_hook (l : List (Hook)) : Sized 3 (l.map hookV) = True := eq_true (sizedMapV (f := hookV) (fun _ => rfl) l)
theorem st1_hook (x : Hook) : (hookV x).storable = True := eq_true trivial
theorem cl_hook (x : Hook) : (hookV x).cells.length = 3 := rfl

def nodeV (n : Node) : V := .agg [.int .i64 n.id, .int .i64 n.owner, .int .i64 n.parent, .int .i64 n.kind, .str n.tag.text, .slice (n.tag.runs.map runV), .str n.key, .int .i64 n.slot, .slice (n.attrs.map attrV), .slice (n.hooks.map hookV), .slice (n.kids.map vi), .str n.text.text, .slice (n.text.runs.map runV)]
theorem lt_node (n : Nat) (l : List (Node)) : ltL n (l.map nodeV) := ltL_map (f := nodeV) (fun _ => by simp [nodeV, V.lt, ltL, lt_run, lt_attr, lt_hook, lt_vi]) l
theorem lt1_node (n : Nat) (x : Node) : V.lt n (nodeV x) := by simp [nodeV, V.lt, ltL, lt_run, lt_attr, lt_hook, lt_vi]
theorem ltc_node {α : Type} (n : Nat) (g : α → Node) (l : List α) : ltL n (l.map (nodeV ∘ g)) := ltL_map (f := nodeV ∘ g) (fun x => lt1_node n (g x)) l
theorem st_node (l : List (Node)) : (∀ x, x ∈ l.map nodeV → x.storable) = True := eq_true (storable_map (f := nodeV) (fun _ => trivial) l)
theorem sz_node (l : List (Node)) : Sized 13 (l.map nodeV) = True := eq_true (sizedMapV (f := nodeV) (fun _ => rfl) l)
theorem st1_node (x : Node) : (nodeV x).storable = True := eq_true trivial
theorem cl_node (x : Node) : (nodeV x).cells.length = 13 := rfl

def ownN (n : Node) : Node := { n with tag := fixS n.tag, text := fixS n.text, attrs := n.attrs.map ownA }
def okN (n : Node) : Prop := okS n.tag ∧ okS n.text ∧ (∀ a ∈ n.attrs, okA a) ∧ n.attrs.length ≤ 1000000000000 ∧ n.hooks.length ≤ 1000000000000 ∧ n.kids.length ≤ 1000000000000
theorem cloneH (H : List Ob) (l : List Hook) (hl : l.length ≤ 1000000000000) : SCall Try.prog 112 [.slice (l.map hookV)] H (fun r H' => r = .slice (l.map hookV) ∧ H' = H) := by
  refine SCall.of_good fun hH => ?_
  have hHk := HLt.add hH
  refine SCall.of_code Tok Try.func112 rfl Try.call112 (n := 8) rfl (by simp) (rs := [.tmp 2]) rfl ?_
  refine EWn.to ?_
  refine EWn.of_c Tok mixed (own := false) keep112 tab112 (by kernel_rfl) ?_
  (repeat simp -dsimp only [zrArena01, st_hook, sz_hook, st1_hook, cl_hook, st_node, sz_node, st1_node, cl_node, xnils, xnilm, xrange, xmakeMap, RB, TB, keep112, tab112, xindexAddr, xindex, xslice, xconvert, xlen, ewOp, FreeW, StabW, SameW, ChangeW, AddW, BaseW, limBytes, simprocAttr, ne_eq])
  refine AnyB.intro fun b hb => ?_
  (repeat simp -dsimp only [zrArena01, st_hook, sz_hook, st1_hook, cl_hook, st_node, sz_node, st1_node, cl_node, xnils, xnilm, xrange, xmakeMap, RB, TB, keep112, tab112, xindexAddr, xindex, xslice, xconvert, xlen, ewOp, FreeW, StabW, SameW, ChangeW, AddW, BaseW, limBytes, simprocAttr, ne_eq])
  refine IfW.intro (fun h => ?_) (fun h => ?_)
  · subst h
    have h0 : l = [] := by cases l with
      | nil => rfl
      | cons x l => exact absurd (hb (by simp)) (by simp)
    subst h0
    (repeat simp -dsimp only [zrArena01, st_hook, sz_hook, st1_hook, cl_hook, st_node, sz_node, st1_node, cl_node, xnils, xnilm, xrange, xmakeMap, RB, TB, keep112, tab112, xindexAddr, xindex, xslice, xconvert, xlen, ewOp, FreeW, StabW, SameW, ChangeW, AddW, BaseW, limBytes, simprocAttr, ne_eq])
    refine RetW.auto0 false _ (by first | rfl | exact (List.append_nil _).symm) ?_ ?_
    · (simp (maxDischargeDepth := 6) [LTB, HLt_set, ltL_take, ltL_drop, ltL_rep, ltL_set, upd, eset, hH, hHk, zlArena01, lt_hook, lt1_hook, ltc_hook, lt_node, lt1_node, ltc_node] <;> omega)
    (try simp only [wk, wk1, wk0, RB, limBytes, simprocAttr, ne_eq])
    skip
  · subst h
    (repeat (first | simp -dsimp only [zrArena01, st_hook, sz_hook, st1_hook, cl_hook, st_node, sz_node, st1_node, cl_node, xnils, xnilm, xrange, xmakeMap, RB, TB, keep112, tab112, xindexAddr, xindex, xslice, xconvert, xlen, ewOp, FreeW, StabW, SameW, ChangeW, AddW, BaseW, limBytes, simprocAttr, ne_eq] | ((with_reducible refine Need.intro ?_ ?_); (omega))))
    refine RetW.auto0 false _ (by first | rfl | exact (List.append_nil _).symm) ?_ ?_
    · (simp (maxDischargeDepth := 6) [LTB, HLt_set, ltL_take, ltL_drop, ltL_rep, ltL_set, upd, eset, hH, hHk, zlArena01, lt_hook, lt1_hook, ltc_hook, lt_node, lt1_node, ltc_node] <;> omega)
    (try simp only [wk, wk1, wk0, RB, limBytes, simprocAttr, ne_eq])
    (try (rw [List.take_of_length_le]; rotate_left 1; (· first | (simp; done) | (simp; omega) | omega)))
theorem cloneI (H : List Ob) (l : List Int) (hl : l.length ≤ 1000000000000) : SCall Try.prog 161 [.slice (l.map vi)] H (fun r H' => r = .slice (l.map vi) ∧ H' = H) := by
  refine SCall.of_good fun hH => ?_
  have hHk := HLt.add hH
  refine SCall.of_code Tok Try.func161 rfl Try.call161 (n := 8) rfl (by simp) (rs := [.tmp 2]) rfl ?_
  refine EWn.to ?_
  refine EWn.of_c Tok mixed (own := false) keep161 tab161 (by kernel_rfl) ?_
  (repeat simp -dsimp only [zrArena01, st_hook, sz_hook, st1_hook, cl_hook, st_node, sz_node, st1_node, cl_node, xnils, xnilm, xrange, xmakeMap, RB, TB, keep161, tab161, xindexAddr, xindex, xslice, xconvert, xlen, ewOp, FreeW, StabW, SameW, ChangeW, AddW, BaseW, limBytes, simprocAttr, ne_eq])
  refine AnyB.intro fun b hb => ?_
  (repeat simp -dsimp only [zrArena01, st_hook, sz_hook, st1_hook, cl_hook, st_node, sz_node, st1_node, cl_node, xnils, xnilm, xrange, xmakeMap, RB, TB, keep161, tab161, xindexAddr, xindex, xslice, xconvert, xlen, ewOp, FreeW, StabW, SameW, ChangeW, AddW, BaseW, limBytes, simprocAttr, ne_eq])
  refine IfW.intro (fun h => ?_) (fun h => ?_)
  · subst h
    have h0 : l = [] := by cases l with
      | nil => rfl
      | cons x l => exact absurd (hb (by simp)) (by simp)
    subst h0
    (repeat simp -dsimp only [zrArena01, st_hook, sz_hook, st1_hook, cl_hook, st_node, sz_node, st1_node, cl_node, xnils, xnilm, xrange, xmakeMap, RB, TB, keep161, tab161, xindexAddr, xindex, xslice, xconvert, xlen, ewOp, FreeW, StabW, SameW, ChangeW, AddW, BaseW, limBytes, simprocAttr, ne_eq])
    refine RetW.auto0 false _ (by first | rfl | exact (List.append_nil _).symm) ?_ ?_
    · (simp (maxDischargeDepth := 6) [LTB, HLt_set, ltL_take, ltL_drop, ltL_rep, ltL_set, upd, eset, hH, hHk, zlArena01, lt_hook, lt1_hook, ltc_hook, lt_node, lt1_node, ltc_node] <;> omega)
    (try simp only [wk, wk1, wk0, RB, limBytes, simprocAttr, ne_eq])
    skip
  · subst h
    (repeat (first | simp -dsimp only [zrArena01, st_hook, sz_hook, st1_hook, cl_hook, st_node, sz_node, st1_node, cl_node, xnils, xnilm, xrange, xmakeMap, RB, TB, keep161, tab161, xindexAddr, xindex, xslice, xconvert, xlen, ewOp, FreeW, StabW, SameW, ChangeW, AddW, BaseW, limBytes, simprocAttr, ne_eq] | ((with_reducible refine Need.intro ?_ ?_); (omega))))
    refine RetW.auto0 false _ (by first | rfl | exact (List.append_nil _).symm) ?_ ?_
    · (simp (maxDischargeDepth := 6) [LTB, HLt_set, ltL_take, ltL_drop, ltL_rep, ltL_set, upd, eset, hH, hHk, zlArena01, lt_hook, lt1_hook, ltc_hook, lt_node, lt1_node, ltc_node] <;> omega)
    (try simp only [wk, wk1, wk0, RB, limBytes, simprocAttr, ne_eq])
    (try (rw [List.take_of_length_le]; rotate_left 1; (· first | (simp; done) | (simp; omega) | omega)))
/-- a node; its kids are a list of the caller's own -/
def nodeK (n : Node) (o v : Nat) : V := .agg [.int .i64 n.id, .int .i64 n.owner, .int .i64 n.parent, .int .i64 n.kind, .str n.tag.text, .slice (n.tag.runs.map runV), .str n.key, .int .i64 n.slot, .slice (n.attrs.map attrV), .slice (n.hooks.map hookV), .vec o v 0 n.kids.length, .str n.text.text, .slice (n.text.runs.map runV)]
/-- what a call answers, after a ghost step -/
theorem _root_.Go.EL.SCall.ghoE {f : FuncId} {args : List V} {H : List Ob} {R R2 : V → List Ob → Prop} (h : SCall Try.prog f args H R) (hg : ∀ r H', R r H' → ∃ r2 H2, Gho H.length [(0, r)] H' [(0, r2)] H2 ∧ R2 r2 H2) : SCall Try.prog f args H R2 := by
  intro g w cargs hG ha
  refine (h g w cargs hG ha).mono fun cv w' ⟨r, H', g', k1, k2, k3, hr⟩ => ?_
  obtain ⟨r2, H2, hh, h2⟩ := hg r H' hr
  obtain ⟨g2, j1, j2, j3⟩ := hh g' w' k1
  refine ⟨r2, H2, g2, j1, j2 _ _ k2, ?_, h2⟩
  have := j3 0 cv (by simpa [eget] using k3)
  simpa [eget] using this
theorem cloneIV0 (H : List Ob) (l : List Int) (hl : l.length ≤ 1000000000000) : SCall Try.prog 161 [.slice (l.map vi)] H (fun r H' => (l = [] ∧ r = .fslice [] ∧ H' = H) ∨ (r = .vec H.length 1 0 l.length ∧ H' = H ++ [.vec 1 1 (l.map vi)])) := by
  refine SCall.of_good fun hH => ?_
  have hHk := HLt.add hH
  refine SCall.of_code Tok Try.func161 rfl Try.call161 (n := 8) rfl (by simp) (rs := [.tmp 2]) rfl ?_
  refine EWn.to ?_
  refine EWn.of_c Tok mixed (own := false) keep161 tab161 (by kernel_rfl) ?_
  (repeat simp -dsimp only [zrArena01, st_hook, sz_hook, st1_hook, cl_hook, st_node, sz_node, st1_node, cl_node, xnils, xnilm, xrange, xmakeMap, RB, TB, keep161, tab161, xindexAddr, xindex, xslice, xconvert, xlen, ewOp, FreeW, StabW, SameW, ChangeW, AddW, BaseW, limBytes, simprocAttr, ne_eq])
  refine AnyB.intro fun b hb => ?_
  (repeat simp -dsimp only [zrArena01, st_hook, sz_hook, st1_hook, cl_hook, st_node, sz_node, st1_node, cl_node, xnils, xnilm, xrange, xmakeMap, RB, TB, keep161, tab161, xindexAddr, xindex, xslice, xconvert, xlen, ewOp, FreeW, StabW, SameW, ChangeW, AddW, BaseW, limBytes, simprocAttr, ne_eq])
  refine IfW.intro (fun h => ?_) (fun h => ?_)
  · subst h
    have h0 : l = [] := by cases l with
      | nil => rfl
      | cons x l => exact absurd (hb (by simp)) (by simp)
    subst h0
    (repeat simp -dsimp only [zrArena01, st_hook, sz_hook, st1_hook, cl_hook, st_node, sz_node, st1_node, cl_node, xnils, xnilm, xrange, xmakeMap, RB, TB, keep161, tab161, xindexAddr, xindex, xslice, xconvert, xlen, ewOp, FreeW, StabW, SameW, ChangeW, AddW, BaseW, limBytes, simprocAttr, ne_eq])
    refine RetW.auto0 true _ (by first | rfl | exact (List.append_nil _).symm) ?_ ?_
    · (simp (maxDischargeDepth := 6) [LTB, HLt_set, ltL_take, ltL_drop, ltL_rep, ltL_set, upd, eset, hH, hHk, zlArena01, lt_hook, lt1_hook, ltc_hook, lt_node, lt1_node, ltc_node] <;> omega)
    (try simp only [wk, wk1, wk0, RB, if_true, limBytes, simprocAttr, ne_eq])
    skip
  · subst h
    (repeat (first | simp -dsimp only [zrArena01, st_hook, sz_hook, st1_hook, cl_hook, st_node, sz_node, st1_node, cl_node, xnils, xnilm, xrange, xmakeMap, RB, TB, keep161, tab161, xindexAddr, xindex, xslice, xconvert, xlen, ewOp, FreeW, StabW, SameW, ChangeW, AddW, BaseW, limBytes, simprocAttr, ne_eq] | ((with_reducible refine Need.intro ?_ ?_); (omega))))
    refine RetW.auto false [.vec 1 1 (l.map vi)] _ (by first | rfl | simp) ?_ ?_ ?_
    · (simp (maxDischargeDepth := 6) [LTB, HLt_set, ltL_take, ltL_drop, ltL_rep, ltL_set, upd, eset, hH, hHk, zlArena01, lt_hook, lt1_hook, ltc_hook, lt_node, lt1_node, ltc_node] <;> omega)
    · (simp (maxDischargeDepth := 6) [LTB, HLt_set, ltL_take, ltL_drop, ltL_rep, ltL_set, upd, eset, hH, hHk, zlArena01, lt_hook, lt1_hook, ltc_hook, lt_node, lt1_node, ltc_node] <;> omega)
    (try simp only [wk, wk1, wk0, RB, limBytes, simprocAttr, ne_eq])
    (try (rw [List.take_of_length_le]; rotate_left 1; (· first | (simp; done) | (simp; omega) | omega)))
    first | (simp; done) | (refine .inr ⟨?_, ?_⟩ <;> simp; done) | trace_state
theorem cloneIV (H : List Ob) (l : List Int) (hl : l.length ≤ 1000000000000) : SCall Try.prog 161 [.slice (l.map vi)] H (fun r H' => r = .vec H.length 1 0 l.length ∧ H' = H ++ [.vec 1 1 (l.map vi)]) := by
  refine (cloneIV0 H l hl).ghoE fun r H' h => ?_
  rcases h with ⟨rfl, rfl, rfl⟩ | ⟨rfl, rfl⟩
  · refine ⟨_, _, Gho.adopt (n0 := H'.length) (env := [(0, .fslice [])]) 0 1 rfl, And.intro rfl rfl⟩
  · exact ⟨_, _, Gho.refl _ _ _, And.intro rfl rfl⟩
theorem aOwnV0 (H : List Ob) (n : Node) (hn : okN n) : SCall Try.prog 115 [nodeV n] H (fun r H' => ∃ L v, r = .agg [.int .i64 n.id, .int .i64 n.owner, .int .i64 n.parent, .int .i64 n.kind, .str (fixS n.tag).text, .slice ((fixS n.tag).runs.map runV), .str n.key, .int .i64 n.slot, .vec (H.length + 3) v 0 n.attrs.length, .slice (n.hooks.map hookV), .vec (H.length + 2) 1 0 n.kids.length, .str (fixS n.text).text, .slice ((fixS n.text).runs.map runV)] ∧ H' = H ++ L ∧ L[2]? = some (.vec 1 1 (n.kids.map vi)) ∧ L[3]? = some (.vec v 4 ((n.attrs.map ownA).map attrV))) := by
  obtain ⟨h1, h2, h3, h4, h5, h6⟩ := hn
  unfold nodeV
  refine SCall.of_good fun hH => ?_
  have hHk := HLt.add hH
  refine SCall.of_code Tok Try.func115 rfl Try.call115 (n := 43) rfl (by simp) (rs := [.cell 2 60]) rfl ?_
  refine EWn.to ?_
  refine EWn.of_c Tok mixed (own := false) keep115 tab115 (by kernel_rfl) ?_
  (repeat simp -dsimp only [zrArena01, st_hook, sz_hook, st1_hook, cl_hook, st_node, sz_node, st1_node, cl_node, xnils, xnilm, xrange, xmakeMap, RB, TB, keep115, tab115, xindexAddr, xindex, xslice, xconvert, xlen, ewOp, FreeW, StabW, SameW, ChangeW, AddW, BaseW, limBytes, simprocAttr, ne_eq])
  (refine CallE.intro _ (mFix _ n.tag h1) ?_)
  (repeat simp -dsimp only [zrArena01, st_hook, sz_hook, st1_hook, cl_hook, st_node, sz_node, st1_node, cl_node, xnils, xnilm, xrange, xmakeMap, strV, RB, TB, keep115, tab115, xindexAddr, xindex, xslice, xconvert, xlen, ewOp, FreeW, StabW, SameW, ChangeW, AddW, BaseW, limBytes, simprocAttr, ne_eq])
  (refine CallE.intro _ (mFix _ n.text h2) ?_)
  (repeat simp -dsimp only [zrArena01, st_hook, sz_hook, st1_hook, cl_hook, st_node, sz_node, st1_node, cl_node, xnils, xnilm, xrange, xmakeMap, strV, RB, TB, keep115, tab115, xindexAddr, xindex, xslice, xconvert, xlen, ewOp, FreeW, StabW, SameW, ChangeW, AddW, BaseW, limBytes, simprocAttr, ne_eq])
  refine ⟨fun i_ => match i_ with
    | 0 => .ref H.length 9
    | 1 => .slice (n.hooks.map hookV)
    | 2 => .slice (n.hooks.map hookV)
    | 3 => .ref H.length 10
    | 4 => .slice (n.kids.map vi)
    | 5 => .vec (H.length + 2) 1 0 n.kids.length
    | 6 => .ref H.length 9
    | 8 => .ref H.length 10
    | _ => .dead, fun fl => H ++ (.var [.int .i64 n.id, .int .i64 n.owner, .int .i64 n.parent, .int .i64 n.kind, .str (fixS n.tag).text, .slice ((fixS n.tag).runs.map runV), .str n.key, .int .i64 n.slot, .slice (n.attrs.map attrV), .slice (n.hooks.map hookV), if fl 9 = true then .vec (H.length + 2) 1 0 n.kids.length else .slice (n.kids.map vi), .str (fixS n.text).text, .slice ((fixS n.text).runs.map runV)] :: .var [.int .i64 0, .int .i64 0, .int .i64 0, .int .i64 0, .str [], .fslice [], .str [], .int .i64 0, .fslice [], .fslice [], .fslice [], .str [], .fslice []] :: (if fl 5 = true then [.vec 1 1 (n.kids.map vi)] else [])), ?_, ?_, ?_, ?_⟩
  · simp
  · intro fl fl' hfl
    simp only [hfl 5 (by simp), hfl 9 (by simp)]
  · intro i_ o hi fl hcl hil hed
    have q9 := hcl 9 _ rfl
    simp [Region.binds] at q9
    match i_, hi, hil, hed with
    | 0, hi, hil, hed =>
      simp only [List.getElem?_cons_zero, List.getElem?_cons_succ, Option.some.injEq] at hi
      subst hi
      (repeat simp -dsimp only [zrArena01, st_hook, sz_hook, st1_hook, cl_hook, st_node, sz_node, st1_node, cl_node, xnils, xnilm, xrange, xmakeMap, envAt, List.take_succ_cons, List.take_zero, hil, Bool.false_eq_true, if_false, if_true, RB, TB, keep115, tab115, xindexAddr, xindex, xslice, xconvert, xlen, ewOp, FreeW, StabW, SameW, ChangeW, AddW, BaseW, limBytes, simprocAttr, ne_eq])
    | 1, hi, hil, hed =>
      simp only [List.getElem?_cons_zero, List.getElem?_cons_succ, Option.some.injEq] at hi
      subst hi
      (repeat simp -dsimp only [zrArena01, st_hook, sz_hook, st1_hook, cl_hook, st_node, sz_node, st1_node, cl_node, xnils, xnilm, xrange, xmakeMap, envAt, List.take_succ_cons, List.take_zero, hil, Bool.false_eq_true, if_false, if_true, RB, TB, keep115, tab115, xindexAddr, xindex, xslice, xconvert, xlen, ewOp, FreeW, StabW, SameW, ChangeW, AddW, BaseW, limBytes, simprocAttr, ne_eq])
    | 2, hi, hil, hed =>
      simp only [List.getElem?_cons_zero, List.getElem?_cons_succ, Option.some.injEq] at hi
      subst hi
      (repeat simp -dsimp only [zrArena01, st_hook, sz_hook, st1_hook, cl_hook, st_node, sz_node, st1_node, cl_node, xnils, xnilm, xrange, xmakeMap, envAt, List.take_succ_cons, List.take_zero, hil, Bool.false_eq_true, if_false, if_true, RB, TB, keep115, tab115, xindexAddr, xindex, xslice, xconvert, xlen, ewOp, FreeW, StabW, SameW, ChangeW, AddW, BaseW, limBytes, simprocAttr, ne_eq])
      refine SCall.mono (cloneH _ n.hooks h5) ?_
      rintro _ _ ⟨rfl, rfl⟩
      simp
    | 3, hi, hil, hed =>
      simp only [List.getElem?_cons_zero, List.getElem?_cons_succ, Option.some.injEq] at hi
      subst hi
      (repeat simp -dsimp only [zrArena01, st_hook, sz_hook, st1_hook, cl_hook, st_node, sz_node, st1_node, cl_node, xnils, xnilm, xrange, xmakeMap, envAt, List.take_succ_cons, List.take_zero, hil, Bool.false_eq_true, if_false, if_true, RB, TB, keep115, tab115, xindexAddr, xindex, xslice, xconvert, xlen, ewOp, FreeW, StabW, SameW, ChangeW, AddW, BaseW, limBytes, simprocAttr, ne_eq])
    | 4, hi, hil, hed =>
      simp only [List.getElem?_cons_zero, List.getElem?_cons_succ, Option.some.injEq] at hi
      subst hi
      have f9 : fl 9 = false := Bool.eq_false_iff.2 fun h => by have := q9 h; simp [hil] at this
      (repeat simp -dsimp only [zrArena01, st_hook, sz_hook, st1_hook, cl_hook, st_node, sz_node, st1_node, cl_node, xnils, xnilm, xrange, xmakeMap, envAt, List.take_succ_cons, List.take_zero, hil, f9, Bool.false_eq_true, if_false, if_true, RB, TB, keep115, tab115, xindexAddr, xindex, xslice, xconvert, xlen, ewOp, FreeW, StabW, SameW, ChangeW, AddW, BaseW, limBytes, simprocAttr, ne_eq])
    | 5, hi, hil, hed =>
      simp only [List.getElem?_cons_zero, List.getElem?_cons_succ, Option.some.injEq] at hi
      subst hi
      have f9 : fl 9 = false := Bool.eq_false_iff.2 fun h => by have := q9 h; simp [hil] at this
      (repeat simp -dsimp only [zrArena01, st_hook, sz_hook, st1_hook, cl_hook, st_node, sz_node, st1_node, cl_node, xnils, xnilm, xrange, xmakeMap, envAt, List.take_succ_cons, List.take_zero, hil, f9, Bool.false_eq_true, if_false, if_true, RB, TB, keep115, tab115, xindexAddr, xindex, xslice, xconvert, xlen, ewOp, FreeW, StabW, SameW, ChangeW, AddW, BaseW, limBytes, simprocAttr, ne_eq])
      refine SCall.mono (cloneIV _ n.kids h6) ?_
      rintro _ _ ⟨rfl, rfl⟩
      simp [f9]
    | 6, hi, hil, hed =>
      simp only [List.getElem?_cons_zero, List.getElem?_cons_succ, Option.some.injEq] at hi
      subst hi
      (repeat simp -dsimp only [zrArena01, st_hook, sz_hook, st1_hook, cl_hook, st_node, sz_node, st1_node, cl_node, xnils, xnilm, xrange, xmakeMap, envAt, List.take_succ_cons, List.take_zero, hil, Bool.false_eq_true, if_false, if_true, RB, TB, keep115, tab115, xindexAddr, xindex, xslice, xconvert, xlen, ewOp, FreeW, StabW, SameW, ChangeW, AddW, BaseW, limBytes, simprocAttr, ne_eq])
    | 7, hi, hil, hed =>
      simp only [List.getElem?_cons_zero, List.getElem?_cons_succ, Option.some.injEq] at hi
      subst hi
      (repeat simp -dsimp only [zrArena01, st_hook, sz_hook, st1_hook, cl_hook, st_node, sz_node, st1_node, cl_node, xnils, xnilm, xrange, xmakeMap, envAt, List.take_succ_cons, List.take_zero, hil, Bool.false_eq_true, if_false, if_true, RB, TB, keep115, tab115, xindexAddr, xindex, xslice, xconvert, xlen, ewOp, FreeW, StabW, SameW, ChangeW, AddW, BaseW, limBytes, simprocAttr, ne_eq])
    | 8, hi, hil, hed =>
      simp only [List.getElem?_cons_zero, List.getElem?_cons_succ, Option.some.injEq] at hi
      subst hi
      (repeat simp -dsimp only [zrArena01, st_hook, sz_hook, st1_hook, cl_hook, st_node, sz_node, st1_node, cl_node, xnils, xnilm, xrange, xmakeMap, envAt, List.take_succ_cons, List.take_zero, hil, Bool.false_eq_true, if_false, if_true, RB, TB, keep115, tab115, xindexAddr, xindex, xslice, xconvert, xlen, ewOp, FreeW, StabW, SameW, ChangeW, AddW, BaseW, limBytes, simprocAttr, ne_eq])
    | 9, hi, hil, hed =>
      simp only [List.getElem?_cons_zero, List.getElem?_cons_succ, Option.some.injEq] at hi
      subst hi
      have p5 : fl 5 = true := hed ⟨5, .data⟩ (by simp) rfl
      (repeat simp -dsimp only [zrArena01, st_hook, sz_hook, st1_hook, cl_hook, st_node, sz_node, st1_node, cl_node, xnils, xnilm, xrange, xmakeMap, envAt, List.take_succ_cons, List.take_zero, hil, p5, Bool.false_eq_true, if_false, if_true, RB, TB, keep115, tab115, xindexAddr, xindex, xslice, xconvert, xlen, ewOp, FreeW, StabW, SameW, ChangeW, AddW, BaseW, limBytes, simprocAttr, ne_eq])
    | c + 10, hi, hil, hed => simp at hi
  (repeat simp -dsimp only [zrArena01, st_hook, sz_hook, st1_hook, cl_hook, st_node, sz_node, st1_node, cl_node, xnils, xnilm, xrange, xmakeMap, envAt, RB, TB, keep115, tab115, xindexAddr, xindex, xslice, xconvert, xlen, ewOp, FreeW, StabW, SameW, ChangeW, AddW, BaseW, limBytes, simprocAttr, ne_eq])
  refine EWn.ghost (Gho.adopt 3 4 rfl) ?_
  simp only [RB, limBytes, simprocAttr, ne_eq]
  refine EWn.loopE (ι := (Nat)) (fun (i : (Nat)) => i ≤ n.attrs.length) (fun (i : (Nat)) => n.attrs.length - i) (fun (i : (Nat)) => [(3, .vec (H.length + 3) (1 + i) 0 i), (25, .int .i64 i)]) (fun (i : (Nat)) => H ++ [.var [.int .i64 n.id, .int .i64 n.owner, .int .i64 n.parent, .int .i64 n.kind, .str (fixS n.tag).text, .slice ((fixS n.tag).runs.map runV), .str n.key, .int .i64 n.slot, .slice (n.attrs.map attrV), .slice (n.hooks.map hookV), .vec (H.length + 2) 1 0 n.kids.length, .str (fixS n.text).text, .slice ((fixS n.text).runs.map runV)], .var [.int .i64 0, .int .i64 0, .int .i64 0, .int .i64 0, .str [], .fslice [], .str [], .int .i64 0, .fslice [], .fslice [], .fslice [], .str [], .fslice []], .vec 1 1 (n.kids.map vi), .vec (1 + i) 4 (((n.attrs.take i).map ownA).map attrV)]) (0) ?_ ?_ ?_ ?_ ?_
  · first | rfl | simp [upd, eset]
  · first | rfl | (simp; done) | exact (set_same (by assumption)).symm
  · rintro i hok; exact ⟨by first | (simp; done) | (simp; omega), by (simp (maxDischargeDepth := 6) [LTB, HLt_set, ltL_take, ltL_drop, ltL_rep, ltL_set, upd, eset, hH, hHk, zlArena01, lt_hook, lt1_hook, ltc_hook, lt_node, lt1_node, ltc_node] <;> omega), by (simp (maxDischargeDepth := 6) [LTB, HLt_set, ltL_take, ltL_drop, ltL_rep, ltL_set, upd, eset, hH, hHk, zlArena01, lt_hook, lt1_hook, ltc_hook, lt_node, lt1_node, ltc_node] <;> omega)⟩
  · omega
  rintro i hi
  refine EWn.of_c Tok mixed (own := false) keep115 tab115 (by kernel_rfl) ?_
  (repeat simp -dsimp only [zrArena01, st_hook, sz_hook, st1_hook, cl_hook, st_node, sz_node, st1_node, cl_node, xnils, xnilm, xrange, xmakeMap, RB, TB, keep115, tab115, xindexAddr, xindex, xslice, xconvert, xlen, ewOp, FreeW, StabW, SameW, ChangeW, AddW, BaseW, limBytes, simprocAttr, ne_eq])
  refine IfW.intro (fun h => ?_) (fun h => ?_)
  · have hlt := lt_of h
    obtain ⟨o1, o2⟩ := h3 _ (List.getElem_mem hlt)
    (repeat (first | simp -dsimp only [zrArena01, st_hook, sz_hook, st1_hook, cl_hook, st_node, sz_node, st1_node, cl_node, xnils, xnilm, xrange, xmakeMap, h, at_map attrV n.attrs i hlt, attrV, RB, TB, keep115, tab115, xindexAddr, xindex, xslice, xconvert, xlen, ewOp, FreeW, StabW, SameW, ChangeW, AddW, BaseW, limBytes, simprocAttr, ne_eq] | ((with_reducible refine Need.intro ?_ ?_); (omega))))
    (refine CallE.intro _ (mFix _ n.attrs[i].name o1) ?_)
    (repeat simp -dsimp only [zrArena01, st_hook, sz_hook, st1_hook, cl_hook, st_node, sz_node, st1_node, cl_node, xnils, xnilm, xrange, xmakeMap, strV, RB, TB, keep115, tab115, xindexAddr, xindex, xslice, xconvert, xlen, ewOp, FreeW, StabW, SameW, ChangeW, AddW, BaseW, limBytes, simprocAttr, ne_eq])
    (refine CallE.intro _ (mFix _ n.attrs[i].value o2) ?_)
    (repeat (first | simp -dsimp only [zrArena01, st_hook, sz_hook, st1_hook, cl_hook, st_node, sz_node, st1_node, cl_node, xnils, xnilm, xrange, xmakeMap, strV, RB, TB, keep115, tab115, xindexAddr, xindex, xslice, xconvert, xlen, ewOp, FreeW, StabW, SameW, ChangeW, AddW, BaseW, limBytes, simprocAttr, ne_eq] | ((with_reducible refine Need.intro ?_ ?_); (first | trivial | (simp; omega)))))
    rw [wrapI (by omega)]
    have hsucc : (n.attrs.take (i + 1)).map ownA = (n.attrs.take i).map ownA ++ [ownA n.attrs[i]] := by rw [List.take_succ_eq_append_getElem hlt, List.map_append]; rfl
    refine UpTo.here ⟨i + 1, hlt, by simp only; omega, by simp [upd, eset] <;> omega, ⟨_, by simp only [hsucc]; simp [attrV, ownA]; rfl⟩⟩
  · (repeat simp -dsimp only [zrArena01, st_hook, sz_hook, st1_hook, cl_hook, st_node, sz_node, st1_node, cl_node, xnils, xnilm, xrange, xmakeMap, h, RB, TB, keep115, tab115, xindexAddr, xindex, xslice, xconvert, xlen, ewOp, FreeW, StabW, SameW, ChangeW, AddW, BaseW, limBytes, simprocAttr, ne_eq])
    have hi2 : i = n.attrs.length := Nat.le_antisymm hi (ge_of h)
    subst hi2
    rw [List.take_length]
    refine RetW.keep false (by simp) ?_ ?_ ?_
    · (simp (maxDischargeDepth := 6) [LTB, HLt_set, ltL_take, ltL_drop, ltL_rep, ltL_set, upd, eset, hH, hHk, zlArena01, lt_hook, lt1_hook, ltc_hook, lt_node, lt1_node, ltc_node] <;> omega)
    · simp [okW, okW1, okW0, V.lt, ltL, lt_run, lt_hook]
    · simp only [wk, wk1, wk0]
      exact ⟨_, 1 + n.attrs.length, by simp [wk1, wk0], rfl, by simp, by simp⟩
theorem aOwnV (H : List Ob) (n : Node) (hn : okN n) : SCall Try.prog 115 [nodeV n] H (fun r H' => ∃ o L, r = nodeK (ownN n) o 1 ∧ H' = H ++ L ∧ H.length ≤ o ∧ H'[o]? = some (.vec 1 1 (n.kids.map vi))) := by
  refine (aOwnV0 H n hn).ghoE ?_
  rintro r H' ⟨L, v, rfl, rfl, h2, h3⟩
  have l3 := (List.getElem?_eq_some_iff.1 h3).1
  have ho : (H ++ L)[H.length + 3]? = some (.vec v 4 ((n.attrs.map ownA).map attrV)) := by rw [hget]; exact h3
  have e : (H ++ L).set (H.length + 3) .gone = H ++ L.set 3 .gone := by rw [hset]
  refine ⟨nodeK (ownN n) (H.length + 2) 1, H ++ L.set 3 .gone, ?_, H.length + 2, L.set 3 .gone, rfl, rfl, by omega, by rw [hget, List.getElem?_set_ne (by omega)]; exact h2⟩
  rw [← e]
  refine Gho.conv (n0 := H.length) (some (H.length + 3, v, (n.attrs.map ownA).map attrV)) (fun _ _ _ e => by cases e; exact ⟨⟨4, ho⟩, List.getElem?_set_self (by simp; omega)⟩) (by simp) (fun j x hx hz => ⟨x, ?_, ?_⟩) ?_
  · rw [List.getElem?_set_ne (by rintro rfl; simp [isZ] at hz)]
    exact hx
  · cases x with
    | gone => trivial
    | hole => trivial
    | var cs => exact All2.rfl' (fun _ => .inl (.inl rfl)) _
    | vec v e l => exact ⟨rfl, rfl, All2.rfl' CvA.rfl' _⟩
    | raw _ _ _ _ => exact ⟨rfl, rfl, rfl, rfl⟩
    | map _ _ => exact ⟨rfl, All2.rfl' (fun _ => ⟨rfl, rfl, CvA.rfl' _⟩) _⟩
    | iter _ _ _ _ => exact ⟨rfl, rfl, rfl, rfl⟩
  · refine ⟨⟨rfl, .inr (.inr ⟨_, _, rfl, rfl, ?_⟩)⟩, trivial⟩
    refine ⟨.inl (.inl rfl), .inl (.inl rfl), .inl (.inl rfl), .inl (.inl rfl), .inl (.inl rfl), .inl (.inl rfl), .inl (.inl rfl), .inl (.inl rfl), .inr ⟨_, _, _, 0, _, rfl, rfl, ?_, ?_⟩, .inl (.inl rfl), .inl (.inl rfl), .inl (.inl rfl), .inl (.inl rfl), trivial⟩
    · simp
    · rw [List.drop_zero, List.take_of_length_le (by simp)]; rfl
theorem aOwnN (H : List Ob) (n : Node) (hn : okN n) : SCall Try.prog 115 [nodeV n] H (fun r H' => r = nodeV (ownN n) ∧ H' = H) := by
  refine SCall.of_good fun hH => ?_
  refine (aOwnV H n hn).ghoE ?_
  rintro r H' ⟨o, L, rfl, rfl, hle, ho⟩
  have hlt := (List.getElem?_eq_some_iff.1 ho).1
  have e : (H ++ L).set o .gone = H ++ L.set (o - H.length) .gone := List.set_append_right _ _ hle
  refine ⟨_, _, (Gho.conv (n0 := H.length) (some (o, 1, n.kids.map vi)) (H := H ++ L) (H' := (H ++ L).set o .gone) (env := [(0, nodeK (ownN n) o 1)]) (env' := [(0, nodeV (ownN n))]) (fun _ _ _ e => by cases e; exact ⟨⟨1, ho⟩, List.getElem?_set_self hlt⟩) (by simp) (fun j x hx hz => ⟨x, ?_, ?_⟩) ?_).trans ?_, rfl, rfl⟩
  · rw [List.getElem?_set_ne (by rintro rfl; simp [isZ] at hz)]
    exact hx
  · cases x with
    | gone => trivial
    | hole => trivial
    | var cs => exact All2.rfl' (fun _ => .inl (.inl rfl)) _
    | vec v e l => exact ⟨rfl, rfl, All2.rfl' CvA.rfl' _⟩
    | raw _ _ _ _ => exact ⟨rfl, rfl, rfl, rfl⟩
    | map _ _ => exact ⟨rfl, All2.rfl' (fun _ => ⟨rfl, rfl, CvA.rfl' _⟩) _⟩
    | iter _ _ _ _ => exact ⟨rfl, rfl, rfl, rfl⟩
  · refine ⟨⟨rfl, .inr (.inr ⟨_, _, rfl, rfl, ?_⟩)⟩, trivial⟩
    refine ⟨.inl (.inl rfl), .inl (.inl rfl), .inl (.inl rfl), .inl (.inl rfl), .inl (.inl rfl), .inl (.inl rfl), .inl (.inl rfl), .inl (.inl rfl), .inl (.inl rfl), .inl (.inl rfl), .inr ⟨o, 1, _, 0, _, rfl, rfl, ?_, ?_⟩, .inl (.inl rfl), .inl (.inl rfl), trivial⟩
    · simp [ownN]
    · rw [List.drop_zero, List.take_of_length_le (by simp [ownN])]; rfl
  · rw [e]
    exact drop_rest (Nat.le_refl _) hH (by simp [lt1_node])
end Go.Proofs.Ytjplgbalpnlanaa

/- The walks of package arena: is, maps.Clone, New, Clone. -/
set_option maxHeartbeats 600000
set_option linter.unusedSimpArgs false
set_option linter.unusedVariables false
set_option maxRecDepth 100000
namespace Go.Proofs.Ytjplgbalpnlanaa
open Go Go.EL
theorem zrArena11 : type_of% (And.intro (And.intro (And.intro (And.intro (@st_run) (And.intro (@sz_run) (@st1_run))) (And.intro (@cl_run) (And.intro (@st_Str) (@sz_Str)))) (And.intro (And.intro (@st1_Str) (And.intro (@cl_Str) (@st_c))) (And.intro (@sz_c) (And.intro (@st1_c) (@cl_c))))) (And.intro (And.intro (And.intro (@st_attr) (And.intro (@sz_attr) (@st1_attr))) (And.intro (@cl_attr) (And.intro (@st_hook) (@sz_hook)))) (And.intro (And.intro (@st1_hook) (And.intro (@cl_hook) (@st_node))) (And.intro (@sz_node) (And.intro (@st1_node) (@cl_node)))))) := And.intro (And.intro (And.intro (And.intro (@st_run) (And.intro (@sz_run) (@st1_run))) (And.intro (@cl_run) (And.intro (@st_Str) (@sz_Str)))) (And.intro (And.intro (@st1_Str) (And.intro (@cl_Str) (@st_c))) (And.intro (@sz_c) (And.intro (@st1_c) (@cl_c))))) (And.intro (And.intro (And.intro (@st_attr) (And.intro (@sz_attr) (@st1_attr))) (And.intro (@cl_attr) (And.intro (@st_hook) (@sz_hook)))) (And.intro (And.intro (@st1_hook) (And.intro (@cl_hook) (@st_node))) (And.intro (@sz_node) (And.intro (@st1_node) (@cl_node)))))
theorem zlArena11 : type_of% (And.intro (And.intro (And.intro (And.intro (@lt_vi) (@lt_str)) (And.intro (@lt_vb) (And.intro (@ltc_str) (@ltc_vi)))) (And.intro (And.intro (@lt_run) (And.intro (@lt1_run) (@ltc_run))) (And.intro (@lt_Str) (And.intro (@lt1_Str) (@ltc_Str))))) (And.intro (And.intro (And.intro (@lt_c) (And.intro (@lt1_c) (@ltc_c))) (And.intro (@lt_attr) (And.intro (@lt1_attr) (@ltc_attr)))) (And.intro (And.intro (@lt_hook) (And.intro (@lt1_hook) (@ltc_hook))) (And.intro (@lt_node) (And.intro (@lt1_node) (@ltc_node)))))) := And.intro (And.intro (And.intro (And.intro (@lt_vi) (@lt_str)) (And.intro (@lt_vb) (And.intro (@ltc_str) (@ltc_vi)))) (And.intro (And.intro (@lt_run) (And.intro (@lt1_run) (@ltc_run))) (And.intro (@lt_Str) (And.intro (@lt1_Str) (@ltc_Str))))) (And.intro (And.intro (And.intro (@lt_c) (And.intro (@lt1_c) (@ltc_c))) (And.intro (@lt_attr) (And.intro (@lt1_attr) (@ltc_attr)))) (And.intro (And.intro (@lt_hook) (And.intro (@lt1_hook) (@ltc_hook))) (And.intro (@lt_node) (And.intro (@lt1_node) (@ltc_node)))))
structure Arena where
  nodes : List (Int × Nat × Node)
  clock : Nat
  used : List Int
  live : List Int
def encM (l : List (Int × Nat × Node)) : List (Int × Nat × V) := l.map fun p => (p.1, p.2.1, nodeV p.2.2)
/-- an arena stands at A, its nodes at m -/
def arenaAt (H : List Ob) (A m : Nat) (a : Arena) : Prop := H[A]? = some (.var (.mapr m :: (a.used.map vi ++ a.live.map vi))) ∧ H[m]? = some (.map (encM a.nodes) a.clock) ∧ a.used.length = 4 ∧ a.live.length = 4
theorem aIsNil (H : List Ob) : SCall Try.prog 105 [.nilp] H (fun r H' => r = .bool false ∧ H' = H) := by
  refine SCall.of_good fun hH => ?_
  have hHk := HLt.add hH
  refine SCall.of_code Tok Try.func105 rfl Try.call105 (n := 12) rfl (by simp) (rs := [.tmp 2]) rfl ?_
  refine EWn.to ?_
  refine EWn.of_c Tok mixed (own := false) keep105 tab105 (by kernel_rfl) ?_
  (repeat simp -dsimp only [zrArena11, xnils, xnilm, xrange, xmakeMap, RB, TB, keep105, tab105, xindexAddr, xindex, xslice, xconvert, xlen, ewOp, FreeW, StabW, SameW, ChangeW, AddW, BaseW, limBytes, simprocAttr, ne_eq])
  refine RetW.auto0 false _ (by first | rfl | exact (List.append_nil _).symm) ?_ ?_
  · (simp (maxDischargeDepth := 6) [LTB, HLt_set, ltL_take, ltL_drop, ltL_rep, ltL_set, upd, eset, hH, hHk, zlArena11] <;> omega)
  (try simp only [wk, wk1, wk0, RB, limBytes, simprocAttr, ne_eq])
  skip
theorem aIs (H : List Ob) (A m : Nat) (a : Arena) (h : arenaAt H A m a) : SCall Try.prog 105 [.ref A 0] H (fun r H' => r = .bool true ∧ H' = H) := by
  obtain ⟨h1, h2, h3, h4⟩ := h
  refine SCall.of_good fun hH => ?_
  have hHk := HLt.add hH
  refine SCall.of_code Tok Try.func105 rfl Try.call105 (n := 12) rfl (by simp) (rs := [.tmp 2]) rfl ?_
  refine EWn.to ?_
  refine EWn.of_c Tok mixed (own := false) keep105 tab105 (by kernel_rfl) ?_
  (repeat (first | simp -dsimp only [zrArena11, xnils, xnilm, xrange, xmakeMap, h1, h2, RB, TB, keep105, tab105, xindexAddr, xindex, xslice, xconvert, xlen, ewOp, FreeW, StabW, SameW, ChangeW, AddW, BaseW, limBytes, simprocAttr, ne_eq] | ((with_reducible refine Need.intro ?_ ?_); (omega))))
  try with_reducible refine Need.intro ⟨_, _, rfl⟩ ?_
  (repeat simp -dsimp only [zrArena11, xnils, xnilm, xrange, xmakeMap, h1, h2, RB, TB, keep105, tab105, xindexAddr, xindex, xslice, xconvert, xlen, ewOp, FreeW, StabW, SameW, ChangeW, AddW, BaseW, limBytes, simprocAttr, ne_eq])
  refine RetW.auto0 false _ (by first | rfl | exact (List.append_nil _).symm) ?_ ?_
  · (simp (maxDischargeDepth := 6) [LTB, HLt_set, ltL_take, ltL_drop, ltL_rep, ltL_set, upd, eset, hH, hHk, zlArena11] <;> omega)
  (try simp only [wk, wk1, wk0, RB, limBytes, simprocAttr, ne_eq])
  skip
theorem cloneX (H : List Ob) (t o : Nat) (l : List (Int × Nat × V)) (ck : Nat) (h : H[o]? = some (.map l ck)) : SCall Try.prog 178 [.iface t (.mapr o)] H (fun r H' => r = .iface t (.mapr H.length) ∧ H' = H ++ [.map l ck]) := by
  intro g w cargs hG ha
  obtain ⟨b, es, q1, q2, q3⟩ := hG.map h
  obtain ⟨v, rfl, hv⟩ : ∃ v, cargs = #[v] ∧ RepV (cxOf g H.length w) (.iface t (.mapr o)) v := by
    rcases cargs with ⟨l⟩
    match l, ha with
    | [c], ha => exact ⟨c, rfl, ha.1⟩
  have hl := hv.leaf (by simp) (by simp)
  simp only [RepC] at hl
  obtain ⟨u, hu, k1, k2⟩ := hl
  injection hu with hu
  subst hu
  have hm := mapr_val (RepV.of_parts (by simpa only [RepC] using k1) k2) q1
  subst hm
  obtain ⟨s1, s2, s3⟩ := step_map_new hG (ck := ck) q3
  have hrun : (callFunc 178 #[.iface t (.map (some b))]).run Try.prog w = .ok (.value (.iface t (.map (some w.heap.size)))) (pushW w (.map es ck)) := by
    rw [run_callFunc_extern (P := Try.prog) (fn := Try.f178) (e := Extern.MapsClone.clone) (by kernel_rfl) (by kernel_rfl) (by kernel_rfl) (by kernel_rfl) (by kernel_rfl)]
    rw [show Extern.MapsClone.clone #[.iface t (.map (some b))] = (do match ← getObj b with | .map entries clock => pure (.iface t (.map (some (← newObj (.map entries clock))))) | _ => stuck "maps.clone: a map expected" : Sem Value) from rfl]
    simp [getObj_run q2, run_newObj, pushW]
  unfold CallR
  rw [hrun]
  refine ⟨_, _, _, s1, s2, ?_, rfl, rfl⟩
  have k := s3.leaf (by simp) (by simp)
  refine RepV.mk_leaf ?_ (by simp) (by simp)
  simp only [RepC] at k ⊢
  exact ⟨_, rfl, k, trivial⟩
theorem cloneM (H : List Ob) (o : Nat) (l : List (Int × Nat × V)) (ck : Nat) (h : H[o]? = some (.map l ck)) : SCall Try.prog 163 [.mapr o] H (fun r H' => r = .mapr H.length ∧ H' = H ++ [.map l ck]) := by
  refine SCall.of_good fun hH => ?_
  have hHk := HLt.add hH
  refine SCall.of_code Tok Try.func163 rfl Try.call163 (n := 9) rfl (by simp) (rs := [.tmp 2]) rfl ?_
  refine EWn.to ?_
  refine EWn.of_c Tok mixed (own := false) keep163 tab163 (by kernel_rfl) ?_
  (repeat (first | simp -dsimp only [zrArena11, xnils, xnilm, xrange, xmakeMap, h, RB, TB, keep163, tab163, xindexAddr, xindex, xslice, xconvert, xlen, ewOp, FreeW, StabW, SameW, ChangeW, AddW, BaseW, limBytes, simprocAttr, ne_eq] | ((with_reducible refine Need.intro ?_ ?_); (exact ⟨by first | trivial | (simp; done), _, by first | rfl | (simp; rfl)⟩))))
  try with_reducible refine Need.intro ⟨_, _, rfl⟩ ?_
  skip
  (refine SCall.then (cloneX H _ o l ck h) ?_)
  (repeat simp -dsimp only [zrArena11, xnils, xnilm, xrange, xmakeMap, RB, TB, keep163, tab163, xindexAddr, xindex, xslice, xconvert, xlen, ewOp, FreeW, StabW, SameW, ChangeW, AddW, BaseW, limBytes, simprocAttr, ne_eq])
  have hlm : ltL (H.length + 1) (l.map (·.2.2)) := ltL_le (Nat.le_succ _) _ (hH _ (List.mem_of_getElem? h))
  refine RetW.auto false [.map l ck] _ (by first | rfl | simp) ?_ ?_ ?_
  · (simp (maxDischargeDepth := 6) [LTB, HLt_set, ltL_take, ltL_drop, ltL_rep, ltL_set, upd, eset, hH, hHk, hlm, zlArena11] <;> omega)
  · (simp (maxDischargeDepth := 6) [LTB, HLt_set, ltL_take, ltL_drop, ltL_rep, ltL_set, upd, eset, hH, hHk, hlm, zlArena11] <;> omega)
  (try simp only [wk, wk1, wk0, RB, limBytes, simprocAttr, ne_eq])
  skip
def rootN : Node := ⟨0, 0, -1, 1, ⟨[100, 105, 118], rle (List.replicate 3 0)⟩, [], 0, [], [], [], zeroS⟩
def newA : Arena := ⟨[(0, 0, rootN)], 1, [0, 0, 0, 0], [1, 0, 0, 0]⟩
def rootV : V := .agg [.int .i64 0, .int .i64 0, .int .i64 (-1), .int .i64 1, .str [100, 105, 118], .slice ((rle (List.replicate 3 0)).map runV), .str [], .int .i64 0, .fslice [], .fslice [], .fslice [], .str [], .fslice []]
theorem aNew0 (H : List Ob) : SCall Try.prog 36 [] H (fun r H' => r = .ref (H.length + 1) 0 ∧ H' = H ++ [.map [(0, 0, rootV)] 1, .var (.mapr H.length :: (newA.used.map vi ++ newA.live.map vi))]) := by
  refine SCall.of_good fun hH => ?_
  have hHk := HLt.add hH
  refine SCall.of_code Tok Try.func36 rfl Try.call36 (n := 16) rfl (by simp) (rs := [.tmp 0]) rfl ?_
  refine EWn.to ?_
  refine EWn.of_c Tok mixed (own := false) keep36 tab36 (by kernel_rfl) ?_
  (repeat (first | simp -dsimp only [zrArena11, xnils, xnilm, xrange, xmakeMap, RB, TB, keep36, tab36, xindexAddr, xindex, xslice, xconvert, xlen, ewOp, FreeW, StabW, SameW, ChangeW, AddW, BaseW, limBytes, simprocAttr, ne_eq] | ((with_reducible refine Need.intro ?_ ?_); (trivial))))
  refine CallE.intro _ (mOf _ [100, 105, 118] 0) ?_
  (repeat (first | simp -dsimp only [zrArena11, xnils, xnilm, xrange, xmakeMap, strV, RB, TB, keep36, tab36, xindexAddr, xindex, xslice, xconvert, xlen, ewOp, FreeW, StabW, SameW, ChangeW, AddW, BaseW, limBytes, simprocAttr, ne_eq] | ((with_reducible refine Need.intro ?_ ?_); (trivial))))
  have hlm : ltL (H.length + 2) ([(0, 0, rootV)].map fun p : Int × Nat × V => p.2.2) := by simp [rootV, ltL, V.lt]; exact lt_run _ _
  refine RetW.auto false [.map [(0, 0, rootV)] 1, .var (.mapr H.length :: (newA.used.map vi ++ newA.live.map vi))] [] (by simp [EL.mput, mget, rootV, newA, vi, near]; rfl) ?_ ?_ ?_
  · refine HLt.cons ?_ (HLt.cons ?_ (HLt.nil _))
    · simpa [Ob.lt] using hlm
    · simp [Ob.lt, newA, vi, ltL, V.lt]
  · simp [okW, okW1, okW0, V.lt]
  · simp [wk, wk1, wk0]
/-- what a call leaves, told otherwise -/
theorem _root_.Go.EL.SCall.gho {f : FuncId} {args : List V} {H : List Ob} {v v1 : V} {H1 H2 : List Ob} (h : SCall Try.prog f args H (fun r H' => r = v ∧ H' = H1)) (hg : Gho H.length [(0, v)] H1 [(0, v1)] H2) : SCall Try.prog f args H (fun r H' => r = v1 ∧ H' = H2) := by
  intro g w cargs hG ha
  refine (h g w cargs hG ha).mono fun cv w' ⟨r, H', g', h1, h2, h3, h4, h5⟩ => ?_
  subst h4 h5
  obtain ⟨g'', k1, k2, k3⟩ := hg g' w' h1
  exact ⟨v1, H2, g'', k1, k2 _ _ h2, k3 0 cv h3, rfl, rfl⟩
theorem aNew (H : List Ob) : SCall Try.prog 36 [] H (fun r H' => r = .ref (H.length + 1) 0 ∧ H' = H ++ [.map (encM newA.nodes) 1, .var (.mapr H.length :: (newA.used.map vi ++ newA.live.map vi))]) := by
  refine (aNew0 H).gho ?_
  have hs : H ++ [Ob.map (encM newA.nodes) 1, .var (.mapr H.length :: (newA.used.map vi ++ newA.live.map vi))] = (H ++ [Ob.map [(0, 0, rootV)] 1, .var (.mapr H.length :: (newA.used.map vi ++ newA.live.map vi))]).set H.length (Ob.map (encM newA.nodes) 1) := by simp
  rw [hs]
  refine Gho.weakOb H.length (x := Ob.map [(0, 0, rootV)] 1) (by simp) ⟨rfl, ⟨rfl, rfl, .inr ⟨_, _, rfl, rfl, ?_⟩⟩, trivial⟩
  repeat (first | exact trivial | refine ⟨.inl (.inl rfl), ?_⟩ | refine ⟨.inl (.inr ⟨_, rfl, rfl⟩), ?_⟩)
end Go.Proofs.Ytjplgbalpnlanaa

/- The walk of arena's Clone. -/
set_option maxHeartbeats 600000
set_option linter.unusedSimpArgs false
set_option linter.unusedVariables false
set_option maxRecDepth 100000
namespace Go.Proofs.Ytjplgbalpnlanaa
open Go Go.EL
theorem zrArena21 : type_of% (And.intro (And.intro (And.intro (And.intro (@st_run) (And.intro (@sz_run) (@st1_run))) (And.intro (@cl_run) (And.intro (@st_Str) (@sz_Str)))) (And.intro (And.intro (@st1_Str) (And.intro (@cl_Str) (@st_c))) (And.intro (@sz_c) (And.intro (@st1_c) (@cl_c))))) (And.intro (And.intro (And.intro (@st_attr) (And.intro (@sz_attr) (@st1_attr))) (And.intro (@cl_attr) (And.intro (@st_hook) (@sz_hook)))) (And.intro (And.intro (@st1_hook) (And.intro (@cl_hook) (@st_node))) (And.intro (@sz_node) (And.intro (@st1_node) (@cl_node)))))) := And.intro (And.intro (And.intro (And.intro (@st_run) (And.intro (@sz_run) (@st1_run))) (And.intro (@cl_run) (And.intro (@st_Str) (@sz_Str)))) (And.intro (And.intro (@st1_Str) (And.intro (@cl_Str) (@st_c))) (And.intro (@sz_c) (And.intro (@st1_c) (@cl_c))))) (And.intro (And.intro (And.intro (@st_attr) (And.intro (@sz_attr) (@st1_attr))) (And.intro (@cl_attr) (And.intro (@st_hook) (@sz_hook)))) (And.intro (And.intro (@st1_hook) (And.intro (@cl_hook) (@st_node))) (And.intro (@sz_node) (And.intro (@st1_node) (@cl_node)))))
theorem zlArena21 : type_of% (And.intro (And.intro (And.intro (And.intro (@lt_vi) (@lt_str)) (And.intro (@lt_vb) (And.intro (@ltc_str) (@ltc_vi)))) (And.intro (And.intro (@lt_run) (And.intro (@lt1_run) (@ltc_run))) (And.intro (@lt_Str) (And.intro (@lt1_Str) (@ltc_Str))))) (And.intro (And.intro (And.intro (@lt_c) (And.intro (@lt1_c) (@ltc_c))) (And.intro (@lt_attr) (And.intro (@lt1_attr) (@ltc_attr)))) (And.intro (And.intro (@lt_hook) (And.intro (@lt1_hook) (@ltc_hook))) (And.intro (@lt_node) (And.intro (@lt1_node) (@ltc_node)))))) := And.intro (And.intro (And.intro (And.intro (@lt_vi) (@lt_str)) (And.intro (@lt_vb) (And.intro (@ltc_str) (@ltc_vi)))) (And.intro (And.intro (@lt_run) (And.intro (@lt1_run) (@ltc_run))) (And.intro (@lt_Str) (And.intro (@lt1_Str) (@ltc_Str))))) (And.intro (And.intro (And.intro (@lt_c) (And.intro (@lt1_c) (@ltc_c))) (And.intro (@lt_attr) (And.intro (@lt1_attr) (@ltc_attr)))) (And.intro (And.intro (@lt_hook) (And.intro (@lt1_hook) (@ltc_hook))) (And.intro (@lt_node) (And.intro (@lt1_node) (@ltc_node)))))
abbrev Ent := Int × Nat × Node
def ownE (p : Ent) : Ent := (p.1, p.2.1, ownN p.2.2)
/-- those that were seen are one's own -/
def mSeen (l : List Ent) (seen : List Nat) : List Ent := l.map fun p => if p.2.1 ∈ seen then ownE p else p
structure okAr (a : Arena) : Prop where
  nodes : ∀ p ∈ a.nodes, okN p.2.2
  keys : (a.nodes.map (·.1)).Nodup
  born : (a.nodes.map (·.2.1)).Nodup
  old : ∀ p ∈ a.nodes, p.2.1 < a.clock
def ownAr (a : Arena) : Arena := { a with nodes := a.nodes.map ownE }
theorem seen_key (p : Ent) (seen : List Nat) : (if p.2.1 ∈ seen then ownE p else p).1 = p.1 := by split <;> rfl
theorem seen_born (p : Ent) (seen : List Nat) : (if p.2.1 ∈ seen then ownE p else p).2.1 = p.2.1 := by split <;> rfl
theorem seen_other {p q : Ent} {seen : List Nat} (h : p.2.1 ≠ q.2.1) : (if p.2.1 ∈ seen ++ [q.2.1] then ownE p else p) = if p.2.1 ∈ seen then ownE p else p := by
  have : (p.2.1 ∈ seen ++ [q.2.1]) ↔ p.2.1 ∈ seen := by simp [h]
  simp only [this]
theorem seen_same {q : Ent} {seen : List Nat} : ∀ {l : List Ent}, q.2.1 ∉ l.map (·.2.1) → mSeen l (seen ++ [q.2.1]) = mSeen l seen
  | [], _ => rfl
  | p :: l, h => by
    simp only [List.map_cons, List.mem_cons, not_or] at h
    simp only [mSeen, List.map_cons]
    rw [seen_other (Ne.symm h.1)]
    congr 1
    exact seen_same h.2
theorem mset_seen {q : Ent} {seen : List Nat} : ∀ {l : List Ent}, (l.map (·.1)).Nodup → (l.map (·.2.1)).Nodup → q ∈ l → mset (encM (mSeen l seen)) q.1 (nodeV (ownN q.2.2)) = encM (mSeen l (seen ++ [q.2.1])) ∧ (mget (encM (mSeen l seen)) q.1).isSome = true
  | [], _, _, h => by cases h
  | p :: l, h1, h2, h => by
    simp only [List.map_cons, List.nodup_cons] at h1 h2
    by_cases hk : q.1 = p.1
    · have hq : q = p := by
        rcases List.mem_cons.1 h with h | h
        · exact h
        · exact absurd (List.mem_map.2 ⟨q, h, hk⟩) h1.1
      subst hq
      refine ⟨?_, ?_⟩
      · have := seen_same (seen := seen) h2.1
        simp only [mSeen] at this
        simp only [mSeen, encM, List.map_cons, mset]
        rw [if_pos (seen_key q seen).symm, this]
        rw [if_pos (show q.2.1 ∈ seen ++ [q.2.1] by simp), seen_key, seen_born]
        rfl
      · simp only [mSeen, encM, List.map_cons, mget]
        rw [if_pos (seen_key q seen).symm]; rfl
    · have hq : q ∈ l := by
        rcases List.mem_cons.1 h with h | h
        · subst h; exact absurd rfl hk
        · exact h
      obtain ⟨k1, k2⟩ := mset_seen h1.2 h2.2 hq
      have hb : p.2.1 ≠ q.2.1 := fun e => h2.1 (List.mem_map.2 ⟨q, hq, e.symm⟩)
      have hn : ¬ q.1 = (if p.2.1 ∈ seen then ownE p else p).1 := by rw [seen_key]; exact hk
      simp only [mSeen, encM] at k1 k2
      refine ⟨?_, ?_⟩
      · simp only [mSeen, encM, List.map_cons, mset]
        rw [if_neg hn, k1, seen_other hb]
      · simp only [mSeen, encM, List.map_cons, mget]
        rw [if_neg hn, k2]
theorem find_seen {q : Ent} {seen : List Nat} (hns : q.2.1 ∉ seen) : ∀ {l : List Ent}, (l.map (·.2.1)).Nodup → q ∈ l → (encM (mSeen l seen)).find? (fun p => p.2.1 == q.2.1) = some (q.1, q.2.1, nodeV q.2.2)
  | [], _, h => by cases h
  | p :: l, h2, h => by
    simp only [List.map_cons, List.nodup_cons] at h2
    by_cases hk : q.2.1 = p.2.1
    · have hq : q = p := by
        rcases List.mem_cons.1 h with h | h
        · exact h
        · exact absurd (List.mem_map.2 ⟨q, h, hk⟩) h2.1
      subst hq
      simp only [mSeen, encM, List.map_cons, if_neg hns]
      rw [List.find?_cons_of_pos (by simp)]
    · have hq : q ∈ l := by
        rcases List.mem_cons.1 h with h | h
        · subst h; exact absurd rfl hk
        · exact h
      have := find_seen hns h2.2 hq
      simp only [mSeen, encM] at this
      simp only [mSeen, encM, List.map_cons]
      rw [List.find?_cons_of_neg (by simp only [seen_born]; simpa using fun e => hk e.symm), this]
theorem seen_mem {p : Int × Nat × V} {seen : List Nat} {l : List Ent} (h : p ∈ encM (mSeen l seen)) (hns : p.2.1 ∉ seen) : ∃ q ∈ l, p = (q.1, q.2.1, nodeV q.2.2) := by
  obtain ⟨x, hx, rfl⟩ := List.mem_map.1 h
  obtain ⟨q, hq, rfl⟩ := List.mem_map.1 hx
  simp only [seen_born] at hns
  exact ⟨q, hq, by rw [if_neg hns]⟩
theorem seen_mem' {q : Ent} {seen : List Nat} {l : List Ent} (h : q ∈ l) : ∃ p ∈ encM (mSeen l seen), p.2.1 = q.2.1 :=
  ⟨_, List.mem_map.2 ⟨_, List.mem_map.2 ⟨q, h, rfl⟩, rfl⟩, seen_born q seen⟩
theorem seen_all {seen : List Nat} {l : List Ent} (h : ∀ q ∈ l, q.2.1 ∈ seen) : mSeen l seen = l.map ownE :=
  List.map_congr_left fun p hp => by rw [if_pos (h p hp)]
theorem seen_nil (l : List Ent) : mSeen l [] = l := by simp [mSeen]
theorem nodup_len : ∀ {l m : List Nat}, l.Nodup → (∀ b ∈ l, b ∈ m) → l.length ≤ m.length
  | [], m, _, _ => Nat.zero_le _
  | a :: l, m, h, hs => by
    rw [List.nodup_cons] at h
    have ha := hs a (by simp)
    have := nodup_len (m := m.erase a) h.2 (fun b hb => by
      rw [List.mem_erase_of_ne (fun e : b = a => h.1 (e ▸ hb))]
      exact hs b (by simp [hb]))
    rw [List.length_erase_of_mem ha] at this
    have := List.length_pos_of_mem ha
    simp only [List.length_cons]
    omega
theorem lt_encM (n : Nat) (l : List Ent) : ltL n ((encM l).map fun p : Int × Nat × V => p.2.2) := by
  simp only [encM, List.map_map]
  exact ltL_map (f := (fun p : Int × Nat × V => p.2.2) ∘ fun p : Ent => (p.1, p.2.1, nodeV p.2.2)) (fun x => lt1_node n x.2.2) l
theorem aCloneNil (H : List Ob) : SCall Try.prog 121 [.nilp] H (fun r H' => r = .nilp ∧ H' = H) := by
  refine SCall.of_good fun hH => ?_
  have hHk := HLt.add hH
  refine SCall.of_code Tok Try.func121 rfl Try.call121 (n := 42) rfl (by simp) (rs := [.tmp 2]) rfl ?_
  refine EWn.to ?_
  refine EWn.of_c Tok mixed (own := false) keep121 tab121 (by kernel_rfl) ?_
  (repeat simp -dsimp only [zrArena21, xnils, xnilm, xrange, xmakeMap, RB, TB, keep121, tab121, xindexAddr, xindex, xslice, xconvert, xlen, ewOp, FreeW, StabW, SameW, ChangeW, AddW, BaseW, limBytes, simprocAttr, ne_eq])
  (refine SCall.then (aIsNil _) ?_)
  (repeat simp -dsimp only [zrArena21, xnils, xnilm, xrange, xmakeMap, RB, TB, keep121, tab121, xindexAddr, xindex, xslice, xconvert, xlen, ewOp, FreeW, StabW, SameW, ChangeW, AddW, BaseW, limBytes, simprocAttr, ne_eq])
  refine RetW.auto0 false _ (by first | rfl | exact (List.append_nil _).symm) ?_ ?_
  · (simp (maxDischargeDepth := 6) [LTB, HLt_set, ltL_take, ltL_drop, ltL_rep, ltL_set, upd, eset, hH, hHk, lt_encM, vi, zlArena21] <;> omega)
  (try simp only [wk, wk1, wk0, RB, limBytes, simprocAttr, ne_eq])
  skip
theorem aClone (H : List Ob) (A m : Nat) (a : Arena) (h : arenaAt H A m a) (hok : okAr a) : SCall Try.prog 121 [.ref A 0] H (fun r H' => r = .ref (H.length + 1) 0 ∧ H' = H ++ [.map (encM (ownAr a).nodes) a.clock, .var (.mapr H.length :: (a.used.map vi ++ a.live.map vi))]) := by
  obtain ⟨nodes, clock, used, live⟩ := a
  have hat := h
  obtain ⟨h1, h2, h3, h4⟩ := h
  simp only at h1 h2 h3 h4
  match used, live, h3, h4 with
  | [u0, u1, u2, u3], [l0, l1, l2, l3], _, _ =>
  have hA : ∀ L, (H ++ L)[A]? = some (.var [.mapr m, vi u0, vi u1, vi u2, vi u3, vi l0, vi l1, vi l2, vi l3]) := fun L => by rw [List.getElem?_append_left (List.getElem?_eq_some_iff.1 h1).1]; exact h1
  simp only [List.map_cons, List.map_nil, List.cons_append, List.nil_append] at h1
  refine SCall.of_good fun hH => ?_
  have hHk := HLt.add hH
  refine SCall.of_code Tok Try.func121 rfl Try.call121 (n := 42) rfl (by simp) (rs := [.tmp 2]) rfl ?_
  refine EWn.to ?_
  refine EWn.of_c Tok mixed (own := false) keep121 tab121 (by kernel_rfl) ?_
  (repeat simp -dsimp only [zrArena21, xnils, xnilm, xrange, xmakeMap, RB, TB, keep121, tab121, xindexAddr, xindex, xslice, xconvert, xlen, ewOp, FreeW, StabW, SameW, ChangeW, AddW, BaseW, limBytes, simprocAttr, ne_eq])
  (refine SCall.then (aIs H A m _ hat) ?_)
  (repeat simp -dsimp only [zrArena21, xnils, xnilm, xrange, xmakeMap, h1, RB, TB, keep121, tab121, xindexAddr, xindex, xslice, xconvert, xlen, ewOp, FreeW, StabW, SameW, ChangeW, AddW, BaseW, limBytes, simprocAttr, ne_eq])
  (refine CallE2.intro _ _ (cloneM _ m _ _ h2) ?_)
  (repeat (first | simp -dsimp only [zrArena21, xnils, xnilm, xrange, xmakeMap, h1, hA, RB, TB, keep121, tab121, xindexAddr, xindex, xslice, xconvert, xlen, ewOp, FreeW, StabW, SameW, ChangeW, AddW, BaseW, limBytes, simprocAttr, ne_eq] | ((with_reducible refine Need.intro ?_ ?_); (first | trivial | exact ⟨_, rfl⟩))))
  have hcl : ∀ seen, encM (mSeen nodes seen) = encM (mSeen nodes seen) := fun _ => rfl
  rw [show encM nodes = encM (mSeen nodes []) by rw [seen_nil]]
  refine EWn.loopE (ι := (List Nat)) (fun (seen : (List Nat)) => seen.Nodup ∧ (∀ b ∈ seen, b ∈ nodes.map (·.2.1))) (fun (seen : (List Nat)) => nodes.length - seen.length) (fun (seen : (List Nat)) => []) (fun (seen : (List Nat)) => H ++ [.map (encM (mSeen nodes seen)) clock, .var [.mapr H.length, vi u0, vi u1, vi u2, vi u3, vi l0, vi l1, vi l2, vi l3], .iter H.length clock seen clock]) ([]) ?_ ?_ ?_ ?_ ?_
  · first | rfl | simp [upd, eset]
  · first | rfl | (simp; done) | exact (set_same (by assumption)).symm
  · rintro seen hok; exact ⟨by first | (simp; done) | (simp; omega), by (simp (maxDischargeDepth := 6) [LTB, HLt_set, ltL_take, ltL_drop, ltL_rep, ltL_set, upd, eset, hH, hHk, lt_encM, vi, zlArena21] <;> omega), by (simp (maxDischargeDepth := 6) [LTB, HLt_set, ltL_take, ltL_drop, ltL_rep, ltL_set, upd, eset, hH, hHk, lt_encM, vi, zlArena21] <;> omega)⟩
  · exact ⟨List.nodup_nil, fun b hb => by cases hb⟩
  rintro seen ⟨hnd, hin⟩
  refine EWn.of_c Tok mixed (own := false) keep121 tab121 (by kernel_rfl) ?_
  (repeat simp -dsimp only [zrArena21, xnils, xnilm, xrange, xmakeMap, RB, TB, keep121, tab121, xindexAddr, xindex, xslice, xconvert, xlen, ewOp, FreeW, StabW, SameW, ChangeW, AddW, BaseW, limBytes, simprocAttr, ne_eq])
  refine NextW.intro (H.length + 2) H.length clock seen clock _ clock rfl (by simp) (by simp; rfl) ?_ (fun p hp hns => ?_) (fun hall => ?_)
  · cases nodes with
    | nil => exact .inr (.inl rfl)
    | cons q l =>
      obtain ⟨p, k1, k2⟩ := seen_mem' (seen := seen) (q := q) (l := q :: l) (by simp)
      exact .inr (.inr ⟨p, k1, by rw [k2]; exact hok.old q (by simp)⟩)
  · obtain ⟨q, hq, rfl⟩ := seen_mem hp hns
    simp only at hns
    obtain ⟨s1, s2⟩ := mset_seen (seen := seen) hok.keys hok.born hq
    have hf : List.find? (fun p : Int × Nat × V => p.2.1 == (seen ++ [q.2.1]).getLastD 0) (encM (mSeen nodes seen)) = some (q.1, q.2.1, nodeV q.2.2) := by
      rw [show (seen ++ [q.2.1]).getLastD 0 = q.2.1 by simp]
      exact find_seen hns hok.born hq
    have hnew : (seen ++ [q.2.1]).Nodup := by
      rw [List.nodup_append]
      exact ⟨hnd, by simp, fun a ha b hb e => by simp at hb; subst hb; exact hns (e ▸ ha)⟩
    have hin2 : ∀ b ∈ seen ++ [q.2.1], b ∈ nodes.map (·.2.1) := fun b hb => by
      rcases List.mem_append.1 hb with hb | hb
      · exact hin b hb
      · simp at hb; subst hb; exact List.mem_map.2 ⟨q, hq, rfl⟩
    have hlen : (seen ++ [q.2.1]).length ≤ nodes.length := by
      have := nodup_len hnew hin2
      simpa using this
    (repeat simp -dsimp only [zrArena21, xnils, xnilm, xrange, xmakeMap, hf, nodeV, RB, TB, keep121, tab121, xindexAddr, xindex, xslice, xconvert, xlen, ewOp, FreeW, StabW, SameW, ChangeW, AddW, BaseW, limBytes, simprocAttr, ne_eq])
    refine Need.intro (by simp) ?_
    (repeat simp -dsimp only [zrArena21, xnils, xnilm, xrange, xmakeMap, hf, nodeV, RB, TB, keep121, tab121, xindexAddr, xindex, xslice, xconvert, xlen, ewOp, FreeW, StabW, SameW, ChangeW, AddW, BaseW, limBytes, simprocAttr, ne_eq])
    (refine CallE.intro _ (aOwnN _ q.2.2 (hok.nodes q hq)) ?_)
    (repeat simp -dsimp only [zrArena21, xnils, xnilm, xrange, xmakeMap, nodeV, RB, TB, keep121, tab121, xindexAddr, xindex, xslice, xconvert, xlen, ewOp, FreeW, StabW, SameW, ChangeW, AddW, BaseW, limBytes, simprocAttr, ne_eq])
    have e1 : EL.mput (encM (mSeen nodes seen)) clock q.1 (nodeV (ownN q.2.2)) = encM (mSeen nodes (seen ++ [q.2.1])) := by
      unfold EL.mput
      rw [if_pos s2]; exact s1
    have e2 : (if (mget (encM (mSeen nodes seen)) q.1).isSome = true then clock else clock + 1) = clock := if_pos s2
    unfold nodeV at e1
    rw [e1, e2]
    rw [List.length_append, List.length_singleton] at hlen
    refine UpTo.here ⟨seen ++ [q.2.1], ⟨hnew, hin2⟩, by simp only [List.length_append, List.length_singleton]; omega, rfl, ⟨_, by simp only [List.append_assoc, List.cons_append, List.nil_append]; rfl⟩⟩
  · (repeat simp -dsimp only [zrArena21, xnils, xnilm, xrange, xmakeMap, RB, TB, keep121, tab121, xindexAddr, xindex, xslice, xconvert, xlen, ewOp, FreeW, StabW, SameW, ChangeW, AddW, BaseW, limBytes, simprocAttr, ne_eq])
    have hsa : mSeen nodes seen = nodes.map ownE := seen_all fun q hq => by
      obtain ⟨p, k1, k2⟩ := seen_mem' (seen := seen) hq
      have := hall p k1 (by rw [k2]; exact hok.old q hq)
      rwa [k2] at this
    rw [hsa]
    refine RetW.auto false [.map (encM (nodes.map ownE)) clock, .var [.mapr H.length, vi u0, vi u1, vi u2, vi u3, vi l0, vi l1, vi l2, vi l3]] _ (by first | rfl | simp) ?_ ?_ ?_
    · (simp (maxDischargeDepth := 6) [LTB, HLt_set, ltL_take, ltL_drop, ltL_rep, ltL_set, upd, eset, hH, hHk, lt_encM, vi, zlArena21] <;> omega)
    · (simp (maxDischargeDepth := 6) [LTB, HLt_set, ltL_take, ltL_drop, ltL_rep, ltL_set, upd, eset, hH, hHk, lt_encM, vi, zlArena21] <;> omega)
    (try simp only [wk, wk1, wk0, RB, limBytes, simprocAttr, ne_eq])
    skip
    simp [ownAr]
end Go.Proofs.Ytjplgbalpnlanaa

/- The walks of package arena: Has, Get. -/
set_option maxHeartbeats 600000
set_option linter.unusedSimpArgs false
set_option linter.unusedVariables false
set_option maxRecDepth 100000
namespace Go.Proofs.Ytjplgbalpnlanaa
open Go Go.EL
theorem zrArena31 : type_of% (And.intro (And.intro (And.intro (And.intro (@st_run) (And.intro (@sz_run) (@st1_run))) (And.intro (@cl_run) (And.intro (@st_Str) (@sz_Str)))) (And.intro (And.intro (@st1_Str) (And.intro (@cl_Str) (@st_c))) (And.intro (@sz_c) (And.intro (@st1_c) (@cl_c))))) (And.intro (And.intro (And.intro (@st_attr) (And.intro (@sz_attr) (@st1_attr))) (And.intro (@cl_attr) (And.intro (@st_hook) (@sz_hook)))) (And.intro (And.intro (@st1_hook) (And.intro (@cl_hook) (@st_node))) (And.intro (@sz_node) (And.intro (@st1_node) (@cl_node)))))) := And.intro (And.intro (And.intro (And.intro (@st_run) (And.intro (@sz_run) (@st1_run))) (And.intro (@cl_run) (And.intro (@st_Str) (@sz_Str)))) (And.intro (And.intro (@st1_Str) (And.intro (@cl_Str) (@st_c))) (And.intro (@sz_c) (And.intro (@st1_c) (@cl_c))))) (And.intro (And.intro (And.intro (@st_attr) (And.intro (@sz_attr) (@st1_attr))) (And.intro (@cl_attr) (And.intro (@st_hook) (@sz_hook)))) (And.intro (And.intro (@st1_hook) (And.intro (@cl_hook) (@st_node))) (And.intro (@sz_node) (And.intro (@st1_node) (@cl_node)))))
theorem zlArena31 : type_of% (And.intro (And.intro (And.intro (And.intro (@lt_vi) (@lt_str)) (And.intro (@lt_vb) (And.intro (@ltc_str) (@ltc_vi)))) (And.intro (And.intro (@lt_run) (And.intro (@lt1_run) (@ltc_run))) (And.intro (@lt_Str) (And.intro (@lt1_Str) (@ltc_Str))))) (And.intro (And.intro (And.intro (@lt_c) (And.intro (@lt1_c) (@ltc_c))) (And.intro (@lt_attr) (And.intro (@lt1_attr) (@ltc_attr)))) (And.intro (And.intro (@lt_hook) (And.intro (@lt1_hook) (@ltc_hook))) (And.intro (@lt_node) (And.intro (@lt1_node) (@ltc_node)))))) := And.intro (And.intro (And.intro (And.intro (@lt_vi) (@lt_str)) (And.intro (@lt_vb) (And.intro (@ltc_str) (@ltc_vi)))) (And.intro (And.intro (@lt_run) (And.intro (@lt1_run) (@ltc_run))) (And.intro (@lt_Str) (And.intro (@lt1_Str) (@ltc_Str))))) (And.intro (And.intro (And.intro (@lt_c) (And.intro (@lt1_c) (@ltc_c))) (And.intro (@lt_attr) (And.intro (@lt1_attr) (@ltc_attr)))) (And.intro (And.intro (@lt_hook) (And.intro (@lt1_hook) (@ltc_hook))) (And.intro (@lt_node) (And.intro (@lt1_node) (@ltc_node)))))
/-- the node of an id -/
def nget : List Ent → Int → Option Node
  | [], _ => none
  | p :: l, n => if n = p.1 then some p.2.2 else nget l n
theorem mget_enc (id : Int) : ∀ l : List Ent, mget (encM l) id = (nget l id).map nodeV
  | [] => rfl
  | p :: l => by
    simp only [encM, List.map_cons, mget, nget]
    by_cases h : id = p.1
    · rw [if_pos h, if_pos h]; rfl
    · rw [if_neg h, if_neg h]; exact mget_enc id l
theorem nget_mem {id : Int} {n : Node} : ∀ {l : List Ent}, nget l id = some n → ∃ p ∈ l, p.2.2 = n
  | p :: l, h => by
    simp only [nget] at h
    split at h
    · injection h with h; exact ⟨p, by simp, h⟩
    · obtain ⟨q, h1, h2⟩ := nget_mem h; exact ⟨q, by simp [h1], h2⟩
def nodeZ : Node := ⟨0, 0, 0, 0, zeroS, [], 0, [], [], [], zeroS⟩
theorem aHasNil (H : List Ob) (id : Int) : SCall Try.prog 114 [.nilp, .int .i64 id] H (fun r H' => r = .bool false ∧ H' = H) := by
  refine SCall.of_good fun hH => ?_
  have hHk := HLt.add hH
  refine SCall.of_code Tok Try.func114 rfl Try.call114 (n := 20) rfl (by simp) (rs := [.tmp 4]) rfl ?_
  refine EWn.to ?_
  refine EWn.of_c Tok mixed (own := false) keep114 tab114 (by kernel_rfl) ?_
  (repeat simp -dsimp only [zrArena31, xnils, xnilm, xrange, xmakeMap, xslice3, RB, TB, keep114, tab114, xindexAddr, xindex, xslice, xconvert, xlen, ewOp, FreeW, StabW, SameW, ChangeW, AddW, BaseW, limBytes, simprocAttr, ne_eq])
  (refine SCall.then (aIsNil _) ?_)
  (repeat simp -dsimp only [zrArena31, xnils, xnilm, xrange, xmakeMap, xslice3, RB, TB, keep114, tab114, xindexAddr, xindex, xslice, xconvert, xlen, ewOp, FreeW, StabW, SameW, ChangeW, AddW, BaseW, limBytes, simprocAttr, ne_eq])
  refine RetW.auto0 false _ (by first | rfl | exact (List.append_nil _).symm) ?_ ?_
  · (simp (maxDischargeDepth := 6) [LTB, HLt_set, ltL_take, ltL_drop, ltL_rep, ltL_set, upd, eset, hH, hHk, zlArena31] <;> omega)
  (try simp only [wk, wk1, wk0, RB, limBytes, simprocAttr, ne_eq])
  skip
theorem aHas (H : List Ob) (A m : Nat) (a : Arena) (h : arenaAt H A m a) (id : Int) : SCall Try.prog 114 [.ref A 0, .int .i64 id] H (fun r H' => r = .bool (nget a.nodes id).isSome ∧ H' = H) := by
  have hg := mget_enc id a.nodes
  have h' := h
  obtain ⟨h1, h2, h3, h4⟩ := h
  cases hn : nget a.nodes id with
  | none =>
    rw [hn] at hg
    simp only [Option.map_none] at hg
    refine SCall.of_good fun hH => ?_
    have hHk := HLt.add hH
    refine SCall.of_code Tok Try.func114 rfl Try.call114 (n := 20) rfl (by simp) (rs := [.tmp 4]) rfl ?_
    refine EWn.to ?_
    refine EWn.of_c Tok mixed (own := false) keep114 tab114 (by kernel_rfl) ?_
    (repeat simp -dsimp only [zrArena31, xnils, xnilm, xrange, xmakeMap, xslice3, RB, TB, keep114, tab114, xindexAddr, xindex, xslice, xconvert, xlen, ewOp, FreeW, StabW, SameW, ChangeW, AddW, BaseW, limBytes, simprocAttr, ne_eq])
    (refine SCall.then (aIs H A m a h') ?_)
    (repeat (first | simp -dsimp only [zrArena31, xnils, xnilm, xrange, xmakeMap, xslice3, h1, h2, hg, Option.getD_none, RB, TB, keep114, tab114, xindexAddr, xindex, xslice, xconvert, xlen, ewOp, FreeW, StabW, SameW, ChangeW, AddW, BaseW, limBytes, simprocAttr, ne_eq] | ((with_reducible refine Need.intro ?_ ?_); (omega))))
    refine RetW.auto0 false _ (by first | rfl | exact (List.append_nil _).symm) ?_ ?_
    · (simp (maxDischargeDepth := 6) [LTB, HLt_set, ltL_take, ltL_drop, ltL_rep, ltL_set, upd, eset, hH, hHk, zlArena31] <;> omega)
    (try simp only [wk, wk1, wk0, RB, limBytes, simprocAttr, ne_eq])
    skip
  | some n =>
    rw [hn] at hg
    simp only [Option.map_some] at hg
    refine SCall.of_good fun hH => ?_
    have hHk := HLt.add hH
    refine SCall.of_code Tok Try.func114 rfl Try.call114 (n := 20) rfl (by simp) (rs := [.tmp 4]) rfl ?_
    refine EWn.to ?_
    refine EWn.of_c Tok mixed (own := false) keep114 tab114 (by kernel_rfl) ?_
    (repeat simp -dsimp only [zrArena31, xnils, xnilm, xrange, xmakeMap, xslice3, RB, TB, keep114, tab114, xindexAddr, xindex, xslice, xconvert, xlen, ewOp, FreeW, StabW, SameW, ChangeW, AddW, BaseW, limBytes, simprocAttr, ne_eq])
    (refine SCall.then (aIs H A m a h') ?_)
    (repeat (first | simp -dsimp only [zrArena31, xnils, xnilm, xrange, xmakeMap, xslice3, h1, h2, hg, RB, TB, keep114, tab114, xindexAddr, xindex, xslice, xconvert, xlen, ewOp, FreeW, StabW, SameW, ChangeW, AddW, BaseW, limBytes, simprocAttr, ne_eq] | ((with_reducible refine Need.intro ?_ ?_); (omega))))
    refine RetW.auto0 false _ (by first | rfl | exact (List.append_nil _).symm) ?_ ?_
    · (simp (maxDischargeDepth := 6) [LTB, HLt_set, ltL_take, ltL_drop, ltL_rep, ltL_set, upd, eset, hH, hHk, zlArena31] <;> omega)
    (try simp only [wk, wk1, wk0, RB, limBytes, simprocAttr, ne_eq])
    skip
theorem aGetNil (H : List Ob) (id : Int) : SCall Try.prog 40 [.nilp, .int .i64 id] H (fun r H' => r = .tuple [nodeV nodeZ, .bool false] ∧ H' = H) := by
  refine SCall.of_good fun hH => ?_
  have hHk := HLt.add hH
  refine SCall.of_code Tok Try.func40 rfl Try.call40 (n := 18) rfl (by simp) (rs := [.cell 4 60, .tmp 5]) rfl ?_
  refine EWn.to ?_
  refine EWn.of_c Tok mixed (own := false) keep40 tab40 (by kernel_rfl) ?_
  (repeat simp -dsimp only [zrArena31, xnils, xnilm, xrange, xmakeMap, xslice3, RB, TB, keep40, tab40, xindexAddr, xindex, xslice, xconvert, xlen, ewOp, FreeW, StabW, SameW, ChangeW, AddW, BaseW, limBytes, simprocAttr, ne_eq])
  (refine SCall.then (aHasNil _ id) ?_)
  (repeat simp -dsimp only [zrArena31, xnils, xnilm, xrange, xmakeMap, xslice3, RB, TB, keep40, tab40, xindexAddr, xindex, xslice, xconvert, xlen, ewOp, FreeW, StabW, SameW, ChangeW, AddW, BaseW, limBytes, simprocAttr, ne_eq])
  refine RetW.auto0 false _ (by first | rfl | exact (List.append_nil _).symm) ?_ ?_
  · (simp (maxDischargeDepth := 6) [LTB, HLt_set, ltL_take, ltL_drop, ltL_rep, ltL_set, upd, eset, hH, hHk, zlArena31] <;> omega)
  (try simp only [wk, wk1, wk0, RB, limBytes, simprocAttr, ne_eq])
  skip
  rfl
theorem arena_app {H : List Ob} {A m : Nat} {a : Arena} (h : arenaAt H A m a) (K : List Ob) : arenaAt (H ++ K) A m a :=
  ⟨by rw [List.getElem?_append_left (List.getElem?_eq_some_iff.1 h.1).1]; exact h.1, by rw [List.getElem?_append_left (List.getElem?_eq_some_iff.1 h.2.1).1]; exact h.2.1, h.2.2.1, h.2.2.2⟩
theorem aGet (H : List Ob) (A m : Nat) (a : Arena) (h : arenaAt H A m a) (hok : ∀ p ∈ a.nodes, okN p.2.2) (id : Int) : SCall Try.prog 40 [.ref A 0, .int .i64 id] H (fun r H' => r = (match nget a.nodes id with | some n => .tuple [nodeV (ownN n), .bool true] | none => .tuple [nodeV nodeZ, .bool false]) ∧ H' = H) := by
  have hg := mget_enc id a.nodes
  have hK := fun K => (arena_app h K).1
  have hM := fun K => (arena_app h K).2.1
  cases hn : nget a.nodes id with
  | none =>
    rw [hn] at hg
    simp only [Option.map_none] at hg
    refine SCall.of_good fun hH => ?_
    have hHk := HLt.add hH
    refine SCall.of_code Tok Try.func40 rfl Try.call40 (n := 18) rfl (by simp) (rs := [.cell 4 60, .tmp 5]) rfl ?_
    refine EWn.to ?_
    refine EWn.of_c Tok mixed (own := false) keep40 tab40 (by kernel_rfl) ?_
    (repeat simp -dsimp only [zrArena31, xnils, xnilm, xrange, xmakeMap, xslice3, RB, TB, keep40, tab40, xindexAddr, xindex, xslice, xconvert, xlen, ewOp, FreeW, StabW, SameW, ChangeW, AddW, BaseW, limBytes, simprocAttr, ne_eq])
    (refine SCall.then (aHas _ A m a (arena_app h _) id) ?_)
    (repeat simp -dsimp only [zrArena31, xnils, xnilm, xrange, xmakeMap, xslice3, hn, Option.isSome_none, RB, TB, keep40, tab40, xindexAddr, xindex, xslice, xconvert, xlen, ewOp, FreeW, StabW, SameW, ChangeW, AddW, BaseW, limBytes, simprocAttr, ne_eq])
    refine RetW.auto0 false _ (by first | rfl | exact (List.append_nil _).symm) ?_ ?_
    · (simp (maxDischargeDepth := 6) [LTB, HLt_set, ltL_take, ltL_drop, ltL_rep, ltL_set, upd, eset, hH, hHk, zlArena31] <;> omega)
    (try simp only [wk, wk1, wk0, RB, limBytes, simprocAttr, ne_eq])
    skip
    rfl
  | some n =>
    rw [hn] at hg
    simp only [Option.map_some] at hg
    obtain ⟨p, hp, rfl⟩ := nget_mem hn
    refine SCall.of_good fun hH => ?_
    have hHk := HLt.add hH
    refine SCall.of_code Tok Try.func40 rfl Try.call40 (n := 18) rfl (by simp) (rs := [.cell 4 60, .tmp 5]) rfl ?_
    refine EWn.to ?_
    refine EWn.of_c Tok mixed (own := false) keep40 tab40 (by kernel_rfl) ?_
    (repeat simp -dsimp only [zrArena31, xnils, xnilm, xrange, xmakeMap, xslice3, RB, TB, keep40, tab40, xindexAddr, xindex, xslice, xconvert, xlen, ewOp, FreeW, StabW, SameW, ChangeW, AddW, BaseW, limBytes, simprocAttr, ne_eq])
    (refine SCall.then (aHas _ A m a (arena_app h _) id) ?_)
    (repeat (first | simp -dsimp only [zrArena31, xnils, xnilm, xrange, xmakeMap, xslice3, hn, Option.isSome_some, hK, hM, hg, RB, TB, keep40, tab40, xindexAddr, xindex, xslice, xconvert, xlen, ewOp, FreeW, StabW, SameW, ChangeW, AddW, BaseW, limBytes, simprocAttr, ne_eq] | ((with_reducible refine Need.intro ?_ ?_); (omega))))
    (refine SCall.then (aOwnN _ p.2.2 (hok p hp)) ?_)
    (repeat simp -dsimp only [zrArena31, xnils, xnilm, xrange, xmakeMap, xslice3, nodeV, RB, TB, keep40, tab40, xindexAddr, xindex, xslice, xconvert, xlen, ewOp, FreeW, StabW, SameW, ChangeW, AddW, BaseW, limBytes, simprocAttr, ne_eq])
    refine RetW.auto0 false _ (by first | rfl | exact (List.append_nil _).symm) ?_ ?_
    · (simp (maxDischargeDepth := 6) [LTB, HLt_set, ltL_take, ltL_drop, ltL_rep, ltL_set, upd, eset, hH, hHk, zlArena31] <;> omega)
    (try simp only [wk, wk1, wk0, RB, limBytes, simprocAttr, ne_eq])
    skip
theorem aGetS (H : List Ob) (A m : Nat) (a : Arena) (h : arenaAt H A m a) (hok : ∀ p ∈ a.nodes, okN p.2.2) (id : Int) (n : Node) (hn : nget a.nodes id = some n) : SCall Try.prog 40 [.ref A 0, .int .i64 id] H (fun r H' => r = .tuple [nodeV (ownN n), .bool true] ∧ H' = H) := by
  have := aGet H A m a h hok id
  rw [hn] at this
  exact this
theorem aGetN (H : List Ob) (A m : Nat) (a : Arena) (h : arenaAt H A m a) (hok : ∀ p ∈ a.nodes, okN p.2.2) (id : Int) (hn : nget a.nodes id = none) : SCall Try.prog 40 [.ref A 0, .int .i64 id] H (fun r H' => r = .tuple [nodeV nodeZ, .bool false] ∧ H' = H) := by
  have := aGet H A m a h hok id
  rw [hn] at this
  exact this
theorem okN_own {n : Node} (h : okN n) : okN (ownN n) := ⟨okS_fix h.1, okS_fix h.2.1, fun a ha => by
  obtain ⟨b, hb, rfl⟩ := List.mem_map.1 ha
  exact okA_own (h.2.2.1 b hb), by simpa [ownN] using h.2.2.2.1, h.2.2.2.2.1, h.2.2.2.2.2⟩
end Go.Proofs.Ytjplgbalpnlanaa

/- The walks of package arena: known, most, full, Next, Make, Set; of the owner 0. -/
set_option maxHeartbeats 600000
set_option linter.unusedSimpArgs false
set_option linter.unusedVariables false
set_option maxRecDepth 100000
namespace Go.Proofs.Ytjplgbalpnlanaa
open Go Go.EL
theorem zrArena41 : type_of% (And.intro (And.intro (And.intro (And.intro (@st_run) (And.intro (@sz_run) (@st1_run))) (And.intro (@cl_run) (And.intro (@st_Str) (@sz_Str)))) (And.intro (And.intro (@st1_Str) (And.intro (@cl_Str) (@st_c))) (And.intro (@sz_c) (And.intro (@st1_c) (@cl_c))))) (And.intro (And.intro (And.intro (@st_attr) (And.intro (@sz_attr) (@st1_attr))) (And.intro (@cl_attr) (And.intro (@st_hook) (@sz_hook)))) (And.intro (And.intro (@st1_hook) (And.intro (@cl_hook) (@st_node))) (And.intro (@sz_node) (And.intro (@st1_node) (@cl_node)))))) := And.intro (And.intro (And.intro (And.intro (@st_run) (And.intro (@sz_run) (@st1_run))) (And.intro (@cl_run) (And.intro (@st_Str) (@sz_Str)))) (And.intro (And.intro (@st1_Str) (And.intro (@cl_Str) (@st_c))) (And.intro (@sz_c) (And.intro (@st1_c) (@cl_c))))) (And.intro (And.intro (And.intro (@st_attr) (And.intro (@sz_attr) (@st1_attr))) (And.intro (@cl_attr) (And.intro (@st_hook) (@sz_hook)))) (And.intro (And.intro (@st1_hook) (And.intro (@cl_hook) (@st_node))) (And.intro (@sz_node) (And.intro (@st1_node) (@cl_node)))))
theorem zlArena41 : type_of% (And.intro (And.intro (And.intro (And.intro (@lt_vi) (@lt_str)) (And.intro (@lt_vb) (And.intro (@ltc_str) (@ltc_vi)))) (And.intro (And.intro (@lt_run) (And.intro (@lt1_run) (@ltc_run))) (And.intro (@lt_Str) (And.intro (@lt1_Str) (@ltc_Str))))) (And.intro (And.intro (And.intro (@lt_c) (And.intro (@lt1_c) (@ltc_c))) (And.intro (@lt_attr) (And.intro (@lt1_attr) (@ltc_attr)))) (And.intro (And.intro (@lt_hook) (And.intro (@lt1_hook) (@ltc_hook))) (And.intro (@lt_node) (And.intro (@lt1_node) (@ltc_node)))))) := And.intro (And.intro (And.intro (And.intro (@lt_vi) (@lt_str)) (And.intro (@lt_vb) (And.intro (@ltc_str) (@ltc_vi)))) (And.intro (And.intro (@lt_run) (And.intro (@lt1_run) (@ltc_run))) (And.intro (@lt_Str) (And.intro (@lt1_Str) (@ltc_Str))))) (And.intro (And.intro (And.intro (@lt_c) (And.intro (@lt1_c) (@ltc_c))) (And.intro (@lt_attr) (And.intro (@lt1_attr) (@ltc_attr)))) (And.intro (And.intro (@lt_hook) (And.intro (@lt1_hook) (@ltc_hook))) (And.intro (@lt_node) (And.intro (@lt1_node) (@ltc_node)))))
/-- an arena, its numbers one by one -/
def arena8 (ns : List Ent) (ck : Nat) (u0 u1 u2 u3 l0 l1 l2 l3 : Int) : Arena := ⟨ns, ck, [u0, u1, u2, u3], [l0, l1, l2, l3]⟩
theorem at8 {G : List Ob} {A m : Nat} {ns : List Ent} {ck : Nat} {u0 u1 u2 u3 l0 l1 l2 l3 : Int} (h : arenaAt G A m (arena8 ns ck u0 u1 u2 u3 l0 l1 l2 l3)) : G[A]? = some (.var [.mapr m, .int .i64 u0, .int .i64 u1, .int .i64 u2, .int .i64 u3, .int .i64 l0, .int .i64 l1, .int .i64 l2, .int .i64 l3]) ∧ G[m]? = some (.map (encM ns) ck) := ⟨h.1, h.2.1⟩
def nset : List Ent → Int → Node → List Ent
  | [], _, _ => []
  | p :: l, n, x => if n = p.1 then (p.1, p.2.1, x) :: l else p :: nset l n x
theorem mset_enc (id : Int) (x : Node) : ∀ l : List Ent, mset (encM l) id (nodeV x) = encM (nset l id x)
  | [] => rfl
  | p :: l => by
    have := mset_enc id x l
    simp only [encM] at this
    simp only [encM, List.map_cons, mset, nset]
    by_cases h : id = p.1
    · rw [if_pos h, if_pos h]; rfl
    · rw [if_neg h, if_neg h, List.map_cons, this]
theorem aKnown0 (H : List Ob) : SCall Try.prog 106 [.int .i64 0] H (fun r H' => r = .bool true ∧ H' = H) := by
  refine SCall.of_good fun hH => ?_
  have hHk := HLt.add hH
  refine SCall.of_code Tok Try.func106 rfl Try.call106 (n := 9) rfl (by simp) (rs := [.tmp 2]) rfl ?_
  refine EWn.to ?_
  refine EWn.of_c Tok mixed (own := false) keep106 tab106 (by kernel_rfl) ?_
  (repeat simp -dsimp only [zrArena41, xnils, xnilm, xrange, xmakeMap, xslice3, RB, TB, keep106, tab106, xindexAddr, xindex, xslice, xconvert, xlen, ewOp, FreeW, StabW, SameW, ChangeW, AddW, BaseW, limBytes, simprocAttr, ne_eq])
  refine RetW.auto0 false _ (by first | rfl | exact (List.append_nil _).symm) ?_ ?_
  · (simp (maxDischargeDepth := 6) [LTB, HLt_set, ltL_take, ltL_drop, ltL_rep, ltL_set, upd, eset, hH, hHk, zlArena41] <;> omega)
  (try simp only [wk, wk1, wk0, RB, limBytes, simprocAttr, ne_eq])
  skip
theorem aMost0 (H : List Ob) : SCall Try.prog 160 [.int .i64 0] H (fun r H' => r = .int .i64 128 ∧ H' = H) := by
  refine SCall.of_good fun hH => ?_
  have hHk := HLt.add hH
  refine SCall.of_code Tok Try.func160 rfl Try.call160 (n := 5) rfl (by simp) (rs := [.tmp 2]) rfl ?_
  refine EWn.to ?_
  refine EWn.of_c Tok mixed (own := false) keep160 tab160 (by kernel_rfl) ?_
  (repeat simp -dsimp only [zrArena41, xnils, xnilm, xrange, xmakeMap, xslice3, RB, TB, keep160, tab160, xindexAddr, xindex, xslice, xconvert, xlen, ewOp, FreeW, StabW, SameW, ChangeW, AddW, BaseW, limBytes, simprocAttr, ne_eq])
  refine RetW.auto0 false _ (by first | rfl | exact (List.append_nil _).symm) ?_ ?_
  · (simp (maxDischargeDepth := 6) [LTB, HLt_set, ltL_take, ltL_drop, ltL_rep, ltL_set, upd, eset, hH, hHk, zlArena41] <;> omega)
  (try simp only [wk, wk1, wk0, RB, limBytes, simprocAttr, ne_eq])
  skip
theorem aFull0 (G : List Ob) (A m : Nat) (ns : List Ent) (ck : Nat) (u0 u1 u2 u3 l0 l1 l2 l3 : Int) (h : arenaAt G A m (arena8 ns ck u0 u1 u2 u3 l0 l1 l2 l3)) (hl : l0 < 128) (hu : u0 < 1048575) : SCall Try.prog 107 [.ref A 0, .int .i64 0] G (fun r H' => r = .bool false ∧ H' = G) := by
  have e1 : decide (l0 ≥ 128) = false := decide_eq_false (by omega)
  have e2 : decide (u0 ≥ 1048575) = false := decide_eq_false (by omega)
  obtain ⟨g1, g2⟩ := at8 h
  refine SCall.of_good fun hH => ?_
  have hHk := HLt.add hH
  refine SCall.of_code Tok Try.func107 rfl Try.call107 (n := 23) rfl (by simp) (rs := [.tmp 4]) rfl ?_
  refine EWn.to ?_
  refine EWn.of_c Tok mixed (own := false) keep107 tab107 (by kernel_rfl) ?_
  (repeat simp -dsimp only [zrArena41, xnils, xnilm, xrange, xmakeMap, xslice3, g1, RB, TB, keep107, tab107, xindexAddr, xindex, xslice, xconvert, xlen, ewOp, FreeW, StabW, SameW, ChangeW, AddW, BaseW, limBytes, simprocAttr, ne_eq])
  (refine CallE.intro _ (aMost0 _) ?_)
  (repeat simp -dsimp only [zrArena41, xnils, xnilm, xrange, xmakeMap, xslice3, e1, e2, g1, RB, TB, keep107, tab107, xindexAddr, xindex, xslice, xconvert, xlen, ewOp, FreeW, StabW, SameW, ChangeW, AddW, BaseW, limBytes, simprocAttr, ne_eq])
  refine RetW.auto0 false _ (by first | rfl | exact (List.append_nil _).symm) ?_ ?_
  · (simp (maxDischargeDepth := 6) [LTB, HLt_set, ltL_take, ltL_drop, ltL_rep, ltL_set, upd, eset, hH, hHk, zlArena41] <;> omega)
  (try simp only [wk, wk1, wk0, RB, limBytes, simprocAttr, ne_eq])
  skip
theorem aNext0 (G : List Ob) (A m : Nat) (ns : List Ent) (ck : Nat) (u0 u1 u2 u3 l0 l1 l2 l3 : Int) (h : arenaAt G A m (arena8 ns ck u0 u1 u2 u3 l0 l1 l2 l3)) (hl : l0 < 128) (hu : u0 < 1048575) (h0 : 0 ≤ u0) : SCall Try.prog 108 [.ref A 0, .int .i64 0] G (fun r H' => r = .int .i64 (u0 + 1) ∧ H' = G) := by
  obtain ⟨g1, g2⟩ := at8 h
  have w1 : IntKind.i64.wrap (0 + u0) = u0 := by rw [Int.zero_add]; exact wrapI (by omega)
  have w2 : IntKind.i64.wrap (u0 + 1) = u0 + 1 := wrapI (by omega)
  have w0 : IntKind.i64.wrap 0 = 0 := rfl
  refine SCall.of_good fun hH => ?_
  have hHk := HLt.add hH
  refine SCall.of_code Tok Try.func108 rfl Try.call108 (n := 28) rfl (by simp) (rs := [.tmp 4]) rfl ?_
  refine EWn.to ?_
  refine EWn.of_c Tok mixed (own := false) keep108 tab108 (by kernel_rfl) ?_
  (repeat simp -dsimp only [zrArena41, xnils, xnilm, xrange, xmakeMap, xslice3, RB, TB, keep108, tab108, xindexAddr, xindex, xslice, xconvert, xlen, ewOp, FreeW, StabW, SameW, ChangeW, AddW, BaseW, limBytes, simprocAttr, ne_eq])
  (refine SCall.then (aIs _ A m _ h) ?_)
  (repeat simp -dsimp only [zrArena41, xnils, xnilm, xrange, xmakeMap, xslice3, RB, TB, keep108, tab108, xindexAddr, xindex, xslice, xconvert, xlen, ewOp, FreeW, StabW, SameW, ChangeW, AddW, BaseW, limBytes, simprocAttr, ne_eq])
  (refine SCall.then (aKnown0 _) ?_)
  (repeat simp -dsimp only [zrArena41, xnils, xnilm, xrange, xmakeMap, xslice3, RB, TB, keep108, tab108, xindexAddr, xindex, xslice, xconvert, xlen, ewOp, FreeW, StabW, SameW, ChangeW, AddW, BaseW, limBytes, simprocAttr, ne_eq])
  (refine SCall.then (aFull0 _ A m ns ck u0 u1 u2 u3 l0 l1 l2 l3 h hl hu) ?_)
  (repeat simp -dsimp only [zrArena41, xnils, xnilm, xrange, xmakeMap, xslice3, g1, w0, w1, w2, RB, TB, keep108, tab108, xindexAddr, xindex, xslice, xconvert, xlen, ewOp, FreeW, StabW, SameW, ChangeW, AddW, BaseW, limBytes, simprocAttr, ne_eq])
  refine RetW.auto0 false _ (by first | rfl | exact (List.append_nil _).symm) ?_ ?_
  · (simp (maxDischargeDepth := 6) [LTB, HLt_set, ltL_take, ltL_drop, ltL_rep, ltL_set, upd, eset, hH, hHk, zlArena41] <;> omega)
  (try simp only [wk, wk1, wk0, RB, limBytes, simprocAttr, ne_eq])
  skip
theorem encM_app (l : List Ent) (p : Ent) : encM (l ++ [p]) = encM l ++ [(p.1, p.2.1, nodeV p.2.2)] := by simp [encM]
def madeV (id kind : Int) (tag : Str) (key : List UInt8) (slot : Int) : V := .agg [.int .i64 id, .int .i64 0, .int .i64 (-1), .int .i64 kind, .str (fixS tag).text, .slice ((fixS tag).runs.map runV), .str key, .int .i64 slot, .fslice [], .fslice [], .fslice [], .str [], .fslice []]
def madeN (id kind : Int) (tag : Str) (key : List UInt8) (slot : Int) : Node := ⟨id, 0, -1, kind, fixS tag, key, slot, [], [], [], zeroS⟩
theorem aMake00 (G : List Ob) (A m : Nat) (ns : List Ent) (ck : Nat) (u0 u1 u2 u3 l0 l1 l2 l3 : Int) (h : arenaAt G A m (arena8 ns ck u0 u1 u2 u3 l0 l1 l2 l3)) (hl : l0 < 128) (hl0 : 0 ≤ l0) (hu : u0 < 1048575) (h0 : 0 ≤ u0)
    (kind : Int) (hk : 1 ≤ kind ∧ kind ≤ 3) (tag : Str) (htag : okS tag) (key : List UInt8) (slot : Int) (hnew : nget ns (u0 + 1) = none) (hAm : A ≠ m) :
    SCall Try.prog 37 [.ref A 0, .int .i64 0, .int .i64 kind, strV tag, .str key, .int .i64 slot] G (fun r H' => r = .tuple [.int .i64 (u0 + 1), .int .i64 0] ∧
      H' = (G.set A (.var [.mapr m, .int .i64 (u0 + 1), .int .i64 u1, .int .i64 u2, .int .i64 u3, .int .i64 (l0 + 1), .int .i64 l1, .int .i64 l2, .int .i64 l3])).set m (.map (encM ns ++ [(u0 + 1, ck, madeV (u0 + 1) kind tag key slot)]) (ck + 1))) := by
  obtain ⟨g1, g2⟩ := at8 h
  have e1 : decide (kind < 1) = false := decide_eq_false (by omega)
  have e2 : decide (kind > 3) = false := decide_eq_false (by omega)
  refine SCall.of_good fun hH => ?_
  have hHk := HLt.add hH
  refine SCall.of_code Tok Try.func37 rfl Try.call37 (n := 71) rfl (by simp) (rs := [.tmp 12, .tmp 13]) rfl ?_
  refine EWn.to ?_
  refine EWn.of_c Tok mixed (own := false) keep37 tab37 (by kernel_rfl) ?_
  (repeat simp -dsimp only [zrArena41, xnils, xnilm, xrange, xmakeMap, xslice3, strV, RB, TB, keep37, tab37, xindexAddr, xindex, xslice, xconvert, xlen, ewOp, FreeW, StabW, SameW, ChangeW, AddW, BaseW, limBytes, simprocAttr, ne_eq])
  (refine SCall.then (aIs _ A m _ (arena_app h _)) ?_)
  (repeat simp -dsimp only [zrArena41, xnils, xnilm, xrange, xmakeMap, xslice3, RB, TB, keep37, tab37, xindexAddr, xindex, xslice, xconvert, xlen, ewOp, FreeW, StabW, SameW, ChangeW, AddW, BaseW, limBytes, simprocAttr, ne_eq])
  (refine SCall.then (aKnown0 _) ?_)
  (repeat simp -dsimp only [zrArena41, xnils, xnilm, xrange, xmakeMap, xslice3, RB, TB, keep37, tab37, xindexAddr, xindex, xslice, xconvert, xlen, ewOp, FreeW, StabW, SameW, ChangeW, AddW, BaseW, limBytes, simprocAttr, ne_eq])
  (refine SCall.then (aFull0 _ A m ns ck u0 u1 u2 u3 l0 l1 l2 l3 (arena_app h _) hl hu) ?_)
  (repeat simp -dsimp only [zrArena41, xnils, xnilm, xrange, xmakeMap, xslice3, e1, e2, RB, TB, keep37, tab37, xindexAddr, xindex, xslice, xconvert, xlen, ewOp, FreeW, StabW, SameW, ChangeW, AddW, BaseW, limBytes, simprocAttr, ne_eq])
  have lA : A < G.length := (List.getElem?_eq_some_iff.1 g1).1
  have lm : m < G.length := (List.getElem?_eq_some_iff.1 g2).1
  have w2 : IntKind.i64.wrap (u0 + 1) = u0 + 1 := wrapI (by omega)
  have w3 : IntKind.i64.wrap (l0 + 1) = l0 + 1 := wrapI (by omega)
  have gA : ∀ L, (G ++ L)[A]? = some (.var [.mapr m, .int .i64 u0, .int .i64 u1, .int .i64 u2, .int .i64 u3, .int .i64 l0, .int .i64 l1, .int .i64 l2, .int .i64 l3]) := fun L => by rw [List.getElem?_append_left lA]; exact g1
  have hsA : ∀ (L : List Ob) (x : Ob), (G ++ L).set A x = G.set A x ++ L := fun L x => List.set_append_left _ _ lA
  have hgA : ∀ (x : Ob) (L : List Ob), (G.set A x ++ L)[A]? = some x := fun x L => by rw [List.getElem?_append_left (by simpa using lA), List.getElem?_set_self lA]
  have hss : ∀ (x y : Ob) (L : List Ob), (G.set A x ++ L).set A y = G.set A y ++ L := fun x y L => by rw [List.set_append_left _ _ (by simpa using lA), List.set_set]
  have hgm : ∀ (x : Ob) (L : List Ob), (G.set A x ++ L)[m]? = some (.map (encM ns) ck) := fun x L => by rw [List.getElem?_append_left (by simpa using lm), List.getElem?_set_ne hAm]; exact g2
  have hsm : ∀ (x y : Ob) (L : List Ob), (G.set A x ++ L).set m y = (G.set A x).set m y ++ L := fun x y L => List.set_append_left _ _ (by simpa using lm)
  (refine SCall.then (aNext0 _ A m ns ck u0 u1 u2 u3 l0 l1 l2 l3 (arena_app h _) hl hu h0) ?_)
  (repeat simp -dsimp only [zrArena41, xnils, xnilm, xrange, xmakeMap, xslice3, gA, hsA, hgA, hss, hgm, hsm, w2, w3, RB, TB, keep37, tab37, xindexAddr, xindex, xslice, xconvert, xlen, ewOp, FreeW, StabW, SameW, ChangeW, AddW, BaseW, limBytes, simprocAttr, ne_eq])
  have hg := mget_enc (u0 + 1) ns
  rw [hnew, Option.map_none] at hg
  (refine CallE.intro _ (mFix _ tag htag) ?_)
  (repeat (first | simp -dsimp only [zrArena41, xnils, xnilm, xrange, xmakeMap, xslice3, strV, gA, hsA, hgA, hss, hgm, hsm, w2, w3, EL.mput, hg, Option.isSome_none, RB, TB, keep37, tab37, xindexAddr, xindex, xslice, xconvert, xlen, ewOp, FreeW, StabW, SameW, ChangeW, AddW, BaseW, limBytes, simprocAttr, ne_eq] | ((with_reducible refine Need.intro ?_ ?_); (trivial))))
  refine RetW.cutK false ((G.set A (.var [.mapr m, .int .i64 (u0 + 1), .int .i64 u1, .int .i64 u2, .int .i64 u3, .int .i64 (l0 + 1), .int .i64 l1, .int .i64 l2, .int .i64 l3])).set m (.map (encM ns ++ [(u0 + 1, ck, madeV (u0 + 1) kind tag key slot)]) (ck + 1))) _ rfl (by simp) ?_ ?_ ?_
  · have hn : ltL G.length ((encM ns ++ [(u0 + 1, ck, madeV (u0 + 1) kind tag key slot)]).map fun p : Int × Nat × V => p.2.2) := by
      rw [List.map_append, ltL_append]
      refine ⟨lt_encM _ _, ?_⟩
      simp only [List.map_cons, List.map_nil, madeV, ltL, V.lt, and_true, true_and]
      exact lt_run _ _
    rw [List.length_set, List.length_set]
    refine HLt_set (HLt_set hH ?_) hn
    simp only [Ob.lt, ltL, V.lt, and_true]; exact lm
  · simp [okW, okW1, okW0, V.lt]
  · simp [wk, wk1, wk0]
theorem aMake0 (G : List Ob) (A m : Nat) (ns : List Ent) (ck : Nat) (u0 u1 u2 u3 l0 l1 l2 l3 : Int) (h : arenaAt G A m (arena8 ns ck u0 u1 u2 u3 l0 l1 l2 l3)) (hl : l0 < 128) (hl0 : 0 ≤ l0) (hu : u0 < 1048575) (h0 : 0 ≤ u0)
    (kind : Int) (hk : 1 ≤ kind ∧ kind ≤ 3) (tag : Str) (htag : okS tag) (key : List UInt8) (slot : Int) (hnew : nget ns (u0 + 1) = none) (hAm : A ≠ m) :
    SCall Try.prog 37 [.ref A 0, .int .i64 0, .int .i64 kind, strV tag, .str key, .int .i64 slot] G (fun r H' => r = .tuple [.int .i64 (u0 + 1), .int .i64 0] ∧
      H' = (G.set A (.var [.mapr m, .int .i64 (u0 + 1), .int .i64 u1, .int .i64 u2, .int .i64 u3, .int .i64 (l0 + 1), .int .i64 l1, .int .i64 l2, .int .i64 l3])).set m (.map (encM (ns ++ [(u0 + 1, ck, madeN (u0 + 1) kind tag key slot)])) (ck + 1))) := by
  refine (aMake00 G A m ns ck u0 u1 u2 u3 l0 l1 l2 l3 h hl hl0 hu h0 kind hk tag htag key slot hnew hAm).gho ?_
  obtain ⟨g1, g2⟩ := at8 h
  have lm : m < G.length := (List.getElem?_eq_some_iff.1 g2).1
  have hcv : CvO none (Ob.map (encM ns ++ [(u0 + 1, ck, madeV (u0 + 1) kind tag key slot)]) (ck + 1)) (Ob.map (encM ns ++ [(u0 + 1, ck, nodeV (madeN (u0 + 1) kind tag key slot))]) (ck + 1)) := by
    refine ⟨rfl, All2.app (All2.rfl' (fun _ => ⟨rfl, rfl, CvA.rfl' _⟩) _) ⟨⟨rfl, rfl, .inr ⟨_, _, rfl, rfl, ?_⟩⟩, trivial⟩⟩
    repeat (first | exact trivial | refine ⟨.inl (.inl rfl), ?_⟩ | refine ⟨.inl (.inr ⟨_, rfl, rfl⟩), ?_⟩)
  have hw := fun (env : Env) (X : List Ob) (hX : X[m]? = some (Ob.map (encM ns ++ [(u0 + 1, ck, madeV (u0 + 1) kind tag key slot)]) (ck + 1))) => Gho.weakOb (n0 := G.length) (env := env) m hX hcv
  have := hw [(0, .tuple [.int .i64 (u0 + 1), .int .i64 0])] ((G.set A (.var [.mapr m, .int .i64 (u0 + 1), .int .i64 u1, .int .i64 u2, .int .i64 u3, .int .i64 (l0 + 1), .int .i64 l1, .int .i64 l2, .int .i64 l3])).set m (.map (encM ns ++ [(u0 + 1, ck, madeV (u0 + 1) kind tag key slot)]) (ck + 1))) (by rw [List.getElem?_set_self (by simpa using lm)])
  rw [List.set_set] at this
  rw [encM_app]
  exact this
/-- what Set leaves of a node -/
def setN (x n : Node) : Node := { x with attrs := n.attrs.map ownA, hooks := n.hooks, kids := n.kids, text := fixS n.text, parent := n.parent }
theorem aSetNone (G : List Ob) (A m : Nat) (a : Arena) (h : arenaAt G A m a) (n : Node) (hn : nget a.nodes n.id = none) : SCall Try.prog 113 [.ref A 0, nodeV n] G (fun r H' => r = .int .i64 14 ∧ H' = G) := by
  have hg := mget_enc n.id a.nodes
  rw [hn, Option.map_none] at hg
  have hK := fun K => (arena_app h K).1
  have hM := fun K => (arena_app h K).2.1
  refine SCall.of_good fun hH => ?_
  have hHk := HLt.add hH
  refine SCall.of_code Tok Try.func113 rfl Try.call113 (n := 46) rfl (by simp) (rs := [.tmp 4]) rfl ?_
  refine EWn.to ?_
  refine EWn.of_c Tok mixed (own := false) keep113 tab113 (by kernel_rfl) ?_
  (repeat simp -dsimp only [zrArena41, xnils, xnilm, xrange, xmakeMap, xslice3, nodeV, RB, TB, keep113, tab113, xindexAddr, xindex, xslice, xconvert, xlen, ewOp, FreeW, StabW, SameW, ChangeW, AddW, BaseW, limBytes, simprocAttr, ne_eq])
  (refine SCall.then (aIs _ A m a (arena_app h _)) ?_)
  (repeat (first | simp -dsimp only [zrArena41, xnils, xnilm, xrange, xmakeMap, xslice3, hK, hM, hg, Option.isSome_none, Option.getD_none, RB, TB, keep113, tab113, xindexAddr, xindex, xslice, xconvert, xlen, ewOp, FreeW, StabW, SameW, ChangeW, AddW, BaseW, limBytes, simprocAttr, ne_eq] | ((with_reducible refine Need.intro ?_ ?_); (first | exact ⟨_, rfl⟩ | omega))))
  refine RetW.auto0 false _ (by first | rfl | exact (List.append_nil _).symm) ?_ ?_
  · (simp (maxDischargeDepth := 6) [LTB, HLt_set, ltL_take, ltL_drop, ltL_rep, ltL_set, upd, eset, hH, hHk, zlArena41] <;> omega)
  (try simp only [wk, wk1, wk0, RB, limBytes, simprocAttr, ne_eq])
  skip
theorem aSet (G : List Ob) (A m : Nat) (a : Arena) (h : arenaAt G A m a) (n x : Node) (hx : nget a.nodes n.id = some x) (hok : okN n) : SCall Try.prog 113 [.ref A 0, nodeV n] G (fun r H' => r = .int .i64 0 ∧ H' = G.set m (.map (encM (nset a.nodes n.id (setN x n))) a.clock)) := by
  have hg := mget_enc n.id a.nodes
  rw [hx, Option.map_some] at hg
  have hK := fun K => (arena_app h K).1
  have hM := fun K => (arena_app h K).2.1
  refine SCall.of_good fun hH => ?_
  have hHk := HLt.add hH
  refine SCall.of_code Tok Try.func113 rfl Try.call113 (n := 46) rfl (by simp) (rs := [.tmp 4]) rfl ?_
  refine EWn.to ?_
  refine EWn.of_c Tok mixed (own := false) keep113 tab113 (by kernel_rfl) ?_
  (repeat simp -dsimp only [zrArena41, xnils, xnilm, xrange, xmakeMap, xslice3, nodeV, RB, TB, keep113, tab113, xindexAddr, xindex, xslice, xconvert, xlen, ewOp, FreeW, StabW, SameW, ChangeW, AddW, BaseW, limBytes, simprocAttr, ne_eq])
  (refine SCall.then (aIs _ A m a (arena_app h _)) ?_)
  (repeat (first | simp -dsimp only [zrArena41, xnils, xnilm, xrange, xmakeMap, xslice3, hK, hM, hg, Option.isSome_some, Option.getD_some, nodeV, RB, TB, keep113, tab113, xindexAddr, xindex, xslice, xconvert, xlen, ewOp, FreeW, StabW, SameW, ChangeW, AddW, BaseW, limBytes, simprocAttr, ne_eq] | ((with_reducible refine Need.intro ?_ ?_); (first | exact ⟨_, rfl⟩ | omega))))
  (refine SCall.then (aOwnN _ n hok) ?_)
  (repeat (first | simp -dsimp only [zrArena41, xnils, xnilm, xrange, xmakeMap, xslice3, hK, hM, hg, nodeV, RB, TB, keep113, tab113, xindexAddr, xindex, xslice, xconvert, xlen, ewOp, FreeW, StabW, SameW, ChangeW, AddW, BaseW, limBytes, simprocAttr, ne_eq] | ((with_reducible refine Need.intro ?_ ?_); (first | exact ⟨_, rfl⟩ | omega))))
  have lm : m < G.length := (List.getElem?_eq_some_iff.1 h.2.1).1
  have e1 : EL.mput (encM a.nodes) a.clock n.id (nodeV (setN x n)) = encM (nset a.nodes n.id (setN x n)) := by
    unfold EL.mput
    rw [if_pos (by rw [hg]; rfl), mset_enc]
  have e2 : (if (mget (encM a.nodes) n.id).isSome = true then a.clock else a.clock + 1) = a.clock := if_pos (by rw [hg]; rfl)
  refine RetW.cutK false (G.set m (.map (encM (nset a.nodes n.id (setN x n))) a.clock)) _ (by rw [List.set_append_left _ _ lm]; exact congrArg (· ++ _) (congrArg (G.set m) (congr (congrArg Ob.map e1) e2))) (by simp) ?_ ?_ ?_
  · rw [List.length_set]
    exact HLt_set hH (lt_encM _ _)
  · simp [okW, okW1, okW0, V.lt]
  · simp [wk, wk1, wk0]
end Go.Proofs.Ytjplgbalpnlanaa

/- The walks of package dom: of, SetHooks. -/
set_option maxHeartbeats 600000
set_option linter.unusedSimpArgs false
set_option linter.unusedVariables false
set_option maxRecDepth 100000
namespace Go.Proofs.Ytjplgbalpnlanaa
open Go Go.EL
theorem zrDom11 : type_of% (And.intro (And.intro (And.intro (And.intro (@st_run) (And.intro (@sz_run) (@st1_run))) (And.intro (@cl_run) (And.intro (@st_Str) (@sz_Str)))) (And.intro (And.intro (@st1_Str) (And.intro (@cl_Str) (@st_c))) (And.intro (@sz_c) (And.intro (@st1_c) (@cl_c))))) (And.intro (And.intro (And.intro (@st_attr) (And.intro (@sz_attr) (@st1_attr))) (And.intro (@cl_attr) (And.intro (@st_hook) (@sz_hook)))) (And.intro (And.intro (@st1_hook) (And.intro (@cl_hook) (@st_node))) (And.intro (@sz_node) (And.intro (@st1_node) (@cl_node)))))) := And.intro (And.intro (And.intro (And.intro (@st_run) (And.intro (@sz_run) (@st1_run))) (And.intro (@cl_run) (And.intro (@st_Str) (@sz_Str)))) (And.intro (And.intro (@st1_Str) (And.intro (@cl_Str) (@st_c))) (And.intro (@sz_c) (And.intro (@st1_c) (@cl_c))))) (And.intro (And.intro (And.intro (@st_attr) (And.intro (@sz_attr) (@st1_attr))) (And.intro (@cl_attr) (And.intro (@st_hook) (@sz_hook)))) (And.intro (And.intro (@st1_hook) (And.intro (@cl_hook) (@st_node))) (And.intro (@sz_node) (And.intro (@st1_node) (@cl_node)))))
theorem zlDom11 : type_of% (And.intro (And.intro (And.intro (And.intro (@lt_vi) (@lt_str)) (And.intro (@lt_vb) (And.intro (@ltc_str) (@ltc_vi)))) (And.intro (And.intro (@lt_run) (And.intro (@lt1_run) (@ltc_run))) (And.intro (@lt_Str) (And.intro (@lt1_Str) (@ltc_Str))))) (And.intro (And.intro (And.intro (@lt_c) (And.intro (@lt1_c) (@ltc_c))) (And.intro (@lt_attr) (And.intro (@lt1_attr) (@ltc_attr)))) (And.intro (And.intro (@lt_hook) (And.intro (@lt1_hook) (@ltc_hook))) (And.intro (@lt_node) (And.intro (@lt1_node) (@ltc_node)))))) := And.intro (And.intro (And.intro (And.intro (@lt_vi) (@lt_str)) (And.intro (@lt_vb) (And.intro (@ltc_str) (@ltc_vi)))) (And.intro (And.intro (@lt_run) (And.intro (@lt1_run) (@ltc_run))) (And.intro (@lt_Str) (And.intro (@lt1_Str) (@ltc_Str))))) (And.intro (And.intro (And.intro (@lt_c) (And.intro (@lt1_c) (@ltc_c))) (And.intro (@lt_attr) (And.intro (@lt1_attr) (@ltc_attr)))) (And.intro (And.intro (@lt_hook) (And.intro (@lt1_hook) (@ltc_hook))) (And.intro (@lt_node) (And.intro (@lt1_node) (@ltc_node)))))
theorem index_int (H : List Ob) (l : List (Int)) (v : Int) : SCall Try.prog 137 [.slice (l.map vi), .int .i64 v] H (fun r H' => r = .int .i64 (ix (fun x => v == x) l) ∧ H' = H) := by
  refine SCall.sized 0 rfl fun hl => ?_
  rw [List.length_map, maxLen_eq] at hl
  refine SCall.of_good fun hH => ?_
  have hHk := HLt.add hH
  refine SCall.of_code Tok Try.func137 rfl Try.call137 (n := 19) rfl (by simp) (rs := [.tmp 4]) rfl ?_
  refine EWn.to ?_
  refine EWn.of_c Tok mixed (own := false) keep137 tab137 (by kernel_rfl) ?_
  (repeat simp -dsimp only [zrDom11, xnils, xnilm, xrange, xmakeMap, xslice3, RB, TB, keep137, tab137, xindexAddr, xindex, xslice, xconvert, xlen, ewOp, FreeW, StabW, SameW, ChangeW, AddW, BaseW, limBytes, simprocAttr, ne_eq])
  refine EWn.loopE (ι := (Nat)) (fun (i : (Nat)) => i ≤ l.length ∧ ∀ x ∈ l.take i, (v == x) = false) (fun (i : (Nat)) => l.length - i) (fun (i : (Nat)) => [(8, .int .i64 i)]) (fun (i : (Nat)) => H) (0) ?_ ?_ ?_ ?_ ?_
  · first | rfl | simp [upd, eset]
  · first | rfl | (simp; done) | exact (set_same (by assumption)).symm
  · rintro i hok; exact ⟨by first | (simp; done) | (simp; omega), by (simp (maxDischargeDepth := 6) [LTB, HLt_set, ltL_take, ltL_drop, ltL_rep, ltL_set, upd, eset, hH, hHk, zlDom11] <;> omega), by (simp (maxDischargeDepth := 6) [LTB, HLt_set, ltL_take, ltL_drop, ltL_rep, ltL_set, upd, eset, hH, hHk, zlDom11] <;> omega)⟩
  · simp
  rintro i ⟨hi, hno⟩
  refine EWn.of_c Tok mixed (own := false) keep137 tab137 (by kernel_rfl) ?_
  (repeat simp -dsimp only [zrDom11, xnils, xnilm, xrange, xmakeMap, xslice3, RB, TB, keep137, tab137, xindexAddr, xindex, xslice, xconvert, xlen, ewOp, FreeW, StabW, SameW, ChangeW, AddW, BaseW, limBytes, simprocAttr, ne_eq])
  refine IfW.intro (fun h => ?_) (fun h => ?_)
  · have hlt := lt_of h
    (repeat (first | simp -dsimp only [zrDom11, xnils, xnilm, xrange, xmakeMap, xslice3, h, at_map vi l i hlt, vi, RB, TB, keep137, tab137, xindexAddr, xindex, xslice, xconvert, xlen, ewOp, FreeW, StabW, SameW, ChangeW, AddW, BaseW, limBytes, simprocAttr, ne_eq] | ((with_reducible refine Need.intro ?_ ?_); (omega))))
    refine IfW.intro (fun hb => ?_) (fun hb => ?_)
    · (repeat simp -dsimp only [zrDom11, xnils, xnilm, xrange, xmakeMap, xslice3, hb, RB, TB, keep137, tab137, xindexAddr, xindex, xslice, xconvert, xlen, ewOp, FreeW, StabW, SameW, ChangeW, AddW, BaseW, limBytes, simprocAttr, ne_eq])
      refine RetW.auto0 false _ (by first | rfl | exact (List.append_nil _).symm) ?_ ?_
      · (simp (maxDischargeDepth := 6) [LTB, HLt_set, ltL_take, ltL_drop, ltL_rep, ltL_set, upd, eset, hH, hHk, zlDom11] <;> omega)
      (try simp only [wk, wk1, wk0, RB, limBytes, simprocAttr, ne_eq])
      skip
      rw [ix_hit hlt hb hno]
    · (repeat simp -dsimp only [zrDom11, xnils, xnilm, xrange, xmakeMap, xslice3, hb, RB, TB, keep137, tab137, xindexAddr, xindex, xslice, xconvert, xlen, ewOp, FreeW, StabW, SameW, ChangeW, AddW, BaseW, limBytes, simprocAttr, ne_eq])
      rw [wrapI (by omega)]
      refine UpTo.here ⟨(i + 1), ?_, by first | omega | (simp only [List.length_append, List.length_cons, List.length_nil]; omega), by simp [upd, eset], ⟨_, by simp; try rfl⟩⟩
      exact ⟨hlt, take_step hlt hb hno⟩
  · (repeat simp -dsimp only [zrDom11, xnils, xnilm, xrange, xmakeMap, xslice3, h, RB, TB, keep137, tab137, xindexAddr, xindex, xslice, xconvert, xlen, ewOp, FreeW, StabW, SameW, ChangeW, AddW, BaseW, limBytes, simprocAttr, ne_eq])
    refine RetW.auto0 false _ (by first | rfl | exact (List.append_nil _).symm) ?_ ?_
    · (simp (maxDischargeDepth := 6) [LTB, HLt_set, ltL_take, ltL_drop, ltL_rep, ltL_set, upd, eset, hH, hHk, zlDom11] <;> omega)
    (try simp only [wk, wk1, wk0, RB, limBytes, simprocAttr, ne_eq])
    skip
    rw [ix_none (take_all (ge_of h) hno)]
theorem contains_int (H : List Ob) (l : List (Int)) (v : Int) : SCall Try.prog 128 [.slice (l.map vi), .int .i64 v] H (fun r H' => r = .bool (decide (v ∈ l)) ∧ H' = H) := by
  refine SCall.of_good fun hH => ?_
  have hHk := HLt.add hH
  refine SCall.of_code Tok Try.func128 rfl Try.call128 (n := 9) rfl (by simp) (rs := [.tmp 4]) rfl ?_
  refine EWn.to ?_
  refine EWn.of_c Tok mixed (own := false) keep128 tab128 (by kernel_rfl) ?_
  (repeat simp -dsimp only [zrDom11, xnils, xnilm, xrange, xmakeMap, xslice3, RB, TB, keep128, tab128, xindexAddr, xindex, xslice, xconvert, xlen, ewOp, FreeW, StabW, SameW, ChangeW, AddW, BaseW, limBytes, simprocAttr, ne_eq])
  (refine SCall.then (index_int _ l v) ?_)
  (repeat simp -dsimp only [zrDom11, xnils, xnilm, xrange, xmakeMap, xslice3, RB, TB, keep128, tab128, xindexAddr, xindex, xslice, xconvert, xlen, ewOp, FreeW, StabW, SameW, ChangeW, AddW, BaseW, limBytes, simprocAttr, ne_eq])
  refine RetW.auto0 false _ (by first | rfl | exact (List.append_nil _).symm) ?_ ?_
  · (simp (maxDischargeDepth := 6) [LTB, HLt_set, ltL_take, ltL_drop, ltL_rep, ltL_set, upd, eset, hH, hHk, zlDom11] <;> omega)
  (try simp only [wk, wk1, wk0, RB, limBytes, simprocAttr, ne_eq])
  skip
  rw [show (decide (ix (fun x => v == x) l ≥ 0)) = decide (0 ≤ ix (fun x => v == x) l) from rfl, ix_any]
  congr 1
  rw [Bool.eq_iff_iff]
  simp
theorem contains_int_vec (H : List Ob) (l : List (Int)) (v : Int) (o ver es n : Nat) (ho : H[o]? = some (.vec ver es (l.map vi))) (hn : n = l.length) : SCall Try.prog 128 [.vec o ver 0 n, .int .i64 v] H (fun r H' => r = .bool (decide (v ∈ l)) ∧ H' = H) := by
  subst hn
  refine SCall.borrow (args' := [.slice (l.map vi), .int .i64 v]) ⟨⟨es, _, ho, by simp, by rw [List.drop_zero, ← List.length_map (f := vi), List.take_length], lt_vi _ _⟩, ⟨rfl, by first | trivial | simp [V.lt, ltL]⟩, trivial⟩ ?_
  refine (contains_int [] l v).mono ?_
  rintro r H' ⟨rfl, _⟩
  exact ⟨rfl, trivial⟩

theorem containsI (H : List Ob) (l : List Int) (v : Int) : SCall Try.prog 128 [.slice (l.map vi), .int .i64 v] H (fun r H' => r = .bool (l.any fun x => v == x) ∧ H' = H) := by
  refine SCall.of_good fun hH => ?_
  have hHk := HLt.add hH
  refine SCall.of_code Tok Try.func128 rfl Try.call128 (n := 9) rfl (by simp) (rs := [.tmp 4]) rfl ?_
  refine EWn.to ?_
  refine EWn.of_c Tok mixed (own := false) keep128 tab128 (by kernel_rfl) ?_
  (repeat simp -dsimp only [zrDom11, xnils, xnilm, xrange, xmakeMap, xslice3, RB, TB, keep128, tab128, xindexAddr, xindex, xslice, xconvert, xlen, ewOp, FreeW, StabW, SameW, ChangeW, AddW, BaseW, limBytes, simprocAttr, ne_eq])
  (refine SCall.then (index_int _ l v) ?_)
  (repeat simp -dsimp only [zrDom11, xnils, xnilm, xrange, xmakeMap, xslice3, RB, TB, keep128, tab128, xindexAddr, xindex, xslice, xconvert, xlen, ewOp, FreeW, StabW, SameW, ChangeW, AddW, BaseW, limBytes, simprocAttr, ne_eq])
  refine RetW.auto0 false _ (by first | rfl | exact (List.append_nil _).symm) ?_ ?_
  · (simp (maxDischargeDepth := 6) [LTB, HLt_set, ltL_take, ltL_drop, ltL_rep, ltL_set, upd, eset, hH, hHk, zlDom11] <;> omega)
  (try simp only [wk, wk1, wk0, RB, limBytes, simprocAttr, ne_eq])
  skip
  simp [← ix_any]
/-- a node of a kind -/
def ofF (a : Arena) (id kind : Int) : Node × Int := match nget a.nodes id with
  | none => (nodeZ, 14)
  | some n => if n.kind = kind then (ownN n, 0) else (nodeZ, 12)
theorem dOf (G : List Ob) (A m : Nat) (a : Arena) (h : arenaAt G A m a) (hok : ∀ p ∈ a.nodes, okN p.2.2) (id kind : Int) : SCall Try.prog 111 [.ref A 0, .int .i64 id, .int .i64 kind] G (fun r H' => r = .tuple [nodeV (ofF a id kind).1, .int .i64 (ofF a id kind).2] ∧ H' = G) := by
  cases hn : nget a.nodes id with
  | none =>
    have e : ofF a id kind = (nodeZ, 14) := by simp [ofF, hn]
    rw [e]
    refine SCall.of_good fun hH => ?_
    have hHk := HLt.add hH
    refine SCall.of_code Tok Try.func111 rfl Try.call111 (n := 27) rfl (by simp) (rs := [.cell 6 60, .tmp 7]) rfl ?_
    refine EWn.to ?_
    refine EWn.of_c Tok mixed (own := false) keep111 tab111 (by kernel_rfl) ?_
    (repeat simp -dsimp only [zrDom11, xnils, xnilm, xrange, xmakeMap, xslice3, RB, TB, keep111, tab111, xindexAddr, xindex, xslice, xconvert, xlen, ewOp, FreeW, StabW, SameW, ChangeW, AddW, BaseW, limBytes, simprocAttr, ne_eq])
    (refine SCall.then (aGetN _ A m a (arena_app h _) hok id hn) ?_)
    (repeat simp -dsimp only [zrDom11, xnils, xnilm, xrange, xmakeMap, xslice3, nodeV, RB, TB, keep111, tab111, xindexAddr, xindex, xslice, xconvert, xlen, ewOp, FreeW, StabW, SameW, ChangeW, AddW, BaseW, limBytes, simprocAttr, ne_eq])
    refine RetW.auto0 false _ (by first | rfl | exact (List.append_nil _).symm) ?_ ?_
    · (simp (maxDischargeDepth := 6) [LTB, HLt_set, ltL_take, ltL_drop, ltL_rep, ltL_set, upd, eset, hH, hHk, zlDom11] <;> omega)
    (try simp only [wk, wk1, wk0, RB, limBytes, simprocAttr, ne_eq])
    skip
    rfl
  | some n =>
    refine SCall.of_good fun hH => ?_
    have hHk := HLt.add hH
    refine SCall.of_code Tok Try.func111 rfl Try.call111 (n := 27) rfl (by simp) (rs := [.cell 6 60, .tmp 7]) rfl ?_
    refine EWn.to ?_
    refine EWn.of_c Tok mixed (own := false) keep111 tab111 (by kernel_rfl) ?_
    (repeat simp -dsimp only [zrDom11, xnils, xnilm, xrange, xmakeMap, xslice3, RB, TB, keep111, tab111, xindexAddr, xindex, xslice, xconvert, xlen, ewOp, FreeW, StabW, SameW, ChangeW, AddW, BaseW, limBytes, simprocAttr, ne_eq])
    (refine SCall.then (aGetS _ A m a (arena_app h _) hok id n hn) ?_)
    (repeat simp -dsimp only [zrDom11, xnils, xnilm, xrange, xmakeMap, xslice3, nodeV, RB, TB, keep111, tab111, xindexAddr, xindex, xslice, xconvert, xlen, ewOp, FreeW, StabW, SameW, ChangeW, AddW, BaseW, limBytes, simprocAttr, ne_eq])
    refine IfW.intro (fun hk => ?_) (fun hk => ?_)
    · (repeat simp -dsimp only [zrDom11, xnils, xnilm, xrange, xmakeMap, xslice3, hk, RB, TB, keep111, tab111, xindexAddr, xindex, xslice, xconvert, xlen, ewOp, FreeW, StabW, SameW, ChangeW, AddW, BaseW, limBytes, simprocAttr, ne_eq])
      have e : ofF a id kind = (ownN n, 0) := by
        have : n.kind = kind := by simpa [ownN] using hk
        simp [ofF, hn, this]
      rw [e]
      refine RetW.auto0 false _ (by first | rfl | exact (List.append_nil _).symm) ?_ ?_
      · (simp (maxDischargeDepth := 6) [LTB, HLt_set, ltL_take, ltL_drop, ltL_rep, ltL_set, upd, eset, hH, hHk, zlDom11] <;> omega)
      (try simp only [wk, wk1, wk0, RB, limBytes, simprocAttr, ne_eq])
      skip
      rfl
    · (repeat simp -dsimp only [zrDom11, xnils, xnilm, xrange, xmakeMap, xslice3, hk, RB, TB, keep111, tab111, xindexAddr, xindex, xslice, xconvert, xlen, ewOp, FreeW, StabW, SameW, ChangeW, AddW, BaseW, limBytes, simprocAttr, ne_eq])
      have e : ofF a id kind = (nodeZ, 12) := by
        have : n.kind ≠ kind := by simpa [ownN] using hk
        simp [ofF, hn, this]
      rw [e]
      refine RetW.auto0 false _ (by first | rfl | exact (List.append_nil _).symm) ?_ ?_
      · (simp (maxDischargeDepth := 6) [LTB, HLt_set, ltL_take, ltL_drop, ltL_rep, ltL_set, upd, eset, hH, hHk, zlDom11] <;> omega)
      (try simp only [wk, wk1, wk0, RB, limBytes, simprocAttr, ne_eq])
      skip
      rfl
theorem dSetHooksE (G : List Ob) (A m : Nat) (a : Arena) (h : arenaAt G A m a) (hok : ∀ p ∈ a.nodes, okN p.2.2) (id : Int) (l : List Hook) (he : (ofF a id 1).2 ≠ 0) : SCall Try.prog 39 [.ref A 0, .int .i64 id, .slice (l.map hookV)] G (fun r H' => r = .int .i64 (ofF a id 1).2 ∧ H' = G) := by
  have e1 : ((ofF a id 1).2 != 0) = true := by simpa using he
  refine SCall.of_good fun hH => ?_
  have hHk := HLt.add hH
  refine SCall.of_code Tok Try.func39 rfl Try.call39 (n := 24) rfl (by simp) (rs := [.tmp 6]) rfl ?_
  refine EWn.to ?_
  refine EWn.of_c Tok mixed (own := false) keep39 tab39 (by kernel_rfl) ?_
  (repeat simp -dsimp only [zrDom11, xnils, xnilm, xrange, xmakeMap, xslice3, RB, TB, keep39, tab39, xindexAddr, xindex, xslice, xconvert, xlen, ewOp, FreeW, StabW, SameW, ChangeW, AddW, BaseW, limBytes, simprocAttr, ne_eq])
  (refine SCall.then (dOf _ A m a h hok id 1) ?_)
  (repeat simp -dsimp only [zrDom11, xnils, xnilm, xrange, xmakeMap, xslice3, nodeV, e1, RB, TB, keep39, tab39, xindexAddr, xindex, xslice, xconvert, xlen, ewOp, FreeW, StabW, SameW, ChangeW, AddW, BaseW, limBytes, simprocAttr, ne_eq])
  refine RetW.auto0 false _ (by first | rfl | exact (List.append_nil _).symm) ?_ ?_
  · (simp (maxDischargeDepth := 6) [LTB, HLt_set, ltL_take, ltL_drop, ltL_rep, ltL_set, upd, eset, hH, hHk, zlDom11] <;> omega)
  (try simp only [wk, wk1, wk0, RB, limBytes, simprocAttr, ne_eq])
  skip
theorem dSetHooks (G : List Ob) (A m : Nat) (a : Arena) (h : arenaAt G A m a) (hok : ∀ p ∈ a.nodes, okN p.2.2) (id : Int) (l : List Hook) (hl : l.length ≤ 1000000000000) (n : Node) (hn : nget a.nodes id = some n) (hk : n.kind = 1) (hid : n.id = id) : SCall Try.prog 39 [.ref A 0, .int .i64 id, .slice (l.map hookV)] G (fun r H' => r = .int .i64 0 ∧ H' = G.set m (.map (encM (nset a.nodes id (setN n { ownN n with hooks := l }))) a.clock)) := by
  have e : ofF a id 1 = (ownN n, 0) := by simp [ofF, hn, hk]
  obtain ⟨p, hp, hp2⟩ := nget_mem hn
  have hokn : okN n := hp2 ▸ hok p hp
  have ho := okN_own hokn
  refine SCall.of_good fun hH => ?_
  have hHk := HLt.add hH
  refine SCall.of_code Tok Try.func39 rfl Try.call39 (n := 24) rfl (by simp) (rs := [.tmp 6]) rfl ?_
  refine EWn.to ?_
  refine EWn.of_c Tok mixed (own := false) keep39 tab39 (by kernel_rfl) ?_
  (repeat simp -dsimp only [zrDom11, xnils, xnilm, xrange, xmakeMap, xslice3, RB, TB, keep39, tab39, xindexAddr, xindex, xslice, xconvert, xlen, ewOp, FreeW, StabW, SameW, ChangeW, AddW, BaseW, limBytes, simprocAttr, ne_eq])
  (refine SCall.then (dOf _ A m a h hok id 1) ?_)
  (repeat simp -dsimp only [zrDom11, xnils, xnilm, xrange, xmakeMap, xslice3, nodeV, e, RB, TB, keep39, tab39, xindexAddr, xindex, xslice, xconvert, xlen, ewOp, FreeW, StabW, SameW, ChangeW, AddW, BaseW, limBytes, simprocAttr, ne_eq])
  (refine SCall.then (cloneH _ l hl) ?_)
  (repeat simp -dsimp only [zrDom11, xnils, xnilm, xrange, xmakeMap, xslice3, nodeV, RB, TB, keep39, tab39, xindexAddr, xindex, xslice, xconvert, xlen, ewOp, FreeW, StabW, SameW, ChangeW, AddW, BaseW, limBytes, simprocAttr, ne_eq])
  have lm : m < G.length := (List.getElem?_eq_some_iff.1 h.2.1).1
  have hx : nget a.nodes ({ ownN n with hooks := l } : Node).id = some n := by show nget a.nodes n.id = _; rw [hid]; exact hn
  (refine SCall.then (aSet _ A m a (arena_app h _) { ownN n with hooks := l } n hx ⟨ho.1, ho.2.1, ho.2.2.1, ho.2.2.2.1, hl, ho.2.2.2.2.2⟩) ?_)
  (repeat simp -dsimp only [zrDom11, xnils, xnilm, xrange, xmakeMap, xslice3, RB, TB, keep39, tab39, xindexAddr, xindex, xslice, xconvert, xlen, ewOp, FreeW, StabW, SameW, ChangeW, AddW, BaseW, limBytes, simprocAttr, ne_eq])
  rw [show ({ ownN n with hooks := l } : Node).id = id from hid]
  refine RetW.cutK false (G.set m (.map (encM (nset a.nodes id (setN n { ownN n with hooks := l }))) a.clock)) _ (List.set_append_left _ _ lm) (by simp) ?_ ?_ ?_
  · rw [List.length_set]
    exact HLt_set hH (lt_encM _ _)
  · simp [okW, okW1, okW0, V.lt]
  · simp [wk, wk1, wk0]; rfl
theorem dRemove0 (G : List Ob) (A m : Nat) (a : Arena) (h : arenaAt G A m a) (hok : ∀ p ∈ a.nodes, okN p.2.2) (n : Node) (hn : nget a.nodes 0 = some n) : SCall Try.prog 71 [.ref A 0, .int .i64 0] G (fun r H' => r = .tuple [.int .i64 0, .int .i64 20] ∧ H' = G) := by
  refine SCall.of_good fun hH => ?_
  have hHk := HLt.add hH
  refine SCall.of_code Tok Try.func71 rfl Try.call71 (n := 41) rfl (by simp) (rs := [.tmp 4, .tmp 5]) rfl ?_
  refine EWn.to ?_
  refine EWn.of_c Tok mixed (own := false) keep71 tab71 (by kernel_rfl) ?_
  (repeat simp -dsimp only [zrDom11, xnils, xnilm, xrange, xmakeMap, xslice3, RB, TB, keep71, tab71, xindexAddr, xindex, xslice, xconvert, xlen, ewOp, FreeW, StabW, SameW, ChangeW, AddW, BaseW, limBytes, simprocAttr, ne_eq])
  (refine SCall.then (aGetS _ A m a h hok 0 n hn) ?_)
  (repeat simp -dsimp only [zrDom11, xnils, xnilm, xrange, xmakeMap, xslice3, nodeV, RB, TB, keep71, tab71, xindexAddr, xindex, xslice, xconvert, xlen, ewOp, FreeW, StabW, SameW, ChangeW, AddW, BaseW, limBytes, simprocAttr, ne_eq])
  refine RetW.auto0 false _ (by first | rfl | exact (List.append_nil _).symm) ?_ ?_
  · (simp (maxDischargeDepth := 6) [LTB, HLt_set, ltL_take, ltL_drop, ltL_rep, ltL_set, upd, eset, hH, hHk, zlDom11] <;> omega)
  (try simp only [wk, wk1, wk0, RB, limBytes, simprocAttr, ne_eq])
  skip
end Go.Proofs.Ytjplgbalpnlanaa

/- slices.Clone and own again: what they return is the caller's own. -/
set_option maxHeartbeats 600000
set_option linter.unusedSimpArgs false
set_option linter.unusedVariables false
set_option maxRecDepth 100000
namespace Go.Proofs.Ytjplgbalpnlanaa
open Go Go.EL
theorem zrArena51 : type_of% (And.intro (And.intro (And.intro (And.intro (@st_run) (And.intro (@sz_run) (@st1_run))) (And.intro (@cl_run) (And.intro (@st_Str) (@sz_Str)))) (And.intro (And.intro (@st1_Str) (And.intro (@cl_Str) (@st_c))) (And.intro (@sz_c) (And.intro (@st1_c) (@cl_c))))) (And.intro (And.intro (And.intro (@st_attr) (And.intro (@sz_attr) (@st1_attr))) (And.intro (@cl_attr) (And.intro (@st_hook) (@sz_hook)))) (And.intro (And.intro (@st1_hook) (And.intro (@cl_hook) (@st_node))) (And.intro (@sz_node) (And.intro (@st1_node) (@cl_node)))))) := And.intro (And.intro (And.intro (And.intro (@st_run) (And.intro (@sz_run) (@st1_run))) (And.intro (@cl_run) (And.intro (@st_Str) (@sz_Str)))) (And.intro (And.intro (@st1_Str) (And.intro (@cl_Str) (@st_c))) (And.intro (@sz_c) (And.intro (@st1_c) (@cl_c))))) (And.intro (And.intro (And.intro (@st_attr) (And.intro (@sz_attr) (@st1_attr))) (And.intro (@cl_attr) (And.intro (@st_hook) (@sz_hook)))) (And.intro (And.intro (@st1_hook) (And.intro (@cl_hook) (@st_node))) (And.intro (@sz_node) (And.intro (@st1_node) (@cl_node)))))
theorem zlArena51 : type_of% (And.intro (And.intro (And.intro (And.intro (@lt_vi) (@lt_str)) (And.intro (@lt_vb) (And.intro (@ltc_str) (@ltc_vi)))) (And.intro (And.intro (@lt_run) (And.intro (@lt1_run) (@ltc_run))) (And.intro (@lt_Str) (And.intro (@lt1_Str) (@ltc_Str))))) (And.intro (And.intro (And.intro (@lt_c) (And.intro (@lt1_c) (@ltc_c))) (And.intro (@lt_attr) (And.intro (@lt1_attr) (@ltc_attr)))) (And.intro (And.intro (@lt_hook) (And.intro (@lt1_hook) (@ltc_hook))) (And.intro (@lt_node) (And.intro (@lt1_node) (@ltc_node)))))) := And.intro (And.intro (And.intro (And.intro (@lt_vi) (@lt_str)) (And.intro (@lt_vb) (And.intro (@ltc_str) (@ltc_vi)))) (And.intro (And.intro (@lt_run) (And.intro (@lt1_run) (@ltc_run))) (And.intro (@lt_Str) (And.intro (@lt1_Str) (@ltc_Str))))) (And.intro (And.intro (And.intro (@lt_c) (And.intro (@lt1_c) (@ltc_c))) (And.intro (@lt_attr) (And.intro (@lt1_attr) (@ltc_attr)))) (And.intro (And.intro (@lt_hook) (And.intro (@lt1_hook) (@ltc_hook))) (And.intro (@lt_node) (And.intro (@lt1_node) (@ltc_node)))))
theorem cloneHV0 (H : List Ob) (l : List Hook) (hl : l.length ≤ 1000000000000) : SCall Try.prog 112 [.slice (l.map hookV)] H (fun r H' => (l = [] ∧ r = .fslice [] ∧ H' = H) ∨ (r = .vec H.length 1 0 l.length ∧ H' = H ++ [.vec 1 3 (l.map hookV)])) := by
  refine SCall.of_good fun hH => ?_
  have hHk := HLt.add hH
  refine SCall.of_code Tok Try.func112 rfl Try.call112 (n := 8) rfl (by simp) (rs := [.tmp 2]) rfl ?_
  refine EWn.to ?_
  refine EWn.of_c Tok mixed (own := false) keep112 tab112 (by kernel_rfl) ?_
  (repeat simp -dsimp only [zrArena51, xnils, xnilm, xrange, xmakeMap, RB, TB, keep112, tab112, xindexAddr, xindex, xslice, xconvert, xlen, ewOp, FreeW, StabW, SameW, ChangeW, AddW, BaseW, limBytes, simprocAttr, ne_eq])
  refine AnyB.intro fun b hb => ?_
  (repeat simp -dsimp only [zrArena51, xnils, xnilm, xrange, xmakeMap, RB, TB, keep112, tab112, xindexAddr, xindex, xslice, xconvert, xlen, ewOp, FreeW, StabW, SameW, ChangeW, AddW, BaseW, limBytes, simprocAttr, ne_eq])
  refine IfW.intro (fun h => ?_) (fun h => ?_)
  · subst h
    have h0 : l = [] := by cases l with
      | nil => rfl
      | cons x l => exact absurd (hb (by simp)) (by simp)
    subst h0
    (repeat simp -dsimp only [zrArena51, xnils, xnilm, xrange, xmakeMap, RB, TB, keep112, tab112, xindexAddr, xindex, xslice, xconvert, xlen, ewOp, FreeW, StabW, SameW, ChangeW, AddW, BaseW, limBytes, simprocAttr, ne_eq])
    refine RetW.auto0 true _ (by first | rfl | exact (List.append_nil _).symm) ?_ ?_
    · (simp (maxDischargeDepth := 6) [LTB, HLt_set, ltL_take, ltL_drop, ltL_rep, ltL_set, upd, eset, hH, hHk, zlArena51] <;> omega)
    (try simp only [wk, wk1, wk0, RB, if_true, limBytes, simprocAttr, ne_eq])
    skip
  · subst h
    (repeat (first | simp -dsimp only [zrArena51, xnils, xnilm, xrange, xmakeMap, RB, TB, keep112, tab112, xindexAddr, xindex, xslice, xconvert, xlen, ewOp, FreeW, StabW, SameW, ChangeW, AddW, BaseW, limBytes, simprocAttr, ne_eq] | ((with_reducible refine Need.intro ?_ ?_); (omega))))
    refine RetW.auto false [.vec 1 3 (l.map hookV)] _ (by first | rfl | simp) ?_ ?_ ?_
    · (simp (maxDischargeDepth := 6) [LTB, HLt_set, ltL_take, ltL_drop, ltL_rep, ltL_set, upd, eset, hH, hHk, zlArena51] <;> omega)
    · (simp (maxDischargeDepth := 6) [LTB, HLt_set, ltL_take, ltL_drop, ltL_rep, ltL_set, upd, eset, hH, hHk, zlArena51] <;> omega)
    (try simp only [wk, wk1, wk0, RB, limBytes, simprocAttr, ne_eq])
    (try (rw [List.take_of_length_le]; rotate_left 1; (· first | (simp; done) | (simp; omega) | omega)))
    first | (simp; done) | (refine .inr ⟨?_, ?_⟩ <;> simp; done) | trace_state
theorem cloneHV (H : List Ob) (l : List Hook) (hl : l.length ≤ 1000000000000) : SCall Try.prog 112 [.slice (l.map hookV)] H (fun r H' => r = .vec H.length 1 0 l.length ∧ H' = H ++ [.vec 1 3 (l.map hookV)]) := by
  refine (cloneHV0 H l hl).ghoE fun r H' h => ?_
  rcases h with ⟨rfl, rfl, rfl⟩ | ⟨rfl, rfl⟩
  · refine ⟨_, _, Gho.adopt (n0 := H'.length) (env := [(0, .fslice [])]) 0 3 rfl, And.intro rfl rfl⟩
  · exact ⟨_, _, Gho.refl _ _ _, And.intro rfl rfl⟩
end Go.Proofs.Ytjplgbalpnlanaa

/- slices.Insert of ints at the end of the caller's own list. -/
set_option maxHeartbeats 600000
set_option linter.unusedSimpArgs false
set_option linter.unusedVariables false
set_option maxRecDepth 100000
namespace Go.Proofs.Ytjplgbalpnlanaa
open Go Go.EL
theorem zrDom21 : type_of% (And.intro (And.intro (And.intro (And.intro (@st_run) (And.intro (@sz_run) (@st1_run))) (And.intro (@cl_run) (And.intro (@st_Str) (@sz_Str)))) (And.intro (And.intro (@st1_Str) (And.intro (@cl_Str) (@st_c))) (And.intro (@sz_c) (And.intro (@st1_c) (@cl_c))))) (And.intro (And.intro (And.intro (@st_attr) (And.intro (@sz_attr) (@st1_attr))) (And.intro (@cl_attr) (And.intro (@st_hook) (@sz_hook)))) (And.intro (And.intro (@st1_hook) (And.intro (@cl_hook) (@st_node))) (And.intro (@sz_node) (And.intro (@st1_node) (@cl_node)))))) := And.intro (And.intro (And.intro (And.intro (@st_run) (And.intro (@sz_run) (@st1_run))) (And.intro (@cl_run) (And.intro (@st_Str) (@sz_Str)))) (And.intro (And.intro (@st1_Str) (And.intro (@cl_Str) (@st_c))) (And.intro (@sz_c) (And.intro (@st1_c) (@cl_c))))) (And.intro (And.intro (And.intro (@st_attr) (And.intro (@sz_attr) (@st1_attr))) (And.intro (@cl_attr) (And.intro (@st_hook) (@sz_hook)))) (And.intro (And.intro (@st1_hook) (And.intro (@cl_hook) (@st_node))) (And.intro (@sz_node) (And.intro (@st1_node) (@cl_node)))))
theorem zlDom21 : type_of% (And.intro (And.intro (And.intro (And.intro (@lt_vi) (@lt_str)) (And.intro (@lt_vb) (And.intro (@ltc_str) (@ltc_vi)))) (And.intro (And.intro (@lt_run) (And.intro (@lt1_run) (@ltc_run))) (And.intro (@lt_Str) (And.intro (@lt1_Str) (@ltc_Str))))) (And.intro (And.intro (And.intro (@lt_c) (And.intro (@lt1_c) (@ltc_c))) (And.intro (@lt_attr) (And.intro (@lt1_attr) (@ltc_attr)))) (And.intro (And.intro (@lt_hook) (And.intro (@lt1_hook) (@ltc_hook))) (And.intro (@lt_node) (And.intro (@lt1_node) (@ltc_node)))))) := And.intro (And.intro (And.intro (And.intro (@lt_vi) (@lt_str)) (And.intro (@lt_vb) (And.intro (@ltc_str) (@ltc_vi)))) (And.intro (And.intro (@lt_run) (And.intro (@lt1_run) (@ltc_run))) (And.intro (@lt_Str) (And.intro (@lt1_Str) (@ltc_Str))))) (And.intro (And.intro (And.intro (@lt_c) (And.intro (@lt1_c) (@ltc_c))) (And.intro (@lt_attr) (And.intro (@lt1_attr) (@ltc_attr)))) (And.intro (And.intro (@lt_hook) (And.intro (@lt1_hook) (@ltc_hook))) (And.intro (@lt_node) (And.intro (@lt1_node) (@ltc_node)))))
theorem insI (H : List Ob) (o ver : Nat) (l : List Int) (x : Int) (ho : H[o]? = some (.vec ver 1 (l.map vi))) (hl : l.length ≤ 1000000000) : SCall Try.prog 131 [.vec o ver 0 l.length, .int .i64 l.length, .slice [vi x]] H (fun r H' => r = .vec o (ver + 1) 0 (l.length + 1) ∧ H' = H.set o (.vec (ver + 1) 1 ((l ++ [x]).map vi))) := by
  have lo : o < H.length := (List.getElem?_eq_some_iff.1 ho).1
  have hK := fun K => show (H ++ K)[o]? = some (.vec ver 1 (l.map vi)) by rw [List.getElem?_append_left lo]; exact ho
  refine SCall.of_good fun hH => ?_
  have hHk := HLt.add hH
  refine SCall.of_code Tok Try.func131 rfl Try.call131 (n := 95) rfl (by simp) (rs := [.tmp 6]) rfl ?_
  refine EWn.to ?_
  refine EWn.of_c Tok mixed (own := false) keep131 tab131 (by kernel_rfl) ?_
  (repeat (first | simp -dsimp only [zrDom21, ho, hK, RB, TB, keep131, tab131, xindexAddr, xindex, xslice, xconvert, xlen, ewOp, FreeW, StabW, SameW, ChangeW, AddW, BaseW, limBytes, simprocAttr, ne_eq] | ((with_reducible refine Need.intro ?_ ?_); (omega))))
  skip
  refine Need.intro ⟨by first | trivial | (simp [vi, V.storable]), by first | rfl | (simp [vi, V.cells]), by omega⟩ ?_
  (repeat simp -dsimp only [zrDom21, ho, hK, RB, TB, keep131, tab131, xindexAddr, xindex, xslice, xconvert, xlen, ewOp, FreeW, StabW, SameW, ChangeW, AddW, BaseW, limBytes, simprocAttr, ne_eq])
  refine RetW.cutK false (H.set o (.vec (ver + 1) 1 ((l ++ [x]).map vi))) [] (by simp) (by simp) ?_ ?_ ?_
  · rw [List.length_set]
    exact HLt_set hH (lt_vi _ _)
  · simp [okW, okW1, okW0, V.lt, lo]
    intro h; omega
  · simp only [List.length_set, wk, wk1, wk0]
    rw [if_neg (by omega)]
    exact ⟨rfl, trivial⟩
end Go.Proofs.Ytjplgbalpnlanaa

/- The walks of package dom: Inside, Insert at the end. -/
set_option linter.unusedSimpArgs false
set_option linter.unusedVariables false
set_option maxRecDepth 100000
namespace Go.EL
open Go
theorem SCall.goodA {P : Program} {f : FuncId} {args : List V} {H : List Ob} {R : V → List Ob → Prop} (h : SCall P f args H R) : SCall P f args H (fun r H' => R r H' ∧ HLt H'.length H') := by
  intro g w cargs hG ha
  exact (h g w cargs hG ha).mono fun v w' ⟨r, H', g', h1, h2, h3, h4⟩ => ⟨r, H', g', h1, h2, h3, h4, fun x hx => by obtain ⟨i, hi⟩ := List.getElem?_of_mem hx; exact h1.lt hi⟩
theorem CvO.rflA {z : Option (Nat × Nat × List V)} (u : Ob) : CvO z u u := by
  cases u with
  | gone => trivial
  | hole => trivial
  | var cs => exact All2.rfl' (fun _ => .inl (.inl rfl)) _
  | vec v e l => exact ⟨rfl, rfl, All2.rfl' CvA.rfl' _⟩
  | raw _ _ _ _ => exact ⟨rfl, rfl, rfl, rfl⟩
  | map _ _ => exact ⟨rfl, All2.rfl' (fun _ => ⟨rfl, rfl, CvA.rfl' _⟩) _⟩
  | iter _ _ _ _ => exact ⟨rfl, rfl, rfl, rfl⟩
/-- a list of one's own, in a struct that is handed over, is given up -/
theorem SCall.freezeA {P : Program} (i : Nat) {f : FuncId} {args : List V} {H : List Ob} {R : V → List Ob → Prop} {o ver es : Nat} {l cs cs' : List V} (ho : H[o]? = some (.vec ver es l)) (ha : args[i]? = some (.agg cs)) (hc : All2 (CvB (some (o, ver, l))) cs cs') (h : SCall P f (args.set i (.agg cs')) (H.set o .gone) R) : SCall P f args H R := by
  have hlt := (List.getElem?_eq_some_iff.1 ho).1
  refine SCall.ghost (Gho.conv (some (o, ver, l)) (fun _ _ _ e => by cases e; exact ⟨⟨es, ho⟩, List.getElem?_set_self hlt⟩) (by simp) (fun j x hx hz => ⟨x, ?_, CvO.rflA x⟩) (argEnv_G (R := CvA (some (o, ver, l))) CvA.rfl' (.inr ⟨cs, cs', rfl, rfl, hc⟩) args i 0 ha)) (by simp) h
  rw [List.getElem?_set_ne (by rintro rfl; simp [isZ] at hz)]
  exact hx
theorem SCall.truncA {P : Program} {f : FuncId} {args : List V} {H : List Ob} {R : V → List Ob → Prop} (o n : Nat) {ver es : Nat} {l : List V} (ho : H[o]? = some (.vec ver es l)) (h : SCall P f args (H.set o (.vec ver es (l.take n))) R) : SCall P f args H R :=
  SCall.ghost (Gho.trunc o n ho) rfl h
end Go.EL
namespace Go.Proofs.Ytjplgbalpnlanaa
open Go Go.EL
theorem zrDom31 : type_of% (And.intro (And.intro (And.intro (And.intro (@st_run) (And.intro (@sz_run) (@st1_run))) (And.intro (@cl_run) (And.intro (@st_Str) (@sz_Str)))) (And.intro (And.intro (@st1_Str) (And.intro (@cl_Str) (@st_c))) (And.intro (@sz_c) (And.intro (@st1_c) (@cl_c))))) (And.intro (And.intro (And.intro (@st_attr) (And.intro (@sz_attr) (@st1_attr))) (And.intro (@cl_attr) (And.intro (@st_hook) (@sz_hook)))) (And.intro (And.intro (@st1_hook) (And.intro (@cl_hook) (@st_node))) (And.intro (@sz_node) (And.intro (@st1_node) (@cl_node)))))) := And.intro (And.intro (And.intro (And.intro (@st_run) (And.intro (@sz_run) (@st1_run))) (And.intro (@cl_run) (And.intro (@st_Str) (@sz_Str)))) (And.intro (And.intro (@st1_Str) (And.intro (@cl_Str) (@st_c))) (And.intro (@sz_c) (And.intro (@st1_c) (@cl_c))))) (And.intro (And.intro (And.intro (@st_attr) (And.intro (@sz_attr) (@st1_attr))) (And.intro (@cl_attr) (And.intro (@st_hook) (@sz_hook)))) (And.intro (And.intro (@st1_hook) (And.intro (@cl_hook) (@st_node))) (And.intro (@sz_node) (And.intro (@st1_node) (@cl_node)))))
theorem zlDom31 : type_of% (And.intro (And.intro (And.intro (And.intro (@lt_vi) (@lt_str)) (And.intro (@lt_vb) (And.intro (@ltc_str) (@ltc_vi)))) (And.intro (And.intro (@lt_run) (And.intro (@lt1_run) (@ltc_run))) (And.intro (@lt_Str) (And.intro (@lt1_Str) (@ltc_Str))))) (And.intro (And.intro (And.intro (@lt_c) (And.intro (@lt1_c) (@ltc_c))) (And.intro (@lt_attr) (And.intro (@lt1_attr) (@ltc_attr)))) (And.intro (And.intro (@lt_hook) (And.intro (@lt1_hook) (@ltc_hook))) (And.intro (@lt_node) (And.intro (@lt1_node) (@ltc_node)))))) := And.intro (And.intro (And.intro (And.intro (@lt_vi) (@lt_str)) (And.intro (@lt_vb) (And.intro (@ltc_str) (@ltc_vi)))) (And.intro (And.intro (@lt_run) (And.intro (@lt1_run) (@ltc_run))) (And.intro (@lt_Str) (And.intro (@lt1_Str) (@ltc_Str))))) (And.intro (And.intro (And.intro (@lt_c) (And.intro (@lt1_c) (@ltc_c))) (And.intro (@lt_attr) (And.intro (@lt1_attr) (@ltc_attr)))) (And.intro (And.intro (@lt_hook) (And.intro (@lt1_hook) (@ltc_hook))) (And.intro (@lt_node) (And.intro (@lt1_node) (@ltc_node)))))
theorem get_appD {H L : List Ob} {j : Nat} {x : Ob} (h : H[j]? = some x) : (H ++ L)[j]? = some x := by rw [List.getElem?_append_left (List.getElem?_eq_some_iff.1 h).1]; exact h
/-- what Get tells -/
def nodeAt (a : Arena) (id : Int) : Node := match nget a.nodes id with | some n => ownN n | none => nodeZ
theorem aGetF (G : List Ob) (A m : Nat) (a : Arena) (h : arenaAt G A m a) (hok : ∀ p ∈ a.nodes, okN p.2.2) (id : Int) : SCall Try.prog 40 [.ref A 0, .int .i64 id] G (fun r H' => r = .tuple [nodeV (nodeAt a id), .bool (nget a.nodes id).isSome] ∧ H' = G) := by
  have := aGet G A m a h hok id
  unfold nodeAt
  cases hn : nget a.nodes id with
  | none => rw [hn] at this; exact this
  | some n => rw [hn] at this; exact this
theorem aGetV (G : List Ob) (A m : Nat) (a : Arena) (h : arenaAt G A m a) (hok : ∀ p ∈ a.nodes, okN p.2.2) (id : Int) (n : Node) (hn : nget a.nodes id = some n) : SCall Try.prog 40 [.ref A 0, .int .i64 id] G (fun r H' => ∃ o L, r = .tuple [nodeK (ownN n) o 1, .bool true] ∧ H' = G ++ L ∧ G.length ≤ o ∧ H'[o]? = some (.vec 1 1 (n.kids.map vi))) := by
  have hg := mget_enc id a.nodes
  have hK := fun K => (arena_app h K).1
  have hM := fun K => (arena_app h K).2.1
  rw [hn] at hg
  simp only [Option.map_some] at hg
  obtain ⟨p, hp, rfl⟩ := nget_mem hn
  refine SCall.of_good fun hH => ?_
  have hHk := HLt.add hH
  refine SCall.of_code Tok Try.func40 rfl Try.call40 (n := 18) rfl (by simp) (rs := [.cell 4 60, .tmp 5]) rfl ?_
  refine EWn.to ?_
  refine EWn.of_c Tok mixed (own := false) keep40 tab40 (by kernel_rfl) ?_
  (repeat simp -dsimp only [zrDom31, xnils, xnilm, xrange, xmakeMap, xslice3, RB, TB, keep40, tab40, xindexAddr, xindex, xslice, xconvert, xlen, ewOp, FreeW, StabW, SameW, ChangeW, AddW, BaseW, limBytes, simprocAttr, ne_eq])
  (refine SCall.then (aHas _ A m a (arena_app h _) id) ?_)
  (repeat (first | simp -dsimp only [zrDom31, xnils, xnilm, xrange, xmakeMap, xslice3, hn, Option.isSome_some, hK, hM, hg, RB, TB, keep40, tab40, xindexAddr, xindex, xslice, xconvert, xlen, ewOp, FreeW, StabW, SameW, ChangeW, AddW, BaseW, limBytes, simprocAttr, ne_eq] | ((with_reducible refine Need.intro ?_ ?_); (omega))))
  refine SCall.mono (aOwnV _ p.2.2 (hok p hp)).goodA ?_
  rintro _ G2 ⟨⟨o, L, rfl, rfl, hle, ho⟩, hG2⟩
  have lo := (List.getElem?_eq_some_iff.1 ho).1
  (repeat simp -dsimp only [zrDom31, xnils, xnilm, xrange, xmakeMap, xslice3, nodeK, RB, TB, keep40, tab40, xindexAddr, xindex, xslice, xconvert, xlen, ewOp, FreeW, StabW, SameW, ChangeW, AddW, BaseW, limBytes, simprocAttr, ne_eq])
  have e : ∀ X : Ob, (G ++ X :: L) = (G ++ [Ob.var [.int .i64 0, .int .i64 0, .int .i64 0, .int .i64 0, .str [], .fslice [], .str [], .int .i64 0, .fslice [], .fslice [], .fslice [], .str [], .fslice []]] ++ L).set G.length X := fun X => by simp
  have hle2 : G.length + 1 ≤ o := by simpa using hle
  refine RetW.keep false (by simp) ?_ ?_ ?_
  · rw [e, List.length_set]
    refine HLt_set hG2 ?_
    simp only [Ob.lt, ltL, V.lt, and_true, true_and]
    exact ⟨lt_run _ _, lt_attr _ _, lt_hook _ _, lo, lt_run _ _⟩
  · have lo2 : o < (G ++ Ob.gone :: L).length := by simpa using lo
    simp [okW, okW1, okW0, V.lt, ltL, lt_run, lt_hook, lt_attr]
    intro hh
    simp at lo2
    omega
  · refine ⟨o, _, ?_, rfl, by omega, ?_⟩
    · have lo3 : ¬ (G.length + (L.length + 1) ≤ o) := by simp at lo; omega
      simp [wk, wk1, wk0, lo3]
    · rw [e, List.getElem?_set_ne (by omega)]; exact ho
theorem containsIB (H : List Ob) (l : List Int) (v : Int) (x : V) (hx : Bo H x (.slice (l.map vi))) : SCall Try.prog 128 [x, .int .i64 v] H (fun r H' => r = .bool (decide (v ∈ l)) ∧ H' = H) := by
  have e : (l.any fun x => v == x) = decide (v ∈ l) := by
    rw [Bool.eq_iff_iff]; simp
  refine SCall.borrow (args' := [.slice (l.map vi), .int .i64 v]) ⟨hx, ⟨rfl, trivial⟩, trivial⟩ ?_
  refine (containsI [] l v).mono ?_
  rintro r H' ⟨rfl, _⟩
  exact ⟨by rw [e], trivial⟩
/-- does a node lead up to another one? -/
def insideG (a : Arena) (top : Int) : Nat → Int → List Int → Bool
  | 0, _, _ => false
  | k + 1, id, met => match nget a.nodes id with
    | none => false
    | some n => if n.id ∈ met then false else if n.id = top then true else insideG a top k n.parent (met ++ [n.id])
theorem insideG_succ (a : Arena) (top : Int) (k : Nat) (id : Int) (met : List Int) : insideG a top (k + 1) id met = (match nget a.nodes id with | none => false | some n => if n.id ∈ met then false else if n.id = top then true else insideG a top k n.parent (met ++ [n.id])) := rfl
theorem nget_len {id : Int} {n : Node} {l : List Ent} (h : nget l id = some n) : n.id ∈ l.map fun p => p.2.2.id := by
  obtain ⟨p, hp, rfl⟩ := nget_mem h
  exact List.mem_map.2 ⟨p, hp, rfl⟩
theorem nodup_sub : ∀ (l m : List Int), l.Nodup → (∀ x ∈ l, x ∈ m) → l.length ≤ m.length
  | [], m, _, _ => by simp
  | x :: l, m, hn, hs => by
    have hx := hs x (by simp)
    rw [List.nodup_cons] at hn
    have := nodup_sub l (m.erase x) hn.2 (fun y hy => (List.mem_erase_of_ne (fun (e : y = x) => hn.1 (e ▸ hy))).2 (hs y (by simp [hy])))
    rw [List.length_erase_of_mem hx] at this
    have hp := List.length_pos_of_mem hx
    simp only [List.length_cons]
    omega
set_option maxHeartbeats 2000000 in
theorem dInside (H : List Ob) (A m : Nat) (a : Arena) (h : arenaAt H A m a) (hok : ∀ p ∈ a.nodes, okN p.2.2) (hN : a.nodes.length ≤ 1000000) (id top : Int) : SCall Try.prog 87 [.ref A 0, .int .i64 id, .int .i64 top] H (fun r H' => r = .bool (insideG a top (a.nodes.length + 1) id []) ∧ H' = H) := by
  have lA := (List.getElem?_eq_some_iff.1 h.1).1
  refine SCall.of_good fun hH => ?_
  have hHk := HLt.add hH
  refine SCall.of_code Tok Try.func87 rfl Try.call87 (n := 41) rfl (by simp) (rs := [.tmp 6]) rfl ?_
  refine EWn.to ?_
  refine EWn.of_c Tok mixed (own := false) keep87 tab87 (by kernel_rfl) ?_
  (repeat simp -dsimp only [zrDom31, xnils, xnilm, xrange, xmakeMap, xslice3, RB, TB, keep87, tab87, xindexAddr, xindex, xslice, xconvert, xlen, ewOp, FreeW, StabW, SameW, ChangeW, AddW, BaseW, limBytes, simprocAttr, ne_eq])
  (refine SCall.then (aGetF _ A m a h hok id) ?_)
  (repeat simp -dsimp only [zrDom31, xnils, xnilm, xrange, xmakeMap, xslice3, nodeV, RB, TB, keep87, tab87, xindexAddr, xindex, xslice, xconvert, xlen, ewOp, FreeW, StabW, SameW, ChangeW, AddW, BaseW, limBytes, simprocAttr, ne_eq])
  refine EWn.ghost (Gho.adopt 7 1 rfl) ?_
  simp only [RB, limBytes, simprocAttr, ne_eq]
  have ltc : ∀ (k : Nat) (x : Node), ltL k (nodeV x).cells := fun k x => by have := lt1_node k x; simp only [nodeV, V.lt] at this; exact this
  refine EWn.loopE (ι := (Int) × (List Int) × (Nat) × (Nat) × (Nat) × (List Ob)) (fun (x_ : (Int) × (List Int) × (Nat) × (Nat) × (Nat) × (List Ob)) => match x_ with | (cur, met, v, o, b, G) => HLt G.length G ∧ G[o]? = some (.vec v 1 (met.map vi)) ∧ G[b]? = some (.var (nodeV (nodeAt a cur)).cells) ∧ H.length ≤ b ∧ H.length ≤ o ∧ b ≠ o ∧ met.Nodup ∧ (∀ x ∈ met, x ∈ a.nodes.map fun p => p.2.2.id) ∧ insideG a top (a.nodes.length + 1) id [] = insideG a top (a.nodes.length + 1 - met.length) cur met ∧ ∃ L, G = H ++ L) (fun (x_ : (Int) × (List Int) × (Nat) × (Nat) × (Nat) × (List Ob)) => match x_ with | (cur, met, v, o, b, G) => a.nodes.length + 1 - met.length) (fun (x_ : (Int) × (List Int) × (Nat) × (Nat) × (Nat) × (List Ob)) => match x_ with | (cur, met, v, o, b, G) => [(7, .vec o v 0 met.length), (8, .ref b 0), (9, .bool (nget a.nodes cur).isSome)]) (fun (x_ : (Int) × (List Int) × (Nat) × (Nat) × (Nat) × (List Ob)) => match x_ with | (cur, met, v, o, b, G) => G) (id, [], 1, (H.length + 1), H.length, (H ++ [.var (nodeV (nodeAt a id)).cells, .vec 1 1 []])) ?_ ?_ ?_ ?_ ?_
  · first | rfl | simp [upd, eset]
  · first | rfl | (simp; done) | exact (set_same (by assumption)).symm
  · rintro ⟨cur, met, v, o, b, G⟩ ⟨hG, ho, hb, hb1, ho1, hbo, _, _, _, L, hL⟩
    have lo := (List.getElem?_eq_some_iff.1 ho).1
    have lb := (List.getElem?_eq_some_iff.1 hb).1
    exact ⟨by rw [hL]; simp, hG, by (simp (maxDischargeDepth := 6) [LTB, HLt_set, ltL_take, ltL_drop, ltL_rep, ltL_set, upd, eset, hH, hHk, zlDom31] <;> omega)⟩
  · refine ⟨?_, by rw [hget]; rfl, by rw [hget0]; rfl, by omega, by omega, by omega, by simp, by simp, by simp, _, rfl⟩
    rw [HLt_append]
    refine ⟨by rw [List.length_append]; exact hHk _, ?_⟩
    rw [HLt_cons, HLt_cons]
    exact ⟨ltc _ _, trivial, HLt_nil⟩
  rintro ⟨cur, met, v, o, b, G⟩ ⟨hG, ho, hb, hb1, ho1, hbo, hnd, hsub, hin, L, hL⟩
  have hml := nodup_sub met _ hnd hsub
  rw [List.length_map] at hml
  have lo := (List.getElem?_eq_some_iff.1 ho).1
  have lb := (List.getElem?_eq_some_iff.1 hb).1
  have hb2 : ∀ K, (G ++ K)[b]? = some (.var (nodeV (nodeAt a cur)).cells) := fun K => get_appD (L := K) hb
  have ho2 : ∀ K, (G ++ K)[o]? = some (.vec v 1 (met.map vi)) := fun K => get_appD (L := K) ho
  have hb3 : ∀ X, (G.set o X)[b]? = some (.var (nodeV (nodeAt a cur)).cells) := fun X => by rw [List.getElem?_set_ne (Ne.symm hbo)]; exact hb
  have hat2 : ∀ X K, arenaAt (G.set o X ++ K) A m a := fun X K => by
    rw [hL, List.set_append_right _ _ ho1]
    exact arena_app (arena_app h _) _
  have hGk := HLt.add hG
  have hat : arenaAt G A m a := by rw [hL]; exact arena_app h _
  refine EWn.of_c Tok mixed (own := false) keep87 tab87 (by kernel_rfl) ?_
  (repeat simp -dsimp only [zrDom31, xnils, xnilm, xrange, xmakeMap, xslice3, hb, ho, nodeV, RB, TB, keep87, tab87, xindexAddr, xindex, xslice, xconvert, xlen, ewOp, FreeW, StabW, SameW, ChangeW, AddW, BaseW, limBytes, simprocAttr, ne_eq])
  cases hc : nget a.nodes cur with
  | none =>
    (repeat simp -dsimp only [zrDom31, xnils, xnilm, xrange, xmakeMap, xslice3, hc, Option.isSome_none, RB, TB, keep87, tab87, xindexAddr, xindex, xslice, xconvert, xlen, ewOp, FreeW, StabW, SameW, ChangeW, AddW, BaseW, limBytes, simprocAttr, ne_eq])
    rw [hL]
    refine RetW.auto0 false _ (by first | rfl | exact (List.append_nil _).symm) ?_ ?_
    · (simp (maxDischargeDepth := 6) [LTB, HLt_set, ltL_take, ltL_drop, ltL_rep, ltL_set, upd, eset, hH, hHk, zlDom31] <;> omega)
    (try simp only [wk, wk1, wk0, RB, limBytes, simprocAttr, ne_eq])
    skip
    rw [hin, show a.nodes.length + 1 - met.length = (a.nodes.length - met.length) + 1 from by omega, insideG_succ, hc]
  | some n =>
    have hna : nodeAt a cur = ownN n := by unfold nodeAt; rw [hc]
    have hin2 := hin
    have hs2 := insideG_succ a top (a.nodes.length - met.length) cur met
    rw [hc] at hs2
    rw [show a.nodes.length + 1 - met.length = (a.nodes.length - met.length) + 1 from by omega, hs2] at hin2
    simp only at hin2
    have hid : (ownN n).id = n.id := rfl
    (repeat simp -dsimp only [zrDom31, xnils, xnilm, xrange, xmakeMap, xslice3, hc, Option.isSome_some, hna, hb, ho, nodeV, hid, RB, TB, keep87, tab87, xindexAddr, xindex, xslice, xconvert, xlen, ewOp, FreeW, StabW, SameW, ChangeW, AddW, BaseW, limBytes, simprocAttr, ne_eq])
    (refine SCall.then (containsIB _ met n.id _ (Bo.vec (ver := v) (es := 1) (l := met.map vi) ho (by simp) (ltL_map (f := vi) (fun _ => trivial) met))) ?_)
    (repeat simp -dsimp only [zrDom31, xnils, xnilm, xrange, xmakeMap, xslice3, hna, hb, ho, nodeV, hid, RB, TB, keep87, tab87, xindexAddr, xindex, xslice, xconvert, xlen, ewOp, FreeW, StabW, SameW, ChangeW, AddW, BaseW, limBytes, simprocAttr, ne_eq])
    refine IfW.intro (fun h1 => ?_) (fun h1 => ?_)
    · have h1' := of_decide_eq_true h1
      rw [if_pos h1'] at hin2
      (repeat simp -dsimp only [zrDom31, xnils, xnilm, xrange, xmakeMap, xslice3, h1, RB, TB, keep87, tab87, xindexAddr, xindex, xslice, xconvert, xlen, ewOp, FreeW, StabW, SameW, ChangeW, AddW, BaseW, limBytes, simprocAttr, ne_eq])
      rw [hL]
      refine RetW.auto0 false _ (by first | rfl | exact (List.append_nil _).symm) ?_ ?_
      · (simp (maxDischargeDepth := 6) [LTB, HLt_set, ltL_take, ltL_drop, ltL_rep, ltL_set, upd, eset, hH, hHk, zlDom31] <;> omega)
      (try simp only [wk, wk1, wk0, RB, limBytes, simprocAttr, ne_eq])
      skip
      exact congrArg V.bool hin2.symm
    · have h1' := of_decide_eq_false h1
      rw [if_neg h1'] at hin2
      (repeat simp -dsimp only [zrDom31, xnils, xnilm, xrange, xmakeMap, xslice3, h1, hna, hb, ho, nodeV, hid, RB, TB, keep87, tab87, xindexAddr, xindex, xslice, xconvert, xlen, ewOp, FreeW, StabW, SameW, ChangeW, AddW, BaseW, limBytes, simprocAttr, ne_eq])
      refine IfW.intro (fun h2 => ?_) (fun h2 => ?_)
      · have h2' : n.id = top := by simpa using h2
        rw [if_pos h2'] at hin2
        (repeat simp -dsimp only [zrDom31, xnils, xnilm, xrange, xmakeMap, xslice3, h2, RB, TB, keep87, tab87, xindexAddr, xindex, xslice, xconvert, xlen, ewOp, FreeW, StabW, SameW, ChangeW, AddW, BaseW, limBytes, simprocAttr, ne_eq])
        rw [hL]
        refine RetW.auto0 false _ (by first | rfl | exact (List.append_nil _).symm) ?_ ?_
        · (simp (maxDischargeDepth := 6) [LTB, HLt_set, ltL_take, ltL_drop, ltL_rep, ltL_set, upd, eset, hH, hHk, zlDom31] <;> omega)
        (try simp only [wk, wk1, wk0, RB, limBytes, simprocAttr, ne_eq])
        skip
        exact congrArg V.bool hin2.symm
      · have h2' : ¬ n.id = top := by simpa using h2
        rw [if_neg h2'] at hin2
        have hpar : (ownN n).parent = n.parent := rfl
        (repeat (first | simp -dsimp only [zrDom31, xnils, xnilm, xrange, xmakeMap, xslice3, h2, hna, hb, hb2, ho, hb3, nodeV, hid, hpar, RB, TB, keep87, tab87, xindexAddr, xindex, xslice, xconvert, xlen, ewOp, FreeW, StabW, SameW, ChangeW, AddW, BaseW, limBytes, simprocAttr, ne_eq] | ((with_reducible refine Need.intro ?_ ?_); (first | trivial | omega))))
        (refine SCall.then (aGetF _ A m a (hat2 _ _) hok n.parent) ?_)
        (repeat simp -dsimp only [zrDom31, xnils, xnilm, xrange, xmakeMap, xslice3, hna, hb, hb2, ho, hb3, nodeV, RB, TB, keep87, tab87, xindexAddr, xindex, xslice, xconvert, xlen, ewOp, FreeW, StabW, SameW, ChangeW, AddW, BaseW, limBytes, simprocAttr, ne_eq])
        have hmem : n.id ∈ a.nodes.map fun p => p.2.2.id := nget_len hc
        have hnd2 : (met ++ [n.id]).Nodup := by
          rw [List.nodup_append]
          exact ⟨hnd, by simp, fun x hx y hy => by simp at hy; rw [hy]; exact fun e => h1' (e ▸ hx)⟩
        have hml2 := nodup_sub (met ++ [n.id]) _ hnd2 (fun x hx => by rcases List.mem_append.1 hx with hx | hx; exact hsub x hx; simp at hx; rw [hx]; exact hmem)
        rw [List.length_map, List.length_append, List.length_singleton] at hml2
        refine UpTo.here ⟨(n.parent, met ++ [n.id], v + 1, o, G.length, G.set o (.vec (v + 1) 1 ((met ++ [n.id]).map vi)) ++ [.var (nodeV (nodeAt a n.parent)).cells]), ⟨?_, ?_, ?_, by rw [hL]; simp, ho1, by omega, hnd2, ?_, ?_, ?_⟩, by simp only [List.length_append, List.length_singleton]; omega, by simp [upd, eset], ⟨[], by simp [nodeV, vi, V.cells]⟩⟩
        · rw [List.length_append, List.length_set, HLt_append]
          refine ⟨HLt_set (hGk _) (lt_vi _ _), ?_⟩
          rw [HLt_cons]
          exact ⟨ltc _ _, HLt_nil⟩
        · rw [List.getElem?_append_left (by simpa using lo), List.getElem?_set_self lo]
        · rw [List.getElem?_append_right (by simp)]; simp
        · intro x hx
          rcases List.mem_append.1 hx with hx | hx
          · exact hsub x hx
          · simp at hx; rw [hx]; exact hmem
        · rw [hin2]; congr 1; simp only [List.length_append, List.length_singleton]; omega
        · exact ⟨_, by rw [hL, List.set_append_right _ _ ho1, List.append_assoc]⟩
end Go.Proofs.Ytjplgbalpnlanaa

/- slices.Reverse of the caller's own ints; dom.Path. -/
set_option linter.unusedSimpArgs false
set_option linter.unusedVariables false
set_option maxRecDepth 100000
namespace Go.EL
open Go
/-- a list of one's own is what is returned; nothing else stays -/
theorem retOwn {H0 H : List Ob} {o v n es : Nat} {l : List V} {R : V → List Ob → Prop} (hp : ∃ L, H = H0 ++ L) (ho : H[o]? = some (.vec v es l)) (hlo : H0.length ≤ o) (hlt : ltL H0.length l) (hn : n = l.length) (hR : R (.slice l) H0) : RetW H0.length H0 R (.vec o v 0 n) H := by
  obtain ⟨L, rfl⟩ := hp
  subst hn
  refine RetW.auto0 false L rfl ?_ ?_
  · simp only [okW, okW1, okW0, ho]
    exact fun _ => ⟨by first | rfl | trivial, by first | omega | simp, hlt⟩
  · simp only [wk, wk1, wk0, ho]
    rw [if_pos hlo, List.drop_zero, List.take_length]
    exact hR
end Go.EL
namespace Go.Proofs.Ytjplgbalpnlanaa
open Go Go.EL
theorem zrPath11 : type_of% (And.intro (And.intro (And.intro (And.intro (@st_run) (And.intro (@sz_run) (@st1_run))) (And.intro (@cl_run) (And.intro (@st_Str) (@sz_Str)))) (And.intro (And.intro (@st1_Str) (And.intro (@cl_Str) (@st_c))) (And.intro (@sz_c) (And.intro (@st1_c) (@cl_c))))) (And.intro (And.intro (And.intro (@st_attr) (And.intro (@sz_attr) (@st1_attr))) (And.intro (@cl_attr) (And.intro (@st_hook) (@sz_hook)))) (And.intro (And.intro (@st1_hook) (And.intro (@cl_hook) (@st_node))) (And.intro (@sz_node) (And.intro (@st1_node) (@cl_node)))))) := And.intro (And.intro (And.intro (And.intro (@st_run) (And.intro (@sz_run) (@st1_run))) (And.intro (@cl_run) (And.intro (@st_Str) (@sz_Str)))) (And.intro (And.intro (@st1_Str) (And.intro (@cl_Str) (@st_c))) (And.intro (@sz_c) (And.intro (@st1_c) (@cl_c))))) (And.intro (And.intro (And.intro (@st_attr) (And.intro (@sz_attr) (@st1_attr))) (And.intro (@cl_attr) (And.intro (@st_hook) (@sz_hook)))) (And.intro (And.intro (@st1_hook) (And.intro (@cl_hook) (@st_node))) (And.intro (@sz_node) (And.intro (@st1_node) (@cl_node)))))
theorem zlPath11 : type_of% (And.intro (And.intro (And.intro (And.intro (@lt_vi) (@lt_str)) (And.intro (@lt_vb) (And.intro (@ltc_str) (@ltc_vi)))) (And.intro (And.intro (@lt_run) (And.intro (@lt1_run) (@ltc_run))) (And.intro (@lt_Str) (And.intro (@lt1_Str) (@ltc_Str))))) (And.intro (And.intro (And.intro (@lt_c) (And.intro (@lt1_c) (@ltc_c))) (And.intro (@lt_attr) (And.intro (@lt1_attr) (@ltc_attr)))) (And.intro (And.intro (@lt_hook) (And.intro (@lt1_hook) (@ltc_hook))) (And.intro (@lt_node) (And.intro (@lt1_node) (@ltc_node)))))) := And.intro (And.intro (And.intro (And.intro (@lt_vi) (@lt_str)) (And.intro (@lt_vb) (And.intro (@ltc_str) (@ltc_vi)))) (And.intro (And.intro (@lt_run) (And.intro (@lt1_run) (@ltc_run))) (And.intro (@lt_Str) (And.intro (@lt1_Str) (@ltc_Str))))) (And.intro (And.intro (And.intro (@lt_c) (And.intro (@lt1_c) (@ltc_c))) (And.intro (@lt_attr) (And.intro (@lt1_attr) (@ltc_attr)))) (And.intro (And.intro (@lt_hook) (And.intro (@lt1_hook) (@ltc_hook))) (And.intro (@lt_node) (And.intro (@lt1_node) (@ltc_node)))))
/-- a list whose first and last i are reversed -/
def revI (l : List Int) (i : Nat) : List Int := (List.range l.length).map fun k => if k < i ∨ l.length ≤ k + i then l.getD (l.length - 1 - k) 0 else l.getD k 0
theorem revI_len (l : List Int) (i : Nat) : (revI l i).length = l.length := by simp [revI]
theorem revI_get (l : List Int) (i k : Nat) (hk : k < l.length) : (revI l i)[k]'(by rw [revI_len]; exact hk) = if k < i ∨ l.length ≤ k + i then l.getD (l.length - 1 - k) 0 else l.getD k 0 := by simp [revI]
theorem revI_zero (l : List Int) : revI l 0 = l := by
  apply List.ext_getElem (revI_len l 0)
  intro k h1 h2
  rw [revI_get l 0 k h2, if_neg (by omega)]
  simp [List.getD, h2]
theorem revI_end (l : List Int) (i : Nat) (h : l.length ≤ 2 * i + 1) : revI l i = l.reverse := by
  apply List.ext_getElem (by rw [revI_len, List.length_reverse])
  intro k h1 h2
  rw [List.length_reverse] at h2
  rw [revI_get l i k h2, List.getElem_reverse]
  by_cases hk : k < i ∨ l.length ≤ k + i
  · rw [if_pos hk]
    rw [List.getD_eq_getElem?_getD, List.getElem?_eq_getElem (by omega)]; rfl
  · rw [if_neg hk]
    rw [List.getD_eq_getElem?_getD, List.getElem?_eq_getElem (by omega), Option.getD_some]
    congr 1; omega
theorem revI_step (l : List Int) (i : Nat) (h : 2 * i + 1 < l.length) : ((revI l i).set i (l.getD (l.length - 1 - i) 0)).set (l.length - 1 - i) (l.getD i 0) = revI l (i + 1) := by
  apply List.ext_getElem (by simp [revI_len])
  intro k h1 h2
  rw [revI_len] at h2
  rw [revI_get l (i + 1) k h2, List.getElem_set, List.getElem_set]
  by_cases e1 : l.length - 1 - i = k
  · rw [if_pos e1, if_pos (by omega)]
    congr 1; omega
  · rw [if_neg e1]
    by_cases e2 : i = k
    · rw [if_pos e2, if_pos (by omega), e2]
    · rw [if_neg e2, revI_get l i k h2]
      by_cases hk : k < i ∨ l.length ≤ k + i
      · rw [if_pos hk, if_pos (by omega)]
      · rw [if_neg hk, if_neg (by omega)]
theorem revI_at (l : List Int) (i k : Nat) (h1 : i ≤ k) (h2 : k + i < l.length) : (revI l i)[k]'(by rw [revI_len]; omega) = l.getD k 0 := by rw [revI_get l i k (by omega), if_neg (by omega)]
theorem rev (H : List Ob) (o v : Nat) (l : List Int) (ho : H[o]? = some (.vec v 1 (l.map vi))) (hl : l.length ≤ 1000000000) : SCall Try.prog 127 [.vec o v 0 l.length] H (fun r H' => r = .tuple [] ∧ H' = H.set o (.vec v 1 (l.reverse.map vi))) := by
  have lo := (List.getElem?_eq_some_iff.1 ho).1
  have hso : ∀ X, (H.set o X)[o]? = some X := fun X => List.getElem?_set_self lo
  have hss : ∀ X Y, (H.set o X).set o Y = H.set o Y := fun X Y => by rw [List.set_set]
  have w0 : IntKind.i64.wrap ((l.length : Int) - 1) = (l.length : Int) - 1 := wrapI (by omega)
  have ho0 : H[o]? = some (.vec v 1 ((revI l 0).map vi)) := by rw [revI_zero]; exact ho
  refine SCall.of_good fun hH => ?_
  have hHk := HLt.add hH
  refine SCall.of_code Tok Try.func127 rfl Try.call127 (n := 28) rfl (by simp) (rs := []) rfl ?_
  refine EWn.to ?_
  refine EWn.of_c Tok mixed (own := false) keep127 tab127 (by kernel_rfl) ?_
  (repeat simp -dsimp only [zrPath11, xnils, xnilm, xrange, xmakeMap, xslice3, ho, w0, RB, TB, keep127, tab127, xindexAddr, xindex, xslice, xconvert, xlen, ewOp, FreeW, StabW, SameW, ChangeW, AddW, BaseW, limBytes, simprocAttr, ne_eq])
  refine EWn.loopE (ι := (Nat)) (fun (i : (Nat)) => 2 * i ≤ l.length + 1) (fun (i : (Nat)) => l.length - i) (fun (i : (Nat)) => [(2, .int .i64 i), (3, .int .i64 ((l.length : Int) - 1 - i))]) (fun (i : (Nat)) => H.set o (.vec v 1 ((revI l i).map vi))) (0) ?_ ?_ ?_ ?_ ?_
  · first | rfl | simp [upd, eset]
  · first | rfl | (simp; done) | exact (set_same (by assumption)).symm
  · rintro i hi
    refine ⟨by simp, ?_, by (simp (maxDischargeDepth := 6) [LTB, HLt_set, ltL_take, ltL_drop, ltL_rep, ltL_set, upd, eset, hH, hHk, zlPath11] <;> omega)⟩
    rw [List.length_set]
    exact HLt_set hH (by simp only [Ob.lt]; exact lt_vi _ _)
  · omega
  rintro i hi
  refine EWn.of_c Tok mixed (own := false) keep127 tab127 (by kernel_rfl) ?_
  (repeat simp -dsimp only [zrPath11, xnils, xnilm, xrange, xmakeMap, xslice3, hso, hss, RB, TB, keep127, tab127, xindexAddr, xindex, xslice, xconvert, xlen, ewOp, FreeW, StabW, SameW, ChangeW, AddW, BaseW, limBytes, simprocAttr, ne_eq])
  refine IfW.intro (fun h => ?_) (fun h => ?_)
  · have hlt : (i : Int) < (l.length : Int) - 1 - i := by simpa using h
    have hj : ((l.length : Int) - 1 - i).toNat = l.length - 1 - i := by omega
    have hn := revI_len l i
    have a1 := at_map vi (revI l i) i (by rw [hn]; omega)
    have a2 := at_map vi (revI l i) (l.length - 1 - i) (by rw [hn]; omega)
    rw [revI_at l i i (by omega) (by omega)] at a1
    rw [revI_at l i (l.length - 1 - i) (by omega) (by omega)] at a2
    have hst := revI_step l i (by omega)
    simp only [vi] at a1 a2
    have w1 : IntKind.i64.wrap ((i : Int) + 1) = ((i + 1 : Nat) : Int) := by rw [wrapI (by omega)]; omega
    have w2 : IntKind.i64.wrap ((l.length : Int) - 1 - i - 1) = (l.length : Int) - 1 - ((i + 1 : Nat) : Int) := by rw [wrapI (by omega)]; omega
    have a3 : ((List.map vi (revI l i)).set i (V.int .i64 (l.getD (l.length - 1 - i) 0))).getD (l.length - 1 - i) V.dead = .int .i64 (l.getD (l.length - 1 - i) 0) := by
      rw [← a2, List.getD_eq_getElem?_getD, List.getElem?_set_ne (by omega), ← List.getD_eq_getElem?_getD]
    (repeat (first | simp -dsimp only [zrPath11, xnils, xnilm, xrange, xmakeMap, xslice3, h, hso, hss, hj, a1, a2, a3, hn, w1, w2, RB, TB, keep127, tab127, xindexAddr, xindex, xslice, xconvert, xlen, ewOp, FreeW, StabW, SameW, ChangeW, AddW, BaseW, limBytes, simprocAttr, ne_eq] | ((with_reducible refine Need.intro ?_ ?_); (omega))))
    refine UpTo.here ⟨i + 1, by omega, by simp only; omega, by simp [upd, eset], [], ?_⟩
    rw [List.append_nil]
    show _ = H.set o (.vec v 1 ((revI l (i + 1)).map vi))
    rw [← hst]
    simp only [List.map_set, vi]
  · have hge : ¬ ((i : Int) < (l.length : Int) - 1 - i) := by simpa using h
    have he := revI_end l i (by omega)
    rw [he]
    (repeat simp -dsimp only [zrPath11, xnils, xnilm, xrange, xmakeMap, xslice3, h, RB, TB, keep127, tab127, xindexAddr, xindex, xslice, xconvert, xlen, ewOp, FreeW, StabW, SameW, ChangeW, AddW, BaseW, limBytes, simprocAttr, ne_eq])
    refine RetW.keep false (by simp) ?_ (by simp [okW]) ⟨by simp [wk, wk1, wk0], rfl⟩
    rw [List.length_set]
    exact HLt_set hH (by simp only [Ob.lt]; exact lt_vi _ _)
/-- the path to a node, from the root down -/
def upG (a : Arena) : Nat → Int → List Int → Option (List Int)
  | 0, _, _ => none
  | k + 1, id, out => match nget a.nodes id with
    | none => none
    | some n => if n.id = 0 then some (out ++ [n.id]).reverse else if n.parent ∈ out ++ [n.id] then none else upG a k n.parent (out ++ [n.id])
theorem upG_succ (a : Arena) (k : Nat) (id : Int) (out : List Int) : upG a (k + 1) id out = (match nget a.nodes id with | none => none | some n => if n.id = 0 then some (out ++ [n.id]).reverse else if n.parent ∈ out ++ [n.id] then none else upG a k n.parent (out ++ [n.id])) := rfl
def pathG (a : Arena) (id : Int) : List Int := (upG a (a.nodes.length + 1) id []).getD []
/-- each node's number is its key -/
def Keyed (ns : List Ent) : Prop := ∀ p ∈ ns, p.2.2.id = p.1
theorem nget_key {ns : List Ent} (hk : Keyed ns) {id : Int} {n : Node} (h : nget ns id = some n) : n.id = id := by
  induction ns with
  | nil => simp [nget] at h
  | cons q l ih =>
    simp only [nget] at h
    split at h
    · rename_i e
      injection h with h
      rw [← h, hk q (by simp), e]
    · exact ih (fun p hp => hk p (by simp [hp])) h
set_option maxHeartbeats 2000000 in
theorem dPath (H : List Ob) (A m : Nat) (a : Arena) (h : arenaAt H A m a) (hok : ∀ p ∈ a.nodes, okN p.2.2) (hN : a.nodes.length ≤ 1000000) (hky : Keyed a.nodes) (id : Int) : SCall Try.prog 66 [.ref A 0, .int .i64 id] H (fun r H' => r = .slice ((pathG a id).map vi) ∧ H' = H) := by
  have lA := (List.getElem?_eq_some_iff.1 h.1).1
  refine SCall.of_good fun hH => ?_
  have hHk := HLt.add hH
  refine SCall.of_code Tok Try.func66 rfl Try.call66 (n := 38) rfl (by simp) (rs := [.tmp 4]) rfl ?_
  refine EWn.to ?_
  refine EWn.of_c Tok mixed (own := false) keep66 tab66 (by kernel_rfl) ?_
  (repeat simp -dsimp only [zrPath11, xnils, xnilm, xrange, xmakeMap, xslice3, RB, TB, keep66, tab66, xindexAddr, xindex, xslice, xconvert, xlen, ewOp, FreeW, StabW, SameW, ChangeW, AddW, BaseW, limBytes, simprocAttr, ne_eq])
  (refine SCall.then (aGetF _ A m a h hok id) ?_)
  (repeat simp -dsimp only [zrPath11, xnils, xnilm, xrange, xmakeMap, xslice3, nodeV, RB, TB, keep66, tab66, xindexAddr, xindex, xslice, xconvert, xlen, ewOp, FreeW, StabW, SameW, ChangeW, AddW, BaseW, limBytes, simprocAttr, ne_eq])
  refine EWn.ghost (Gho.adopt 5 1 rfl) ?_
  simp only [RB, limBytes, simprocAttr, ne_eq]
  have ltc : ∀ (k : Nat) (x : Node), ltL k (nodeV x).cells := fun k x => by have := lt1_node k x; simp only [nodeV, V.lt] at this; exact this
  refine EWn.loopE (ι := (Int) × (List Int) × (Nat) × (Nat) × (Nat) × (List Ob)) (fun (x_ : (Int) × (List Int) × (Nat) × (Nat) × (Nat) × (List Ob)) => match x_ with | (cur, met, v, o, b, G) => HLt G.length G ∧ G[o]? = some (.vec v 1 (met.map vi)) ∧ G[b]? = some (.var (nodeV (nodeAt a cur)).cells) ∧ H.length ≤ b ∧ H.length ≤ o ∧ b ≠ o ∧ met.Nodup ∧ cur ∉ met ∧ (∀ x ∈ met, x ∈ a.nodes.map fun p => p.2.2.id) ∧ pathG a id = (upG a (a.nodes.length + 1 - met.length) cur met).getD [] ∧ ∃ L, G = H ++ L) (fun (x_ : (Int) × (List Int) × (Nat) × (Nat) × (Nat) × (List Ob)) => match x_ with | (cur, met, v, o, b, G) => a.nodes.length + 1 - met.length) (fun (x_ : (Int) × (List Int) × (Nat) × (Nat) × (Nat) × (List Ob)) => match x_ with | (cur, met, v, o, b, G) => [(5, .vec o v 0 met.length), (6, .ref b 0), (7, .bool (nget a.nodes cur).isSome)]) (fun (x_ : (Int) × (List Int) × (Nat) × (Nat) × (Nat) × (List Ob)) => match x_ with | (cur, met, v, o, b, G) => G) (id, [], 1, (H.length + 1), H.length, (H ++ [.var (nodeV (nodeAt a id)).cells, .vec 1 1 []])) ?_ ?_ ?_ ?_ ?_
  · first | rfl | simp [upd, eset]
  · first | rfl | (simp; done) | exact (set_same (by assumption)).symm
  · rintro ⟨cur, met, v, o, b, G⟩ ⟨hG, ho, hb, hb1, ho1, hbo, _, _, _, _, L, hL⟩
    have lo := (List.getElem?_eq_some_iff.1 ho).1
    have lb := (List.getElem?_eq_some_iff.1 hb).1
    exact ⟨by rw [hL]; simp, hG, by (simp (maxDischargeDepth := 6) [LTB, HLt_set, ltL_take, ltL_drop, ltL_rep, ltL_set, upd, eset, hH, hHk, zlPath11] <;> omega)⟩
  · refine ⟨?_, by rw [hget]; rfl, by rw [hget0]; rfl, by omega, by omega, by omega, by simp, by simp, by simp, rfl, _, rfl⟩
    rw [HLt_append]
    refine ⟨by rw [List.length_append]; exact hHk _, ?_⟩
    rw [HLt_cons, HLt_cons]
    exact ⟨ltc _ _, trivial, HLt_nil⟩
  rintro ⟨cur, met, v, o, b, G⟩ ⟨hG, ho, hb, hb1, ho1, hbo, hnd, hnm, hsub, hin, L, hL⟩
  have hml := nodup_sub met _ hnd hsub
  rw [List.length_map] at hml
  have lo := (List.getElem?_eq_some_iff.1 ho).1
  have lb := (List.getElem?_eq_some_iff.1 hb).1
  have hb2 : ∀ K, (G ++ K)[b]? = some (.var (nodeV (nodeAt a cur)).cells) := fun K => get_appD (L := K) hb
  have ho2 : ∀ K, (G ++ K)[o]? = some (.vec v 1 (met.map vi)) := fun K => get_appD (L := K) ho
  have hb3 : ∀ X, (G.set o X)[b]? = some (.var (nodeV (nodeAt a cur)).cells) := fun X => by rw [List.getElem?_set_ne (Ne.symm hbo)]; exact hb
  have hat2 : ∀ X K, arenaAt (G.set o X ++ K) A m a := fun X K => by
    rw [hL, List.set_append_right _ _ ho1]
    exact arena_app (arena_app h _) _
  have hGk := HLt.add hG
  refine EWn.of_c Tok mixed (own := false) keep66 tab66 (by kernel_rfl) ?_
  (repeat simp -dsimp only [zrPath11, xnils, xnilm, xrange, xmakeMap, xslice3, hb, ho, nodeV, RB, TB, keep66, tab66, xindexAddr, xindex, xslice, xconvert, xlen, ewOp, FreeW, StabW, SameW, ChangeW, AddW, BaseW, limBytes, simprocAttr, ne_eq])
  cases hc : nget a.nodes cur with
  | none =>
    (repeat simp -dsimp only [zrPath11, xnils, xnilm, xrange, xmakeMap, xslice3, hc, Option.isSome_none, RB, TB, keep66, tab66, xindexAddr, xindex, xslice, xconvert, xlen, ewOp, FreeW, StabW, SameW, ChangeW, AddW, BaseW, limBytes, simprocAttr, ne_eq])
    rw [hL]
    refine RetW.auto0 false _ (by first | rfl | exact (List.append_nil _).symm) ?_ ?_
    · (simp (maxDischargeDepth := 6) [LTB, HLt_set, ltL_take, ltL_drop, ltL_rep, ltL_set, upd, eset, hH, hHk, zlPath11] <;> omega)
    (try simp only [wk, wk1, wk0, RB, limBytes, simprocAttr, ne_eq])
    skip
    rw [hin, show a.nodes.length + 1 - met.length = (a.nodes.length - met.length) + 1 from by omega, upG_succ, hc]
    rfl
  | some n =>
    have hna : nodeAt a cur = ownN n := by unfold nodeAt; rw [hc]
    have hin2 := hin
    have hs2 := upG_succ a (a.nodes.length - met.length) cur met
    rw [hc] at hs2
    rw [show a.nodes.length + 1 - met.length = (a.nodes.length - met.length) + 1 from by omega, hs2] at hin2
    simp only at hin2
    have hid : (ownN n).id = n.id := rfl
    have hnid : n.id = cur := nget_key hky hc
    have hgo : ∀ X, (G.set o X)[o]? = some X := fun X => List.getElem?_set_self lo
    have hmem : n.id ∈ a.nodes.map fun p => p.2.2.id := nget_len hc
    have hnd2 : (met ++ [n.id]).Nodup := by
      rw [List.nodup_append]
      exact ⟨hnd, by simp, fun x hx y hy => by simp at hy; rw [hy, hnid]; exact fun e => hnm (e ▸ hx)⟩
    have hml2 := nodup_sub (met ++ [n.id]) _ hnd2 (fun x hx => by rcases List.mem_append.1 hx with hx | hx; exact hsub x hx; simp at hx; rw [hx]; exact hmem)
    rw [List.length_map, List.length_append, List.length_singleton] at hml2
    (repeat (first | simp -dsimp only [zrPath11, xnils, xnilm, xrange, xmakeMap, xslice3, hc, Option.isSome_some, hna, hb, hb3, ho, nodeV, hid, RB, TB, keep66, tab66, xindexAddr, xindex, xslice, xconvert, xlen, ewOp, FreeW, StabW, SameW, ChangeW, AddW, BaseW, limBytes, simprocAttr, ne_eq] | ((with_reducible refine Need.intro ?_ ?_); (first | trivial | omega))))
    refine IfW.intro (fun h2 => ?_) (fun h2 => ?_)
    · have h2' : n.id = 0 := by simpa using h2
      rw [if_pos h2'] at hin2
      have hlm : met.length + 1 = (met ++ [n.id]).length := by simp
      have hgv : ∀ X, (G.set o (.vec (v + 1) 1 ((met ++ [n.id]).map vi)) ++ X)[o]? = some (.vec (v + 1) 1 ((met ++ [n.id]).map vi)) := fun X => get_appD (hgo _)
      have hmv : met.map vi ++ [.int .i64 n.id] = (met ++ [n.id]).map vi := by simp [vi]
      (repeat simp -dsimp only [zrPath11, xnils, xnilm, xrange, xmakeMap, xslice3, h2, hmv, RB, TB, keep66, tab66, xindexAddr, xindex, xslice, xconvert, xlen, ewOp, FreeW, StabW, SameW, ChangeW, AddW, BaseW, limBytes, simprocAttr, ne_eq])
      rw [hlm]
      (refine SCall.then (rev _ o (v + 1) (met ++ [n.id]) (hgo _) (by omega)) ?_)
      (repeat simp -dsimp only [zrPath11, xnils, xnilm, xrange, xmakeMap, xslice3, RB, TB, keep66, tab66, xindexAddr, xindex, xslice, xconvert, xlen, ewOp, FreeW, StabW, SameW, ChangeW, AddW, BaseW, limBytes, simprocAttr, ne_eq])
      refine retOwn ⟨_, by rw [List.set_set, hL, List.set_append_right _ _ ho1]⟩ (List.getElem?_set_self (by simpa using lo)) ho1 (lt_vi _ _) (by simp) ⟨?_, rfl⟩
      rw [hin2]; rfl
    · have h2' : ¬ n.id = 0 := by simpa using h2
      rw [if_neg h2'] at hin2
      have hpar : (ownN n).parent = n.parent := rfl
      have hmv : met.map vi ++ [.int .i64 n.id] = (met ++ [n.id]).map vi := by simp [vi]
      (repeat simp -dsimp only [zrPath11, xnils, xnilm, xrange, xmakeMap, xslice3, h2, hmv, hna, hb, hb2, ho, hb3, nodeV, hid, hpar, RB, TB, keep66, tab66, xindexAddr, xindex, xslice, xconvert, xlen, ewOp, FreeW, StabW, SameW, ChangeW, AddW, BaseW, limBytes, simprocAttr, ne_eq])
      (refine SCall.then (containsIB _ (met ++ [n.id]) n.parent _ (Bo.vec (ver := v + 1) (es := 1) (l := (met ++ [n.id]).map vi) (hgo _) (by simp) (ltL_map (f := vi) (fun _ => trivial) _))) ?_)
      (repeat simp -dsimp only [zrPath11, xnils, xnilm, xrange, xmakeMap, xslice3, hmv, hna, hb, hb2, ho, hb3, nodeV, hid, hpar, RB, TB, keep66, tab66, xindexAddr, xindex, xslice, xconvert, xlen, ewOp, FreeW, StabW, SameW, ChangeW, AddW, BaseW, limBytes, simprocAttr, ne_eq])
      refine IfW.intro (fun h1 => ?_) (fun h1 => ?_)
      · have h1' := of_decide_eq_true h1
        rw [if_pos h1'] at hin2
        (repeat simp -dsimp only [zrPath11, xnils, xnilm, xrange, xmakeMap, xslice3, h1, RB, TB, keep66, tab66, xindexAddr, xindex, xslice, xconvert, xlen, ewOp, FreeW, StabW, SameW, ChangeW, AddW, BaseW, limBytes, simprocAttr, ne_eq])
        rw [hL, List.set_append_right _ _ ho1]
        refine RetW.auto0 false _ (by first | rfl | exact (List.append_nil _).symm) ?_ ?_
        · (simp (maxDischargeDepth := 6) [LTB, HLt_set, ltL_take, ltL_drop, ltL_rep, ltL_set, upd, eset, hH, hHk, zlPath11] <;> omega)
        (try simp only [wk, wk1, wk0, RB, limBytes, simprocAttr, ne_eq])
        skip
        rw [hin2]; rfl
      · have h1' := of_decide_eq_false h1
        rw [if_neg h1'] at hin2
        (repeat simp -dsimp only [zrPath11, xnils, xnilm, xrange, xmakeMap, xslice3, h1, hna, hb, hb2, ho, hb3, nodeV, hid, hpar, RB, TB, keep66, tab66, xindexAddr, xindex, xslice, xconvert, xlen, ewOp, FreeW, StabW, SameW, ChangeW, AddW, BaseW, limBytes, simprocAttr, ne_eq])
        (refine SCall.then (aGetF _ A m a (hat2 _ _) hok n.parent) ?_)
        (repeat simp -dsimp only [zrPath11, xnils, xnilm, xrange, xmakeMap, xslice3, hna, hb, hb2, ho, hb3, nodeV, RB, TB, keep66, tab66, xindexAddr, xindex, xslice, xconvert, xlen, ewOp, FreeW, StabW, SameW, ChangeW, AddW, BaseW, limBytes, simprocAttr, ne_eq])
        refine UpTo.here ⟨(n.parent, met ++ [n.id], v + 1, o, G.length, G.set o (.vec (v + 1) 1 ((met ++ [n.id]).map vi)) ++ [.var (nodeV (nodeAt a n.parent)).cells]), ⟨?_, ?_, ?_, by rw [hL]; simp, ho1, by omega, hnd2, h1', ?_, ?_, ?_⟩, by simp only [List.length_append, List.length_singleton]; omega, by simp [upd, eset], ⟨[], by simp [nodeV, vi, V.cells]⟩⟩
        · rw [List.length_append, List.length_set, HLt_append]
          refine ⟨HLt_set (hGk _) (lt_vi _ _), ?_⟩
          rw [HLt_cons]
          exact ⟨ltc _ _, HLt_nil⟩
        · rw [List.getElem?_append_left (by simpa using lo), List.getElem?_set_self lo]
        · rw [List.getElem?_append_right (by simp)]; simp
        · intro x hx
          rcases List.mem_append.1 hx with hx | hx
          · exact hsub x hx
          · simp at hx; rw [hx]; exact hmem
        · rw [hin2]; congr 2; simp only [List.length_append, List.length_singleton]; omega
        · exact ⟨_, by rw [hL, List.set_append_right _ _ ho1, List.append_assoc]⟩
end Go.Proofs.Ytjplgbalpnlanaa

/- The walks of package shot: Ids, Mount. -/
set_option linter.unusedSimpArgs false
set_option linter.unusedVariables false
set_option maxRecDepth 100000
namespace Go.Proofs.Ytjplgbalpnlanaa
open Go Go.EL
theorem zrShot11 : type_of% (And.intro (And.intro (And.intro (And.intro (@st_run) (And.intro (@sz_run) (@st1_run))) (And.intro (@cl_run) (And.intro (@st_Str) (@sz_Str)))) (And.intro (And.intro (@st1_Str) (And.intro (@cl_Str) (@st_c))) (And.intro (@sz_c) (And.intro (@st1_c) (@cl_c))))) (And.intro (And.intro (And.intro (@st_attr) (And.intro (@sz_attr) (@st1_attr))) (And.intro (@cl_attr) (And.intro (@st_hook) (@sz_hook)))) (And.intro (And.intro (@st1_hook) (And.intro (@cl_hook) (@st_node))) (And.intro (@sz_node) (And.intro (@st1_node) (@cl_node)))))) := And.intro (And.intro (And.intro (And.intro (@st_run) (And.intro (@sz_run) (@st1_run))) (And.intro (@cl_run) (And.intro (@st_Str) (@sz_Str)))) (And.intro (And.intro (@st1_Str) (And.intro (@cl_Str) (@st_c))) (And.intro (@sz_c) (And.intro (@st1_c) (@cl_c))))) (And.intro (And.intro (And.intro (@st_attr) (And.intro (@sz_attr) (@st1_attr))) (And.intro (@cl_attr) (And.intro (@st_hook) (@sz_hook)))) (And.intro (And.intro (@st1_hook) (And.intro (@cl_hook) (@st_node))) (And.intro (@sz_node) (And.intro (@st1_node) (@cl_node)))))
theorem zlShot11 : type_of% (And.intro (And.intro (And.intro (And.intro (@lt_vi) (@lt_str)) (And.intro (@lt_vb) (And.intro (@ltc_str) (@ltc_vi)))) (And.intro (And.intro (@lt_run) (And.intro (@lt1_run) (@ltc_run))) (And.intro (@lt_Str) (And.intro (@lt1_Str) (@ltc_Str))))) (And.intro (And.intro (And.intro (@lt_c) (And.intro (@lt1_c) (@ltc_c))) (And.intro (@lt_attr) (And.intro (@lt1_attr) (@ltc_attr)))) (And.intro (And.intro (@lt_hook) (And.intro (@lt1_hook) (@ltc_hook))) (And.intro (@lt_node) (And.intro (@lt1_node) (@ltc_node)))))) := And.intro (And.intro (And.intro (And.intro (@lt_vi) (@lt_str)) (And.intro (@lt_vb) (And.intro (@ltc_str) (@ltc_vi)))) (And.intro (And.intro (@lt_run) (And.intro (@lt1_run) (@ltc_run))) (And.intro (@lt_Str) (And.intro (@lt1_Str) (@ltc_Str))))) (And.intro (And.intro (And.intro (@lt_c) (And.intro (@lt1_c) (@ltc_c))) (And.intro (@lt_attr) (And.intro (@lt1_attr) (@ltc_attr)))) (And.intro (And.intro (@lt_hook) (And.intro (@lt1_hook) (@ltc_hook))) (And.intro (@lt_node) (And.intro (@lt1_node) (@ltc_node)))))
/-- a node, and all within it -/
def idsG (a : Arena) : Nat → Int → List Int
  | 0, _ => []
  | k + 1, id => match nget a.nodes id with
    | none => []
    | some n => id :: n.kids.flatMap (idsG a k)
/-- a node's depth is less than k -/
def deepG (a : Arena) : Nat → Int → Prop
  | 0, _ => False
  | k + 1, id => ∀ n, nget a.nodes id = some n → ∀ c ∈ n.kids, deepG a k c
theorem idsG_some {a : Arena} {k : Nat} {id : Int} {n : Node} (h : nget a.nodes id = some n) : idsG a (k + 1) id = id :: n.kids.flatMap (idsG a k) := by rw [idsG, h]
theorem idsG_none {a : Arena} {k : Nat} {id : Int} (h : nget a.nodes id = none) : idsG a (k + 1) id = [] := by rw [idsG, h]
theorem flatMap_succ {α β : Type} (f : α → List β) {l : List α} {i : Nat} (h : i < l.length) : (l.take (i + 1)).flatMap f = (l.take i).flatMap f ++ f l[i] := by
  rw [List.take_succ_eq_append_getElem h, List.flatMap_append]; simp
theorem flatMap_le {α β : Type} (f : α → List β) {l : List α} {i : Nat} : ((l.take i).flatMap f).length ≤ (l.flatMap f).length := by
  conv => rhs; rw [← List.take_append_drop i l]
  rw [List.flatMap_append, List.length_append]
  omega
theorem flatMap_mem_le {α β : Type} (f : α → List β) {l : List α} {x : α} (h : x ∈ l) : (f x).length ≤ (l.flatMap f).length := by
  induction l with
  | nil => cases h
  | cons y l ih =>
    rw [List.flatMap_cons, List.length_append]
    rcases List.mem_cons.1 h with rfl | h
    · omega
    · have := ih h; omega
set_option maxHeartbeats 2000000 in
theorem sIds (A m : Nat) (a : Arena) (hok : ∀ p ∈ a.nodes, okN p.2.2) : ∀ (k : Nat) (id : Int) (H : List Ob), arenaAt H A m a → deepG a k id → (idsG a k id).length ≤ 1000000 → SCall Try.prog 47 [.ref A 0, .int .i64 id] H (fun r H' => r = .slice ((idsG a k id).map vi) ∧ H' = H) := by
  intro k
  induction k with
  | zero => intro id H _ h; exact h.elim
  | succ k ih =>
    intro id H h hd hsz
    have lA := (List.getElem?_eq_some_iff.1 h.1).1
    cases hn : nget a.nodes id with
    | none =>
      rw [idsG_none hn]
      refine SCall.of_good fun hH => ?_
      have hHk := HLt.add hH
      refine SCall.of_code Tok Try.func47 rfl Try.call47 (n := 34) rfl (by simp) (rs := [.tmp 4]) rfl ?_
      refine EWn.to ?_
      refine EWn.of_c Tok mixed (own := true) keep47 tab47 (by kernel_rfl) ?_
      (repeat simp -dsimp only [zrShot11, xnils, xnilm, xrange, xmakeMap, xslice3, RB, TB, keep47, tab47, xindexAddr, xindex, xslice, xconvert, xlen, ewOp, FreeW, StabW, SameW, ChangeW, AddW, BaseW, limBytes, simprocAttr, ne_eq])
      (refine SCall.then (aGetN _ A m a h hok id hn) ?_)
      (repeat simp -dsimp only [zrShot11, xnils, xnilm, xrange, xmakeMap, xslice3, nodeV, RB, TB, keep47, tab47, xindexAddr, xindex, xslice, xconvert, xlen, ewOp, FreeW, StabW, SameW, ChangeW, AddW, BaseW, limBytes, simprocAttr, ne_eq])
      refine RetW.auto0 false _ (by first | rfl | exact (List.append_nil _).symm) ?_ ?_
      · (simp (maxDischargeDepth := 6) [LTB, HLt_set, ltL_take, ltL_drop, ltL_rep, ltL_set, upd, eset, hH, hHk, zlShot11] <;> omega)
      (try simp only [wk, wk1, wk0, RB, limBytes, simprocAttr, ne_eq])
      skip
    | some n =>
      have hdk := hd n hn
      rw [idsG_some hn] at hsz ⊢
      rw [List.length_cons] at hsz
      have hkids : (ownN n).kids = n.kids := rfl
      have hkl : n.kids.length ≤ 1000000000000 := by
        obtain ⟨p, hp, hp2⟩ := nget_mem hn
        exact hp2 ▸ (hok p hp).2.2.2.2.2
      obtain ⟨out, hout⟩ : ∃ out : Nat → List Int, ∀ i, out i = id :: (n.kids.take i).flatMap (idsG a k) := ⟨_, fun _ => rfl⟩
      have hout0 : out 0 = [id] := by rw [hout]; simp
      have houtn : id :: n.kids.flatMap (idsG a k) = out n.kids.length := by rw [hout, List.take_length]
      have houtl : ∀ i, (out i).length ≤ 1000000 := fun i => by
        have hfl := flatMap_le (idsG a k) (l := n.kids) (i := i)
        rw [hout, List.length_cons]; omega
      rw [houtn]
      refine SCall.of_good fun hH => ?_
      have hHk := HLt.add hH
      refine SCall.of_code Tok Try.func47 rfl Try.call47 (n := 34) rfl (by simp) (rs := [.tmp 4]) rfl ?_
      refine EWn.to ?_
      refine EWn.of_c Tok mixed (own := true) keep47 tab47 (by kernel_rfl) ?_
      (repeat simp -dsimp only [zrShot11, xnils, xnilm, xrange, xmakeMap, xslice3, RB, TB, keep47, tab47, xindexAddr, xindex, xslice, xconvert, xlen, ewOp, FreeW, StabW, SameW, ChangeW, AddW, BaseW, limBytes, simprocAttr, ne_eq])
      (refine SCall.then (aGetS _ A m a h hok id n hn) ?_)
      (repeat (first | simp -dsimp only [zrShot11, xnils, xnilm, xrange, xmakeMap, xslice3, nodeV, hkids, RB, TB, keep47, tab47, xindexAddr, xindex, xslice, xconvert, xlen, ewOp, FreeW, StabW, SameW, ChangeW, AddW, BaseW, limBytes, simprocAttr, ne_eq] | ((with_reducible refine Need.intro ?_ ?_); (trivial))))
      have ltc : ∀ (k : Nat) (x : Node), ltL k (nodeV x).cells := fun k x => by have := lt1_node k x; simp only [nodeV, V.lt] at this; exact this
      refine EWn.loopE (ι := (Nat) × (Nat)) (fun (x_ : (Nat) × (Nat)) => match x_ with | (i, v) => i ≤ n.kids.length) (fun (x_ : (Nat) × (Nat)) => match x_ with | (i, v) => n.kids.length - i) (fun (x_ : (Nat) × (Nat)) => match x_ with | (i, v) => [(7, .vec (H.length + 1) v 0 (out i).length), (23, .int .i64 i)]) (fun (x_ : (Nat) × (Nat)) => match x_ with | (i, v) => H ++ [.var (nodeV (ownN n)).cells, .vec v 1 ((out i).map vi)]) (0, 1) ?_ ?_ ?_ ?_ ?_
      · first | rfl | (simp [upd, eset]; done) | (simp [upd, eset, hout0, vi, nodeV, hkids, V.cells]; done)
      · simp [hout0, vi, nodeV, hkids, V.cells]
      · rintro ⟨i, v⟩ hi
        refine ⟨by simp, ?_, ?_⟩
        · rw [HLt_append]
          refine ⟨by rw [List.length_append]; exact hHk _, ?_⟩
          rw [HLt_cons, HLt_cons]
          exact ⟨ltc _ _, lt_vi _ _, HLt_nil⟩
        · (simp (maxDischargeDepth := 6) [LTB, HLt_set, ltL_take, ltL_drop, ltL_rep, ltL_set, upd, eset, hH, hHk, zlShot11] <;> omega)
      · omega
      rintro ⟨i, v⟩ hi
      have hol := houtl i
      refine EWn.of_c Tok mixed (own := false) keep47 tab47 (by kernel_rfl) ?_
      (repeat simp -dsimp only [zrShot11, xnils, xnilm, xrange, xmakeMap, xslice3, RB, TB, keep47, tab47, xindexAddr, xindex, xslice, xconvert, xlen, ewOp, FreeW, StabW, SameW, ChangeW, AddW, BaseW, limBytes, simprocAttr, ne_eq])
      refine IfW.intro (fun hs => ?_) (fun hs => ?_)
      · have hlt := lt_of hs
        have hsucc : out (i + 1) = out i ++ idsG a k n.kids[i] := by rw [hout, hout, flatMap_succ (idsG a k) hlt]; rfl
        have hol2 := houtl (i + 1)
        rw [hsucc, List.length_append] at hol2
        have hmi := at_map vi n.kids i hlt
        simp only [vi] at hmi
        (repeat (first | simp -dsimp only [zrShot11, xnils, xnilm, xrange, xmakeMap, xslice3, hs, hmi, RB, TB, keep47, tab47, xindexAddr, xindex, xslice, xconvert, xlen, ewOp, FreeW, StabW, SameW, ChangeW, AddW, BaseW, limBytes, simprocAttr, ne_eq] | ((with_reducible refine Need.intro ?_ ?_); (omega))))
        refine SCall.then (ih n.kids[i] _ (arena_app h _) (hdk _ (List.getElem_mem hlt)) (by omega)) ?_
        generalize idsG a k n.kids[i] = l2 at *
        (repeat (first | simp -dsimp only [zrShot11, xnils, xnilm, xrange, xmakeMap, xslice3, hs, RB, TB, keep47, tab47, xindexAddr, xindex, xslice, xconvert, xlen, ewOp, FreeW, StabW, SameW, ChangeW, AddW, BaseW, limBytes, simprocAttr, ne_eq] | ((with_reducible refine Need.intro ?_ ?_); (omega))))
        rw [wrapI (by omega)]
        refine UpTo.here ⟨(i + 1, v + 1), hlt, by simp only; omega, by simp only [hsucc, List.length_append]; simp [upd, eset], ⟨[], by simp only [hsucc, List.map_append, List.append_nil]⟩⟩
      · (repeat simp -dsimp only [zrShot11, xnils, xnilm, xrange, xmakeMap, xslice3, hs, RB, TB, keep47, tab47, xindexAddr, xindex, xslice, xconvert, xlen, ewOp, FreeW, StabW, SameW, ChangeW, AddW, BaseW, limBytes, simprocAttr, ne_eq])
        have hi2 : i = n.kids.length := Nat.le_antisymm hi (ge_of hs)
        subst hi2
        refine RetW.auto0 false _ (by first | rfl | exact (List.append_nil _).symm) ?_ ?_
        · (simp (maxDischargeDepth := 6) [LTB, HLt_set, ltL_take, ltL_drop, ltL_rep, ltL_set, upd, eset, hH, hHk, zlShot11] <;> omega)
        (try simp only [wk, wk1, wk0, RB, limBytes, simprocAttr, ne_eq])
        (try (rw [List.take_of_length_le]; rotate_left 1; (· first | (simp; done) | (simp; omega) | omega)))
        simp
theorem sMountF (G : List Ob) (A m : Nat) (a : Arena) (hok : ∀ p ∈ a.nodes, okN p.2.2) (h : arenaAt G A m a) (id slot : Int) (b c : Nat) (hb : G[b]? = some (.var [.ref A 0])) (hc : G[c]? = some (.var [.int .i64 slot])) : SCall Try.prog 120 [.int .i64 id, .ref b 0, .ref c 0] G (fun r H' => r = .bool ((nodeAt a id).kind == 3 && (nodeAt a id).slot == slot) ∧ H' = G) := by
  have lb := (List.getElem?_eq_some_iff.1 hb).1
  have lc := (List.getElem?_eq_some_iff.1 hc).1
  have hbK := fun K => get_appD (L := K) hb
  have hcK := fun K => get_appD (L := K) hc
  refine SCall.of_good fun hH => ?_
  have hHk := HLt.add hH
  refine SCall.of_code Tok Try.func120 rfl Try.call120 (n := 22) rfl (by simp) (rs := [.tmp 4]) rfl ?_
  refine EWn.to ?_
  refine EWn.of_c Tok mixed (own := false) keep120 tab120 (by kernel_rfl) ?_
  (repeat simp -dsimp only [zrShot11, xnils, xnilm, xrange, xmakeMap, xslice3, hb, hc, hbK, hcK, RB, TB, keep120, tab120, xindexAddr, xindex, xslice, xconvert, xlen, ewOp, FreeW, StabW, SameW, ChangeW, AddW, BaseW, limBytes, simprocAttr, ne_eq])
  (refine SCall.then (aGetF _ A m a h hok id) ?_)
  (repeat simp -dsimp only [zrShot11, xnils, xnilm, xrange, xmakeMap, xslice3, nodeV, hb, hc, hbK, hcK, RB, TB, keep120, tab120, xindexAddr, xindex, xslice, xconvert, xlen, ewOp, FreeW, StabW, SameW, ChangeW, AddW, BaseW, limBytes, simprocAttr, ne_eq])
  refine IfW.intro (fun h1 => ?_) (fun h1 => ?_)
  · (repeat simp -dsimp only [zrShot11, xnils, xnilm, xrange, xmakeMap, xslice3, h1, hb, hc, hbK, hcK, nodeV, RB, TB, keep120, tab120, xindexAddr, xindex, xslice, xconvert, xlen, ewOp, FreeW, StabW, SameW, ChangeW, AddW, BaseW, limBytes, simprocAttr, ne_eq])
    refine RetW.auto0 false _ (by first | rfl | exact (List.append_nil _).symm) ?_ ?_
    · (simp (maxDischargeDepth := 6) [LTB, HLt_set, ltL_take, ltL_drop, ltL_rep, ltL_set, upd, eset, hH, hHk, zlShot11] <;> omega)
    (try simp only [wk, wk1, wk0, RB, limBytes, simprocAttr, ne_eq])
    skip
    all_goals first | rfl | (rw [h1]; rfl)
  · (repeat simp -dsimp only [zrShot11, xnils, xnilm, xrange, xmakeMap, xslice3, h1, hb, hc, hbK, hcK, nodeV, RB, TB, keep120, tab120, xindexAddr, xindex, xslice, xconvert, xlen, ewOp, FreeW, StabW, SameW, ChangeW, AddW, BaseW, limBytes, simprocAttr, ne_eq])
    refine RetW.auto0 false _ (by first | rfl | exact (List.append_nil _).symm) ?_ ?_
    · (simp (maxDischargeDepth := 6) [LTB, HLt_set, ltL_take, ltL_drop, ltL_rep, ltL_set, upd, eset, hH, hHk, zlShot11] <;> omega)
    (try simp only [wk, wk1, wk0, RB, limBytes, simprocAttr, ne_eq])
    skip
    all_goals first | rfl | (rw [h1]; rfl)
theorem indexFunc_int (H : List Ob) (l : List (Int)) (k : FuncId) (fi ca : List V) (p : Int → Bool) (hf : ∀ x ∈ l, SCall Try.prog k (fi ++ vi x :: ca) H (fun r H' => r = .bool (p x) ∧ H' = H)) (hlf : ltL H.length fi ∧ ltL H.length ca) : SCall Try.prog 119 [.slice (l.map vi), .fn (.func k) fi ca] H (fun r H' => r = .int .i64 (ix p l) ∧ H' = H) := by
  obtain ⟨hl1, hl2⟩ := hlf
  refine SCall.sized 0 rfl fun hl => ?_
  rw [List.length_map, maxLen_eq] at hl
  refine SCall.of_good fun hH => ?_
  have hHk := HLt.add hH
  refine SCall.of_code Tok Try.func119 rfl Try.call119 (n := 19) rfl (by simp) (rs := [.tmp 4]) rfl ?_
  refine EWn.to ?_
  refine EWn.of_c Tok mixed (own := false) keep119 tab119 (by kernel_rfl) ?_
  (repeat simp -dsimp only [zrShot11, xnils, xnilm, xrange, xmakeMap, xslice3, RB, TB, keep119, tab119, xindexAddr, xindex, xslice, xconvert, xlen, ewOp, FreeW, StabW, SameW, ChangeW, AddW, BaseW, limBytes, simprocAttr, ne_eq])
  refine EWn.loopE (ι := (Nat)) (fun (i : (Nat)) => i ≤ l.length ∧ ∀ x ∈ l.take i, p x = false) (fun (i : (Nat)) => l.length - i) (fun (i : (Nat)) => [(8, .int .i64 i)]) (fun (i : (Nat)) => H) (0) ?_ ?_ ?_ ?_ ?_
  · first | rfl | simp [upd, eset]
  · first | rfl | (simp; done) | exact (set_same (by assumption)).symm
  · rintro i hok; exact ⟨by first | (simp; done) | (simp; omega), by (simp (maxDischargeDepth := 6) [LTB, HLt_set, ltL_take, ltL_drop, ltL_rep, ltL_set, upd, eset, hH, hHk, hl1, hl2, zlShot11] <;> omega), by (simp (maxDischargeDepth := 6) [LTB, HLt_set, ltL_take, ltL_drop, ltL_rep, ltL_set, upd, eset, hH, hHk, hl1, hl2, zlShot11] <;> omega)⟩
  · simp
  rintro i ⟨hi, hno⟩
  refine EWn.of_c Tok mixed (own := false) keep119 tab119 (by kernel_rfl) ?_
  (repeat simp -dsimp only [zrShot11, xnils, xnilm, xrange, xmakeMap, xslice3, RB, TB, keep119, tab119, xindexAddr, xindex, xslice, xconvert, xlen, ewOp, FreeW, StabW, SameW, ChangeW, AddW, BaseW, limBytes, simprocAttr, ne_eq])
  refine IfW.intro (fun h => ?_) (fun h => ?_)
  · have hlt := lt_of h
    (repeat (first | simp -dsimp only [zrShot11, xnils, xnilm, xrange, xmakeMap, xslice3, h, at_map vi l i hlt, vi, RB, TB, keep119, tab119, xindexAddr, xindex, xslice, xconvert, xlen, ewOp, FreeW, StabW, SameW, ChangeW, AddW, BaseW, limBytes, simprocAttr, ne_eq] | ((with_reducible refine Need.intro ?_ ?_); (omega))))
    refine SCall.then (hf l[i] (List.getElem_mem hlt)) ?_
    (repeat simp -dsimp only [zrShot11, xnils, xnilm, xrange, xmakeMap, xslice3, RB, TB, keep119, tab119, xindexAddr, xindex, xslice, xconvert, xlen, ewOp, FreeW, StabW, SameW, ChangeW, AddW, BaseW, limBytes, simprocAttr, ne_eq])
    refine IfW.intro (fun hb => ?_) (fun hb => ?_)
    · (repeat simp -dsimp only [zrShot11, xnils, xnilm, xrange, xmakeMap, xslice3, hb, RB, TB, keep119, tab119, xindexAddr, xindex, xslice, xconvert, xlen, ewOp, FreeW, StabW, SameW, ChangeW, AddW, BaseW, limBytes, simprocAttr, ne_eq])
      refine RetW.auto0 false _ (by first | rfl | exact (List.append_nil _).symm) ?_ ?_
      · (simp (maxDischargeDepth := 6) [LTB, HLt_set, ltL_take, ltL_drop, ltL_rep, ltL_set, upd, eset, hH, hHk, hl1, hl2, zlShot11] <;> omega)
      (try simp only [wk, wk1, wk0, RB, limBytes, simprocAttr, ne_eq])
      skip
      rw [ix_hit hlt hb hno]
    · (repeat simp -dsimp only [zrShot11, xnils, xnilm, xrange, xmakeMap, xslice3, hb, RB, TB, keep119, tab119, xindexAddr, xindex, xslice, xconvert, xlen, ewOp, FreeW, StabW, SameW, ChangeW, AddW, BaseW, limBytes, simprocAttr, ne_eq])
      rw [wrapI (by omega)]
      refine UpTo.here ⟨(i + 1), ?_, by first | omega | (simp only [List.length_append, List.length_cons, List.length_nil]; omega), by simp [upd, eset], ⟨_, by simp; try rfl⟩⟩
      exact ⟨hlt, take_step hlt hb hno⟩
  · (repeat simp -dsimp only [zrShot11, xnils, xnilm, xrange, xmakeMap, xslice3, h, RB, TB, keep119, tab119, xindexAddr, xindex, xslice, xconvert, xlen, ewOp, FreeW, StabW, SameW, ChangeW, AddW, BaseW, limBytes, simprocAttr, ne_eq])
    refine RetW.auto0 false _ (by first | rfl | exact (List.append_nil _).symm) ?_ ?_
    · (simp (maxDischargeDepth := 6) [LTB, HLt_set, ltL_take, ltL_drop, ltL_rep, ltL_set, upd, eset, hH, hHk, hl1, hl2, zlShot11] <;> omega)
    (try simp only [wk, wk1, wk0, RB, limBytes, simprocAttr, ne_eq])
    skip
    rw [ix_none (take_all (ge_of h) hno)]
theorem indexFunc_int_vec (H : List Ob) (l : List (Int)) (k : FuncId) (fi ca : List V) (p : Int → Bool) (hf : ∀ x ∈ l, SCall Try.prog k (fi ++ vi x :: ca) H (fun r H' => r = .bool (p x) ∧ H' = H)) (hlf : ltL H.length fi ∧ ltL H.length ca) (o ver n : Nat) (ho : H[o]? = some (.vec ver 1 (l.map vi))) (hn : n = l.length) (hl : l.length ≤ 1000000000000) : SCall Try.prog 119 [.vec o ver 0 n, .fn (.func k) fi ca] H (fun r H' => r = .int .i64 (ix p l) ∧ H' = H) := by
  subst hn
  obtain ⟨hl1, hl2⟩ := hlf
  have holt := lt_of_get ho
  refine SCall.of_good fun hH => ?_
  have hHk := HLt.add hH
  refine SCall.of_code Tok Try.func119 rfl Try.call119 (n := 19) rfl (by simp) (rs := [.tmp 4]) rfl ?_
  refine EWn.to ?_
  refine EWn.of_c Tok mixed (own := false) keep119 tab119 (by kernel_rfl) ?_
  (repeat simp -dsimp only [zrShot11, xnils, xnilm, xrange, xmakeMap, xslice3, ho, RB, TB, keep119, tab119, xindexAddr, xindex, xslice, xconvert, xlen, ewOp, FreeW, StabW, SameW, ChangeW, AddW, BaseW, limBytes, simprocAttr, ne_eq])
  refine EWn.loopE (ι := (Nat)) (fun (i : (Nat)) => i ≤ l.length ∧ ∀ x ∈ l.take i, p x = false) (fun (i : (Nat)) => l.length - i) (fun (i : (Nat)) => [(8, .int .i64 i)]) (fun (i : (Nat)) => H) (0) ?_ ?_ ?_ ?_ ?_
  · first | rfl | simp [upd, eset]
  · first | rfl | (simp; done) | exact (set_same (by assumption)).symm
  · rintro i hok; exact ⟨by first | (simp; done) | (simp; omega), by (simp (maxDischargeDepth := 6) [LTB, HLt_set, ltL_take, ltL_drop, ltL_rep, ltL_set, upd, eset, hH, hHk, hl1, hl2, holt, zlShot11] <;> omega), by (simp (maxDischargeDepth := 6) [LTB, HLt_set, ltL_take, ltL_drop, ltL_rep, ltL_set, upd, eset, hH, hHk, hl1, hl2, holt, zlShot11] <;> omega)⟩
  · simp
  rintro i ⟨hi, hno⟩
  refine EWn.of_c Tok mixed (own := false) keep119 tab119 (by kernel_rfl) ?_
  (repeat simp -dsimp only [zrShot11, xnils, xnilm, xrange, xmakeMap, xslice3, ho, RB, TB, keep119, tab119, xindexAddr, xindex, xslice, xconvert, xlen, ewOp, FreeW, StabW, SameW, ChangeW, AddW, BaseW, limBytes, simprocAttr, ne_eq])
  refine IfW.intro (fun h => ?_) (fun h => ?_)
  · have hlt := lt_of h
    (repeat (first | simp -dsimp only [zrShot11, xnils, xnilm, xrange, xmakeMap, xslice3, h, ho, at_map vi l i hlt, vi, RB, TB, keep119, tab119, xindexAddr, xindex, xslice, xconvert, xlen, ewOp, FreeW, StabW, SameW, ChangeW, AddW, BaseW, limBytes, simprocAttr, ne_eq] | ((with_reducible refine Need.intro ?_ ?_); (first | trivial | omega))))
    refine SCall.then (hf l[i] (List.getElem_mem hlt)) ?_
    (repeat simp -dsimp only [zrShot11, xnils, xnilm, xrange, xmakeMap, xslice3, RB, TB, keep119, tab119, xindexAddr, xindex, xslice, xconvert, xlen, ewOp, FreeW, StabW, SameW, ChangeW, AddW, BaseW, limBytes, simprocAttr, ne_eq])
    refine IfW.intro (fun hb => ?_) (fun hb => ?_)
    · (repeat simp -dsimp only [zrShot11, xnils, xnilm, xrange, xmakeMap, xslice3, hb, RB, TB, keep119, tab119, xindexAddr, xindex, xslice, xconvert, xlen, ewOp, FreeW, StabW, SameW, ChangeW, AddW, BaseW, limBytes, simprocAttr, ne_eq])
      refine RetW.auto0 false _ (by first | rfl | exact (List.append_nil _).symm) ?_ ?_
      · (simp (maxDischargeDepth := 6) [LTB, HLt_set, ltL_take, ltL_drop, ltL_rep, ltL_set, upd, eset, hH, hHk, hl1, hl2, holt, zlShot11] <;> omega)
      (try simp only [wk, wk1, wk0, RB, limBytes, simprocAttr, ne_eq])
      skip
      rw [ix_hit hlt hb hno]
    · (repeat simp -dsimp only [zrShot11, xnils, xnilm, xrange, xmakeMap, xslice3, hb, RB, TB, keep119, tab119, xindexAddr, xindex, xslice, xconvert, xlen, ewOp, FreeW, StabW, SameW, ChangeW, AddW, BaseW, limBytes, simprocAttr, ne_eq])
      rw [wrapI (by omega)]
      refine UpTo.here ⟨(i + 1), ?_, by first | omega | (simp only [List.length_append, List.length_cons, List.length_nil]; omega), by simp [upd, eset], ⟨_, by simp; try rfl⟩⟩
      exact ⟨hlt, take_step hlt hb hno⟩
  · (repeat simp -dsimp only [zrShot11, xnils, xnilm, xrange, xmakeMap, xslice3, h, RB, TB, keep119, tab119, xindexAddr, xindex, xslice, xconvert, xlen, ewOp, FreeW, StabW, SameW, ChangeW, AddW, BaseW, limBytes, simprocAttr, ne_eq])
    refine RetW.auto0 false _ (by first | rfl | exact (List.append_nil _).symm) ?_ ?_
    · (simp (maxDischargeDepth := 6) [LTB, HLt_set, ltL_take, ltL_drop, ltL_rep, ltL_set, upd, eset, hH, hHk, hl1, hl2, holt, zlShot11] <;> omega)
    (try simp only [wk, wk1, wk0, RB, limBytes, simprocAttr, ne_eq])
    skip
    rw [ix_none (take_all (ge_of h) hno)]

/-- the first slot of a number; 0: none -/
def mountG (a : Arena) (k : Nat) (slot : Int) : Int := ((idsG a k 0).find? fun id => (nodeAt a id).kind == 3 && (nodeAt a id).slot == slot).getD 0
theorem find_ix (p : Int → Bool) : ∀ l : List Int, (l.find? p = none ∧ ix p l = -1) ∨ ∃ i, ∃ h : i < l.length, ix p l = i ∧ l.find? p = some l[i] := fun l => by
  cases hf : l.find? p with
  | none =>
    left
    refine ⟨rfl, ix_none fun x hx => ?_⟩
    have := List.find?_eq_none.1 hf x hx
    simpa using this
  | some x =>
    right
    have hany : ∃ y ∈ l, p y = true := ⟨x, List.mem_of_find?_eq_some hf, List.find?_some hf⟩
    have hlt := List.findIdx_lt_length.2 hany
    refine ⟨l.findIdx p, hlt, ix_hit hlt List.findIdx_getElem (fun y hy => ?_), ?_⟩
    · obtain ⟨j, hj, rfl⟩ := List.mem_take_iff_getElem.1 hy
      have := List.not_of_lt_findIdx (p := p) (xs := l) (i := j) (by omega)
      simpa using this
    · rw [← hf, List.find?_eq_some_iff_getElem.2 ⟨List.findIdx_getElem (w := hlt), l.findIdx p, hlt, rfl, fun j hj => by
        have := List.not_of_lt_findIdx (p := p) (xs := l) (i := j) hj
        simpa using this⟩]
theorem sMount (H : List Ob) (A m : Nat) (a : Arena) (hok : ∀ p ∈ a.nodes, okN p.2.2) (h : arenaAt H A m a) (k : Nat) (hd : deepG a k 0) (hsz : (idsG a k 0).length ≤ 1000000) (slot : Int) : SCall Try.prog 48 [.ref A 0, .int .i64 slot] H (fun r H' => r = .int .i64 (mountG a k slot) ∧ H' = H) := by
  have lA := (List.getElem?_eq_some_iff.1 h.1).1
  refine SCall.of_good fun hH => ?_
  have hHk := HLt.add hH
  refine SCall.of_code Tok Try.func48 rfl Try.call48 (n := 18) rfl (by simp) (rs := [.tmp 4]) rfl ?_
  refine EWn.to ?_
  refine EWn.of_c Tok mixed (own := false) keep48 tab48 (by kernel_rfl) ?_
  (repeat simp -dsimp only [zrShot11, xnils, xnilm, xrange, xmakeMap, xslice3, RB, TB, keep48, tab48, xindexAddr, xindex, xslice, xconvert, xlen, ewOp, FreeW, StabW, SameW, ChangeW, AddW, BaseW, limBytes, simprocAttr, ne_eq])
  (refine SCall.then (sIds A m a hok k 0 _ (arena_app h _) hd hsz) ?_)
  (repeat simp -dsimp only [zrShot11, xnils, xnilm, xrange, xmakeMap, xslice3, RB, TB, keep48, tab48, xindexAddr, xindex, xslice, xconvert, xlen, ewOp, FreeW, StabW, SameW, ChangeW, AddW, BaseW, limBytes, simprocAttr, ne_eq])
  (refine SCall.then (indexFunc_int _ (idsG a k 0) _ [] [.ref H.length 0, .ref (H.length + 1) 0] _ (fun x _ => sMountF _ A m a hok (arena_app h _) x slot H.length (H.length + 1) (by rw [hget0]; rfl) (by rw [hget]; rfl)) (by simp [ltL, V.lt])) ?_)
  (repeat simp -dsimp only [zrShot11, xnils, xnilm, xrange, xmakeMap, xslice3, RB, TB, keep48, tab48, xindexAddr, xindex, xslice, xconvert, xlen, ewOp, FreeW, StabW, SameW, ChangeW, AddW, BaseW, limBytes, simprocAttr, ne_eq])
  rcases find_ix (fun id => (nodeAt a id).kind == 3 && (nodeAt a id).slot == slot) (idsG a k 0) with ⟨h1, h2⟩ | ⟨i, hi, h1, h2⟩
  · rw [h2]
    (repeat simp -dsimp only [zrShot11, xnils, xnilm, xrange, xmakeMap, xslice3, RB, TB, keep48, tab48, xindexAddr, xindex, xslice, xconvert, xlen, ewOp, FreeW, StabW, SameW, ChangeW, AddW, BaseW, limBytes, simprocAttr, ne_eq])
    refine RetW.auto0 false _ (by first | rfl | exact (List.append_nil _).symm) ?_ ?_
    · (simp (maxDischargeDepth := 6) [LTB, HLt_set, ltL_take, ltL_drop, ltL_rep, ltL_set, upd, eset, hH, hHk, zlShot11] <;> omega)
    (try simp only [wk, wk1, wk0, RB, limBytes, simprocAttr, ne_eq])
    skip
    simp [mountG, h1]
  · rw [h1]
    have hneg : decide ((i : Int) < 0) = false := decide_eq_false (by omega)
    have hmi := at_map vi (idsG a k 0) i hi
    simp only [vi] at hmi
    (repeat (first | simp -dsimp only [zrShot11, xnils, xnilm, xrange, xmakeMap, xslice3, hneg, hmi, RB, TB, keep48, tab48, xindexAddr, xindex, xslice, xconvert, xlen, ewOp, FreeW, StabW, SameW, ChangeW, AddW, BaseW, limBytes, simprocAttr, ne_eq] | ((with_reducible refine Need.intro ?_ ?_); (omega))))
    refine RetW.auto0 false _ (by first | rfl | exact (List.append_nil _).symm) ?_ ?_
    · (simp (maxDischargeDepth := 6) [LTB, HLt_set, ltL_take, ltL_drop, ltL_rep, ltL_set, upd, eset, hH, hHk, zlShot11] <;> omega)
    (try simp only [wk, wk1, wk0, RB, limBytes, simprocAttr, ne_eq])
    skip
    simp [mountG, h2]
end Go.Proofs.Ytjplgbalpnlanaa

/- slices.Backward of ints; a range over it. -/
set_option maxHeartbeats 600000
set_option linter.unusedSimpArgs false
set_option linter.unusedVariables false
set_option maxRecDepth 100000
namespace Go.Proofs.Ytjplgbalpnlanaa
open Go Go.EL
theorem zrRoute21 : type_of% (And.intro (And.intro (And.intro (And.intro (@st_run) (And.intro (@sz_run) (@st1_run))) (And.intro (@cl_run) (And.intro (@st_Str) (@sz_Str)))) (And.intro (And.intro (@st1_Str) (And.intro (@cl_Str) (@st_c))) (And.intro (@sz_c) (And.intro (@st1_c) (@cl_c))))) (And.intro (And.intro (And.intro (@st_attr) (And.intro (@sz_attr) (@st1_attr))) (And.intro (@cl_attr) (And.intro (@st_hook) (@sz_hook)))) (And.intro (And.intro (@st1_hook) (And.intro (@cl_hook) (@st_node))) (And.intro (@sz_node) (And.intro (@st1_node) (@cl_node)))))) := And.intro (And.intro (And.intro (And.intro (@st_run) (And.intro (@sz_run) (@st1_run))) (And.intro (@cl_run) (And.intro (@st_Str) (@sz_Str)))) (And.intro (And.intro (@st1_Str) (And.intro (@cl_Str) (@st_c))) (And.intro (@sz_c) (And.intro (@st1_c) (@cl_c))))) (And.intro (And.intro (And.intro (@st_attr) (And.intro (@sz_attr) (@st1_attr))) (And.intro (@cl_attr) (And.intro (@st_hook) (@sz_hook)))) (And.intro (And.intro (@st1_hook) (And.intro (@cl_hook) (@st_node))) (And.intro (@sz_node) (And.intro (@st1_node) (@cl_node)))))
theorem zlRoute21 : type_of% (And.intro (And.intro (And.intro (And.intro (@lt_vi) (@lt_str)) (And.intro (@lt_vb) (And.intro (@ltc_str) (@ltc_vi)))) (And.intro (And.intro (@lt_run) (And.intro (@lt1_run) (@ltc_run))) (And.intro (@lt_Str) (And.intro (@lt1_Str) (@ltc_Str))))) (And.intro (And.intro (And.intro (@lt_c) (And.intro (@lt1_c) (@ltc_c))) (And.intro (@lt_attr) (And.intro (@lt1_attr) (@ltc_attr)))) (And.intro (And.intro (@lt_hook) (And.intro (@lt1_hook) (@ltc_hook))) (And.intro (@lt_node) (And.intro (@lt1_node) (@ltc_node)))))) := And.intro (And.intro (And.intro (And.intro (@lt_vi) (@lt_str)) (And.intro (@lt_vb) (And.intro (@ltc_str) (@ltc_vi)))) (And.intro (And.intro (@lt_run) (And.intro (@lt1_run) (@ltc_run))) (And.intro (@lt_Str) (And.intro (@lt1_Str) (@ltc_Str))))) (And.intro (And.intro (And.intro (@lt_c) (And.intro (@lt1_c) (@ltc_c))) (And.intro (@lt_attr) (And.intro (@lt1_attr) (@ltc_attr)))) (And.intro (And.intro (@lt_hook) (And.intro (@lt1_hook) (@ltc_hook))) (And.intro (@lt_node) (And.intro (@lt1_node) (@ltc_node)))))
theorem ysMonoB {P : Program} {l : Nat} {args : List V} {H : List Ob} {R R' : V → List Ob → Prop} (h : YSCall P l args H R) (hr : ∀ r H', R r H' → R' r H') : YSCall P l args H R' := by
  intro g w cargs hG ha
  obtain ⟨l', fn, tmps, body, h1, h2⟩ := h g w cargs hG ha
  exact ⟨l', fn, tmps, body, h1, h2.mono fun e w' ⟨v, he, r, H', g', k1, k2, k3, k4⟩ => ⟨v, he, r, H', g', k1, k2, k3, hr _ _ k4⟩⟩
theorem back (H : List Ob) (l : List Int) : SCall Try.prog 126 [.slice (l.map vi)] H (fun r H' => r = .fn (.func 164) [] [.ref H.length 0] ∧ H' = H ++ [.var [.slice (l.map vi)]]) := by
  refine SCall.of_good fun hH => ?_
  have hHk := HLt.add hH
  refine SCall.of_code Tok Try.func126 rfl Try.call126 (n := 4) rfl (by simp) (rs := [.tmp 2]) rfl ?_
  refine EWn.to ?_
  refine EWn.of_c Tok mixed (own := false) keep126 tab126 (by kernel_rfl) ?_
  (repeat simp -dsimp only [zrRoute21, xnils, xnilm, xrange, xmakeMap, xslice3, RB, TB, keep126, tab126, xindexAddr, xindex, xslice, xconvert, xlen, ewOp, FreeW, StabW, SameW, ChangeW, AddW, BaseW, limBytes, simprocAttr, ne_eq])
  refine RetW.auto false [.var [.slice (l.map vi)]] _ (by first | rfl | simp) ?_ ?_ ?_
  · (simp (maxDischargeDepth := 6) [LTB, HLt_set, ltL_take, ltL_drop, ltL_rep, ltL_set, upd, eset, hH, hHk, zlRoute21] <;> omega)
  · (simp (maxDischargeDepth := 6) [LTB, HLt_set, ltL_take, ltL_drop, ltL_rep, ltL_set, upd, eset, hH, hHk, zlRoute21] <;> omega)
  (try simp only [wk, wk1, wk0, RB, limBytes, simprocAttr, ne_eq])
  skip
/-- a place and what stands there, from the end -/
def visB (l : List Int) : List (Nat × Int) := l.zipIdx.reverse.map fun p => (p.2, p.1)
def encB (a : Nat × Int) : List V := [.int .i64 a.1, .int .i64 a.2]
theorem visB_len (l : List Int) : (visB l).length = l.length := by simp [visB]
theorem visB_get (l : List Int) (k : Nat) (hk : k < l.length) : (visB l)[k]? = some (l.length - 1 - k, l[l.length - 1 - k]'(by omega)) := by
  unfold visB
  rw [List.getElem?_map, List.getElem?_reverse (by simpa using hk)]
  simp only [List.length_zipIdx]
  rw [List.getElem?_eq_getElem (by simp; omega)]
  simp
theorem back1 {ι : Type} (hs : ι → List Ob) (ok : List (Nat × Int) → ι → Prop) (k0 : Nat) (hl : ∀ pre x, ok pre x → (hs x).length = k0 ∧ HLt k0 (hs x)) (lo : Nat) (l : List Int) (c : Nat) (x : ι) (R : List Ob) (hsz : l.length ≤ 1000000) (h0 : ok [] x) (hc : ∀ pre y, ok pre y → (hs y)[c]? = some (.var [.slice (l.map vi)]))
    (hY : ∀ pre a post x L, visB l = pre ++ a :: post → ok pre x → YSCall Try.prog lo (encB a) (hs x ++ (R ++ L)) (fun r H' => r = .bool true ∧ ∃ x', ok (pre ++ [a]) x' ∧ H' = hs x' ++ (R ++ L))) :
    SCall Try.prog 164 [.fn (.yield lo) [] [], .ref c 0] (hs x ++ R) (fun r H' => ∃ x', ok (visB l) x' ∧ H' = hs x' ++ R) := by
  refine SCall.of_good fun hH0 => ?_
  obtain ⟨hh, hhe⟩ : ∃ hh : ι → List Ob, ∀ y, hh y = hs y ++ R := ⟨_, fun _ => rfl⟩
  have hcc : ∀ pre y, ok pre y → ∀ K, (hh y ++ K)[c]? = some (.var [.slice (l.map vi)]) := fun pre y h K => by rw [hhe]; exact get_appD (get_appD (hc pre y h))
  have hcc0 : ∀ pre y, ok pre y → (hh y)[c]? = some (.var [.slice (l.map vi)]) := fun pre y h => by rw [hhe]; exact get_appD (hc pre y h)
  have hln : ∀ pre x', ok pre x' → (hh x').length = (hh x).length := fun pre x' h => by rw [hhe, hhe, List.length_append, List.length_append, (hl _ _ h).1, (hl _ _ h0).1]
  have hHx : ∀ pre x', ok pre x' → HLt (hh x).length (hh x') := fun pre x' h => by
    rw [hhe, hhe]
    rw [HLt_append] at hH0 ⊢
    exact ⟨(hl _ _ h).2.le (by rw [List.length_append, (hl _ _ h0).1]; omega), hH0.2⟩
  have hYh : ∀ pre a post x M, visB l = pre ++ a :: post → ok pre x → YSCall Try.prog lo (encB a) (hh x ++ M) (fun r H' => r = .bool true ∧ ∃ x', ok (pre ++ [a]) x' ∧ H' = hh x' ++ M) := fun pre a post x M h1 h2 => by
    rw [hhe, List.append_assoc]
    exact ysMonoB (hY pre a post x M h1 h2) fun r H' ⟨k1, x', k2, k3⟩ => ⟨k1, x', k2, by rw [k3, hhe, List.append_assoc]⟩
  have hfin : SCall Try.prog 164 [.fn (.yield lo) [] [], .ref c 0] (hh x) (fun r H' => ∃ x', ok (visB l) x' ∧ H' = hh x') → SCall Try.prog 164 [.fn (.yield lo) [] [], .ref c 0] (hs x ++ R) (fun r H' => ∃ x', ok (visB l) x' ∧ H' = hs x' ++ R) := fun h => by
    rw [← hhe]
    exact h.mono fun r H' ⟨x', k2, k3⟩ => ⟨x', k2, by rw [k3, hhe]⟩
  refine hfin ?_
  clear hfin
  have hclt := lt_of_get (hcc0 _ _ h0)
  have w0 : IntKind.i64.wrap ((l.length : Int) - 1) = (l.length : Int) - 1 := wrapI (by omega)
  have hx0 := hcc0 _ _ h0
  have hvl := visB_len l
  refine SCall.of_good fun hH => ?_
  have hHk := HLt.add hH
  refine SCall.of_code Tok Try.func164 rfl Try.call164 (n := 19) rfl (by simp) (rs := []) rfl ?_
  refine EWn.to ?_
  refine EWn.of_c Tok mixed (own := false) keep164 tab164 (by kernel_rfl) ?_
  (repeat simp -dsimp only [zrRoute21, xnils, xnilm, xrange, xmakeMap, xslice3, hx0, w0, RB, TB, keep164, tab164, xindexAddr, xindex, xslice, xconvert, xlen, ewOp, FreeW, StabW, SameW, ChangeW, AddW, BaseW, limBytes, simprocAttr, ne_eq])
  refine EWn.loopE (ι := (Nat) × (ι)) (fun (x_ : (Nat) × (ι)) => match x_ with | (i, y) => i ≤ l.length ∧ ok ((visB l).take i) y) (fun (x_ : (Nat) × (ι)) => match x_ with | (i, y) => l.length - i) (fun (x_ : (Nat) × (ι)) => match x_ with | (i, y) => [(3, .int .i64 ((l.length : Int) - 1 - i))]) (fun (x_ : (Nat) × (ι)) => match x_ with | (i, y) => hh y) (0, x) ?_ ?_ ?_ ?_ ?_
  · first | rfl | simp [upd, eset]
  · first | rfl | (simp; done) | exact (set_same (by assumption)).symm
  · rintro ⟨i, y⟩ ⟨h1, h2⟩
    have e1 := hln _ _ h2
    have hH1 := hHx _ _ h2
    simp only
    rw [e1]
    refine ⟨Nat.le_refl _, hH1, ?_⟩
    (simp (maxDischargeDepth := 6) [LTB, HLt_set, ltL_take, ltL_drop, ltL_rep, ltL_set, upd, eset, hH, hHk, hclt, zlRoute21] <;> omega)
  · exact ⟨Nat.zero_le _, by simpa using h0⟩
  rintro ⟨i, y⟩ ⟨hi, hy⟩
  (try simp only at hi hy)
  have e1 := hln _ _ hy
  have hH1 := hHx _ _ hy
  rw [← e1] at hH1
  have hgy := hcc0 _ _ hy
  refine EWn.of_c Tok mixed (own := false) keep164 tab164 (by kernel_rfl) ?_
  (repeat simp -dsimp only [zrRoute21, xnils, xnilm, xrange, xmakeMap, xslice3, hgy, RB, TB, keep164, tab164, xindexAddr, xindex, xslice, xconvert, xlen, ewOp, FreeW, StabW, SameW, ChangeW, AddW, BaseW, limBytes, simprocAttr, ne_eq])
  refine IfW.intro (fun h => ?_) (fun h => ?_)
  · have hlt : i < l.length := by
      have : (0 : Int) ≤ (l.length : Int) - 1 - i := by simpa using h
      omega
    have hg := visB_get l i hlt
    have hvi : i < (visB l).length := by omega
    have hge : (visB l)[i] = (l.length - 1 - i, l[l.length - 1 - i]'(by omega)) := by
      rw [List.getElem?_eq_getElem hvi] at hg; exact Option.some.inj hg
    have hsp : visB l = (visB l).take i ++ (l.length - 1 - i, l[l.length - 1 - i]'(by omega)) :: (visB l).drop (i + 1) := by
      rw [← hge]; simp
    have hmi := at_map vi l (l.length - 1 - i) (by omega)
    simp only [vi] at hmi
    have hj : ((l.length : Int) - 1 - i).toNat = l.length - 1 - i := by omega
    have hj2 : ((l.length : Int) - 1 - i) = ((l.length - 1 - i : Nat) : Int) := by omega
    have hyk := hYh _ _ _ y [] hsp hy
    simp only [encB, List.append_nil] at hyk
    (repeat (first | simp -dsimp only [zrRoute21, xnils, xnilm, xrange, xmakeMap, xslice3, h, hgy, hmi, hj, RB, TB, keep164, tab164, xindexAddr, xindex, xslice, xconvert, xlen, ewOp, FreeW, StabW, SameW, ChangeW, AddW, BaseW, limBytes, simprocAttr, ne_eq] | ((with_reducible refine Need.intro ?_ ?_); (omega))))
    rw [hj2]
    refine ysMonoB hyk ?_
    rintro _ _ ⟨rfl, y2, hy2, rfl⟩
    have w1 : IntKind.i64.wrap (((l.length - 1 - i : Nat) : Int) - 1) = (l.length : Int) - 1 - ((i + 1 : Nat) : Int) := by rw [wrapI (by omega)]; omega
    (repeat simp -dsimp only [zrRoute21, xnils, xnilm, xrange, xmakeMap, xslice3, h, w1, RB, TB, keep164, tab164, xindexAddr, xindex, xslice, xconvert, xlen, ewOp, FreeW, StabW, SameW, ChangeW, AddW, BaseW, limBytes, simprocAttr, ne_eq])
    refine UpTo.here ⟨(i + 1, y2), ⟨hlt, ?_⟩, by simp only; omega, by simp [upd, eset], ⟨[], by simp⟩⟩
    rw [List.take_succ_eq_append_getElem hvi, hge]
    exact hy2
  · have hie : i = l.length := by
      have : ¬ (0 : Int) ≤ (l.length : Int) - 1 - i := by simpa using h
      omega
    rw [show l.length = (visB l).length from hvl.symm] at hie
    subst hie
    rw [List.take_length] at hy
    (repeat simp -dsimp only [zrRoute21, xnils, xnilm, xrange, xmakeMap, xslice3, h, RB, TB, keep164, tab164, xindexAddr, xindex, xslice, xconvert, xlen, ewOp, FreeW, StabW, SameW, ChangeW, AddW, BaseW, limBytes, simprocAttr, ne_eq])
    refine RetW.keep false ?_ ?_ ?_ ?_
    · rw [e1]; exact Nat.le_refl _
    · exact hH1
    · intro x hx; cases hx
    exact ⟨y, hy, rfl⟩
/-- A CALL OF A FUNCTION THAT RANGES OVER A LIST FROM ITS END. -/
theorem ofBack {f : FuncId} {fn : Func} {c : Code} {args : List V} {H : List Ob} {R : V → List Ob → Prop} (hf : Try.prog.funcs[f]? = some fn) (hb : fn.body = some c) (hcall : ∀ args w, (callFunc f args).run Try.prog w = .ok (.enter f args) w)
    {n : Nat} (hn : fn.ntmps = n) (hargs : args.length ≤ n) {rs : List ResultVar} (hrs : fn.results = rs.toArray)
    (k : List Unit) {c1 ch post assign body : Code} {bid : Nat} {tg : Operand} {ps : Array Tmp} (hh : headC k c = c1) (ht : tailC k c = .seq (.seq ch (.block bid (.rangeFunc tg ps assign body))) post) (hl : longC k c = true)
    (keep : Nat → List Nat) (tab : Nat → List Nat × List Nat) (hok : okC n tab c1 = true) (hok2 : okC n tab ch = true)
    {env : Env} {cc : Nat} (l : List Int) (hsz : l.length ≤ 1000000) {ι : Type} (hs : ι → List Ob) (ok : List (Nat × Int) → ι → Prop) (x0 : ι) (eM : Nat × Int → Nat → Env) (M : Nat × Int → Nat → List Ob)
    (hhead : ewC Try.prog T false H.length n keep tab c1 (thenE (ewC Try.prog T false H.length n keep tab ch (thenE (UpTo H.length fun e h => e = env ∧ h = hs x0) (fun _ _ _ => False))) (fun _ _ _ => False)) (argEnv 0 args) H)
    (hg : evl env tg = .fn (.func 164) [] [.ref cc 0]) (hc : ∀ x, (hs x)[cc]? = some (.var [.slice (l.map vi)]))
    (h0 : ok [] x0) (hlen : ∀ x, (hs x).length = (hs x0).length) (hlt : ∀ pre x, ok pre x → HLt (hs x0).length (hs x)) (hp2 : ps.size = 2) (hps : ∀ t ∈ ps.toList, t < n) (hkn : ∀ p ∈ env, p.1 < n)
    (hassign : ∀ pre a post x R, visB l = pre ++ a :: post → ok pre x → EWn Try.prog (hs x ++ R).length n assign (thenE (fun e h => e = eM a (hs x ++ R).length ∧ h = hs x ++ R ++ M a (hs x ++ R).length) (fun _ _ _ => False)) (updP env (ps.toList.zip (encB a))) (hs x ++ R))
    (hbody : ∀ pre a post x R, visB l = pre ++ a :: post → ok pre x → HLt (hs x ++ R).length (hs x ++ R) → EWn Try.prog (hs x ++ R).length n body (fun e => UpTo (hs x ++ R).length (fun _ h => e = .normal ∧ ∃ x', ok (pre ++ [a]) x' ∧ h = hs x' ++ R)) (eM a (hs x ++ R).length) (hs x ++ R ++ M a (hs x ++ R).length))
    (hpost : ∀ D l' y vs cs x', ok (visB l) x' → EWn Try.prog H.length n post (RetD T rs H (hs x0).length D R) env (hs x' ++ [.raw D dfr [] [], .raw l' y vs cs])) : SCall Try.prog f args H R :=
  SCall.of_range Tok mixed hf hb hcall hn hargs hrs k hh ht hl keep tab hok hok2 (visB l) encB hs ok x0 eM M hhead Try.call164 hg h0 hlen (fun a => by simp [encB, hp2]) hps hkn
    (fun lo R hY => (back1 hs ok (hs x0).length (fun pre x h => ⟨hlen x, hlt pre x h⟩) lo l cc x0 R hsz h0 (fun pre y _ => hc y) (fun pre a post x L h1 h2 => hY pre a post x L h1 h2)))
    hassign hbody hpost
theorem updP_twoB (env : Env) (p q : Nat) (a : Nat × Int) : updP env (#[p, q].toList.zip (encB a)) = eset (eset env p (.int .i64 a.1)) q (.int .i64 a.2) := rfl
section
variable {H R M : List Ob}
theorem dropRB {n0 : Nat} {Q : Env → List Ob → Prop} {env : Env} (Hx : List Ob) {H L : List Ob} (he : H = Hx ++ L) (h0 : n0 ≤ Hx.length) (hH : HLt Hx.length Hx) (k : UpTo n0 Q [] Hx) : UpTo n0 Q env H := by
  subst he
  exact UpTo.step (Gho.restr []) (UpTo.step (drop_rest h0 hH (by simp [restr])) k)
end
theorem hltRB {H R A : List Ob} (A' : List Ob) (h : HLt (H ++ A ++ R).length (H ++ A ++ R)) (hl : A'.length = A.length) (hA : HLt (H.length + A.length + R.length) A') : HLt (H ++ (A' ++ R)).length (H ++ (A' ++ R)) := by
  have e : (H ++ (A' ++ R)).length = (H ++ A ++ R).length := by simp [hl]
  rw [e]
  rw [HLt_append] at h
  rw [HLt_append] at h
  rw [HLt_append, HLt_append]
  refine ⟨h.1.1, ?_, h.2⟩
  refine hA.le ?_
  simp
  try omega
end Go.Proofs.Ytjplgbalpnlanaa

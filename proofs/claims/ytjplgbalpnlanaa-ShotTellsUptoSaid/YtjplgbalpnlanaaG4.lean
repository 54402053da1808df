import Derived.Test.YtjplgbalpnlanaaG3
import Derived.Laws.Externs
/- The walks of package mark, and of the reference's texts: near, put, Of, Fix, Same; Of, Same. -/
set_option maxHeartbeats 600000
set_option linter.unusedSimpArgs false
set_option linter.unusedVariables false
set_option maxRecDepth 100000
namespace Go.Proofs.Ytjplgbalpnlanaa
open Go Go.EL
theorem zrMark11 : type_of% (And.intro (And.intro (And.intro (@st_run) (And.intro (@sz_run) (@st1_run))) (And.intro (@cl_run) (And.intro (@st_Str) (@sz_Str)))) (And.intro (And.intro (@st1_Str) (And.intro (@cl_Str) (@st_c))) (And.intro (@sz_c) (And.intro (@st1_c) (@cl_c))))) := And.intro (And.intro (And.intro (@st_run) (And.intro (@sz_run) (@st1_run))) (And.intro (@cl_run) (And.intro (@st_Str) (@sz_Str)))) (And.intro (And.intro (@st1_Str) (And.intro (@cl_Str) (@st_c))) (And.intro (@sz_c) (And.intro (@st1_c) (@cl_c))))
theorem zlMark11 : type_of% (And.intro (And.intro (And.intro (@lt_vi) (And.intro (@lt_str) (@lt_vb))) (And.intro (And.intro (@ltc_str) (@ltc_vi)) (And.intro (@lt_run) (@lt1_run)))) (And.intro (And.intro (@ltc_run) (And.intro (@lt_Str) (@lt1_Str))) (And.intro (And.intro (@ltc_Str) (@lt_c)) (And.intro (@lt1_c) (@ltc_c))))) := And.intro (And.intro (And.intro (@lt_vi) (And.intro (@lt_str) (@lt_vb))) (And.intro (And.intro (@ltc_str) (@ltc_vi)) (And.intro (@lt_run) (@lt1_run)))) (And.intro (And.intro (@ltc_run) (And.intro (@lt_Str) (@lt1_Str))) (And.intro (And.intro (@ltc_Str) (@lt_c)) (And.intro (@lt1_c) (@ltc_c))))
theorem mnear (H : List Ob) (o : Int) : SCall Try.prog 110 [.int .i64 o] H (fun r H' => r = .int .i64 (near o) ∧ H' = H) := by
  refine SCall.of_good fun hH => ?_
  have hHk := HLt.add hH
  refine SCall.of_code Tok Try.func110 rfl Try.call110 (n := 6) rfl (by simp) (rs := [.tmp 2]) rfl ?_
  refine EWn.to ?_
  refine EWn.of_c Tok mixed (own := false) keep110 tab110 (by kernel_rfl) ?_
  (repeat simp -dsimp only [zrMark11, RB, TB, keep110, tab110, xindexAddr, xindex, xslice, xconvert, xlen, ewOp, FreeW, StabW, SameW, ChangeW, AddW, BaseW, limBytes, simprocAttr, ne_eq])
  refine RetW.auto0 false _ (by first | rfl | exact (List.append_nil _).symm) ?_ ?_
  · (simp (maxDischargeDepth := 6) [LTB, HLt_set, ltL_take, ltL_drop, ltL_rep, ltL_set, upd, eset, hH, hHk, zlMark11] <;> omega)
  (try simp only [wk, wk1, wk0, RB, limBytes, simprocAttr, ne_eq])
  skip
  simp [near]
/-- does the row grow? -/
def grewR (l : List (Int × Int)) (n o : Int) : Nat := if n < 1 then 0 else match l.getLast? with
  | none => 1
  | some (_, o') => if o' = o then 0 else 1
theorem mput (H : List Ob) (l : List (Int × Int)) (n og : Int) (o ver : Nat) (ho : H[o]? = some (.vec ver 2 (l.map runV))) (hl : l.length ≤ 1000000000000) (hb : ∀ p ∈ l, 0 ≤ p.1 ∧ p.1 ≤ 1000000000000) (hn : n ≤ 1000000000000) :
    SCall Try.prog 109 [.vec o ver 0 l.length, .int .i64 n, .int .i64 og] H (fun r H' => r = .vec o (ver + grewR l n og) 0 (putR l n og).length ∧ H' = H.set o (.vec (ver + grewR l n og) 2 ((putR l n og).map runV))) := by
  have holt := lt_of_get ho
  have hll := lt_run H.length l
  refine SCall.of_good fun hH => ?_
  have hHk := HLt.add hH
  refine SCall.of_code Tok Try.func109 rfl Try.call109 (n := 42) rfl (by simp) (rs := [.tmp 6]) rfl ?_
  refine EWn.to ?_
  refine EWn.of_c Tok mixed (own := false) keep109 tab109 (by kernel_rfl) ?_
  (repeat simp -dsimp only [zrMark11, ho, RB, TB, keep109, tab109, xindexAddr, xindex, xslice, xconvert, xlen, ewOp, FreeW, StabW, SameW, ChangeW, AddW, BaseW, limBytes, simprocAttr, ne_eq])
  rw [wrapI (by omega)]
  refine IfW.intro (fun h => ?_) (fun h => ?_)
  · have h1 : n < 1 := of_decide_eq_true h
    (repeat simp -dsimp only [zrMark11, h, RB, TB, keep109, tab109, xindexAddr, xindex, xslice, xconvert, xlen, ewOp, FreeW, StabW, SameW, ChangeW, AddW, BaseW, limBytes, simprocAttr, ne_eq])
    refine RetW.keep false (by first | exact Nat.le_refl _ | simp) ?_ ?_ ?_
    · (simp (maxDischargeDepth := 6) [LTB, HLt_set, ltL_take, ltL_drop, ltL_rep, ltL_set, upd, eset, hH, hHk, zlMark11] <;> omega)
    · (simp (maxDischargeDepth := 6) [LTB, HLt_set, ltL_take, ltL_drop, ltL_rep, ltL_set, upd, eset, hH, hHk, zlMark11] <;> omega)
    (try simp only [wk, wk1, wk0, RB, limBytes, simprocAttr, ne_eq])
    have : ¬ H.length ≤ o := by omega
    simp [grewR, putR, h1, this, set_same ho]
  have h1 : ¬ n < 1 := of_decide_eq_false h
  (repeat simp -dsimp only [zrMark11, h, RB, TB, keep109, tab109, xindexAddr, xindex, xslice, xconvert, xlen, ewOp, FreeW, StabW, SameW, ChangeW, AddW, BaseW, limBytes, simprocAttr, ne_eq])
  have hnl : ¬ H.length ≤ o := by omega
  rcases List.eq_nil_or_concat l with hl0 | ⟨ys, ⟨k, o'⟩, hl0⟩
  · subst hl0
    (repeat (first | simp -dsimp only [zrMark11, ho, show (decide (((0 : Nat) : Int) - 1 ≥ 0)) = false from by decide, RB, TB, keep109, tab109, xindexAddr, xindex, xslice, xconvert, xlen, ewOp, FreeW, StabW, SameW, ChangeW, AddW, BaseW, limBytes, simprocAttr, ne_eq] | ((with_reducible refine Need.intro ?_ ?_); (trivial))))
    refine RetW.keep false (by first | exact Nat.le_refl _ | simp) ?_ ?_ ?_
    · (simp (maxDischargeDepth := 6) [LTB, HLt_set, ltL_take, ltL_drop, ltL_rep, ltL_set, upd, eset, hH, hHk, zlMark11] <;> omega)
    · (simp (maxDischargeDepth := 6) [LTB, HLt_set, ltL_take, ltL_drop, ltL_rep, ltL_set, upd, eset, hH, hHk, zlMark11] <;> omega)
    (try simp only [wk, wk1, wk0, RB, limBytes, simprocAttr, ne_eq])
    simp [grewR, putR, h1, hnl, runV]
  · rw [List.concat_eq_append] at hl0
    subst hl0
    have hlast : (ys ++ [(k, o')]).length = ys.length + 1 := by simp
    have hk := hb (k, o') (by simp)
    simp only at hk
    have hidx : ys.length < (ys ++ [(k, o')]).length := by simp
    have e0 : ((ys ++ [(k, o')]).length : Int) - 1 = (ys.length : Int) := by simp
    have hat := at_map runV (ys ++ [(k, o')]) ys.length hidx
    have hel : (ys ++ [(k, o')])[ys.length] = (k, o') := by simp
    rw [e0]
    generalize hL : ys ++ [(k, o')] = L at *
    (repeat (first | simp -dsimp only [zrMark11, ho, show (decide ((ys.length : Int) ≥ 0)) = true from by simp, hat, hel, runV, RB, TB, keep109, tab109, xindexAddr, xindex, xslice, xconvert, xlen, ewOp, FreeW, StabW, SameW, ChangeW, AddW, BaseW, limBytes, simprocAttr, ne_eq] | ((with_reducible refine Need.intro ?_ ?_); (first | trivial | omega))))
    refine IfW.intro (fun h2 => ?_) (fun h2 => ?_)
    · have h2' : o' = og := by simpa using h2
      (repeat (first | simp -dsimp only [zrMark11, h2, ho, hat, hel, runV, RB, TB, keep109, tab109, xindexAddr, xindex, xslice, xconvert, xlen, ewOp, FreeW, StabW, SameW, ChangeW, AddW, BaseW, limBytes, simprocAttr, ne_eq] | ((with_reducible refine Need.intro ?_ ?_); (first | trivial | omega))))
      have hgl : L.getLast? = some (k, o') := by rw [← hL]; simp
      have hp : putR L n og = ys ++ [(k + n, og)] := by unfold putR; rw [if_neg h1, hgl, ← hL]; simp [h2']
      have hg : grewR L n og = 0 := by unfold grewR; rw [if_neg h1, hgl]; simp [h2']
      rw [wrapI (by omega), hp, hg]
      refine RetW.keep false (by simp) ?_ ?_ ?_
      · rw [List.length_set]; exact HLt_set hH (by simp only [Ob.lt, ltL_iff]; intro x hx; rcases List.mem_or_eq_of_mem_set hx with hx | rfl; exact ltL_iff.1 hll x hx; simp [V.lt, ltL])
      · intro h; exact absurd (by simpa using h) hnl
      · have hlen : L.length = (ys ++ [(k + n, og)]).length := by rw [← hL]; simp
        have hset : (L.map runV).set ys.length (V.agg [V.int .i64 (k + n), V.int .i64 o']) = (ys ++ [(k + n, og)]).map runV := by
          rw [← hL, List.map_append, List.set_append_right _ _ (by simp)]
          simp [runV, h2']
        rw [hset]
        simp [wk, wk1, wk0, hnl, hlen]
    · have h2' : ¬ o' = og := by simpa using h2
      (repeat (first | simp -dsimp only [zrMark11, h2, ho, hat, hel, runV, RB, TB, keep109, tab109, xindexAddr, xindex, xslice, xconvert, xlen, ewOp, FreeW, StabW, SameW, ChangeW, AddW, BaseW, limBytes, simprocAttr, ne_eq] | ((with_reducible refine Need.intro ?_ ?_); (first | trivial | omega))))
      have hgl : L.getLast? = some (k, o') := by rw [← hL]; simp
      have hp : putR L n og = L ++ [(n, og)] := by unfold putR; rw [if_neg h1, hgl]; simp [h2']
      have hg : grewR L n og = 1 := by unfold grewR; rw [if_neg h1, hgl]; simp [h2']
      rw [hp, hg]
      refine RetW.keep false (by simp) ?_ ?_ ?_
      · rw [List.length_set]; exact HLt_set hH (by simp [Ob.lt, ltL_append, hll, ltL, V.lt])
      · intro h; exact absurd (by simpa using h) hnl
      · simp [wk, wk1, wk0, hnl, runV]
/-- put upon nothing -/
theorem mput_nil (H : List Ob) (n : Nat) (og : Int) : SCall Try.prog 109 [.fslice [], .int .i64 n, .int .i64 og] H (fun r H' => r = .slice ((rle (List.replicate n og)).map runV) ∧ H' = H) := by
  refine SCall.of_good fun hH => ?_
  have hHk := HLt.add hH
  refine SCall.of_code Tok Try.func109 rfl Try.call109 (n := 42) rfl (by simp) (rs := [.tmp 6]) rfl ?_
  refine EWn.to ?_
  refine EWn.of_c Tok mixed (own := false) keep109 tab109 (by kernel_rfl) ?_
  (repeat simp -dsimp only [zrMark11, RB, TB, keep109, tab109, xindexAddr, xindex, xslice, xconvert, xlen, ewOp, FreeW, StabW, SameW, ChangeW, AddW, BaseW, limBytes, simprocAttr, ne_eq])
  refine IfW.intro (fun h => ?_) (fun h => ?_)
  · have h1 : n = 0 := by have := of_decide_eq_true h; omega
    subst h1
    (repeat simp -dsimp only [zrMark11, h, RB, TB, keep109, tab109, xindexAddr, xindex, xslice, xconvert, xlen, ewOp, FreeW, StabW, SameW, ChangeW, AddW, BaseW, limBytes, simprocAttr, ne_eq])
    refine RetW.auto0 false _ (by first | rfl | exact (List.append_nil _).symm) ?_ ?_
    · (simp (maxDischargeDepth := 6) [LTB, HLt_set, ltL_take, ltL_drop, ltL_rep, ltL_set, upd, eset, hH, hHk, zlMark11] <;> omega)
    (try simp only [wk, wk1, wk0, RB, limBytes, simprocAttr, ne_eq])
    skip
    simp [rle]
  · have h1 : n ≠ 0 := by have := of_decide_eq_false h; omega
    (repeat (first | simp -dsimp only [zrMark11, h, RB, TB, keep109, tab109, xindexAddr, xindex, xslice, xconvert, xlen, ewOp, FreeW, StabW, SameW, ChangeW, AddW, BaseW, limBytes, simprocAttr, ne_eq] | ((with_reducible refine Need.intro ?_ ?_); (trivial))))
    refine RetW.auto0 false _ (by first | rfl | exact (List.append_nil _).symm) ?_ ?_
    · (simp (maxDischargeDepth := 6) [LTB, HLt_set, ltL_take, ltL_drop, ltL_rep, ltL_set, upd, eset, hH, hHk, zlMark11] <;> omega)
    (try simp only [wk, wk1, wk0, RB, limBytes, simprocAttr, ne_eq])
    skip
    simp [rle_rep, h1, runV]
theorem mOf (H : List Ob) (t : List UInt8) (o : Int) : SCall Try.prog 38 [.str t, .int .i64 o] H (fun r H' => r = strV ⟨t, rle (List.replicate t.length (near o))⟩ ∧ H' = H) := by
  refine SCall.of_good fun hH => ?_
  have hHk := HLt.add hH
  refine SCall.of_code Tok Try.func38 rfl Try.call38 (n := 12) rfl (by simp) (rs := [.cell 4 30]) rfl ?_
  refine EWn.to ?_
  refine EWn.of_c Tok mixed (own := false) keep38 tab38 (by kernel_rfl) ?_
  (repeat simp -dsimp only [zrMark11, RB, TB, keep38, tab38, xindexAddr, xindex, xslice, xconvert, xlen, ewOp, FreeW, StabW, SameW, ChangeW, AddW, BaseW, limBytes, simprocAttr, ne_eq])
  (refine SCall.then (mnear _ o) ?_)
  (repeat simp -dsimp only [zrMark11, RB, TB, keep38, tab38, xindexAddr, xindex, xslice, xconvert, xlen, ewOp, FreeW, StabW, SameW, ChangeW, AddW, BaseW, limBytes, simprocAttr, ne_eq])
  (refine SCall.then (mput_nil _ t.length (near o)) ?_)
  (repeat (first | simp -dsimp only [zrMark11, RB, TB, keep38, tab38, xindexAddr, xindex, xslice, xconvert, xlen, ewOp, FreeW, StabW, SameW, ChangeW, AddW, BaseW, limBytes, simprocAttr, ne_eq] | ((with_reducible refine Need.intro ?_ ?_); (trivial))))
  refine RetW.auto0 false _ (by first | rfl | exact (List.append_nil _).symm) ?_ ?_
  · (simp (maxDischargeDepth := 6) [LTB, HLt_set, ltL_take, ltL_drop, ltL_rep, ltL_set, upd, eset, hH, hHk, zlMark11] <;> omega)
  (try simp only [wk, wk1, wk0, RB, limBytes, simprocAttr, ne_eq])
  skip
  rfl
theorem mFix (H : List Ob) (s : Str) (hs : okS s) : SCall Try.prog 93 [strV s] H (fun r H' => r = strV (fixS s) ∧ H' = H) := by
  obtain ⟨text, runs⟩ := s
  obtain ⟨hs1, hs2⟩ := hs
  simp only at hs1 hs2
  unfold strV
  refine SCall.of_good fun hH => ?_
  have hHk := HLt.add hH
  refine SCall.of_code Tok Try.func93 rfl Try.call93 (n := 44) rfl (by simp) (rs := [.cell 2 30]) rfl ?_
  refine EWn.to ?_
  refine EWn.of_c Tok mixed (own := false) keep93 tab93 (by kernel_rfl) ?_
  (repeat (first | simp -dsimp only [zrMark11, RB, TB, keep93, tab93, xindexAddr, xindex, xslice, xconvert, xlen, ewOp, FreeW, StabW, SameW, ChangeW, AddW, BaseW, limBytes, simprocAttr, ne_eq] | ((with_reducible refine Need.intro ?_ ?_); (trivial))))
  refine EWn.ghost (Gho.adoptCell (H.length + 2) 1 2 (by simp only [RB, hget]; rfl) rfl (by simp)) ?_
  simp only [RB, limBytes, simprocAttr, ne_eq]
  refine EWn.loopE (ι := (Nat) × (Nat)) (fun (x_ : (Nat) × (Nat)) => match x_ with | (i, ver) => i ≤ runs.length) (fun (x_ : (Nat) × (Nat)) => match x_ with | (i, ver) => runs.length - i) (fun (x_ : (Nat) × (Nat)) => match x_ with | (i, ver) => [(4, .int .i64 ((text.length - (origF text.length (runs.take i) []).length : Nat) : Int)), (17, .int .i64 i)]) (fun (x_ : (Nat) × (Nat)) => match x_ with | (i, ver) => H ++ [.var [.str text, .slice (runs.map runV)], .var [.str [], .fslice []], .var [.str text, .vec (H.length + 3) ver 0 (rle (origF text.length (runs.take i) [])).length], .vec ver 2 ((rle (origF text.length (runs.take i) [])).map runV)]) (0, 1) ?_ ?_ ?_ ?_ ?_
  · first | rfl | (simp [upd, eset]; done) | (simp [upd, eset, origF, rle]; done)
  · simp [origF, rle]
  · rintro ⟨i, ver⟩ hok; exact ⟨by first | (simp; done) | (simp; omega), by (simp (maxDischargeDepth := 6) [LTB, HLt_set, ltL_take, ltL_drop, ltL_rep, ltL_set, upd, eset, hH, hHk, zlMark11] <;> omega), by (simp (maxDischargeDepth := 6) [LTB, HLt_set, ltL_take, ltL_drop, ltL_rep, ltL_set, upd, eset, hH, hHk, zlMark11] <;> omega)⟩
  · omega
  rintro ⟨i, ver⟩ hi
  have hacc := (origF_len text.length (runs.take i) [] (Nat.zero_le _)).1
  refine EWn.of_c Tok mixed (own := false) keep93 tab93 (by kernel_rfl) ?_
  (repeat simp -dsimp only [zrMark11, RB, TB, keep93, tab93, xindexAddr, xindex, xslice, xconvert, xlen, ewOp, FreeW, StabW, SameW, ChangeW, AddW, BaseW, limBytes, simprocAttr, ne_eq])
  refine IfW.intro (fun h => ?_) (fun h => ?_)
  · have hlt := lt_of h
    have hsucc : origF text.length (runs.take (i + 1)) [] = origF text.length (runs.take i) [] ++ List.replicate (min runs[i].1.toNat (text.length - (origF text.length (runs.take i) []).length)) (near runs[i].2) := by
      rw [List.take_succ_eq_append_getElem hlt, origF_append]; rfl
    have hacc2 := (origF_len text.length (runs.take (i + 1)) [] (Nat.zero_le _)).1
    generalize origF text.length (runs.take i) [] = acc at *
    generalize hk : min runs[i].1.toNat (text.length - acc.length) = k at *
    have hmin : min (max runs[i].1 0) ((text.length - acc.length : Nat) : Int) = (k : Int) := by omega
    have hrl := rle_len acc
    have hrb : ∀ p ∈ rle acc, 0 ≤ p.1 ∧ p.1 ≤ 1000000000000 := fun p hp => by have := rle_bound hp; omega
    (repeat (first | simp -dsimp only [zrMark11, h, at_map runV runs i hlt, runV, hmin, RB, TB, keep93, tab93, xindexAddr, xindex, xslice, xconvert, xlen, ewOp, FreeW, StabW, SameW, ChangeW, AddW, BaseW, limBytes, simprocAttr, ne_eq] | ((with_reducible refine Need.intro ?_ ?_); (omega))))
    (refine CallE.intro _ (mnear _ _) ?_)
    skip
    (refine CallE2.intro _ _ (mput _ (rle acc) k (near runs[i].2) (H.length + 3) ver (by simp only [RB, hget]) (by omega) hrb (by omega)) ?_)
    (repeat simp -dsimp only [zrMark11, RB, TB, keep93, tab93, xindexAddr, xindex, xslice, xconvert, xlen, ewOp, FreeW, StabW, SameW, ChangeW, AddW, BaseW, limBytes, simprocAttr, ne_eq])
    have hk2 : k ≤ text.length - acc.length := by omega
    have hput : putR (rle acc) k (near runs[i].2) = rle (acc ++ List.replicate k (near runs[i].2)) := (rle_append _ _ _).symm
    rw [hput]
    rw [wrapI (by omega), wrapI (by omega)]
    refine UpTo.here ⟨(i + 1, ver + grewR (rle acc) k (near runs[i].2)), hlt, by simp only; omega, ?_, ⟨_, by simp only [hsucc]; simp; rfl⟩⟩
    simp only [hsucc]
    simp [upd, eset]
    omega
  · have hi2 : i = runs.length := Nat.le_antisymm hi (ge_of h)
    subst hi2
    rw [List.take_length] at hacc ⊢
    have horig : orig ⟨text, runs⟩ = origF text.length runs [] ++ List.replicate (text.length - (origF text.length runs []).length) 65536 := rfl
    generalize origF text.length runs [] = acc at *
    have hrl := rle_len acc
    have hrb : ∀ p ∈ rle acc, 0 ≤ p.1 ∧ p.1 ≤ 1000000000000 := fun p hp => by have := rle_bound hp; omega
    (repeat simp -dsimp only [zrMark11, h, RB, TB, keep93, tab93, xindexAddr, xindex, xslice, xconvert, xlen, ewOp, FreeW, StabW, SameW, ChangeW, AddW, BaseW, limBytes, simprocAttr, ne_eq])
    (refine SCall.then (mput _ (rle acc) ((text.length - acc.length : Nat) : Int) 65536 (H.length + 3) ver (by simp only [RB, hget]) (by omega) hrb (by omega)) ?_)
    (repeat simp -dsimp only [zrMark11, RB, TB, keep93, tab93, xindexAddr, xindex, xslice, xconvert, xlen, ewOp, FreeW, StabW, SameW, ChangeW, AddW, BaseW, limBytes, simprocAttr, ne_eq])
    rw [← rle_append]
    refine RetW.auto0 false _ (by first | rfl | exact (List.append_nil _).symm) ?_ ?_
    · (simp (maxDischargeDepth := 6) [LTB, HLt_set, ltL_take, ltL_drop, ltL_rep, ltL_set, upd, eset, hH, hHk, zlMark11] <;> omega)
    (try simp only [wk, wk1, wk0, RB, limBytes, simprocAttr, ne_eq])
    (try (rw [List.take_of_length_le]; rotate_left 1; (· first | (simp; done) | (simp; omega) | omega)))
    simp [strV, fixS, horig]
theorem rSame (H : List Ob) (l m : List (UInt8 × Int)) : SCall Try.prog 103 [.slice (l.map cV), .slice (m.map cV)] H (fun r H' => r = .bool (decide (l = m)) ∧ H' = H) := by
  refine SCall.sized 0 rfl fun hl => ?_
  rw [List.length_map, maxLen_eq] at hl
  refine SCall.of_good fun hH => ?_
  have hHk := HLt.add hH
  refine SCall.of_code Tok Try.func103 rfl Try.call103 (n := 26) rfl (by simp) (rs := [.tmp 4]) rfl ?_
  refine EWn.to ?_
  refine EWn.of_c Tok mixed (own := false) keep103 tab103 (by kernel_rfl) ?_
  (repeat simp -dsimp only [zrMark11, RB, TB, keep103, tab103, xindexAddr, xindex, xslice, xconvert, xlen, ewOp, FreeW, StabW, SameW, ChangeW, AddW, BaseW, limBytes, simprocAttr, ne_eq])
  refine IfW.intro (fun h => ?_) (fun h => ?_)
  rotate_left
  · (repeat simp -dsimp only [zrMark11, h, RB, TB, keep103, tab103, xindexAddr, xindex, xslice, xconvert, xlen, ewOp, FreeW, StabW, SameW, ChangeW, AddW, BaseW, limBytes, simprocAttr, ne_eq])
    refine RetW.auto0 false _ (by first | rfl | exact (List.append_nil _).symm) ?_ ?_
    · (simp (maxDischargeDepth := 6) [LTB, HLt_set, ltL_take, ltL_drop, ltL_rep, ltL_set, upd, eset, hH, hHk, zlMark11] <;> omega)
    (try simp only [wk, wk1, wk0, RB, limBytes, simprocAttr, ne_eq])
    skip
    have hlm : l ≠ m := by rintro rfl; simp at h
    simp [hlm]
  have hlm : l.length = m.length := by simp at h; omega
  (repeat simp -dsimp only [zrMark11, h, RB, TB, keep103, tab103, xindexAddr, xindex, xslice, xconvert, xlen, ewOp, FreeW, StabW, SameW, ChangeW, AddW, BaseW, limBytes, simprocAttr, ne_eq])
  refine EWn.loopE (ι := (Nat)) (fun (i : (Nat)) => i ≤ l.length ∧ l.take i = m.take i) (fun (i : (Nat)) => l.length - i) (fun (i : (Nat)) => [(5, .int .i64 i)]) (fun (i : (Nat)) => H) (0) ?_ ?_ ?_ ?_ ?_
  · first | rfl | simp [upd, eset]
  · first | rfl | (simp; done) | exact (set_same (by assumption)).symm
  · rintro i hok; exact ⟨by first | (simp; done) | (simp; omega), by (simp (maxDischargeDepth := 6) [LTB, HLt_set, ltL_take, ltL_drop, ltL_rep, ltL_set, upd, eset, hH, hHk, zlMark11] <;> omega), by (simp (maxDischargeDepth := 6) [LTB, HLt_set, ltL_take, ltL_drop, ltL_rep, ltL_set, upd, eset, hH, hHk, zlMark11] <;> omega)⟩
  · simp
  rintro i ⟨hi, hno⟩
  refine EWn.of_c Tok mixed (own := false) keep103 tab103 (by kernel_rfl) ?_
  (repeat simp -dsimp only [zrMark11, RB, TB, keep103, tab103, xindexAddr, xindex, xslice, xconvert, xlen, ewOp, FreeW, StabW, SameW, ChangeW, AddW, BaseW, limBytes, simprocAttr, ne_eq])
  refine IfW.intro (fun h1 => ?_) (fun h1 => ?_)
  · have hlt := lt_of h1
    have hlt' : i < m.length := by omega
    (repeat (first | simp -dsimp only [zrMark11, h1, at_map cV l i hlt, at_map cV m i hlt', cV, vb, RB, TB, keep103, tab103, xindexAddr, xindex, xslice, xconvert, xlen, ewOp, FreeW, StabW, SameW, ChangeW, AddW, BaseW, limBytes, simprocAttr, ne_eq] | ((with_reducible refine Need.intro ?_ ?_); (omega))))
    refine IfW.intro (fun hb => ?_) (fun hb => ?_)
    · (repeat simp -dsimp only [zrMark11, hb, RB, TB, keep103, tab103, xindexAddr, xindex, xslice, xconvert, xlen, ewOp, FreeW, StabW, SameW, ChangeW, AddW, BaseW, limBytes, simprocAttr, ne_eq])
      rw [wrapI (by omega)]
      have hb : l[i] = m[i] := by simp at hb; exact Prod.ext (UInt8.toNat_inj.1 (by omega)) hb.2
      refine UpTo.here ⟨(i + 1), ?_, by first | omega | (simp only [List.length_append, List.length_cons, List.length_nil]; omega), by simp [upd, eset], ⟨_, by simp; try rfl⟩⟩
      exact ⟨hlt, by rw [List.take_succ_eq_append_getElem hlt, List.take_succ_eq_append_getElem hlt', hno, hb]⟩
    · (repeat simp -dsimp only [zrMark11, hb, RB, TB, keep103, tab103, xindexAddr, xindex, xslice, xconvert, xlen, ewOp, FreeW, StabW, SameW, ChangeW, AddW, BaseW, limBytes, simprocAttr, ne_eq])
      refine RetW.auto0 false _ (by first | rfl | exact (List.append_nil _).symm) ?_ ?_
      · (simp (maxDischargeDepth := 6) [LTB, HLt_set, ltL_take, ltL_drop, ltL_rep, ltL_set, upd, eset, hH, hHk, zlMark11] <;> omega)
      (try simp only [wk, wk1, wk0, RB, limBytes, simprocAttr, ne_eq])
      skip
      have hlm : l ≠ m := by rintro rfl; simp at hb
      simp [hlm]
  · (repeat simp -dsimp only [zrMark11, h1, RB, TB, keep103, tab103, xindexAddr, xindex, xslice, xconvert, xlen, ewOp, FreeW, StabW, SameW, ChangeW, AddW, BaseW, limBytes, simprocAttr, ne_eq])
    have hge := ge_of h1
    rw [List.take_of_length_le hge, List.take_of_length_le (by omega)] at hno
    refine RetW.auto0 false _ (by first | rfl | exact (List.append_nil _).symm) ?_ ?_
    · (simp (maxDischargeDepth := 6) [LTB, HLt_set, ltL_take, ltL_drop, ltL_rep, ltL_set, upd, eset, hH, hHk, zlMark11] <;> omega)
    (try simp only [wk, wk1, wk0, RB, limBytes, simprocAttr, ne_eq])
    skip
    simp [hno]

theorem rnear (H : List Ob) (o : Int) : SCall Try.prog 159 [.int .i64 o] H (fun r H' => r = .int .i64 (near o) ∧ H' = H) := by
  refine SCall.of_good fun hH => ?_
  have hHk := HLt.add hH
  refine SCall.of_code Tok Try.func159 rfl Try.call159 (n := 6) rfl (by simp) (rs := [.tmp 2]) rfl ?_
  refine EWn.to ?_
  refine EWn.of_c Tok mixed (own := false) keep159 tab159 (by kernel_rfl) ?_
  (repeat simp -dsimp only [zrMark11, RB, TB, keep159, tab159, xindexAddr, xindex, xslice, xconvert, xlen, ewOp, FreeW, StabW, SameW, ChangeW, AddW, BaseW, limBytes, simprocAttr, ne_eq])
  refine RetW.auto0 false _ (by first | rfl | exact (List.append_nil _).symm) ?_ ?_
  · (simp (maxDischargeDepth := 6) [LTB, HLt_set, ltL_take, ltL_drop, ltL_rep, ltL_set, upd, eset, hH, hHk, zlMark11] <;> omega)
  (try simp only [wk, wk1, wk0, RB, limBytes, simprocAttr, ne_eq])
  skip
  simp [near]
theorem rOf (H : List Ob) (s : Str) (hs : okS s) : SCall Try.prog 104 [strV s] H (fun r H' => r = .slice ((ofS s).map cV) ∧ H' = H) := by
  obtain ⟨text, runs⟩ := s
  obtain ⟨hs1, hs2⟩ := hs
  simp only at hs1 hs2
  unfold strV
  refine SCall.of_good fun hH => ?_
  have hHk := HLt.add hH
  refine SCall.of_code Tok Try.func104 rfl Try.call104 (n := 63) rfl (by simp) (rs := [.tmp 2]) rfl ?_
  refine EWn.to ?_
  refine EWn.of_c Tok mixed (own := false) keep104 tab104 (by kernel_rfl) ?_
  (repeat simp -dsimp only [zrMark11, RB, TB, keep104, tab104, xindexAddr, xindex, xslice, xconvert, xlen, ewOp, FreeW, StabW, SameW, ChangeW, AddW, BaseW, limBytes, simprocAttr, ne_eq])
  refine EWn.ghost (Gho.adopt 3 2 rfl) ?_
  refine EWn.loopE (ι := (Nat) × (Nat)) (fun (x_ : (Nat) × (Nat)) => match x_ with | (i, ver) => i ≤ runs.length) (fun (x_ : (Nat) × (Nat)) => match x_ with | (i, ver) => runs.length - i) (fun (x_ : (Nat) × (Nat)) => match x_ with | (i, ver) => [(4, .int .i64 i), (3, .vec (H.length + 1) ver 0 (origF text.length (runs.take i) []).length)]) (fun (x_ : (Nat) × (Nat)) => match x_ with | (i, ver) => H ++ [.var [.str text, .slice (runs.map runV)], .vec ver 2 ((text.zip (origF text.length (runs.take i) [])).map cV)]) (0, 1) ?_ ?_ ?_ ?_ ?_
  · first | rfl | (simp [upd, eset]; done) | (simp [upd, eset, origF]; done)
  · simp [origF]
  · rintro ⟨i, ver⟩ hok; exact ⟨by first | (simp; done) | (simp; omega), by (simp (maxDischargeDepth := 6) [LTB, HLt_set, ltL_take, ltL_drop, ltL_rep, ltL_set, upd, eset, hH, hHk, zlMark11] <;> omega), by (simp (maxDischargeDepth := 6) [LTB, HLt_set, ltL_take, ltL_drop, ltL_rep, ltL_set, upd, eset, hH, hHk, zlMark11] <;> omega)⟩
  · omega
  rintro ⟨i, ver⟩ hi
  have hacc := (origF_len text.length (runs.take i) [] (Nat.zero_le _)).1
  refine EWn.of_c Tok mixed (own := false) keep104 tab104 (by kernel_rfl) ?_
  (repeat simp -dsimp only [zrMark11, RB, TB, keep104, tab104, xindexAddr, xindex, xslice, xconvert, xlen, ewOp, FreeW, StabW, SameW, ChangeW, AddW, BaseW, limBytes, simprocAttr, ne_eq])
  refine IfW.intro (fun h => ?_) (fun h => ?_)
  · have hlt := lt_of h
    have hsucc : origF text.length (runs.take (i + 1)) [] = origF text.length (runs.take i) [] ++ List.replicate (min runs[i].1.toNat (text.length - (origF text.length (runs.take i) []).length)) (near runs[i].2) := by
      rw [List.take_succ_eq_append_getElem hlt, origF_append]; rfl
    generalize origF text.length (runs.take i) [] = acc at *
    (repeat simp -dsimp only [zrMark11, h, RB, TB, keep104, tab104, xindexAddr, xindex, xslice, xconvert, xlen, ewOp, FreeW, StabW, SameW, ChangeW, AddW, BaseW, limBytes, simprocAttr, ne_eq])
    refine EWn.loopE (ι := (Nat) × (Nat)) (fun (x_ : (Nat) × (Nat)) => match x_ with | (k, ver) => k ≤ runs[i].1.toNat ∧ acc.length + k ≤ text.length) (fun (x_ : (Nat) × (Nat)) => match x_ with | (k, ver) => text.length - k) (fun (x_ : (Nat) × (Nat)) => match x_ with | (k, ver) => [(5, .int .i64 k), (3, .vec (H.length + 1) ver 0 (acc.length + k))]) (fun (x_ : (Nat) × (Nat)) => match x_ with | (k, ver) => H ++ [.var [.str text, .slice (runs.map runV)], .vec ver 2 ((text.zip (acc ++ List.replicate k (near runs[i].2))).map cV)]) (0, ver) ?_ ?_ ?_ ?_ ?_
    · first | rfl | simp [upd, eset]
    · first | rfl | (simp; done) | exact (set_same (by assumption)).symm
    · rintro ⟨k, ver⟩ hok; exact ⟨by first | (simp; done) | (simp; omega), by (simp (maxDischargeDepth := 6) [LTB, HLt_set, ltL_take, ltL_drop, ltL_rep, ltL_set, upd, eset, hH, hHk, zlMark11] <;> omega), by (simp (maxDischargeDepth := 6) [LTB, HLt_set, ltL_take, ltL_drop, ltL_rep, ltL_set, upd, eset, hH, hHk, zlMark11] <;> omega)⟩
    · omega
    rintro ⟨k, ver⟩ ⟨hk1, hk2⟩
    refine EWn.of_c Tok mixed (own := false) keep104 tab104 (by kernel_rfl) ?_
    (repeat (first | simp -dsimp only [zrMark11, at_map runV runs i hlt, runV, RB, TB, keep104, tab104, xindexAddr, xindex, xslice, xconvert, xlen, ewOp, FreeW, StabW, SameW, ChangeW, AddW, BaseW, limBytes, simprocAttr, ne_eq] | ((with_reducible refine Need.intro ?_ ?_); (omega))))
    have hexit : (runs[i].1 ≤ k ∨ text.length ≤ acc.length + k) → origF text.length (runs.take (i + 1)) [] = acc ++ List.replicate k (near runs[i].2) := fun h => by rw [hsucc]; congr 2; omega
    refine IfW.intro (fun hc => ?_) (fun hc => ?_)
    · have hc1 := of_decide_eq_true hc
      (repeat simp -dsimp only [zrMark11, hc, RB, TB, keep104, tab104, xindexAddr, xindex, xslice, xconvert, xlen, ewOp, FreeW, StabW, SameW, ChangeW, AddW, BaseW, limBytes, simprocAttr, ne_eq])
      refine IfW.intro (fun hd => ?_) (fun hd => ?_)
      · have hd1 : acc.length + k < text.length := by have := of_decide_eq_true hd; omega
        have hidx : text.getD (acc.length + k) 0 = text[acc.length + k] := by simp [hd1]
        (repeat (first | simp -dsimp only [zrMark11, hc, hd, at_map runV runs i hlt, runV, hidx, RB, TB, keep104, tab104, xindexAddr, xindex, xslice, xconvert, xlen, ewOp, FreeW, StabW, SameW, ChangeW, AddW, BaseW, limBytes, simprocAttr, ne_eq] | ((with_reducible refine Need.intro ?_ ?_); (omega))))
        (refine CallE.intro _ (rnear _ _) ?_)
        (repeat (first | simp -dsimp only [zrMark11, RB, TB, keep104, tab104, xindexAddr, xindex, xslice, xconvert, xlen, ewOp, FreeW, StabW, SameW, ChangeW, AddW, BaseW, limBytes, simprocAttr, ne_eq] | ((with_reducible refine Need.intro ?_ ?_); (first | trivial | (simp; omega)))))
        rw [wrapI (by omega)]
        have hz := zip_snoc (t := text) (acc := acc ++ List.replicate k (near runs[i].2)) (near runs[i].2) (by simpa using hd1)
        have hr : acc ++ List.replicate k (near runs[i].2) ++ [near runs[i].2] = acc ++ List.replicate (k + 1) (near runs[i].2) := by rw [List.append_assoc, ← List.replicate_succ']
        rw [hr] at hz
        refine UpTo.here ⟨(k + 1, ver + 1), ⟨by omega, by omega⟩, by simp only; omega, by simp [upd, eset] <;> omega, ⟨[], ?_⟩⟩
        simp only [hz]
        first | (simp [cV, vb]; done) | (simp [cV, vb, hd1]; done)
      · have hd1 : text.length ≤ acc.length + k := by have := of_decide_eq_false hd; omega
        have hx := hexit (.inr hd1)
        (repeat simp -dsimp only [zrMark11, hc, hd, RB, TB, keep104, tab104, xindexAddr, xindex, xslice, xconvert, xlen, ewOp, FreeW, StabW, SameW, ChangeW, AddW, BaseW, limBytes, simprocAttr, ne_eq])
        rw [wrapI (by omega)]
        refine UpTo.here ⟨(i + 1, ver), hlt, by simp only; omega, by simp only [hx]; simp [upd, eset], ⟨[], by simp only [hx]; simp⟩⟩
    · have hc1 := of_decide_eq_false hc
      have hx := hexit (.inl (by omega))
      (repeat simp -dsimp only [zrMark11, hc, RB, TB, keep104, tab104, xindexAddr, xindex, xslice, xconvert, xlen, ewOp, FreeW, StabW, SameW, ChangeW, AddW, BaseW, limBytes, simprocAttr, ne_eq])
      rw [wrapI (by omega)]
      refine UpTo.here ⟨(i + 1, ver), hlt, by simp only; omega, by simp only [hx]; simp [upd, eset], ⟨[], by simp only [hx]; simp⟩⟩
  · have hi2 : i = runs.length := Nat.le_antisymm hi (ge_of h)
    subst hi2
    rw [List.take_length] at hacc ⊢
    have horig : orig ⟨text, runs⟩ = origF text.length runs [] ++ List.replicate (text.length - (origF text.length runs []).length) 65536 := rfl
    generalize origF text.length runs [] = acc at *
    (repeat simp -dsimp only [zrMark11, h, RB, TB, keep104, tab104, xindexAddr, xindex, xslice, xconvert, xlen, ewOp, FreeW, StabW, SameW, ChangeW, AddW, BaseW, limBytes, simprocAttr, ne_eq])
    refine EWn.ghost (Gho.restr [1, 3]) ?_
    simp only [RB, limBytes, simprocAttr, ne_eq]
    refine EWn.loopE (ι := (Nat) × (Nat)) (fun (x_ : (Nat) × (Nat)) => match x_ with | (k, ver) => acc.length + k ≤ text.length) (fun (x_ : (Nat) × (Nat)) => match x_ with | (k, ver) => text.length - k) (fun (x_ : (Nat) × (Nat)) => match x_ with | (k, ver) => [(3, .vec (H.length + 1) ver 0 (acc.length + k))]) (fun (x_ : (Nat) × (Nat)) => match x_ with | (k, ver) => H ++ [.var [.str text, .slice (runs.map runV)], .vec ver 2 ((text.zip (acc ++ List.replicate k 65536)).map cV)]) (0, ver) ?_ ?_ ?_ ?_ ?_
    · first | rfl | simp [upd, eset]
    · first | rfl | (simp; done) | exact (set_same (by assumption)).symm
    · rintro ⟨k, ver⟩ hok; exact ⟨by first | (simp; done) | (simp; omega), by (simp (maxDischargeDepth := 6) [LTB, HLt_set, ltL_take, ltL_drop, ltL_rep, ltL_set, upd, eset, hH, hHk, zlMark11] <;> omega), by (simp (maxDischargeDepth := 6) [LTB, HLt_set, ltL_take, ltL_drop, ltL_rep, ltL_set, upd, eset, hH, hHk, zlMark11] <;> omega)⟩
    · omega
    rintro ⟨k, ver⟩ hk2
    refine EWn.of_c Tok mixed (own := false) keep104 tab104 (by kernel_rfl) ?_
    (repeat simp -dsimp only [zrMark11, RB, TB, keep104, tab104, xindexAddr, xindex, xslice, xconvert, xlen, ewOp, FreeW, StabW, SameW, ChangeW, AddW, BaseW, limBytes, simprocAttr, ne_eq])
    refine IfW.intro (fun hd => ?_) (fun hd => ?_)
    · have hd1 : acc.length + k < text.length := by have := of_decide_eq_true hd; omega
      have hidx : text.getD (acc.length + k) 0 = text[acc.length + k] := by simp [hd1]
      (repeat (first | simp -dsimp only [zrMark11, hd, hidx, RB, TB, keep104, tab104, xindexAddr, xindex, xslice, xconvert, xlen, ewOp, FreeW, StabW, SameW, ChangeW, AddW, BaseW, limBytes, simprocAttr, ne_eq] | ((with_reducible refine Need.intro ?_ ?_); (first | trivial | omega | (simp; omega)))))
      have hz := zip_snoc (t := text) (acc := acc ++ List.replicate k 65536) 65536 (by simpa using hd1)
      have hr : acc ++ List.replicate k (65536 : Int) ++ [65536] = acc ++ List.replicate (k + 1) 65536 := by rw [List.append_assoc, ← List.replicate_succ']
      rw [hr] at hz
      refine UpTo.here ⟨(k + 1, ver + 1), by simp only; omega, by simp only; omega, by simp [upd, eset] <;> omega, ⟨[], ?_⟩⟩
      simp only [hz]
      first | (simp [cV, vb]; done) | (simp [cV, vb, hd1]; done)
    · have hd1 : text.length ≤ acc.length + k := by have := of_decide_eq_false hd; omega
      (repeat simp -dsimp only [zrMark11, hd, RB, TB, keep104, tab104, xindexAddr, xindex, xslice, xconvert, xlen, ewOp, FreeW, StabW, SameW, ChangeW, AddW, BaseW, limBytes, simprocAttr, ne_eq])
      have hk3 : k = text.length - acc.length := by omega
      subst hk3
      have hol := orig_len ⟨text, runs⟩
      refine RetW.auto0 false _ (by first | rfl | exact (List.append_nil _).symm) ?_ ?_
      · (simp (maxDischargeDepth := 6) [LTB, HLt_set, ltL_take, ltL_drop, ltL_rep, ltL_set, upd, eset, hH, hHk, zlMark11] <;> omega)
      (try simp only [wk, wk1, wk0, RB, limBytes, simprocAttr, ne_eq])
      (try (rw [List.take_of_length_le]; rotate_left 1; (· first | (simp; done) | (simp; omega) | omega)))
      simp [ofS, horig] <;> omega
end Go.Proofs.Ytjplgbalpnlanaa

/- The walks of package attrs, and of the plain comparing. -/
set_option maxHeartbeats 600000
set_option linter.unusedSimpArgs false
set_option linter.unusedVariables false
set_option maxRecDepth 100000
namespace Go.Proofs.Ytjplgbalpnlanaa
open Go Go.EL
theorem zrAttrs11 : type_of% (And.intro (And.intro (And.intro (And.intro (@st_run) (@sz_run)) (And.intro (@st1_run) (@cl_run))) (And.intro (And.intro (@st_Str) (@sz_Str)) (And.intro (@st1_Str) (@cl_Str)))) (And.intro (And.intro (And.intro (@st_c) (@sz_c)) (And.intro (@st1_c) (@cl_c))) (And.intro (And.intro (@st_attr) (@sz_attr)) (And.intro (@st1_attr) (@cl_attr))))) := And.intro (And.intro (And.intro (And.intro (@st_run) (@sz_run)) (And.intro (@st1_run) (@cl_run))) (And.intro (And.intro (@st_Str) (@sz_Str)) (And.intro (@st1_Str) (@cl_Str)))) (And.intro (And.intro (And.intro (@st_c) (@sz_c)) (And.intro (@st1_c) (@cl_c))) (And.intro (And.intro (@st_attr) (@sz_attr)) (And.intro (@st1_attr) (@cl_attr))))
theorem zlAttrs11 : type_of% (And.intro (And.intro (And.intro (And.intro (@lt_vi) (@lt_str)) (And.intro (@lt_vb) (@ltc_str))) (And.intro (And.intro (@ltc_vi) (@lt_run)) (And.intro (@lt1_run) (@ltc_run)))) (And.intro (And.intro (And.intro (@lt_Str) (@lt1_Str)) (And.intro (@ltc_Str) (@lt_c))) (And.intro (And.intro (@lt1_c) (@ltc_c)) (And.intro (@lt_attr) (And.intro (@lt1_attr) (@ltc_attr)))))) := And.intro (And.intro (And.intro (And.intro (@lt_vi) (@lt_str)) (And.intro (@lt_vb) (@ltc_str))) (And.intro (And.intro (@ltc_vi) (@lt_run)) (And.intro (@lt1_run) (@ltc_run)))) (And.intro (And.intro (And.intro (@lt_Str) (@lt1_Str)) (And.intro (@ltc_Str) (@lt_c))) (And.intro (And.intro (@lt1_c) (@ltc_c)) (And.intro (@lt_attr) (And.intro (@lt1_attr) (@ltc_attr)))))
theorem pStr (H : List Ob) (a b : Str) (ha : okS a) (hb : okS b) : SCall Try.prog 31 [strV a, strV b] H (fun r H' => r = .bool (decide (fixS a = fixS b)) ∧ H' = H) := by
  have e : decide (ofS a = ofS b) = decide (fixS a = fixS b) := decide_eq_decide.2 (by rw [ofS_inj, like_iff])
  obtain ⟨at_, ar⟩ := a
  obtain ⟨bt, br⟩ := b
  unfold strV
  refine SCall.of_good fun hH => ?_
  have hHk := HLt.add hH
  refine SCall.of_code Tok Try.func31 rfl Try.call31 (n := 10) rfl (by simp) (rs := [.tmp 4]) rfl ?_
  refine EWn.to ?_
  refine EWn.of_c Tok mixed (own := false) keep31 tab31 (by kernel_rfl) ?_
  (repeat simp -dsimp only [zrAttrs11, RB, TB, keep31, tab31, xindexAddr, xindex, xslice, xconvert, xlen, ewOp, FreeW, StabW, SameW, ChangeW, AddW, BaseW, limBytes, simprocAttr, ne_eq])
  (refine CallE.intro _ (rOf _ ⟨at_, ar⟩ ha) ?_)
  (repeat simp -dsimp only [zrAttrs11, RB, TB, keep31, tab31, xindexAddr, xindex, xslice, xconvert, xlen, ewOp, FreeW, StabW, SameW, ChangeW, AddW, BaseW, limBytes, simprocAttr, ne_eq])
  (refine CallE.intro _ (rOf _ ⟨bt, br⟩ hb) ?_)
  skip
  (refine CallE.intro _ (rSame _ (ofS ⟨at_, ar⟩) (ofS ⟨bt, br⟩)) ?_)
  (repeat simp -dsimp only [zrAttrs11, RB, TB, keep31, tab31, xindexAddr, xindex, xslice, xconvert, xlen, ewOp, FreeW, StabW, SameW, ChangeW, AddW, BaseW, limBytes, simprocAttr, ne_eq])
  refine RetW.auto0 false _ (by first | rfl | exact (List.append_nil _).symm) ?_ ?_
  · (simp (maxDischargeDepth := 6) [LTB, HLt_set, ltL_take, ltL_drop, ltL_rep, ltL_set, upd, eset, hH, hHk, zlAttrs11] <;> omega)
  (try simp only [wk, wk1, wk0, RB, limBytes, simprocAttr, ne_eq])
  skip
  rw [e]
theorem pAttrs (H : List Ob) (l m : List Attr) (hl : ∀ a ∈ l, okA a) (hm : ∀ a ∈ m, okA a) : SCall Try.prog 86 [.slice (l.map attrV), .slice (m.map attrV)] H (fun r H' => r = .bool (decide (l.map ownA = m.map ownA)) ∧ H' = H) := by
  refine SCall.sized 0 rfl fun hsz => ?_
  rw [List.length_map, maxLen_eq] at hsz
  refine SCall.of_good fun hH => ?_
  have hHk := HLt.add hH
  refine SCall.of_code Tok Try.func86 rfl Try.call86 (n := 43) rfl (by simp) (rs := [.tmp 4]) rfl ?_
  refine EWn.to ?_
  refine EWn.of_c Tok mixed (own := false) keep86 tab86 (by kernel_rfl) ?_
  (repeat simp -dsimp only [zrAttrs11, RB, TB, keep86, tab86, xindexAddr, xindex, xslice, xconvert, xlen, ewOp, FreeW, StabW, SameW, ChangeW, AddW, BaseW, limBytes, simprocAttr, ne_eq])
  refine IfW.intro (fun h => ?_) (fun h => ?_)
  rotate_left
  · (repeat simp -dsimp only [zrAttrs11, h, RB, TB, keep86, tab86, xindexAddr, xindex, xslice, xconvert, xlen, ewOp, FreeW, StabW, SameW, ChangeW, AddW, BaseW, limBytes, simprocAttr, ne_eq])
    refine RetW.auto0 false _ (by first | rfl | exact (List.append_nil _).symm) ?_ ?_
    · (simp (maxDischargeDepth := 6) [LTB, HLt_set, ltL_take, ltL_drop, ltL_rep, ltL_set, upd, eset, hH, hHk, zlAttrs11] <;> omega)
    (try simp only [wk, wk1, wk0, RB, limBytes, simprocAttr, ne_eq])
    skip
    have hlm : l.map ownA ≠ m.map ownA := by intro h0; have := congrArg List.length h0; simp at this h; omega
    simp [hlm]
  have hlm : l.length = m.length := by simp at h; omega
  (repeat simp -dsimp only [zrAttrs11, h, RB, TB, keep86, tab86, xindexAddr, xindex, xslice, xconvert, xlen, ewOp, FreeW, StabW, SameW, ChangeW, AddW, BaseW, limBytes, simprocAttr, ne_eq])
  refine EWn.loopE (ι := (Nat)) (fun (i : (Nat)) => i ≤ l.length ∧ (l.take i).map ownA = (m.take i).map ownA) (fun (i : (Nat)) => l.length - i) (fun (i : (Nat)) => [(5, .int .i64 i)]) (fun (i : (Nat)) => H) (0) ?_ ?_ ?_ ?_ ?_
  · first | rfl | simp [upd, eset]
  · first | rfl | (simp; done) | exact (set_same (by assumption)).symm
  · rintro i hok; exact ⟨by first | (simp; done) | (simp; omega), by (simp (maxDischargeDepth := 6) [LTB, HLt_set, ltL_take, ltL_drop, ltL_rep, ltL_set, upd, eset, hH, hHk, zlAttrs11] <;> omega), by (simp (maxDischargeDepth := 6) [LTB, HLt_set, ltL_take, ltL_drop, ltL_rep, ltL_set, upd, eset, hH, hHk, zlAttrs11] <;> omega)⟩
  · simp
  rintro i ⟨hi, hno⟩
  refine EWn.of_c Tok mixed (own := false) keep86 tab86 (by kernel_rfl) ?_
  (repeat simp -dsimp only [zrAttrs11, RB, TB, keep86, tab86, xindexAddr, xindex, xslice, xconvert, xlen, ewOp, FreeW, StabW, SameW, ChangeW, AddW, BaseW, limBytes, simprocAttr, ne_eq])
  refine IfW.intro (fun h1 => ?_) (fun h1 => ?_)
  · have hlt := lt_of h1
    have hlt' : i < m.length := by omega
    (repeat (first | simp -dsimp only [zrAttrs11, h1, at_map attrV l i hlt, at_map attrV m i hlt', attrV, RB, TB, keep86, tab86, xindexAddr, xindex, xslice, xconvert, xlen, ewOp, FreeW, StabW, SameW, ChangeW, AddW, BaseW, limBytes, simprocAttr, ne_eq] | ((with_reducible refine Need.intro ?_ ?_); (omega))))
    have o1 := hl l[i] (List.getElem_mem hlt)
    have o2 := hm m[i] (List.getElem_mem hlt')
    (refine CallE.intro _ (pStr _ l[i].name m[i].name o1.1 o2.1) ?_)
    (repeat simp -dsimp only [zrAttrs11, RB, TB, keep86, tab86, xindexAddr, xindex, xslice, xconvert, xlen, ewOp, FreeW, StabW, SameW, ChangeW, AddW, BaseW, limBytes, simprocAttr, ne_eq])
    have bad : ownA l[i] ≠ ownA m[i] → decide (l.map ownA = m.map ownA) = false := fun hne => decide_eq_false fun h0 => by
      have := congrArg (fun x => x[i]?) h0
      simp only [List.getElem?_map, List.getElem?_eq_getElem hlt, List.getElem?_eq_getElem hlt', Option.map_some] at this
      injection this with this
      exact hne this
    refine IfW.intro (fun hb => ?_) (fun hb => ?_)
    · (repeat (first | simp -dsimp only [zrAttrs11, hb, h1, at_map attrV l i hlt, at_map attrV m i hlt', attrV, RB, TB, keep86, tab86, xindexAddr, xindex, xslice, xconvert, xlen, ewOp, FreeW, StabW, SameW, ChangeW, AddW, BaseW, limBytes, simprocAttr, ne_eq] | ((with_reducible refine Need.intro ?_ ?_); (omega))))
      (refine CallE.intro _ (pStr _ l[i].value m[i].value o1.2 o2.2) ?_)
      (repeat simp -dsimp only [zrAttrs11, RB, TB, keep86, tab86, xindexAddr, xindex, xslice, xconvert, xlen, ewOp, FreeW, StabW, SameW, ChangeW, AddW, BaseW, limBytes, simprocAttr, ne_eq])
      refine IfW.intro (fun hc => ?_) (fun hc => ?_)
      · (repeat simp -dsimp only [zrAttrs11, hb, hc, RB, TB, keep86, tab86, xindexAddr, xindex, xslice, xconvert, xlen, ewOp, FreeW, StabW, SameW, ChangeW, AddW, BaseW, limBytes, simprocAttr, ne_eq])
        rw [wrapI (by omega)]
        refine UpTo.here ⟨(i + 1), ?_, by first | omega | (simp only [List.length_append, List.length_cons, List.length_nil]; omega), by simp [upd, eset], ⟨_, by simp; try rfl⟩⟩
        have hb := of_decide_eq_true hb
        have hc := of_decide_eq_true hc
        have he : ownA l[i] = ownA m[i] := by unfold ownA; rw [hb, hc]
        exact ⟨hlt, by rw [List.take_succ_eq_append_getElem hlt, List.take_succ_eq_append_getElem hlt', List.map_append, List.map_append, hno]; simp [he]⟩
      · (repeat simp -dsimp only [zrAttrs11, hb, hc, RB, TB, keep86, tab86, xindexAddr, xindex, xslice, xconvert, xlen, ewOp, FreeW, StabW, SameW, ChangeW, AddW, BaseW, limBytes, simprocAttr, ne_eq])
        refine RetW.auto0 false _ (by first | rfl | exact (List.append_nil _).symm) ?_ ?_
        · (simp (maxDischargeDepth := 6) [LTB, HLt_set, ltL_take, ltL_drop, ltL_rep, ltL_set, upd, eset, hH, hHk, zlAttrs11] <;> omega)
        (try simp only [wk, wk1, wk0, RB, limBytes, simprocAttr, ne_eq])
        skip
        rw [bad (fun h0 => of_decide_eq_false hc (by unfold ownA at h0; injection h0))]
    · (repeat simp -dsimp only [zrAttrs11, hb, RB, TB, keep86, tab86, xindexAddr, xindex, xslice, xconvert, xlen, ewOp, FreeW, StabW, SameW, ChangeW, AddW, BaseW, limBytes, simprocAttr, ne_eq])
      refine RetW.auto0 false _ (by first | rfl | exact (List.append_nil _).symm) ?_ ?_
      · (simp (maxDischargeDepth := 6) [LTB, HLt_set, ltL_take, ltL_drop, ltL_rep, ltL_set, upd, eset, hH, hHk, zlAttrs11] <;> omega)
      (try simp only [wk, wk1, wk0, RB, limBytes, simprocAttr, ne_eq])
      skip
      rw [bad (fun h0 => of_decide_eq_false hb (by unfold ownA at h0; injection h0))]
  · (repeat simp -dsimp only [zrAttrs11, h1, RB, TB, keep86, tab86, xindexAddr, xindex, xslice, xconvert, xlen, ewOp, FreeW, StabW, SameW, ChangeW, AddW, BaseW, limBytes, simprocAttr, ne_eq])
    have hge := ge_of h1
    rw [List.take_of_length_le hge, List.take_of_length_le (by omega)] at hno
    refine RetW.auto0 false _ (by first | rfl | exact (List.append_nil _).symm) ?_ ?_
    · (simp (maxDischargeDepth := 6) [LTB, HLt_set, ltL_take, ltL_drop, ltL_rep, ltL_set, upd, eset, hH, hHk, zlAttrs11] <;> omega)
    (try simp only [wk, wk1, wk0, RB, limBytes, simprocAttr, ne_eq])
    skip
    simp [hno]
theorem aOwn (H : List Ob) (a : Attr) (h : okA a) : SCall Try.prog 154 [attrV a] H (fun r H' => r = attrV (ownA a) ∧ H' = H) := by
  obtain ⟨⟨nt, nr⟩, ⟨vt, vr⟩⟩ := a
  unfold attrV
  refine SCall.of_good fun hH => ?_
  have hHk := HLt.add hH
  refine SCall.of_code Tok Try.func154 rfl Try.call154 (n := 10) rfl (by simp) (rs := [.cell 2 126]) rfl ?_
  refine EWn.to ?_
  refine EWn.of_c Tok mixed (own := false) keep154 tab154 (by kernel_rfl) ?_
  (repeat simp -dsimp only [zrAttrs11, RB, TB, keep154, tab154, xindexAddr, xindex, xslice, xconvert, xlen, ewOp, FreeW, StabW, SameW, ChangeW, AddW, BaseW, limBytes, simprocAttr, ne_eq])
  (refine CallE.intro _ (mFix _ ⟨nt, nr⟩ h.1) ?_)
  (repeat simp -dsimp only [zrAttrs11, strV, RB, TB, keep154, tab154, xindexAddr, xindex, xslice, xconvert, xlen, ewOp, FreeW, StabW, SameW, ChangeW, AddW, BaseW, limBytes, simprocAttr, ne_eq])
  (refine CallE.intro _ (mFix _ ⟨vt, vr⟩ h.2) ?_)
  (repeat (first | simp -dsimp only [zrAttrs11, strV, RB, TB, keep154, tab154, xindexAddr, xindex, xslice, xconvert, xlen, ewOp, FreeW, StabW, SameW, ChangeW, AddW, BaseW, limBytes, simprocAttr, ne_eq] | ((with_reducible refine Need.intro ?_ ?_); (trivial))))
  refine RetW.auto0 false _ (by first | rfl | exact (List.append_nil _).symm) ?_ ?_
  · (simp (maxDischargeDepth := 6) [LTB, HLt_set, ltL_take, ltL_drop, ltL_rep, ltL_set, upd, eset, hH, hHk, zlAttrs11] <;> omega)
  (try simp only [wk, wk1, wk0, RB, limBytes, simprocAttr, ne_eq])
  skip
  rfl
end Go.Proofs.Ytjplgbalpnlanaa

/- The walks of package attrs: place, all, Get, Put, Drop, Once, alike, Changes, Same. -/
set_option maxHeartbeats 600000
set_option linter.unusedSimpArgs false
set_option linter.unusedVariables false
set_option maxRecDepth 100000
namespace Go.Proofs.Ytjplgbalpnlanaa
open Go Go.EL
theorem zrAttrs21 : type_of% (And.intro (And.intro (And.intro (And.intro (@st_run) (@sz_run)) (And.intro (@st1_run) (@cl_run))) (And.intro (And.intro (@st_Str) (@sz_Str)) (And.intro (@st1_Str) (@cl_Str)))) (And.intro (And.intro (And.intro (@st_c) (@sz_c)) (And.intro (@st1_c) (@cl_c))) (And.intro (And.intro (@st_attr) (@sz_attr)) (And.intro (@st1_attr) (@cl_attr))))) := And.intro (And.intro (And.intro (And.intro (@st_run) (@sz_run)) (And.intro (@st1_run) (@cl_run))) (And.intro (And.intro (@st_Str) (@sz_Str)) (And.intro (@st1_Str) (@cl_Str)))) (And.intro (And.intro (And.intro (@st_c) (@sz_c)) (And.intro (@st1_c) (@cl_c))) (And.intro (And.intro (@st_attr) (@sz_attr)) (And.intro (@st1_attr) (@cl_attr))))
theorem zlAttrs21 : type_of% (And.intro (And.intro (And.intro (And.intro (@lt_vi) (@lt_str)) (And.intro (@lt_vb) (@ltc_str))) (And.intro (And.intro (@ltc_vi) (@lt_run)) (And.intro (@lt1_run) (@ltc_run)))) (And.intro (And.intro (And.intro (@lt_Str) (@lt1_Str)) (And.intro (@ltc_Str) (@lt_c))) (And.intro (And.intro (@lt1_c) (@ltc_c)) (And.intro (@lt_attr) (And.intro (@lt1_attr) (@ltc_attr)))))) := And.intro (And.intro (And.intro (And.intro (@lt_vi) (@lt_str)) (And.intro (@lt_vb) (@ltc_str))) (And.intro (And.intro (@ltc_vi) (@lt_run)) (And.intro (@lt1_run) (@ltc_run)))) (And.intro (And.intro (And.intro (@lt_Str) (@lt1_Str)) (And.intro (@ltc_Str) (@lt_c))) (And.intro (And.intro (@lt1_c) (@ltc_c)) (And.intro (@lt_attr) (And.intro (@lt1_attr) (@ltc_attr)))))
theorem indexFunc_attr (H : List Ob) (l : List (Attr)) (k : FuncId) (fi ca : List V) (p : Attr → Bool) (hf : ∀ x ∈ l, SCall Try.prog k (fi ++ attrV x :: ca) H (fun r H' => r = .bool (p x) ∧ H' = H)) (hlf : ltL H.length fi ∧ ltL H.length ca) : SCall Try.prog 175 [.slice (l.map attrV), .fn (.func k) fi ca] H (fun r H' => r = .int .i64 (ix p l) ∧ H' = H) := by
  obtain ⟨hl1, hl2⟩ := hlf
  refine SCall.sized 0 rfl fun hl => ?_
  rw [List.length_map, maxLen_eq] at hl
  refine SCall.of_good fun hH => ?_
  have hHk := HLt.add hH
  refine SCall.of_code Tok Try.func175 rfl Try.call175 (n := 19) rfl (by simp) (rs := [.tmp 4]) rfl ?_
  refine EWn.to ?_
  refine EWn.of_c Tok mixed (own := false) keep175 tab175 (by kernel_rfl) ?_
  (repeat simp -dsimp only [zrAttrs21, RB, TB, keep175, tab175, xindexAddr, xindex, xslice, xconvert, xlen, ewOp, FreeW, StabW, SameW, ChangeW, AddW, BaseW, limBytes, simprocAttr, ne_eq])
  refine EWn.loopE (ι := (Nat)) (fun (i : (Nat)) => i ≤ l.length ∧ ∀ x ∈ l.take i, p x = false) (fun (i : (Nat)) => l.length - i) (fun (i : (Nat)) => [(8, .int .i64 i)]) (fun (i : (Nat)) => H) (0) ?_ ?_ ?_ ?_ ?_
  · first | rfl | simp [upd, eset]
  · first | rfl | (simp; done) | exact (set_same (by assumption)).symm
  · rintro i hok; exact ⟨by first | (simp; done) | (simp; omega), by (simp (maxDischargeDepth := 6) [LTB, HLt_set, ltL_take, ltL_drop, ltL_rep, ltL_set, upd, eset, hH, hHk, hl1, hl2, zlAttrs21] <;> omega), by (simp (maxDischargeDepth := 6) [LTB, HLt_set, ltL_take, ltL_drop, ltL_rep, ltL_set, upd, eset, hH, hHk, hl1, hl2, zlAttrs21] <;> omega)⟩
  · simp
  rintro i ⟨hi, hno⟩
  refine EWn.of_c Tok mixed (own := false) keep175 tab175 (by kernel_rfl) ?_
  (repeat simp -dsimp only [zrAttrs21, RB, TB, keep175, tab175, xindexAddr, xindex, xslice, xconvert, xlen, ewOp, FreeW, StabW, SameW, ChangeW, AddW, BaseW, limBytes, simprocAttr, ne_eq])
  refine IfW.intro (fun h => ?_) (fun h => ?_)
  · have hlt := lt_of h
    (repeat (first | simp -dsimp only [zrAttrs21, h, at_map attrV l i hlt, attrV, RB, TB, keep175, tab175, xindexAddr, xindex, xslice, xconvert, xlen, ewOp, FreeW, StabW, SameW, ChangeW, AddW, BaseW, limBytes, simprocAttr, ne_eq] | ((with_reducible refine Need.intro ?_ ?_); (omega))))
    refine SCall.then (hf l[i] (List.getElem_mem hlt)) ?_
    (repeat simp -dsimp only [zrAttrs21, RB, TB, keep175, tab175, xindexAddr, xindex, xslice, xconvert, xlen, ewOp, FreeW, StabW, SameW, ChangeW, AddW, BaseW, limBytes, simprocAttr, ne_eq])
    refine IfW.intro (fun hb => ?_) (fun hb => ?_)
    · (repeat simp -dsimp only [zrAttrs21, hb, RB, TB, keep175, tab175, xindexAddr, xindex, xslice, xconvert, xlen, ewOp, FreeW, StabW, SameW, ChangeW, AddW, BaseW, limBytes, simprocAttr, ne_eq])
      refine RetW.auto0 false _ (by first | rfl | exact (List.append_nil _).symm) ?_ ?_
      · (simp (maxDischargeDepth := 6) [LTB, HLt_set, ltL_take, ltL_drop, ltL_rep, ltL_set, upd, eset, hH, hHk, hl1, hl2, zlAttrs21] <;> omega)
      (try simp only [wk, wk1, wk0, RB, limBytes, simprocAttr, ne_eq])
      skip
      rw [ix_hit hlt hb hno]
    · (repeat simp -dsimp only [zrAttrs21, hb, RB, TB, keep175, tab175, xindexAddr, xindex, xslice, xconvert, xlen, ewOp, FreeW, StabW, SameW, ChangeW, AddW, BaseW, limBytes, simprocAttr, ne_eq])
      rw [wrapI (by omega)]
      refine UpTo.here ⟨(i + 1), ?_, by first | omega | (simp only [List.length_append, List.length_cons, List.length_nil]; omega), by simp [upd, eset], ⟨_, by simp; try rfl⟩⟩
      exact ⟨hlt, take_step hlt hb hno⟩
  · (repeat simp -dsimp only [zrAttrs21, h, RB, TB, keep175, tab175, xindexAddr, xindex, xslice, xconvert, xlen, ewOp, FreeW, StabW, SameW, ChangeW, AddW, BaseW, limBytes, simprocAttr, ne_eq])
    refine RetW.auto0 false _ (by first | rfl | exact (List.append_nil _).symm) ?_ ?_
    · (simp (maxDischargeDepth := 6) [LTB, HLt_set, ltL_take, ltL_drop, ltL_rep, ltL_set, upd, eset, hH, hHk, hl1, hl2, zlAttrs21] <;> omega)
    (try simp only [wk, wk1, wk0, RB, limBytes, simprocAttr, ne_eq])
    skip
    rw [ix_none (take_all (ge_of h) hno)]
theorem indexFunc_attr_vec (H : List Ob) (l : List (Attr)) (k : FuncId) (fi ca : List V) (p : Attr → Bool) (hf : ∀ x ∈ l, SCall Try.prog k (fi ++ attrV x :: ca) H (fun r H' => r = .bool (p x) ∧ H' = H)) (hlf : ltL H.length fi ∧ ltL H.length ca) (o ver n : Nat) (ho : H[o]? = some (.vec ver 4 (l.map attrV))) (hn : n = l.length) (hl : l.length ≤ 1000000000000) : SCall Try.prog 175 [.vec o ver 0 n, .fn (.func k) fi ca] H (fun r H' => r = .int .i64 (ix p l) ∧ H' = H) := by
  subst hn
  obtain ⟨hl1, hl2⟩ := hlf
  have holt := lt_of_get ho
  refine SCall.of_good fun hH => ?_
  have hHk := HLt.add hH
  refine SCall.of_code Tok Try.func175 rfl Try.call175 (n := 19) rfl (by simp) (rs := [.tmp 4]) rfl ?_
  refine EWn.to ?_
  refine EWn.of_c Tok mixed (own := false) keep175 tab175 (by kernel_rfl) ?_
  (repeat simp -dsimp only [zrAttrs21, ho, RB, TB, keep175, tab175, xindexAddr, xindex, xslice, xconvert, xlen, ewOp, FreeW, StabW, SameW, ChangeW, AddW, BaseW, limBytes, simprocAttr, ne_eq])
  refine EWn.loopE (ι := (Nat)) (fun (i : (Nat)) => i ≤ l.length ∧ ∀ x ∈ l.take i, p x = false) (fun (i : (Nat)) => l.length - i) (fun (i : (Nat)) => [(8, .int .i64 i)]) (fun (i : (Nat)) => H) (0) ?_ ?_ ?_ ?_ ?_
  · first | rfl | simp [upd, eset]
  · first | rfl | (simp; done) | exact (set_same (by assumption)).symm
  · rintro i hok; exact ⟨by first | (simp; done) | (simp; omega), by (simp (maxDischargeDepth := 6) [LTB, HLt_set, ltL_take, ltL_drop, ltL_rep, ltL_set, upd, eset, hH, hHk, hl1, hl2, holt, zlAttrs21] <;> omega), by (simp (maxDischargeDepth := 6) [LTB, HLt_set, ltL_take, ltL_drop, ltL_rep, ltL_set, upd, eset, hH, hHk, hl1, hl2, holt, zlAttrs21] <;> omega)⟩
  · simp
  rintro i ⟨hi, hno⟩
  refine EWn.of_c Tok mixed (own := false) keep175 tab175 (by kernel_rfl) ?_
  (repeat simp -dsimp only [zrAttrs21, ho, RB, TB, keep175, tab175, xindexAddr, xindex, xslice, xconvert, xlen, ewOp, FreeW, StabW, SameW, ChangeW, AddW, BaseW, limBytes, simprocAttr, ne_eq])
  refine IfW.intro (fun h => ?_) (fun h => ?_)
  · have hlt := lt_of h
    (repeat (first | simp -dsimp only [zrAttrs21, h, ho, at_map attrV l i hlt, attrV, RB, TB, keep175, tab175, xindexAddr, xindex, xslice, xconvert, xlen, ewOp, FreeW, StabW, SameW, ChangeW, AddW, BaseW, limBytes, simprocAttr, ne_eq] | ((with_reducible refine Need.intro ?_ ?_); (first | trivial | omega))))
    refine SCall.then (hf l[i] (List.getElem_mem hlt)) ?_
    (repeat simp -dsimp only [zrAttrs21, RB, TB, keep175, tab175, xindexAddr, xindex, xslice, xconvert, xlen, ewOp, FreeW, StabW, SameW, ChangeW, AddW, BaseW, limBytes, simprocAttr, ne_eq])
    refine IfW.intro (fun hb => ?_) (fun hb => ?_)
    · (repeat simp -dsimp only [zrAttrs21, hb, RB, TB, keep175, tab175, xindexAddr, xindex, xslice, xconvert, xlen, ewOp, FreeW, StabW, SameW, ChangeW, AddW, BaseW, limBytes, simprocAttr, ne_eq])
      refine RetW.auto0 false _ (by first | rfl | exact (List.append_nil _).symm) ?_ ?_
      · (simp (maxDischargeDepth := 6) [LTB, HLt_set, ltL_take, ltL_drop, ltL_rep, ltL_set, upd, eset, hH, hHk, hl1, hl2, holt, zlAttrs21] <;> omega)
      (try simp only [wk, wk1, wk0, RB, limBytes, simprocAttr, ne_eq])
      skip
      rw [ix_hit hlt hb hno]
    · (repeat simp -dsimp only [zrAttrs21, hb, RB, TB, keep175, tab175, xindexAddr, xindex, xslice, xconvert, xlen, ewOp, FreeW, StabW, SameW, ChangeW, AddW, BaseW, limBytes, simprocAttr, ne_eq])
      rw [wrapI (by omega)]
      refine UpTo.here ⟨(i + 1), ?_, by first | omega | (simp only [List.length_append, List.length_cons, List.length_nil]; omega), by simp [upd, eset], ⟨_, by simp; try rfl⟩⟩
      exact ⟨hlt, take_step hlt hb hno⟩
  · (repeat simp -dsimp only [zrAttrs21, h, RB, TB, keep175, tab175, xindexAddr, xindex, xslice, xconvert, xlen, ewOp, FreeW, StabW, SameW, ChangeW, AddW, BaseW, limBytes, simprocAttr, ne_eq])
    refine RetW.auto0 false _ (by first | rfl | exact (List.append_nil _).symm) ?_ ?_
    · (simp (maxDischargeDepth := 6) [LTB, HLt_set, ltL_take, ltL_drop, ltL_rep, ltL_set, upd, eset, hH, hHk, hl1, hl2, holt, zlAttrs21] <;> omega)
    (try simp only [wk, wk1, wk0, RB, limBytes, simprocAttr, ne_eq])
    skip
    rw [ix_none (take_all (ge_of h) hno)]

theorem placeF (H : List Ob) (a : Attr) (o : Nat) (name : List UInt8) (ho : H[o]? = some (.var [.str name])) : SCall Try.prog 176 [attrV a, .ref o 0] H (fun r H' => r = .bool (a.name.text == name) ∧ H' = H) := by
  have holt := lt_of_get ho
  have hgl : ∀ L, (H ++ L)[o]? = some (.var [.str name]) := fun L => by rw [List.getElem?_append_left holt]; exact ho
  unfold attrV
  refine SCall.of_good fun hH => ?_
  have hHk := HLt.add hH
  refine SCall.of_code Tok Try.func176 rfl Try.call176 (n := 9) rfl (by simp) (rs := [.tmp 3]) rfl ?_
  refine EWn.to ?_
  refine EWn.of_c Tok mixed (own := false) keep176 tab176 (by kernel_rfl) ?_
  (repeat simp -dsimp only [zrAttrs21, hgl, RB, TB, keep176, tab176, xindexAddr, xindex, xslice, xconvert, xlen, ewOp, FreeW, StabW, SameW, ChangeW, AddW, BaseW, limBytes, simprocAttr, ne_eq])
  refine RetW.auto0 false _ (by first | rfl | exact (List.append_nil _).symm) ?_ ?_
  · (simp (maxDischargeDepth := 6) [LTB, HLt_set, ltL_take, ltL_drop, ltL_rep, ltL_set, upd, eset, hH, hHk, zlAttrs21] <;> omega)
  (try simp only [wk, wk1, wk0, RB, limBytes, simprocAttr, ne_eq])
  skip
def placeA (l : List Attr) (name : List UInt8) : Int := ix (fun a => a.name.text == name) l
theorem aPlace (H : List Ob) (l : List Attr) (name : List UInt8) : SCall Try.prog 153 [.slice (l.map attrV), .str name] H (fun r H' => r = .int .i64 (placeA l name) ∧ H' = H) := by
  refine SCall.of_good fun hH => ?_
  have hHk := HLt.add hH
  refine SCall.of_code Tok Try.func153 rfl Try.call153 (n := 8) rfl (by simp) (rs := [.tmp 4]) rfl ?_
  refine EWn.to ?_
  refine EWn.of_c Tok mixed (own := false) keep153 tab153 (by kernel_rfl) ?_
  (repeat simp -dsimp only [zrAttrs21, RB, TB, keep153, tab153, xindexAddr, xindex, xslice, xconvert, xlen, ewOp, FreeW, StabW, SameW, ChangeW, AddW, BaseW, limBytes, simprocAttr, ne_eq])
  (refine SCall.then (indexFunc_attr _ l _ [] [.ref H.length 0] (fun a => a.name.text == name) (fun x _ => placeF _ x H.length name (by simp)) ⟨trivial, by simp [ltL, V.lt]⟩) ?_)
  (repeat simp -dsimp only [zrAttrs21, RB, TB, keep153, tab153, xindexAddr, xindex, xslice, xconvert, xlen, ewOp, FreeW, StabW, SameW, ChangeW, AddW, BaseW, limBytes, simprocAttr, ne_eq])
  refine RetW.auto0 false _ (by first | rfl | exact (List.append_nil _).symm) ?_ ?_
  · (simp (maxDischargeDepth := 6) [LTB, HLt_set, ltL_take, ltL_drop, ltL_rep, ltL_set, upd, eset, hH, hHk, zlAttrs21] <;> omega)
  (try simp only [wk, wk1, wk0, RB, limBytes, simprocAttr, ne_eq])
  skip
  rfl
theorem aPlaceB (H : List Ob) (l : List Attr) (name : List UInt8) (x : V) (hx : Bo H x (.slice (l.map attrV))) : SCall Try.prog 153 [x, .str name] H (fun r H' => r = .int .i64 (placeA l name) ∧ H' = H) := by
  refine SCall.borrow (args' := [.slice (l.map attrV), .str name]) ⟨hx, ⟨rfl, trivial⟩, trivial⟩ ?_
  refine (aPlace [] l name).mono ?_
  rintro r H' ⟨rfl, _⟩
  exact ⟨rfl, trivial⟩
theorem aAll (H : List Ob) (l : List Attr) (hl : ∀ a ∈ l, okA a) (hs : l.length ≤ 1000000000000) : SCall Try.prog 180 [.slice (l.map attrV)] H (fun r H' => r = .vec H.length (1 + l.length) 0 l.length ∧ H' = H ++ [.vec (1 + l.length) 4 ((l.map ownA).map attrV)]) := by
  refine SCall.of_good fun hH => ?_
  have hHk := HLt.add hH
  refine SCall.of_code Tok Try.func180 rfl Try.call180 (n := 19) rfl (by simp) (rs := [.tmp 2]) rfl ?_
  refine EWn.to ?_
  refine EWn.of_c Tok mixed (own := false) keep180 tab180 (by kernel_rfl) ?_
  (repeat simp -dsimp only [zrAttrs21, RB, TB, keep180, tab180, xindexAddr, xindex, xslice, xconvert, xlen, ewOp, FreeW, StabW, SameW, ChangeW, AddW, BaseW, limBytes, simprocAttr, ne_eq])
  refine EWn.ghost (Gho.adopt 3 4 rfl) ?_
  refine EWn.loopE (ι := (Nat)) (fun (i : (Nat)) => i ≤ l.length) (fun (i : (Nat)) => l.length - i) (fun (i : (Nat)) => [(3, .vec H.length (1 + i) 0 i), (8, .int .i64 i)]) (fun (i : (Nat)) => H ++ [.vec (1 + i) 4 (((l.take i).map ownA).map attrV)]) (0) ?_ ?_ ?_ ?_ ?_
  · first | rfl | simp [upd, eset]
  · first | rfl | (simp; done) | exact (set_same (by assumption)).symm
  · rintro i hok; exact ⟨by first | (simp; done) | (simp; omega), by (simp (maxDischargeDepth := 6) [LTB, HLt_set, ltL_take, ltL_drop, ltL_rep, ltL_set, upd, eset, hH, hHk, zlAttrs21] <;> omega), by (simp (maxDischargeDepth := 6) [LTB, HLt_set, ltL_take, ltL_drop, ltL_rep, ltL_set, upd, eset, hH, hHk, zlAttrs21] <;> omega)⟩
  · omega
  rintro i hi
  refine EWn.of_c Tok mixed (own := false) keep180 tab180 (by kernel_rfl) ?_
  (repeat simp -dsimp only [zrAttrs21, RB, TB, keep180, tab180, xindexAddr, xindex, xslice, xconvert, xlen, ewOp, FreeW, StabW, SameW, ChangeW, AddW, BaseW, limBytes, simprocAttr, ne_eq])
  refine IfW.intro (fun h => ?_) (fun h => ?_)
  · have hlt := lt_of h
    (repeat (first | simp -dsimp only [zrAttrs21, h, at_map attrV l i hlt, attrV, RB, TB, keep180, tab180, xindexAddr, xindex, xslice, xconvert, xlen, ewOp, FreeW, StabW, SameW, ChangeW, AddW, BaseW, limBytes, simprocAttr, ne_eq] | ((with_reducible refine Need.intro ?_ ?_); (omega))))
    (refine SCall.then (aOwn _ l[i] (hl _ (List.getElem_mem hlt))) ?_)
    (repeat (first | simp -dsimp only [zrAttrs21, attrV, RB, TB, keep180, tab180, xindexAddr, xindex, xslice, xconvert, xlen, ewOp, FreeW, StabW, SameW, ChangeW, AddW, BaseW, limBytes, simprocAttr, ne_eq] | ((with_reducible refine Need.intro ?_ ?_); (first | trivial | (simp; omega)))))
    rw [wrapI (by omega)]
    have hsucc : (l.take (i + 1)).map ownA = (l.take i).map ownA ++ [ownA l[i]] := by rw [List.take_succ_eq_append_getElem hlt, List.map_append]; rfl
    refine UpTo.here ⟨i + 1, hlt, by simp only; omega, by simp [upd, eset] <;> omega, ⟨_, by simp only [hsucc]; simp [attrV]; rfl⟩⟩
  · (repeat simp -dsimp only [zrAttrs21, h, RB, TB, keep180, tab180, xindexAddr, xindex, xslice, xconvert, xlen, ewOp, FreeW, StabW, SameW, ChangeW, AddW, BaseW, limBytes, simprocAttr, ne_eq])
    have hi2 : i = l.length := Nat.le_antisymm hi (ge_of h)
    subst hi2
    rw [List.take_length]
    refine RetW.auto false [.vec (1 + l.length) 4 ((l.map ownA).map attrV)] _ (by first | rfl | simp) ?_ ?_ ?_
    · (simp (maxDischargeDepth := 6) [LTB, HLt_set, ltL_take, ltL_drop, ltL_rep, ltL_set, upd, eset, hH, hHk, zlAttrs21] <;> omega)
    · (simp (maxDischargeDepth := 6) [LTB, HLt_set, ltL_take, ltL_drop, ltL_rep, ltL_set, upd, eset, hH, hHk, zlAttrs21] <;> omega)
    (try simp only [wk, wk1, wk0, RB, limBytes, simprocAttr, ne_eq])
    (try (rw [List.take_of_length_le]; rotate_left 1; (· first | (simp; done) | (simp; omega) | omega)))
    simp
def getA (l : List Attr) (name : List UInt8) : Str × Bool := match l.find? (fun a => a.name.text == name) with
  | some a => (fixS a.value, true)
  | none => (zeroS, false)
theorem place_find (l : List Attr) (name : List UInt8) : (placeA l name < 0 ∧ l.find? (fun a => a.name.text == name) = none) ∨ ∃ i : Nat, ∃ h : i < l.length, placeA l name = i ∧ l.find? (fun a => a.name.text == name) = some l[i] ∧ (l[i].name.text == name) = true := by
  unfold placeA
  by_cases hany : ∃ x ∈ l, (x.name.text == name) = true
  · right
    have hlt := List.findIdx_lt_length.2 hany
    refine ⟨l.findIdx (fun a => a.name.text == name), hlt, by unfold ix; rw [if_pos hlt], ?_, List.findIdx_getElem (p := fun a : Attr => a.name.text == name) (xs := l) (w := hlt)⟩
    rw [List.find?_eq_some_iff_getElem]
    refine ⟨List.findIdx_getElem (p := fun a : Attr => a.name.text == name) (xs := l) (w := hlt), _, hlt, rfl, fun j hj => ?_⟩
    have := List.not_of_lt_findIdx hj
    simpa using this
  · left
    refine ⟨by rw [ix_none (fun x hx => by cases h : x.name.text == name with | false => rfl | true => exact absurd ⟨x, hx, h⟩ hany)]; omega, ?_⟩
    rw [List.find?_eq_none]
    exact fun x hx h => hany ⟨x, hx, h⟩
def putA (l : List Attr) (a : Attr) : List Attr := if placeA l a.name.text < 0 then l ++ [a] else l.set (placeA l a.name.text).toNat a
theorem place_own (l : List Attr) (name : List UInt8) : placeA (l.map ownA) name = placeA l name := by
  unfold placeA ix
  rw [List.findIdx_map, List.length_map]
  rfl
theorem aPut (H : List Ob) (l : List Attr) (a : Attr) (hl : ∀ a ∈ l, okA a) (ha : okA a) (hs : l.length ≤ 1000000000000) : SCall Try.prog 168 [.slice (l.map attrV), attrV a] H (fun r H' => r = .slice ((putA (l.map ownA) (ownA a)).map attrV) ∧ H' = H) := by
  have hav : attrV a = .agg [.str a.name.text, .slice (a.name.runs.map runV), .str a.value.text, .slice (a.value.runs.map runV)] := rfl
  rw [hav]
  refine SCall.of_good fun hH => ?_
  have hHk := HLt.add hH
  refine SCall.of_code Tok Try.func168 rfl Try.call168 (n := 27) rfl (by simp) (rs := [.tmp 4]) rfl ?_
  refine EWn.to ?_
  refine EWn.of_c Tok mixed (own := false) keep168 tab168 (by kernel_rfl) ?_
  (repeat simp -dsimp only [zrAttrs21, RB, TB, keep168, tab168, xindexAddr, xindex, xslice, xconvert, xlen, ewOp, FreeW, StabW, SameW, ChangeW, AddW, BaseW, limBytes, simprocAttr, ne_eq])
  (refine SCall.then (aAll _ l hl hs) ?_)
  (repeat simp -dsimp only [zrAttrs21, RB, TB, keep168, tab168, xindexAddr, xindex, xslice, xconvert, xlen, ewOp, FreeW, StabW, SameW, ChangeW, AddW, BaseW, limBytes, simprocAttr, ne_eq])
  refine SCall.then (aPlaceB _ (l.map ownA) a.name.text _ (Bo.vec (l := (l.map ownA).map attrV) (by simp; rfl) (by simp) (lt_attr 0 _))) ?_
  (repeat simp -dsimp only [zrAttrs21, place_own, RB, TB, keep168, tab168, xindexAddr, xindex, xslice, xconvert, xlen, ewOp, FreeW, StabW, SameW, ChangeW, AddW, BaseW, limBytes, simprocAttr, ne_eq])
  have hpo := place_own l a.name.text
  rcases place_find l a.name.text with ⟨hp, hf⟩ | ⟨i, hi, hp, hf, _⟩
  · (repeat simp -dsimp only [zrAttrs21, show decide (placeA l a.name.text ≥ 0) = false from decide_eq_false (by omega), RB, TB, keep168, tab168, xindexAddr, xindex, xslice, xconvert, xlen, ewOp, FreeW, StabW, SameW, ChangeW, AddW, BaseW, limBytes, simprocAttr, ne_eq])
    (refine SCall.then (aOwn _ a ha) ?_)
    (repeat (first | simp -dsimp only [zrAttrs21, RB, TB, keep168, tab168, xindexAddr, xindex, xslice, xconvert, xlen, ewOp, FreeW, StabW, SameW, ChangeW, AddW, BaseW, limBytes, simprocAttr, ne_eq] | ((with_reducible refine Need.intro ?_ ?_); (first | trivial | omega))))
    refine RetW.auto0 false _ (by first | rfl | exact (List.append_nil _).symm) ?_ ?_
    · (simp (maxDischargeDepth := 6) [LTB, HLt_set, ltL_take, ltL_drop, ltL_rep, ltL_set, upd, eset, hH, hHk, zlAttrs21] <;> omega)
    (try simp only [wk, wk1, wk0, RB, limBytes, simprocAttr, ne_eq])
    (try (rw [List.take_of_length_le]; rotate_left 1; (· first | (simp; done) | (simp; omega) | omega)))
    have e : putA (l.map ownA) (ownA a) = l.map ownA ++ [ownA a] := by unfold putA; rw [show (ownA a).name.text = a.name.text from rfl, hpo, if_pos hp]
    rw [e]
    simp
  · rw [hp]
    (repeat simp -dsimp only [zrAttrs21, show decide ((i : Int) ≥ 0) = true from by simp, RB, TB, keep168, tab168, xindexAddr, xindex, xslice, xconvert, xlen, ewOp, FreeW, StabW, SameW, ChangeW, AddW, BaseW, limBytes, simprocAttr, ne_eq])
    (refine SCall.then (aOwn _ a ha) ?_)
    (repeat (first | simp -dsimp only [zrAttrs21, at_map attrV (l.map ownA) i (by simpa using hi), attrV, RB, TB, keep168, tab168, xindexAddr, xindex, xslice, xconvert, xlen, ewOp, FreeW, StabW, SameW, ChangeW, AddW, BaseW, limBytes, simprocAttr, ne_eq] | ((with_reducible refine Need.intro ?_ ?_); (first | trivial | omega))))
    refine RetW.auto0 false _ (by first | rfl | exact (List.append_nil _).symm) ?_ ?_
    · (simp (maxDischargeDepth := 6) [LTB, HLt_set, ltL_take, ltL_drop, ltL_rep, ltL_set, upd, eset, hH, hHk, zlAttrs21] <;> omega)
    (try simp only [wk, wk1, wk0, RB, limBytes, simprocAttr, ne_eq])
    (try (rw [List.take_of_length_le]; rotate_left 1; (· first | (simp; done) | (simp; omega) | omega)))
    have e : putA (l.map ownA) (ownA a) = (l.map ownA).set i (ownA a) := by unfold putA; rw [show (ownA a).name.text = a.name.text from rfl, hpo, hp, if_neg (by omega)]; rfl
    rw [e]
    simp [attrV]
end Go.Proofs.Ytjplgbalpnlanaa

/- The walks of package attrs: Drop, Once, alike, Changes, Same. -/
set_option maxHeartbeats 600000
set_option linter.unusedSimpArgs false
set_option linter.unusedVariables false
set_option maxRecDepth 100000
namespace Go.Proofs.Ytjplgbalpnlanaa
open Go Go.EL
theorem zrAttrs31 : type_of% (And.intro (And.intro (And.intro (And.intro (@st_run) (@sz_run)) (And.intro (@st1_run) (@cl_run))) (And.intro (And.intro (@st_Str) (@sz_Str)) (And.intro (@st1_Str) (@cl_Str)))) (And.intro (And.intro (And.intro (@st_c) (@sz_c)) (And.intro (@st1_c) (@cl_c))) (And.intro (And.intro (@st_attr) (@sz_attr)) (And.intro (@st1_attr) (@cl_attr))))) := And.intro (And.intro (And.intro (And.intro (@st_run) (@sz_run)) (And.intro (@st1_run) (@cl_run))) (And.intro (And.intro (@st_Str) (@sz_Str)) (And.intro (@st1_Str) (@cl_Str)))) (And.intro (And.intro (And.intro (@st_c) (@sz_c)) (And.intro (@st1_c) (@cl_c))) (And.intro (And.intro (@st_attr) (@sz_attr)) (And.intro (@st1_attr) (@cl_attr))))
theorem zlAttrs31 : type_of% (And.intro (And.intro (And.intro (And.intro (@lt_vi) (@lt_str)) (And.intro (@lt_vb) (@ltc_str))) (And.intro (And.intro (@ltc_vi) (@lt_run)) (And.intro (@lt1_run) (@ltc_run)))) (And.intro (And.intro (And.intro (@lt_Str) (@lt1_Str)) (And.intro (@ltc_Str) (@lt_c))) (And.intro (And.intro (@lt1_c) (@ltc_c)) (And.intro (@lt_attr) (And.intro (@lt1_attr) (@ltc_attr)))))) := And.intro (And.intro (And.intro (And.intro (@lt_vi) (@lt_str)) (And.intro (@lt_vb) (@ltc_str))) (And.intro (And.intro (@ltc_vi) (@lt_run)) (And.intro (@lt1_run) (@ltc_run)))) (And.intro (And.intro (And.intro (@lt_Str) (@lt1_Str)) (And.intro (@ltc_Str) (@lt_c))) (And.intro (And.intro (@lt1_c) (@ltc_c)) (And.intro (@lt_attr) (And.intro (@lt1_attr) (@ltc_attr)))))
theorem deleteFunc_attr (H : List Ob) (l : List (Attr)) (k : FuncId) (fi ca : List V) (p : Attr → Bool) (hlf : ltL H.length fi ∧ ltL H.length ca) (o ver n : Nat) (hf : ∀ x ∈ l, ∀ (L : List (Attr)) (E : List Ob), SCall Try.prog k (fi ++ attrV x :: ca) (H.set o (.vec ver 4 (L.map attrV)) ++ E) (fun r H' => r = .bool (p x) ∧ H' = H.set o (.vec ver 4 (L.map attrV)) ++ E)) (ho : H[o]? = some (.vec ver 4 (l.map attrV))) (hn : n = l.length) (hb : l.length ≤ 1000000000) :
    SCall Try.prog 181 [.vec o ver 0 n, .fn (.func k) fi ca] H (fun r H' => r = .vec o ver 0 (l.filter fun x => !p x).length ∧ H' = H.set o (.vec ver 4 ((l.filter fun x => !p x).map attrV ++ List.replicate (l.length - (l.filter fun x => !p x).length) (.agg [.str [], .fslice [], .str [], .fslice []])))) := by
  subst hn
  have holt := lt_of_get ho
  have hlf1 := hlf.1
  have hlf2 := hlf.2
  have hll : ltL H.length (l.map attrV) := lt_attr _ _
  refine SCall.of_good fun hH => ?_
  have hHk := HLt.add hH
  refine SCall.of_code Tok Try.func181 rfl Try.call181 (n := 42) rfl (by simp) (rs := [.tmp 4]) rfl ?_
  refine EWn.to ?_
  refine EWn.of_c Tok mixed (own := false) keep181 tab181 (by kernel_rfl) ?_
  (repeat simp -dsimp only [zrAttrs31, RB, TB, keep181, tab181, xindexAddr, xindex, xslice, xconvert, xlen, ewOp, FreeW, StabW, SameW, ChangeW, AddW, BaseW, limBytes, simprocAttr, ne_eq])
  have hf0 : ∀ x ∈ l, SCall Try.prog k (fi ++ attrV x :: ca) H (fun r H' => r = .bool (p x) ∧ H' = H) := fun x hx => by have := hf x hx l []; rwa [set_same ho, List.append_nil] at this
  (refine SCall.then (indexFunc_attr_vec _ l k fi ca p hf0 hlf _ _ _ ho rfl (by omega)) ?_)
  (repeat simp -dsimp only [zrAttrs31, RB, TB, keep181, tab181, xindexAddr, xindex, xslice, xconvert, xlen, ewOp, FreeW, StabW, SameW, ChangeW, AddW, BaseW, limBytes, simprocAttr, ne_eq])
  by_cases hany : ∃ x ∈ l, p x = true
  · obtain ⟨i0, hi0, hp0, hno⟩ : ∃ i0, ∃ h : i0 < l.length, p l[i0] = true ∧ ∀ x ∈ l.take i0, p x = false := by
      have hlt := List.findIdx_lt_length.2 hany
      refine ⟨l.findIdx p, hlt, List.findIdx_getElem, fun x hx => ?_⟩
      obtain ⟨j, hj, rfl⟩ := List.mem_take_iff_getElem.1 hx
      have := List.not_of_lt_findIdx (p := p) (xs := l) (i := j) (by omega)
      simpa using this
    have hix := ix_hit hi0 hp0 hno
    rw [hix]
    have hne : ((i0 : Int) == -1) = false := by simp
    (repeat simp -dsimp only [zrAttrs31, hne, RB, TB, keep181, tab181, xindexAddr, xindex, xslice, xconvert, xlen, ewOp, FreeW, StabW, SameW, ChangeW, AddW, BaseW, limBytes, simprocAttr, ne_eq])
    rw [wrapI (by omega)]
    refine EWn.loopE (ι := (Nat) × (Nat) × (List (Attr))) (fun (x_ : (Nat) × (Nat) × (List (Attr))) => match x_ with | (i, j, L) => i < j ∧ j ≤ l.length ∧ L.length = l.length ∧ L.take i = (l.take j).filter (fun x => !p x) ∧ L.drop j = l.drop j) (fun (x_ : (Nat) × (Nat) × (List (Attr))) => match x_ with | (i, j, L) => l.length - j) (fun (x_ : (Nat) × (Nat) × (List (Attr))) => match x_ with | (i, j, L) => [(5, .int .i64 i), (6, .int .i64 j)]) (fun (x_ : (Nat) × (Nat) × (List (Attr))) => match x_ with | (i, j, L) => H.set o (.vec ver 4 (L.map attrV))) (i0, i0 + 1, l) ?_ ?_ ?_ ?_ ?_
    · first | rfl | simp [upd, eset]
    · first | rfl | (simp; done) | exact (set_same (by assumption)).symm
    · rintro ⟨i, j, L⟩ hok; exact ⟨by first | (simp; done) | (simp; omega), by (simp (maxDischargeDepth := 6) [LTB, HLt_set, ltL_take, ltL_drop, ltL_rep, ltL_set, upd, eset, hH, hHk, hlf1, hlf2, hll, holt, zlAttrs31] <;> omega), by (simp (maxDischargeDepth := 6) [LTB, HLt_set, ltL_take, ltL_drop, ltL_rep, ltL_set, upd, eset, hH, hHk, hlf1, hlf2, hll, holt, zlAttrs31] <;> omega)⟩
    · refine ⟨by omega, by omega, rfl, ?_, rfl⟩
      rw [List.take_succ_eq_append_getElem hi0, List.filter_append, List.filter_eq_self.2 (fun x hx => by simp [hno x hx])]
      simp [hp0]
    rintro ⟨i, j, L⟩ ⟨hij, hj, hL, ht, hd⟩
    refine EWn.of_c Tok mixed (own := false) keep181 tab181 (by kernel_rfl) ?_
    (repeat simp -dsimp only [zrAttrs31, List.getElem?_set_self holt, List.set_set, getset holt, setset holt, RB, TB, keep181, tab181, xindexAddr, xindex, xslice, xconvert, xlen, ewOp, FreeW, StabW, SameW, ChangeW, AddW, BaseW, limBytes, simprocAttr, ne_eq])
    refine IfW.intro (fun h => ?_) (fun h => ?_)
    · have hlt := lt_of h
      have hLj : L[j]'(by omega) = l[j] := by
        have := congrArg (fun x => x[0]?) hd
        simp only [List.getElem?_drop, Nat.add_zero] at this
        rw [List.getElem?_eq_getElem (by omega), List.getElem?_eq_getElem hlt] at this
        injection this
      (repeat (first | simp -dsimp only [zrAttrs31, h, List.getElem?_set_self holt, List.set_set, getset holt, setset holt, at_map attrV L j (by omega), attrV, hLj, RB, TB, keep181, tab181, xindexAddr, xindex, xslice, xconvert, xlen, ewOp, FreeW, StabW, SameW, ChangeW, AddW, BaseW, limBytes, simprocAttr, ne_eq] | ((with_reducible refine Need.intro ?_ ?_); (omega))))
      first | refine SCall.then (hf l[j] (List.getElem_mem hlt) L []) ?_ | (refine SCall.congr (H' := H.set o (.vec ver 4 (L.map attrV)) ++ []) rfl (List.append_nil _).symm ▸ ?_; refine SCall.then (hf l[j] (List.getElem_mem hlt) L []) ?_) | refine SCall.then (hf l[j] (List.getElem_mem hlt) L _) ?_
      (repeat simp -dsimp only [zrAttrs31, RB, TB, keep181, tab181, xindexAddr, xindex, xslice, xconvert, xlen, ewOp, FreeW, StabW, SameW, ChangeW, AddW, BaseW, limBytes, simprocAttr, ne_eq])
      have htk : l.take (j + 1) = l.take j ++ [l[j]] := List.take_succ_eq_append_getElem hlt
      have hdk : L.drop (j + 1) = l.drop (j + 1) := by rw [← List.drop_drop, hd, List.drop_drop]
      refine IfW.intro (fun hb => ?_) (fun hb => ?_)
      · (repeat simp -dsimp only [zrAttrs31, hb, RB, TB, keep181, tab181, xindexAddr, xindex, xslice, xconvert, xlen, ewOp, FreeW, StabW, SameW, ChangeW, AddW, BaseW, limBytes, simprocAttr, ne_eq])
        rw [wrapI (by omega)]
        refine UpTo.here ⟨(i, j + 1, L), ?_, by first | omega | (simp only [List.length_append, List.length_cons, List.length_nil]; omega), by simp [upd, eset], ⟨_, by simp; try rfl⟩⟩
        exact ⟨by omega, hlt, hL, by rw [ht, htk, List.filter_append]; simp [hb], hdk⟩
      · have hiL : i < L.length := by omega
        (repeat (first | simp -dsimp only [zrAttrs31, hb, List.getElem?_set_self holt, List.set_set, getset holt, setset holt, at_map attrV L i hiL, attrV, RB, TB, keep181, tab181, xindexAddr, xindex, xslice, xconvert, xlen, ewOp, FreeW, StabW, SameW, ChangeW, AddW, BaseW, limBytes, simprocAttr, ne_eq] | ((with_reducible refine Need.intro ?_ ?_); (first | trivial | omega))))
        rw [wrapI (by omega), wrapI (by omega)]
        refine UpTo.here ⟨(i + 1, j + 1, L.set i l[j]), ?_, by first | omega | (simp only [List.length_append, List.length_cons, List.length_nil]; omega), by simp [upd, eset], ⟨_, by simp; try rfl⟩⟩
        refine ⟨by omega, hlt, by simp [hL], ?_, ?_⟩
        · rw [List.take_succ_eq_append_getElem (by simpa using hiL), htk, List.filter_append, List.getElem_set_self, List.take_set_of_le (Nat.le_refl _), ht]
          simp [hb]
        · rw [List.drop_set_of_lt (by omega), hdk]
    · (repeat (first | simp -dsimp only [zrAttrs31, h, List.getElem?_set_self holt, List.set_set, getset holt, setset holt, RB, TB, keep181, tab181, xindexAddr, xindex, xslice, xconvert, xlen, ewOp, FreeW, StabW, SameW, ChangeW, AddW, BaseW, limBytes, simprocAttr, ne_eq] | ((with_reducible refine Need.intro ?_ ?_); (first | omega | (simp; omega)))))
      have hjl : j = l.length := Nat.le_antisymm hj (ge_of h)
      subst hjl
      rw [List.take_length] at ht
      have hfl : (l.filter fun x => !p x).length = i := by rw [← ht, List.length_take]; omega
      refine RetW.keep false (by simp) ?_ ?_ ?_
      · (simp (maxDischargeDepth := 6) [LTB, HLt_set, ltL_take, ltL_drop, ltL_rep, ltL_set, upd, eset, hH, hHk, hlf1, hlf2, hll, holt, zlAttrs31] <;> omega)
      · (simp (maxDischargeDepth := 6) [LTB, HLt_set, ltL_take, ltL_drop, ltL_rep, ltL_set, upd, eset, hH, hHk, hlf1, hlf2, hll, holt, zlAttrs31] <;> omega)
      rw [hfl]
      have hno2 : ¬ H.length ≤ o := by omega
      simp [wk, wk1, wk0, hno2, ← ht, List.map_take, List.drop_of_length_le (show L.length ≤ i + (l.length - i) by omega)]
  · have hix : ix p l = -1 := ix_none fun x hx => by cases h : p x with
      | false => rfl
      | true => exact absurd ⟨x, hx, h⟩ hany
    rw [hix]
    (repeat simp -dsimp only [zrAttrs31, RB, TB, keep181, tab181, xindexAddr, xindex, xslice, xconvert, xlen, ewOp, FreeW, StabW, SameW, ChangeW, AddW, BaseW, limBytes, simprocAttr, ne_eq])
    have hfe : (l.filter fun x => !p x) = l := List.filter_eq_self.2 fun x hx => by
      cases h : p x with
      | false => rfl
      | true => exact absurd ⟨x, hx, h⟩ hany
    refine RetW.keep false (Nat.le_refl _) hH ?_ ?_
    · (simp (maxDischargeDepth := 6) [LTB, HLt_set, ltL_take, ltL_drop, ltL_rep, ltL_set, upd, eset, hH, hHk, hlf1, hlf2, hll, holt, zlAttrs31] <;> omega)
    have : ¬ H.length ≤ o := by omega
    simp [wk, wk1, wk0, this, hfe, set_same ho]

theorem dropF (H : List Ob) (a : Attr) (o : Nat) (name : List UInt8) (ho : H[o]? = some (.var [.str name])) : SCall Try.prog 182 [attrV a, .ref o 0] H (fun r H' => r = .bool (a.name.text == name) ∧ H' = H) := by
  have holt := lt_of_get ho
  have hgl : ∀ L, (H ++ L)[o]? = some (.var [.str name]) := fun L => by rw [List.getElem?_append_left holt]; exact ho
  unfold attrV
  refine SCall.of_good fun hH => ?_
  have hHk := HLt.add hH
  refine SCall.of_code Tok Try.func182 rfl Try.call182 (n := 9) rfl (by simp) (rs := [.tmp 3]) rfl ?_
  refine EWn.to ?_
  refine EWn.of_c Tok mixed (own := false) keep182 tab182 (by kernel_rfl) ?_
  (repeat simp -dsimp only [zrAttrs31, hgl, RB, TB, keep182, tab182, xindexAddr, xindex, xslice, xconvert, xlen, ewOp, FreeW, StabW, SameW, ChangeW, AddW, BaseW, limBytes, simprocAttr, ne_eq])
  refine RetW.auto0 false _ (by first | rfl | exact (List.append_nil _).symm) ?_ ?_
  · (simp (maxDischargeDepth := 6) [LTB, HLt_set, ltL_take, ltL_drop, ltL_rep, ltL_set, upd, eset, hH, hHk, zlAttrs31] <;> omega)
  (try simp only [wk, wk1, wk0, RB, limBytes, simprocAttr, ne_eq])
  skip
def dropA (l : List Attr) (name : List UInt8) : List Attr := l.filter fun a => !(a.name.text == name)
theorem aDrop (H : List Ob) (l : List Attr) (name : List UInt8) (hl : ∀ a ∈ l, okA a) (hs : l.length ≤ 1000000000) : SCall Try.prog 172 [.slice (l.map attrV), .str name] H (fun r H' => r = .slice ((dropA (l.map ownA) name).map attrV) ∧ H' = H) := by
  refine SCall.of_good fun hH => ?_
  have hHk := HLt.add hH
  refine SCall.of_code Tok Try.func172 rfl Try.call172 (n := 9) rfl (by simp) (rs := [.tmp 4]) rfl ?_
  refine EWn.to ?_
  refine EWn.of_c Tok mixed (own := false) keep172 tab172 (by kernel_rfl) ?_
  (repeat simp -dsimp only [zrAttrs31, RB, TB, keep172, tab172, xindexAddr, xindex, xslice, xconvert, xlen, ewOp, FreeW, StabW, SameW, ChangeW, AddW, BaseW, limBytes, simprocAttr, ne_eq])
  (refine SCall.then (aAll _ l hl (by omega)) ?_)
  (repeat simp -dsimp only [zrAttrs31, RB, TB, keep172, tab172, xindexAddr, xindex, xslice, xconvert, xlen, ewOp, FreeW, StabW, SameW, ChangeW, AddW, BaseW, limBytes, simprocAttr, ne_eq])
  refine SCall.then (deleteFunc_attr _ (l.map ownA) _ [] [.ref H.length 0] (fun a => a.name.text == name) ⟨trivial, by simp [ltL, V.lt]⟩ (H.length + 1) (1 + l.length) _ (fun x _ L E => dropF _ x H.length name (by simp)) (by simp) (by simp) (by simpa using hs)) ?_
  (repeat simp -dsimp only [zrAttrs31, RB, TB, keep172, tab172, xindexAddr, xindex, xslice, xconvert, xlen, ewOp, FreeW, StabW, SameW, ChangeW, AddW, BaseW, limBytes, simprocAttr, ne_eq])
  rw [show ((l.map ownA).filter fun x => !x.name.text == name) = dropA (l.map ownA) name from rfl]
  generalize dropA (l.map ownA) name = D
  refine RetW.auto0 false _ (by first | rfl | exact (List.append_nil _).symm) ?_ ?_
  · (simp (maxDischargeDepth := 6) [LTB, HLt_set, ltL_take, ltL_drop, ltL_rep, ltL_set, upd, eset, hH, hHk, zlAttrs31] <;> omega)
  (try simp only [wk, wk1, wk0, RB, limBytes, simprocAttr, ne_eq])
  skip
  rw [List.take_left' (by simp)]
  simp
def onceA : List Attr → List Attr → List Attr
  | [], acc => acc
  | a :: l, acc => onceA l (if placeA acc a.name.text < 0 then acc ++ [ownA a] else acc)
theorem onceA_append : ∀ (a b acc : List Attr), onceA (a ++ b) acc = onceA b (onceA a acc)
  | [], _, _ => rfl
  | x :: a, b, acc => by simp only [List.cons_append, onceA]; exact onceA_append a b _
theorem onceA_len : ∀ (l acc : List Attr), (onceA l acc).length ≤ l.length + acc.length
  | [], acc => by simp [onceA]
  | a :: l, acc => by
    simp only [onceA]
    split
    · have := onceA_len l (acc ++ [ownA a]); simp at this ⊢; omega
    · have := onceA_len l acc; simp; omega
theorem onceA_ok : ∀ (l acc : List Attr), (∀ a ∈ l, okA a) → (∀ a ∈ acc, okA a) → ∀ a ∈ onceA l acc, okA a
  | [], acc, _, h => h
  | x :: l, acc, hl, h => by
    simp only [onceA]
    split
    · refine onceA_ok l _ (fun a ha => hl a (by simp [ha])) fun a ha => ?_
      rcases List.mem_append.1 ha with ha | ha
      · exact h a ha
      · rw [List.mem_singleton.1 ha]; exact okA_own (hl x (by simp))
    · exact onceA_ok l _ (fun a ha => hl a (by simp [ha])) h
theorem aOnce (H : List Ob) (l : List Attr) (hl : ∀ a ∈ l, okA a) (hs : l.length ≤ 1000000000) : SCall Try.prog 94 [.slice (l.map attrV)] H (fun r H' => r = .slice ((onceA l []).map attrV) ∧ H' = H) := by
  refine SCall.of_good fun hH => ?_
  have hHk := HLt.add hH
  refine SCall.of_code Tok Try.func94 rfl Try.call94 (n := 25) rfl (by simp) (rs := [.tmp 2]) rfl ?_
  refine EWn.to ?_
  refine EWn.of_c Tok mixed (own := false) keep94 tab94 (by kernel_rfl) ?_
  (repeat simp -dsimp only [zrAttrs31, RB, TB, keep94, tab94, xindexAddr, xindex, xslice, xconvert, xlen, ewOp, FreeW, StabW, SameW, ChangeW, AddW, BaseW, limBytes, simprocAttr, ne_eq])
  refine EWn.ghost (Gho.adopt 3 4 rfl) ?_
  refine EWn.loopE (ι := (Nat) × (Nat)) (fun (x_ : (Nat) × (Nat)) => match x_ with | (i, ver) => i ≤ l.length) (fun (x_ : (Nat) × (Nat)) => match x_ with | (i, ver) => l.length - i) (fun (x_ : (Nat) × (Nat)) => match x_ with | (i, ver) => [(3, .vec H.length ver 0 (onceA (l.take i) []).length), (8, .int .i64 i)]) (fun (x_ : (Nat) × (Nat)) => match x_ with | (i, ver) => H ++ [.vec ver 4 ((onceA (l.take i) []).map attrV)]) (0, 1) ?_ ?_ ?_ ?_ ?_
  · first | rfl | (simp [upd, eset]; done) | (simp [upd, eset, onceA]; done)
  · simp [onceA]
  · rintro ⟨i, ver⟩ hok; exact ⟨by first | (simp; done) | (simp; omega), by (simp (maxDischargeDepth := 6) [LTB, HLt_set, ltL_take, ltL_drop, ltL_rep, ltL_set, upd, eset, hH, hHk, zlAttrs31] <;> omega), by (simp (maxDischargeDepth := 6) [LTB, HLt_set, ltL_take, ltL_drop, ltL_rep, ltL_set, upd, eset, hH, hHk, zlAttrs31] <;> omega)⟩
  · omega
  rintro ⟨i, ver⟩ hi
  have hol := onceA_len (l.take i) []
  refine EWn.of_c Tok mixed (own := false) keep94 tab94 (by kernel_rfl) ?_
  (repeat simp -dsimp only [zrAttrs31, RB, TB, keep94, tab94, xindexAddr, xindex, xslice, xconvert, xlen, ewOp, FreeW, StabW, SameW, ChangeW, AddW, BaseW, limBytes, simprocAttr, ne_eq])
  refine IfW.intro (fun h => ?_) (fun h => ?_)
  · have hlt := lt_of h
    have hsucc : onceA (l.take (i + 1)) [] = if placeA (onceA (l.take i) []) l[i].name.text < 0 then onceA (l.take i) [] ++ [ownA l[i]] else onceA (l.take i) [] := by
      rw [List.take_succ_eq_append_getElem hlt, onceA_append]; rfl
    simp only [List.length_take, List.length_nil] at hol
    generalize onceA (l.take i) [] = acc at *
    (repeat (first | simp -dsimp only [zrAttrs31, h, at_map attrV l i hlt, attrV, RB, TB, keep94, tab94, xindexAddr, xindex, xslice, xconvert, xlen, ewOp, FreeW, StabW, SameW, ChangeW, AddW, BaseW, limBytes, simprocAttr, ne_eq] | ((with_reducible refine Need.intro ?_ ?_); (omega))))
    refine SCall.then (aPlaceB _ acc l[i].name.text _ (Bo.vec (l := acc.map attrV) (by simp; rfl) (by simp) (lt_attr 0 _))) ?_
    (repeat simp -dsimp only [zrAttrs31, RB, TB, keep94, tab94, xindexAddr, xindex, xslice, xconvert, xlen, ewOp, FreeW, StabW, SameW, ChangeW, AddW, BaseW, limBytes, simprocAttr, ne_eq])
    refine IfW.intro (fun hb => ?_) (fun hb => ?_)
    · have hb1 := of_decide_eq_true hb
      rw [if_pos hb1] at hsucc
      (repeat simp -dsimp only [zrAttrs31, hb, RB, TB, keep94, tab94, xindexAddr, xindex, xslice, xconvert, xlen, ewOp, FreeW, StabW, SameW, ChangeW, AddW, BaseW, limBytes, simprocAttr, ne_eq])
      (refine SCall.then (aOwn _ l[i] (hl _ (List.getElem_mem hlt))) ?_)
      (repeat (first | simp -dsimp only [zrAttrs31, RB, TB, keep94, tab94, xindexAddr, xindex, xslice, xconvert, xlen, ewOp, FreeW, StabW, SameW, ChangeW, AddW, BaseW, limBytes, simprocAttr, ne_eq] | ((with_reducible refine Need.intro ?_ ?_); (first | trivial | omega))))
      rw [wrapI (by omega)]
      refine UpTo.here ⟨(i + 1, ver + 1), hlt, by simp only; omega, by simp only [hsucc]; simp [upd, eset], ⟨_, by simp only [hsucc]; simp; rfl⟩⟩
    · have hb1 := of_decide_eq_false hb
      rw [if_neg hb1] at hsucc
      (repeat simp -dsimp only [zrAttrs31, hb, RB, TB, keep94, tab94, xindexAddr, xindex, xslice, xconvert, xlen, ewOp, FreeW, StabW, SameW, ChangeW, AddW, BaseW, limBytes, simprocAttr, ne_eq])
      rw [wrapI (by omega)]
      refine UpTo.here ⟨(i + 1, ver), hlt, by simp only; omega, by simp only [hsucc]; simp [upd, eset], ⟨_, by simp only [hsucc]; simp; rfl⟩⟩
  · (repeat simp -dsimp only [zrAttrs31, h, RB, TB, keep94, tab94, xindexAddr, xindex, xslice, xconvert, xlen, ewOp, FreeW, StabW, SameW, ChangeW, AddW, BaseW, limBytes, simprocAttr, ne_eq])
    have hi2 : i = l.length := Nat.le_antisymm hi (ge_of h)
    subst hi2
    rw [List.take_length]
    refine RetW.auto0 false _ (by first | rfl | exact (List.append_nil _).symm) ?_ ?_
    · (simp (maxDischargeDepth := 6) [LTB, HLt_set, ltL_take, ltL_drop, ltL_rep, ltL_set, upd, eset, hH, hHk, zlAttrs31] <;> omega)
    (try simp only [wk, wk1, wk0, RB, limBytes, simprocAttr, ne_eq])
    (try (rw [List.take_of_length_le]; rotate_left 1; (· first | (simp; done) | (simp; omega) | omega)))
def alikeA (a b : Attr) : Bool := decide (Like a.name b.name) && decide (Like a.value b.value)
def needP (a : List Attr) (x : Attr) : Bool := match a.find? (fun y => y.name.text == x.name.text) with
  | none => true
  | some y => !alikeA y x
def changesA (a b : List Attr) : List Attr × List (List UInt8) :=
  ((onceA b []).filter (needP (onceA a [])), ((onceA a []).filter fun x => decide (placeA (onceA b []) x.name.text < 0)).map fun x => x.name.text)
end Go.Proofs.Ytjplgbalpnlanaa

/- The walks of package mark: Worst, Cut, Cat. -/
set_option maxHeartbeats 600000
set_option linter.unusedSimpArgs false
set_option linter.unusedVariables false
set_option maxRecDepth 100000
namespace Go.Proofs.Ytjplgbalpnlanaa
open Go Go.EL
theorem zrMark21 : type_of% (And.intro (And.intro (And.intro (@st_run) (And.intro (@sz_run) (@st1_run))) (And.intro (@cl_run) (And.intro (@st_Str) (@sz_Str)))) (And.intro (And.intro (@st1_Str) (And.intro (@cl_Str) (@st_c))) (And.intro (@sz_c) (And.intro (@st1_c) (@cl_c))))) := And.intro (And.intro (And.intro (@st_run) (And.intro (@sz_run) (@st1_run))) (And.intro (@cl_run) (And.intro (@st_Str) (@sz_Str)))) (And.intro (And.intro (@st1_Str) (And.intro (@cl_Str) (@st_c))) (And.intro (@sz_c) (And.intro (@st1_c) (@cl_c))))
theorem zlMark21 : type_of% (And.intro (And.intro (And.intro (@lt_vi) (And.intro (@lt_str) (@lt_vb))) (And.intro (And.intro (@ltc_str) (@ltc_vi)) (And.intro (@lt_run) (@lt1_run)))) (And.intro (And.intro (@ltc_run) (And.intro (@lt_Str) (@lt1_Str))) (And.intro (And.intro (@ltc_Str) (@lt_c)) (And.intro (@lt1_c) (@ltc_c))))) := And.intro (And.intro (And.intro (@lt_vi) (And.intro (@lt_str) (@lt_vb))) (And.intro (And.intro (@ltc_str) (@ltc_vi)) (And.intro (@lt_run) (@lt1_run)))) (And.intro (And.intro (@ltc_run) (And.intro (@lt_Str) (@lt1_Str))) (And.intro (And.intro (@ltc_Str) (@lt_c)) (And.intro (@lt1_c) (@ltc_c))))
def worstS (s : Str) : Int := ((fixS s).runs.map Prod.snd).foldl max 0
def cutS (s : Str) (f t : Nat) : Str := if t ≤ f then ⟨[], []⟩ else ⟨(s.text.take t).drop f, rle (((orig s).take t).drop f)⟩
def clip (n : Nat) (a : Int) : Nat := (min (max a 0) n).toNat
theorem seg_step {A B : List Int} {len f t : Nat} {o : Int} : ((A ++ List.replicate len o ++ B).take (min (A.length + len) t)).drop f = ((A ++ List.replicate len o ++ B).take (min A.length t)).drop f ++ List.replicate (min (A.length + len) t - max A.length f) o := by
  by_cases h : t ≤ A.length
  · rw [Nat.min_eq_right h, Nat.min_eq_right (by omega), show t - max A.length f = 0 by omega]
    simp
  · rw [Nat.min_eq_left (show A.length ≤ t by omega)]
    have e1 : (A ++ List.replicate len o ++ B).take (min (A.length + len) t) = A ++ List.replicate (min len (t - A.length)) o := by
      rw [List.append_assoc, show min (A.length + len) t = A.length + min len (t - A.length) by omega, List.take_append, List.take_of_length_le (by omega), Nat.add_sub_cancel_left, List.take_append, List.take_replicate]
      rw [List.length_replicate, show min len (t - A.length) - len = 0 by omega, List.take_zero, List.append_nil, show min (min len (t - A.length)) len = min len (t - A.length) by omega]
    have e2 : (A ++ List.replicate len o ++ B).take A.length = A := by rw [List.append_assoc, List.take_left]
    rw [e1, e2, List.drop_append, List.drop_replicate]
    congr 2
    omega
theorem putR_nat (l : List (Int × Int)) (n o : Int) : putR l n o = putR l (n.toNat : Nat) o := by
  by_cases h : n < 1
  · rw [putR_zero _ _ _ h, putR_zero _ _ _ (by omega)]
  · rw [Int.toNat_of_nonneg (by omega)]
theorem fm_take {α β : Type} (g : α → List β) (l : List α) (i : Nat) : ((l.take i).flatMap g).length ≤ (l.flatMap g).length := by
  conv => rhs; rw [← List.take_append_drop i l]
  rw [List.flatMap_append, List.length_append]
  omega
theorem fm_orig : ∀ l : List Str, (l.flatMap orig).length = (l.flatMap Str.text).length
  | [] => rfl
  | s :: l => by simp only [List.flatMap_cons, List.length_append, orig_len, fm_orig l]
/-- one behind the other -/
def catS (l : List Str) : Str := ⟨l.flatMap Str.text, rle (l.flatMap orig)⟩
theorem mCat (H : List Ob) (l : List Str) (hl : ∀ s ∈ l, okS s) (hs : (l.flatMap Str.text).length ≤ 1000000000) (hll : l.length ≤ 1000000000) : SCall Try.prog 95 [.slice (l.map strV)] H (fun r H' => r = strV (catS l) ∧ H' = H) := by
  refine SCall.of_good fun hH => ?_
  have hHk := HLt.add hH
  refine SCall.of_code Tok Try.func95 rfl Try.call95 (n := 41) rfl (by simp) (rs := [.cell 2 30]) rfl ?_
  refine EWn.to ?_
  refine EWn.of_c Tok mixed (own := false) keep95 tab95 (by kernel_rfl) ?_
  (repeat simp -dsimp only [zrMark21, RB, TB, keep95, tab95, xindexAddr, xindex, xslice, xconvert, xlen, ewOp, FreeW, StabW, SameW, ChangeW, AddW, BaseW, limBytes, simprocAttr, ne_eq])
  refine EWn.ghost (Gho.adoptCell (H.length + 1) 1 2 (by simp only [RB, hget]; rfl) rfl (by simp)) ?_
  simp only [RB, limBytes, simprocAttr, ne_eq]
  refine EWn.ghost (Gho.adopt 4 1 rfl) ?_
  simp only [RB, limBytes, simprocAttr, ne_eq]
  refine EWn.loopE (ι := (Nat) × (Nat) × (Nat)) (fun (x_ : (Nat) × (Nat) × (Nat)) => match x_ with | (i, v1, v2) => i ≤ l.length) (fun (x_ : (Nat) × (Nat) × (Nat)) => match x_ with | (i, v1, v2) => l.length - i) (fun (x_ : (Nat) × (Nat) × (Nat)) => match x_ with | (i, v1, v2) => [(4, .vec (H.length + 3) v2 0 ((l.take i).flatMap Str.text).length), (11, .int .i64 i)]) (fun (x_ : (Nat) × (Nat) × (Nat)) => match x_ with | (i, v1, v2) => H ++ [.var [.str [], .fslice []], .var [.str [], .vec (H.length + 2) v1 0 (rle ((l.take i).flatMap orig)).length], .vec v1 2 ((rle ((l.take i).flatMap orig)).map runV), .vec v2 1 (((l.take i).flatMap Str.text).map vb)]) (0, 1, 1) ?_ ?_ ?_ ?_ ?_
  · first | rfl | (simp [upd, eset]; done) | (simp [upd, eset, rle]; done)
  · simp [rle]
  · rintro ⟨i, v1, v2⟩ hok; exact ⟨by first | (simp; done) | (simp; omega), by (simp (maxDischargeDepth := 6) [LTB, HLt_set, ltL_take, ltL_drop, ltL_rep, ltL_set, upd, eset, hH, hHk, zlMark21] <;> omega), by (simp (maxDischargeDepth := 6) [LTB, HLt_set, ltL_take, ltL_drop, ltL_rep, ltL_set, upd, eset, hH, hHk, zlMark21] <;> omega)⟩
  · omega
  rintro ⟨i, v1, v2⟩ hi
  refine EWn.of_c Tok mixed (own := false) keep95 tab95 (by kernel_rfl) ?_
  (repeat simp -dsimp only [zrMark21, RB, TB, keep95, tab95, xindexAddr, xindex, xslice, xconvert, xlen, ewOp, FreeW, StabW, SameW, ChangeW, AddW, BaseW, limBytes, simprocAttr, ne_eq])
  refine IfW.intro (fun h => ?_) (fun h => ?_)
  · have hlt := lt_of h
    have ht1 : (l.take (i + 1)).flatMap Str.text = (l.take i).flatMap Str.text ++ l[i].text := by
      rw [List.take_succ_eq_append_getElem hlt, List.flatMap_append, List.flatMap_cons, List.flatMap_nil, List.append_nil]
    have ho1 : (l.take (i + 1)).flatMap orig = (l.take i).flatMap orig ++ orig l[i] := by
      rw [List.take_succ_eq_append_getElem hlt, List.flatMap_append, List.flatMap_cons, List.flatMap_nil, List.append_nil]
    have hb1 := fm_take Str.text l (i + 1)
    have hoo := fm_orig (l.take i)
    rw [ht1, List.length_append] at hb1
    have hok := hl l[i] (List.getElem_mem hlt)
    generalize (l.take i).flatMap Str.text = tx at *
    generalize (l.take i).flatMap orig = og at *
    have hn1 : (tx.length + l[i].text.length) * 1 ≤ 140737488355328 := by omega
    (repeat (first | simp -dsimp only [zrMark21, h, at_map strV l i hlt, strV, hn1, RB, TB, keep95, tab95, xindexAddr, xindex, xslice, xconvert, xlen, ewOp, FreeW, StabW, SameW, ChangeW, AddW, BaseW, limBytes, simprocAttr, ne_eq] | ((with_reducible refine Need.intro ?_ ?_); (omega))))
    have hO := orig_len l[i]
    have hrf : (fixS l[i]).runs = rle (orig l[i]) := rfl
    have hun := (unrle_rle_pos (orig l[i])).2
    have huo := unrle_rle (orig l[i])
    have hrll := rle_len (orig l[i])
    (refine SCall.then (mFix _ l[i] hok) ?_)
    (repeat simp -dsimp only [zrMark21, strV, RB, TB, keep95, tab95, xindexAddr, xindex, xslice, xconvert, xlen, ewOp, FreeW, StabW, SameW, ChangeW, AddW, BaseW, limBytes, simprocAttr, ne_eq])
    rw [hrf]
    generalize orig l[i] = O at *
    generalize rle O = rs at *
    refine EWn.loopE (ι := (Nat) × (Nat)) (fun (x_ : (Nat) × (Nat)) => match x_ with | (k, w1) => k ≤ rs.length) (fun (x_ : (Nat) × (Nat)) => match x_ with | (k, w1) => rs.length - k) (fun (x_ : (Nat) × (Nat)) => match x_ with | (k, w1) => [(23, .int .i64 k)]) (fun (x_ : (Nat) × (Nat)) => match x_ with | (k, w1) => H ++ [.var [.str [], .fslice []], .var [.str [], .vec (H.length + 2) w1 0 (rle (og ++ unrle (rs.take k))).length], .vec w1 2 ((rle (og ++ unrle (rs.take k))).map runV), .vec (v2 + 1) 1 ((tx ++ l[i].text).map vb), .var [.str l[i].text, .slice (l[i].runs.map runV)]]) (0, v1) ?_ ?_ ?_ ?_ ?_
    · first | rfl | (simp [upd, eset]; done) | (simp [upd, eset, unrle]; done)
    · simp [unrle]
    · rintro ⟨k, w1⟩ hok; exact ⟨by first | (simp; done) | (simp; omega), by (simp (maxDischargeDepth := 6) [LTB, HLt_set, ltL_take, ltL_drop, ltL_rep, ltL_set, upd, eset, hH, hHk, zlMark21] <;> omega), by (simp (maxDischargeDepth := 6) [LTB, HLt_set, ltL_take, ltL_drop, ltL_rep, ltL_set, upd, eset, hH, hHk, zlMark21] <;> omega)⟩
    · omega
    rintro ⟨k, w1⟩ hk
    refine EWn.of_c Tok mixed (own := false) keep95 tab95 (by kernel_rfl) ?_
    (repeat simp -dsimp only [zrMark21, RB, TB, keep95, tab95, xindexAddr, xindex, xslice, xconvert, xlen, ewOp, FreeW, StabW, SameW, ChangeW, AddW, BaseW, limBytes, simprocAttr, ne_eq])
    refine IfW.intro (fun h3 => ?_) (fun h3 => ?_)
    · have hkt := lt_of h3
      have e1 : unrle (rs.take (k + 1)) = unrle (rs.take k) ++ List.replicate rs[k].1.toNat rs[k].2 := by
        rw [List.take_succ_eq_append_getElem hkt]
        unfold unrle
        rw [List.flatMap_append, List.flatMap_cons, List.flatMap_nil, List.append_nil]
      have hp1 := hun rs[k] (List.getElem_mem hkt)
      have hm1 := mem_le_sum (List.getElem_mem hkt)
      have hle := fm_take (fun p : Int × Int => List.replicate p.1.toNat p.2) rs k
      have hle : (unrle (rs.take k)).length ≤ (unrle rs).length := hle
      rw [huo] at hm1 hle
      have hX : (og ++ unrle (rs.take k)).length ≤ 1000000000000 := by rw [List.length_append]; omega
      have hsucc : rle (og ++ unrle (rs.take (k + 1))) = putR (rle (og ++ unrle (rs.take k))) rs[k].1 rs[k].2 := by
        rw [putR_nat, e1, ← List.append_assoc, rle_append]
      generalize og ++ unrle (rs.take k) = X at *
      have hrl := rle_len X
      have hrb : ∀ p ∈ rle X, 0 ≤ p.1 ∧ p.1 ≤ 1000000000000 := fun p hp => by have := rle_bound hp; omega
      (repeat (first | simp -dsimp only [zrMark21, h3, at_map runV rs k hkt, runV, RB, TB, keep95, tab95, xindexAddr, xindex, xslice, xconvert, xlen, ewOp, FreeW, StabW, SameW, ChangeW, AddW, BaseW, limBytes, simprocAttr, ne_eq] | ((with_reducible refine Need.intro ?_ ?_); (omega))))
      (refine SCall.then (mput _ (rle X) rs[k].1 rs[k].2 (H.length + 2) w1 (by simp only [RB, hget]) (by omega) hrb (by omega)) ?_)
      (repeat simp -dsimp only [zrMark21, RB, TB, keep95, tab95, xindexAddr, xindex, xslice, xconvert, xlen, ewOp, FreeW, StabW, SameW, ChangeW, AddW, BaseW, limBytes, simprocAttr, ne_eq])
      rw [← hsucc, wrapI (by omega)]
      generalize grewR (rle X) rs[k].1 rs[k].2 = gr
      refine UpTo.here ⟨(k + 1, w1 + gr), hkt, by simp only; omega, by simp [upd, eset], ⟨_, by simp; rfl⟩⟩
    · (repeat simp -dsimp only [zrMark21, h3, RB, TB, keep95, tab95, xindexAddr, xindex, xslice, xconvert, xlen, ewOp, FreeW, StabW, SameW, ChangeW, AddW, BaseW, limBytes, simprocAttr, ne_eq])
      have hk2 : k = rs.length := Nat.le_antisymm hk (ge_of h3)
      subst hk2
      rw [List.take_length, huo, ← ho1, ← ht1]
      rw [wrapI (by omega)]
      refine UpTo.here ⟨(i + 1, w1, v2 + 1), hlt, by simp only; omega, by simp [upd, eset, ht1], ⟨_, by simp; rfl⟩⟩
  · have hi2 : i = l.length := Nat.le_antisymm hi (ge_of h)
    subst hi2
    rw [List.take_length]
    have hbl : (l.flatMap Str.text).length ≤ 9223372036854775807 := by omega
    (repeat simp -dsimp only [zrMark21, h, List.take_length, hbl, RB, TB, keep95, tab95, xindexAddr, xindex, xslice, xconvert, xlen, ewOp, FreeW, StabW, SameW, ChangeW, AddW, BaseW, limBytes, simprocAttr, ne_eq])
    refine RetW.auto0 false _ (by first | rfl | exact (List.append_nil _).symm) ?_ ?_
    · (simp (maxDischargeDepth := 6) [LTB, HLt_set, ltL_take, ltL_drop, ltL_rep, ltL_set, upd, eset, hH, hHk, zlMark21] <;> omega)
    (try simp only [wk, wk1, wk0, RB, limBytes, simprocAttr, ne_eq])
    (try (rw [List.take_of_length_le]; rotate_left 1; (· first | (simp; done) | (simp; omega) | omega)))
    simp [catS, strV]
end Go.Proofs.Ytjplgbalpnlanaa

/- Trees: what they are, and what they are merged to. -/
set_option maxHeartbeats 600000
set_option linter.unusedSimpArgs false
set_option linter.unusedVariables false
set_option maxRecDepth 100000
namespace Go.Proofs.Ytjplgbalpnlanaa
open Go Go.EL
theorem zrTree01 : type_of% (And.intro (And.intro (And.intro (And.intro (@st_run) (@sz_run)) (And.intro (@st1_run) (@cl_run))) (And.intro (And.intro (@st_Str) (@sz_Str)) (And.intro (@st1_Str) (@cl_Str)))) (And.intro (And.intro (And.intro (@st_c) (@sz_c)) (And.intro (@st1_c) (@cl_c))) (And.intro (And.intro (@st_attr) (@sz_attr)) (And.intro (@st1_attr) (@cl_attr))))) := And.intro (And.intro (And.intro (And.intro (@st_run) (@sz_run)) (And.intro (@st1_run) (@cl_run))) (And.intro (And.intro (@st_Str) (@sz_Str)) (And.intro (@st1_Str) (@cl_Str)))) (And.intro (And.intro (And.intro (@st_c) (@sz_c)) (And.intro (@st1_c) (@cl_c))) (And.intro (And.intro (@st_attr) (@sz_attr)) (And.intro (@st1_attr) (@cl_attr))))
theorem zlTree01 : type_of% (And.intro (And.intro (And.intro (And.intro (@lt_vi) (@lt_str)) (And.intro (@lt_vb) (@ltc_str))) (And.intro (And.intro (@ltc_vi) (@lt_run)) (And.intro (@lt1_run) (@ltc_run)))) (And.intro (And.intro (And.intro (@lt_Str) (@lt1_Str)) (And.intro (@ltc_Str) (@lt_c))) (And.intro (And.intro (@lt1_c) (@ltc_c)) (And.intro (@lt_attr) (And.intro (@lt1_attr) (@ltc_attr)))))) := And.intro (And.intro (And.intro (And.intro (@lt_vi) (@lt_str)) (And.intro (@lt_vb) (@ltc_str))) (And.intro (And.intro (@ltc_vi) (@lt_run)) (And.intro (@lt1_run) (@ltc_run)))) (And.intro (And.intro (And.intro (@lt_Str) (@lt1_Str)) (And.intro (@ltc_Str) (@lt_c))) (And.intro (And.intro (@lt1_c) (@ltc_c)) (And.intro (@lt_attr) (And.intro (@lt1_attr) (@ltc_attr)))))
inductive Tree where
  | mk (tag : Str) (attrs : List Attr) (kids : List Tree) (text : Str)
namespace Tree
def tag : Tree → Str | .mk a _ _ _ => a
def attrs : Tree → List Attr | .mk _ a _ _ => a
def kids : Tree → List Tree | .mk _ _ a _ => a
def text : Tree → Str | .mk _ _ _ a => a
end Tree
theorem Tree.eta (t : Tree) : t = .mk t.tag t.attrs t.kids t.text := by cases t; rfl
mutual
def treeV : Tree → V
  | .mk tag attrs kids text => .agg [.str tag.text, .slice (tag.runs.map runV), .slice (attrs.map attrV), .slice (treeVs kids), .str text.text, .slice (text.runs.map runV)]
def treeVs : List Tree → List V
  | [] => []
  | t :: l => treeV t :: treeVs l
end
theorem treeVs_map : ∀ l : List Tree, treeVs l = l.map treeV
  | [] => by simp only [treeVs, List.map_nil]
  | t :: l => by simp only [treeVs, List.map_cons, treeVs_map l]
theorem treeV_mk (tag : Str) (attrs : List Attr) (kids : List Tree) (text : Str) : treeV (.mk tag attrs kids text) = .agg [.str tag.text, .slice (tag.runs.map runV), .slice (attrs.map attrV), .slice (kids.map treeV), .str text.text, .slice (text.runs.map runV)] := by
  rw [treeV, treeVs_map]
theorem treeV_eq (t : Tree) : treeV t = .agg [.str t.tag.text, .slice (t.tag.runs.map runV), .slice (t.attrs.map attrV), .slice (t.kids.map treeV), .str t.text.text, .slice (t.text.runs.map runV)] := by
  cases t; exact treeV_mk _ _ _ _
mutual
theorem lt1_tree (n : Nat) : ∀ t : Tree, V.lt n (treeV t)
  | .mk tag attrs kids text => by
    rw [treeV]
    simp [V.lt, ltL, lt_run, lt_attr, lt_trees n kids]
theorem lt_trees (n : Nat) : ∀ l : List Tree, ltL n (treeVs l)
  | [] => by simp [treeVs, ltL]
  | t :: l => by simp [treeVs, ltL, lt1_tree n t, lt_trees n l]
end
theorem lt_tree (n : Nat) (l : List Tree) : ltL n (l.map treeV) := by rw [← treeVs_map]; exact lt_trees n l
theorem ltc_tree {α : Type} (n : Nat) (g : α → Tree) (l : List α) : ltL n (l.map (treeV ∘ g)) := ltL_map (f := treeV ∘ g) (fun x => lt1_tree n (g x)) l
theorem st_tree (l : List Tree) : (∀ x, x ∈ l.map treeV → x.storable) = True := eq_true (storable_map (f := treeV) (fun t => by rw [treeV_eq]; trivial) l)
theorem sz_tree (l : List Tree) : Sized 6 (l.map treeV) = True := eq_true (sizedMapV (f := treeV) (fun t => by rw [treeV_eq]; rfl) l)
theorem st1_tree (x : Tree) : (treeV x).storable = True := eq_true (by rw [treeV_eq]; trivial)
theorem cl_tree (x : Tree) : (treeV x).cells.length = 6 := by rw [treeV_eq]; rfl
/-! sizes -/
def szS' (s : Str) : Nat := s.text.length + s.runs.length + 1
def szA' (a : Attr) : Nat := szS' a.name + szS' a.value + 1
mutual
def szT : Tree → Nat
  | .mk tag attrs kids text => szS' tag + (attrs.map szA').sum + szTs kids + szS' text + 1
def szTs : List Tree → Nat
  | [] => 0
  | t :: l => szT t + szTs l
end
theorem szTs_append : ∀ a b : List Tree, szTs (a ++ b) = szTs a + szTs b
  | [], b => by simp [szTs]
  | t :: a, b => by simp only [List.cons_append, szTs, szTs_append a b]; omega
theorem szTs_mem : ∀ {l : List Tree} {t : Tree}, t ∈ l → szT t ≤ szTs l
  | u :: l, t, h => by
    simp only [szTs]
    rcases List.mem_cons.1 h with rfl | h
    · omega
    · have := szTs_mem h; omega
theorem szT_eq (t : Tree) : szT t = szS' t.tag + (t.attrs.map szA').sum + szTs t.kids + szS' t.text + 1 := by cases t; rw [szT]; rfl
theorem sz_len : ∀ l : List Tree, l.length ≤ szTs l
  | [] => by simp
  | t :: l => by have := sz_len l; have := szT_eq t; simp only [szTs, List.length_cons]; omega
theorem szTs_take (l : List Tree) (i : Nat) : szTs (l.take i) ≤ szTs l := by
  conv => rhs; rw [← List.take_append_drop i l]
  rw [szTs_append]; omega
theorem szA_mem {l : List Attr} {a : Attr} (h : a ∈ l) : szA' a ≤ (l.map szA').sum := by
  induction l with
  | nil => cases h
  | cons b l ih =>
    simp only [List.map_cons, List.sum_cons]
    rcases List.mem_cons.1 h with rfl | h
    · omega
    · have := ih h; omega
theorem okA_sz' {l : List Attr} (h : (l.map szA').sum ≤ 1000000000) : (∀ a ∈ l, okA a) ∧ l.length ≤ 1000000000 := by
  refine ⟨fun a ha => ?_, ?_⟩
  · have h2 : szA' a ≤ 1000000000 := Nat.le_trans (szA_mem ha) h
    unfold szA' szS' at h2
    exact ⟨⟨by omega, by omega⟩, ⟨by omega, by omega⟩⟩
  · have : ∀ l : List Attr, l.length ≤ (l.map szA').sum := by
      intro l
      induction l with
      | nil => simp
      | cons a l ih =>
        have h1 : 1 ≤ szA' a := by unfold szA'; omega
        simp only [List.map_cons, List.sum_cons, List.length_cons]; omega
    have := this l
    omega
theorem okS_sz' {s : Str} (h : szS' s ≤ 1000000000) : okS s := by unfold szS' at h; exact ⟨by omega, by omega⟩
/-! merged -/
def Tree.isE (t : Tree) : Bool := !(t.tag.text == [])
/-- one more: an element with its kids, merged; or a text -/
def stepM (acc : List Tree) (t : Tree) (ks : List Tree) : List Tree :=
  if t.isE then acc ++ [.mk (fixS t.tag) (onceA t.attrs []) ks zeroS]
  else if t.text.text = [] then acc
  else match acc.getLast? with
    | none => [.mk zeroS [] [] (fixS t.text)]
    | some u => if u.isE then acc ++ [.mk zeroS [] [] (fixS t.text)] else acc.dropLast ++ [.mk u.tag u.attrs u.kids (catS [u.text, t.text])]
mutual
def mergeK : Tree → List Tree
  | .mk _ _ kids _ => mergeF kids []
def mergeF : List Tree → List Tree → List Tree
  | [], acc => acc
  | t :: l, acc => mergeF l (stepM acc t (mergeK t))
end
def mergeT (l : List Tree) : List Tree := mergeF l []
theorem mergeK_eq (t : Tree) : mergeK t = mergeT t.kids := by cases t; rw [mergeK]; rfl
theorem mergeF_append : ∀ (a b acc : List Tree), mergeF (a ++ b) acc = mergeF b (mergeF a acc)
  | [], b, acc => by simp only [List.nil_append, mergeF]
  | t :: a, b, acc => by simp only [List.cons_append, mergeF]; exact mergeF_append a b _
theorem mergeF_succ {l : List Tree} {i : Nat} (h : i < l.length) (acc : List Tree) : mergeF (l.take (i + 1)) acc = stepM (mergeF (l.take i) acc) l[i] (mergeT l[i].kids) := by
  rw [List.take_succ_eq_append_getElem h, mergeF_append, ← mergeK_eq]
  simp only [mergeF]
theorem mergeT_nil : mergeT [] = [] := by unfold mergeT; simp only [mergeF]
end Go.Proofs.Ytjplgbalpnlanaa

/- The walks of package tree: element, Merge. -/
set_option linter.unusedSimpArgs false
set_option linter.unusedVariables false
set_option maxRecDepth 100000
namespace Go.Proofs.Ytjplgbalpnlanaa
open Go Go.EL
theorem zrTree11 : type_of% (And.intro (And.intro (And.intro (And.intro (@st_run) (@sz_run)) (And.intro (@st1_run) (And.intro (@cl_run) (@st_Str)))) (And.intro (And.intro (@sz_Str) (@st1_Str)) (And.intro (@cl_Str) (And.intro (@st_c) (@sz_c))))) (And.intro (And.intro (And.intro (@st1_c) (@cl_c)) (And.intro (@st_attr) (And.intro (@sz_attr) (@st1_attr)))) (And.intro (And.intro (@cl_attr) (@st_tree)) (And.intro (@sz_tree) (And.intro (@st1_tree) (@cl_tree)))))) := And.intro (And.intro (And.intro (And.intro (@st_run) (@sz_run)) (And.intro (@st1_run) (And.intro (@cl_run) (@st_Str)))) (And.intro (And.intro (@sz_Str) (@st1_Str)) (And.intro (@cl_Str) (And.intro (@st_c) (@sz_c))))) (And.intro (And.intro (And.intro (@st1_c) (@cl_c)) (And.intro (@st_attr) (And.intro (@sz_attr) (@st1_attr)))) (And.intro (And.intro (@cl_attr) (@st_tree)) (And.intro (@sz_tree) (And.intro (@st1_tree) (@cl_tree)))))
theorem zlTree11 : type_of% (And.intro (And.intro (And.intro (And.intro (@lt_vi) (@lt_str)) (And.intro (@lt_vb) (And.intro (@ltc_str) (@ltc_vi)))) (And.intro (And.intro (@lt_run) (@lt1_run)) (And.intro (@ltc_run) (And.intro (@lt_Str) (@lt1_Str))))) (And.intro (And.intro (And.intro (@ltc_Str) (@lt_c)) (And.intro (@lt1_c) (And.intro (@ltc_c) (@lt_attr)))) (And.intro (And.intro (@lt1_attr) (@ltc_attr)) (And.intro (@lt_tree) (And.intro (@lt1_tree) (@ltc_tree)))))) := And.intro (And.intro (And.intro (And.intro (@lt_vi) (@lt_str)) (And.intro (@lt_vb) (And.intro (@ltc_str) (@ltc_vi)))) (And.intro (And.intro (@lt_run) (@lt1_run)) (And.intro (@ltc_run) (And.intro (@lt_Str) (@lt1_Str))))) (And.intro (And.intro (And.intro (@ltc_Str) (@lt_c)) (And.intro (@lt1_c) (And.intro (@ltc_c) (@lt_attr)))) (And.intro (And.intro (@lt1_attr) (@ltc_attr)) (And.intro (@lt_tree) (And.intro (@lt1_tree) (@ltc_tree)))))
def txtL (l : List Tree) : Nat := (l.map fun t => t.text.text.length).sum
theorem txtL_app (a b : List Tree) : txtL (a ++ b) = txtL a + txtL b := by simp [txtL]
theorem txtL_mem {l : List Tree} {t : Tree} (h : t ∈ l) : t.text.text.length ≤ txtL l := by
  induction l with
  | nil => cases h
  | cons u l ih =>
    simp only [txtL, List.map_cons, List.sum_cons] at ih ⊢
    rcases List.mem_cons.1 h with rfl | h
    · omega
    · have := ih h; omega
def invM (N : Nat) (acc : List Tree) : Prop := (∀ u ∈ acc, u.text.runs.length ≤ u.text.text.length) ∧ txtL acc ≤ N
theorem fix_runs (s : Str) : (fixS s).runs.length ≤ s.text.length := by
  have := rle_len (orig s)
  rw [orig_len] at this
  exact this
theorem cat_runs (l : List Str) : (catS l).runs.length ≤ (catS l).text.length := by
  have := rle_len (l.flatMap orig)
  rw [fm_orig] at this
  exact this
theorem stepM_inv {N : Nat} {acc : List Tree} (t : Tree) (ks : List Tree) (h : invM N acc) : invM (N + szT t) (stepM acc t ks) ∧ (stepM acc t ks).length ≤ acc.length + 1 := by
  obtain ⟨h1, h2⟩ := h
  have hsz := szT_eq t
  unfold szS' at hsz
  unfold stepM
  split
  · refine ⟨⟨fun u hu => ?_, ?_⟩, by simp⟩
    · rcases List.mem_append.1 hu with hu | hu
      · exact h1 u hu
      · rw [List.mem_singleton.1 hu]; exact Nat.le_refl _
    · rw [txtL_app]
      have e : txtL [Tree.mk (fixS t.tag) (onceA t.attrs []) ks zeroS] = 0 := rfl
      omega
  · split
    · exact ⟨⟨h1, by omega⟩, by omega⟩
    · split
      · refine ⟨⟨fun u hu => ?_, ?_⟩, by simp⟩
        · rw [List.mem_singleton.1 hu]; exact fix_runs _
        · have e : txtL [Tree.mk zeroS [] [] (fixS t.text)] = t.text.text.length := by simp [txtL, Tree.text, fixS]
          omega
      · rename_i u hl
        obtain ⟨ys, rfl⟩ := List.getLast?_eq_some_iff.1 hl
        split
        · refine ⟨⟨fun v hv => ?_, ?_⟩, by simp⟩
          · rcases List.mem_append.1 hv with hv | hv
            · exact h1 v hv
            · rw [List.mem_singleton.1 hv]; exact fix_runs _
          · rw [txtL_app]
            have : txtL [Tree.mk zeroS [] [] (fixS t.text)] = t.text.text.length := by simp [txtL, Tree.text, fixS]
            omega
        · rw [List.dropLast_concat]
          refine ⟨⟨fun v hv => ?_, ?_⟩, by simp⟩
          · rcases List.mem_append.1 hv with hv | hv
            · exact h1 v (by simp [hv])
            · rw [List.mem_singleton.1 hv]; exact cat_runs _
          · rw [txtL_app] at h2 ⊢
            have e1 : txtL [Tree.mk u.tag u.attrs u.kids (catS [u.text, t.text])] = u.text.text.length + t.text.text.length := by simp [txtL, Tree.text, catS]
            have e2 : txtL [u] = u.text.text.length := by simp [txtL]
            omega
theorem mergeF_inv (l : List Tree) : ∀ i, i ≤ l.length → invM (szTs (l.take i)) (mergeF (l.take i) []) ∧ (mergeF (l.take i) []).length ≤ i
  | 0, _ => by simp only [List.take_zero, mergeF]; exact ⟨⟨by simp, by simp [txtL]⟩, by simp⟩
  | i + 1, h => by
    obtain ⟨h1, h2⟩ := mergeF_inv l i (by omega)
    obtain ⟨h3, h4⟩ := stepM_inv (l[i]'(by omega)) (mergeT (l[i]'(by omega)).kids) h1
    rw [mergeF_succ (by omega), List.take_succ_eq_append_getElem (by omega), szTs_append]
    refine ⟨?_, by omega⟩
    simp only [szTs, Nat.add_zero]
    exact h3
theorem tElem (H : List Ob) (t : Tree) : SCall Try.prog 92 [.agg [.str t.tag.text, .slice (t.tag.runs.map runV), .slice (t.attrs.map attrV), .slice (t.kids.map treeV), .str t.text.text, .slice (t.text.runs.map runV)]] H (fun r H' => r = .bool t.isE ∧ H' = H) := by
  refine SCall.of_good fun hH => ?_
  have hHk := HLt.add hH
  refine SCall.of_code Tok Try.func92 rfl Try.call92 (n := 7) rfl (by simp) (rs := [.tmp 2]) rfl ?_
  refine EWn.to ?_
  refine EWn.of_c Tok mixed (own := false) keep92 tab92 (by kernel_rfl) ?_
  (repeat simp -dsimp only [zrTree11, RB, TB, keep92, tab92, xindexAddr, xindex, xslice, xconvert, xlen, ewOp, FreeW, StabW, SameW, ChangeW, AddW, BaseW, limBytes, simprocAttr, ne_eq])
  refine RetW.auto0 false _ (by first | rfl | exact (List.append_nil _).symm) ?_ ?_
  · (simp (maxDischargeDepth := 6) [LTB, HLt_set, ltL_take, ltL_drop, ltL_rep, ltL_set, upd, eset, hH, hHk, zlTree11] <;> omega)
  (try simp only [wk, wk1, wk0, RB, limBytes, simprocAttr, ne_eq])
  skip
  rfl
set_option maxHeartbeats 4000000 in
theorem tMerge : ∀ (n : Nat) (l : List Tree), szTs l ≤ n → szTs l ≤ 100000000 → ∀ H : List Ob, SCall Try.prog 23 [.slice (l.map treeV)] H (fun r H' => r = .slice ((mergeT l).map treeV) ∧ H' = H) := by
  intro n
  induction n with
  | zero =>
    intro l h _ H
    have h0 : l = [] := List.eq_nil_of_length_eq_zero (by have := sz_len l; omega)
    subst h0
    refine SCall.of_good fun hH => ?_
    have hHk := HLt.add hH
    refine SCall.of_code Tok Try.func23 rfl Try.call23 (n := 70) rfl (by simp) (rs := [.tmp 2]) rfl ?_
    refine EWn.to ?_
    refine EWn.of_c Tok mixed (own := false) keep23 tab23 (by kernel_rfl) ?_
    (repeat simp -dsimp only [zrTree11, RB, TB, keep23, tab23, xindexAddr, xindex, xslice, xconvert, xlen, ewOp, FreeW, StabW, SameW, ChangeW, AddW, BaseW, limBytes, simprocAttr, ne_eq])
    refine EWn.rounds 1 ?_
    show EWn _ _ _ _ _ _ _
    refine EWn.of_c Tok mixed (own := false) keep23 tab23 (by kernel_rfl) ?_
    (repeat simp -dsimp only [zrTree11, RB, TB, keep23, tab23, xindexAddr, xindex, xslice, xconvert, xlen, ewOp, FreeW, StabW, SameW, ChangeW, AddW, BaseW, limBytes, simprocAttr, ne_eq])
    refine RetW.auto0 false _ (by first | rfl | exact (List.append_nil _).symm) ?_ ?_
    · (simp (maxDischargeDepth := 6) [LTB, HLt_set, ltL_take, ltL_drop, ltL_rep, ltL_set, upd, eset, hH, hHk, zlTree11] <;> omega)
    (try simp only [wk, wk1, wk0, RB, limBytes, simprocAttr, ne_eq])
    skip
    simp [mergeT_nil]
  | succ n ih =>
    intro l hn hb H
    have hll := sz_len l
    refine SCall.of_good fun hH => ?_
    have hHk := HLt.add hH
    refine SCall.of_code Tok Try.func23 rfl Try.call23 (n := 70) rfl (by simp) (rs := [.tmp 2]) rfl ?_
    refine EWn.to ?_
    refine EWn.of_c Tok mixed (own := false) keep23 tab23 (by kernel_rfl) ?_
    (repeat simp -dsimp only [zrTree11, RB, TB, keep23, tab23, xindexAddr, xindex, xslice, xconvert, xlen, ewOp, FreeW, StabW, SameW, ChangeW, AddW, BaseW, limBytes, simprocAttr, ne_eq])
    refine EWn.ghost (Gho.adopt 3 6 rfl) ?_
    simp only [RB, limBytes, simprocAttr, ne_eq]
    refine EWn.loopE (ι := (Nat) × (Nat)) (fun (x_ : (Nat) × (Nat)) => match x_ with | (i, ver) => i ≤ l.length) (fun (x_ : (Nat) × (Nat)) => match x_ with | (i, ver) => l.length - i) (fun (x_ : (Nat) × (Nat)) => match x_ with | (i, ver) => [(3, .vec H.length ver 0 (mergeF (l.take i) []).length), (9, .int .i64 i)]) (fun (x_ : (Nat) × (Nat)) => match x_ with | (i, ver) => H ++ [.vec ver 6 ((mergeF (l.take i) []).map treeV)]) (0, 1) ?_ ?_ ?_ ?_ ?_
    · first | rfl | (simp [upd, eset]; done) | (simp [upd, eset, mergeF]; done)
    · simp [mergeF]
    · rintro ⟨i, ver⟩ hok; exact ⟨by first | (simp; done) | (simp; omega), by (simp (maxDischargeDepth := 6) [LTB, HLt_set, ltL_take, ltL_drop, ltL_rep, ltL_set, upd, eset, hH, hHk, zlTree11] <;> omega), by (simp (maxDischargeDepth := 6) [LTB, HLt_set, ltL_take, ltL_drop, ltL_rep, ltL_set, upd, eset, hH, hHk, zlTree11] <;> omega)⟩
    · omega
    rintro ⟨i, ver⟩ hi
    obtain ⟨hinv, hal⟩ := mergeF_inv l i hi
    have hbt := szTs_take l i
    refine EWn.of_c Tok mixed (own := false) keep23 tab23 (by kernel_rfl) ?_
    (repeat simp -dsimp only [zrTree11, RB, TB, keep23, tab23, xindexAddr, xindex, xslice, xconvert, xlen, ewOp, FreeW, StabW, SameW, ChangeW, AddW, BaseW, limBytes, simprocAttr, ne_eq])
    refine IfW.intro (fun h => ?_) (fun h => ?_)
    · have hlt := lt_of h
      have hsucc := mergeF_succ hlt []
      have hsz := szT_eq l[i]
      have hszl := szTs_mem (List.getElem_mem hlt)
      have hok1 : okS l[i].tag := okS_sz' (by omega)
      have hok2 : okS l[i].text := okS_sz' (by omega)
      obtain ⟨hoka, hokl⟩ := okA_sz' (l := l[i].attrs) (by omega)
      generalize mergeF (l.take i) [] = acc at *
      have hte := treeV_eq l[i]
      (repeat (first | simp -dsimp only [zrTree11, h, at_map treeV l i hlt, hte, RB, TB, keep23, tab23, xindexAddr, xindex, xslice, xconvert, xlen, ewOp, FreeW, StabW, SameW, ChangeW, AddW, BaseW, limBytes, simprocAttr, ne_eq] | ((with_reducible refine Need.intro ?_ ?_); (omega))))
      rw [wrapI (by omega)]
      (refine SCall.then (tElem _ l[i]) ?_)
      (repeat simp -dsimp only [zrTree11, RB, TB, keep23, tab23, xindexAddr, xindex, xslice, xconvert, xlen, ewOp, FreeW, StabW, SameW, ChangeW, AddW, BaseW, limBytes, simprocAttr, ne_eq])
      have hin : szTs l[i].kids ≤ n := by omega
      unfold stepM at hsucc
      refine IfW.intro (fun he => ?_) (fun he => ?_)
      · rw [if_pos he] at hsucc
        (repeat simp -dsimp only [zrTree11, he, RB, TB, keep23, tab23, xindexAddr, xindex, xslice, xconvert, xlen, ewOp, FreeW, StabW, SameW, ChangeW, AddW, BaseW, limBytes, simprocAttr, ne_eq])
        (refine CallE.intro _ (mFix _ l[i].tag hok1) ?_)
        (repeat simp -dsimp only [zrTree11, strV, RB, TB, keep23, tab23, xindexAddr, xindex, xslice, xconvert, xlen, ewOp, FreeW, StabW, SameW, ChangeW, AddW, BaseW, limBytes, simprocAttr, ne_eq])
        (refine CallE.intro _ (aOnce _ l[i].attrs hoka hokl) ?_)
        (repeat simp -dsimp only [zrTree11, strV, RB, TB, keep23, tab23, xindexAddr, xindex, xslice, xconvert, xlen, ewOp, FreeW, StabW, SameW, ChangeW, AddW, BaseW, limBytes, simprocAttr, ne_eq])
        (refine CallE.intro _ (ih l[i].kids hin (by omega) _) ?_)
        (repeat (first | simp -dsimp only [zrTree11, strV, RB, TB, keep23, tab23, xindexAddr, xindex, xslice, xconvert, xlen, ewOp, FreeW, StabW, SameW, ChangeW, AddW, BaseW, limBytes, simprocAttr, ne_eq] | ((with_reducible refine Need.intro ?_ ?_); (first | trivial | omega))))
        rw [wrapI (by omega)]
        refine UpTo.step (Gho.weakLast (H.length) (l := acc.map treeV) (m := _) (m' := [.agg [.str (fixS l[i].tag).text, .slice ((fixS l[i].tag).runs.map runV), .slice ((onceA l[i].attrs []).map attrV), .slice ((mergeT l[i].kids).map treeV), .str [], .slice []]]) (by first | (rw [hget0]; rfl) | (rw [hget]; rfl) | rfl | (simp; done) | (simp; rfl)) (by repeat (first | exact trivial | refine ⟨.inl (.inl (.inl rfl)), ?_⟩ | refine ⟨.inr ⟨_, _, rfl, rfl, ?_⟩, ?_⟩ | refine ⟨.inl (.inl rfl), ?_⟩ | refine ⟨.inl (.inr ⟨_, rfl, rfl⟩), ?_⟩))) ?_
        (try simp only [RB, limBytes, simprocAttr, ne_eq])
        refine UpTo.here ⟨(i + 1, ver + 1), hlt, by simp only; omega, by simp only [hsucc]; simp [upd, eset], ⟨_, by simp only [hsucc]; simp [treeV_mk, zeroS]; rfl⟩⟩
      · rw [if_neg (by rw [he]; decide)] at hsucc
        (repeat simp -dsimp only [zrTree11, he, RB, TB, keep23, tab23, xindexAddr, xindex, xslice, xconvert, xlen, ewOp, FreeW, StabW, SameW, ChangeW, AddW, BaseW, limBytes, simprocAttr, ne_eq])
        refine IfW.intro (fun h0 => ?_) (fun h0 => ?_)
        · have h0' : l[i].text.text = [] := by simpa using h0
          rw [if_pos h0'] at hsucc
          (repeat simp -dsimp only [zrTree11, h0, RB, TB, keep23, tab23, xindexAddr, xindex, xslice, xconvert, xlen, ewOp, FreeW, StabW, SameW, ChangeW, AddW, BaseW, limBytes, simprocAttr, ne_eq])
          rw [wrapI (by omega)]
          refine UpTo.here ⟨(i + 1, ver), hlt, by simp only; omega, by simp only [hsucc]; simp [upd, eset], ⟨_, by simp only [hsucc]; simp; rfl⟩⟩
        · have h0' : l[i].text.text ≠ [] := by simpa using h0
          rw [if_neg h0'] at hsucc
          (repeat simp -dsimp only [zrTree11, h0, RB, TB, keep23, tab23, xindexAddr, xindex, xslice, xconvert, xlen, ewOp, FreeW, StabW, SameW, ChangeW, AddW, BaseW, limBytes, simprocAttr, ne_eq])
          rcases List.eq_nil_or_concat acc with ha0 | ⟨ys, u, ha0⟩
          · subst ha0
            simp only [List.getLast?_nil] at hsucc
            (repeat simp -dsimp only [zrTree11, show decide ((([] : List Tree).length : Int) - 1 ≥ 0) = false from rfl, RB, TB, keep23, tab23, xindexAddr, xindex, xslice, xconvert, xlen, ewOp, FreeW, StabW, SameW, ChangeW, AddW, BaseW, limBytes, simprocAttr, ne_eq])
            (refine SCall.then (mFix _ l[i].text hok2) ?_)
            (repeat (first | simp -dsimp only [zrTree11, strV, RB, TB, keep23, tab23, xindexAddr, xindex, xslice, xconvert, xlen, ewOp, FreeW, StabW, SameW, ChangeW, AddW, BaseW, limBytes, simprocAttr, ne_eq] | ((with_reducible refine Need.intro ?_ ?_); (trivial))))
            rw [wrapI (by omega)]
            refine UpTo.step (Gho.weakLast (H.length) (l := []) (m := _) (m' := [.agg [.str [], .slice [], .slice [], .slice [], .str (fixS l[i].text).text, .slice ((fixS l[i].text).runs.map runV)]]) (by first | (rw [hget0]; rfl) | (rw [hget]; rfl) | rfl | (simp; done) | (simp; rfl)) (by repeat (first | exact trivial | refine ⟨.inl (.inl (.inl rfl)), ?_⟩ | refine ⟨.inr ⟨_, _, rfl, rfl, ?_⟩, ?_⟩ | refine ⟨.inl (.inl rfl), ?_⟩ | refine ⟨.inl (.inr ⟨_, rfl, rfl⟩), ?_⟩))) ?_
            (try simp only [RB, limBytes, simprocAttr, ne_eq])
            refine UpTo.here ⟨(i + 1, ver + 1), hlt, by simp only; omega, by simp only [hsucc]; simp [upd, eset], ⟨_, by simp only [hsucc]; simp [treeV_mk, zeroS]; rfl⟩⟩
          · rw [List.concat_eq_append] at ha0
            subst ha0
            simp only [List.getLast?_concat] at hsucc
            have hlast : (ys ++ [u]).length = ys.length + 1 := by simp
            have hat := at_map treeV (ys ++ [u]) ys.length (by simp)
            have hel : (ys ++ [u])[ys.length] = u := by simp
            have hue := treeV_eq u
            rw [hel, hue] at hat
            clear hel
            have hmu : u ∈ ys ++ [u] := by simp
            generalize hL : ys ++ [u] = L at *
            have hix : ((L.length : Int) - 1) = (ys.length : Int) := by omega
            have hk : decide ((ys.length : Int) ≥ 0) = true := by simp
            have hu1 := hinv.1 u hmu
            have hu2 := txtL_mem hmu
            have hu3 := hinv.2
            rw [hix]
            (repeat (first | simp -dsimp only [zrTree11, hk, hat, RB, TB, keep23, tab23, xindexAddr, xindex, xslice, xconvert, xlen, ewOp, FreeW, StabW, SameW, ChangeW, AddW, BaseW, limBytes, simprocAttr, ne_eq] | ((with_reducible refine Need.intro ?_ ?_); (omega))))
            (refine SCall.then (tElem _ u) ?_)
            (repeat simp -dsimp only [zrTree11, RB, TB, keep23, tab23, xindexAddr, xindex, xslice, xconvert, xlen, ewOp, FreeW, StabW, SameW, ChangeW, AddW, BaseW, limBytes, simprocAttr, ne_eq])
            refine IfW.intro (fun hue2 => ?_) (fun hue2 => ?_)
            · rw [if_pos hue2] at hsucc
              (repeat simp -dsimp only [zrTree11, hue2, RB, TB, keep23, tab23, xindexAddr, xindex, xslice, xconvert, xlen, ewOp, FreeW, StabW, SameW, ChangeW, AddW, BaseW, limBytes, simprocAttr, ne_eq])
              (refine SCall.then (mFix _ l[i].text hok2) ?_)
              (repeat (first | simp -dsimp only [zrTree11, strV, RB, TB, keep23, tab23, xindexAddr, xindex, xslice, xconvert, xlen, ewOp, FreeW, StabW, SameW, ChangeW, AddW, BaseW, limBytes, simprocAttr, ne_eq] | ((with_reducible refine Need.intro ?_ ?_); (first | trivial | omega))))
              rw [wrapI (by omega)]
              refine UpTo.step (Gho.weakLast (H.length) (l := L.map treeV) (m := _) (m' := [.agg [.str [], .slice [], .slice [], .slice [], .str (fixS l[i].text).text, .slice ((fixS l[i].text).runs.map runV)]]) (by first | (rw [hget0]; rfl) | (rw [hget]; rfl) | rfl | (simp; done) | (simp; rfl)) (by repeat (first | exact trivial | refine ⟨.inl (.inl (.inl rfl)), ?_⟩ | refine ⟨.inr ⟨_, _, rfl, rfl, ?_⟩, ?_⟩ | refine ⟨.inl (.inl rfl), ?_⟩ | refine ⟨.inl (.inr ⟨_, rfl, rfl⟩), ?_⟩))) ?_
              (try simp only [RB, limBytes, simprocAttr, ne_eq])
              refine UpTo.here ⟨(i + 1, ver + 1), hlt, by simp only; omega, by simp only [hsucc]; simp [upd, eset], ⟨_, by simp only [hsucc]; simp [treeV_mk, zeroS]; rfl⟩⟩
            · rw [if_neg (by rw [hue2]; decide)] at hsucc
              have hut : okS u.text := ⟨by omega, by omega⟩
              have hct : (([u.text, l[i].text] : List Str).flatMap Str.text).length ≤ 1000000000 := by
                simp only [List.flatMap_cons, List.flatMap_nil, List.append_nil, List.length_append]
                unfold szS' at hsz
                omega
              (repeat (first | simp -dsimp only [zrTree11, hue2, hat, RB, TB, keep23, tab23, xindexAddr, xindex, xslice, xconvert, xlen, ewOp, FreeW, StabW, SameW, ChangeW, AddW, BaseW, limBytes, simprocAttr, ne_eq] | ((with_reducible refine Need.intro ?_ ?_); (first | trivial | omega))))
              (refine CallE.introA (mCat _ [u.text, l[i].text] (fun s hs => by rcases List.mem_cons.1 hs with rfl | hs; exact hut; rw [List.mem_singleton.1 hs]; exact hok2) hct (by simp)) (by repeat (first | exact trivial | exact .inl (.inl rfl) | exact .inl (.inr ⟨_, rfl, rfl⟩) | exact .inl rfl | exact .inr ⟨_, rfl, rfl⟩ | refine .inr ⟨_, _, rfl, rfl, ?_⟩ | refine ⟨?_, ?_⟩)) ?_)
              (repeat (first | simp -dsimp only [zrTree11, strV, hat, RB, TB, keep23, tab23, xindexAddr, xindex, xslice, xconvert, xlen, ewOp, FreeW, StabW, SameW, ChangeW, AddW, BaseW, limBytes, simprocAttr, ne_eq] | ((with_reducible refine Need.intro ?_ ?_); (omega))))
              rw [wrapI (by omega)]
              have hset : (L.map treeV).set ys.length (V.agg [.str u.tag.text, .slice (u.tag.runs.map runV), .slice (u.attrs.map attrV), .slice (u.kids.map treeV), .str (catS [u.text, l[i].text]).text, .slice ((catS [u.text, l[i].text]).runs.map runV)]) = (L.dropLast ++ [Tree.mk u.tag u.attrs u.kids (catS [u.text, l[i].text])]).map treeV := by
                rw [← hL, List.dropLast_concat, List.map_append, List.set_append_right _ _ (by simp)]
                simp [treeV_mk]
              have hlen2 : (L.dropLast ++ [Tree.mk u.tag u.attrs u.kids (catS [u.text, l[i].text])]).length = L.length := by rw [← hL]; simp
              rw [hset]
              refine UpTo.here ⟨(i + 1, ver), hlt, by simp only; omega, by simp only [hsucc, hlen2]; simp [upd, eset], ⟨_, by simp only [hsucc]; simp; rfl⟩⟩
    · (repeat simp -dsimp only [zrTree11, h, RB, TB, keep23, tab23, xindexAddr, xindex, xslice, xconvert, xlen, ewOp, FreeW, StabW, SameW, ChangeW, AddW, BaseW, limBytes, simprocAttr, ne_eq])
      have hi2 : i = l.length := Nat.le_antisymm hi (ge_of h)
      subst hi2
      rw [List.take_length]
      refine RetW.auto0 false _ (by first | rfl | exact (List.append_nil _).symm) ?_ ?_
      · (simp (maxDischargeDepth := 6) [LTB, HLt_set, ltL_take, ltL_drop, ltL_rep, ltL_set, upd, eset, hH, hHk, zlTree11] <;> omega)
      (try simp only [wk, wk1, wk0, RB, limBytes, simprocAttr, ne_eq])
      (try (rw [List.take_of_length_le]; rotate_left 1; (· first | (simp; done) | (simp; omega) | omega)))
      rfl
theorem wds_of {α : Type} {f : α → V} (h : ∀ x, wdV (f x) = f x) (l : List α) : wdVs (l.map f) = l.map f := by
  rw [wdVs_map, List.map_map]
  exact List.map_congr_left fun x _ => h x
theorem wd_run (r : Int × Int) : wdV (runV r) = runV r := by simp only [runV, wdV, wdVs]
theorem wds_run (l : List (Int × Int)) : wdVs (l.map runV) = l.map runV := wds_of wd_run l
theorem wd_attr (a : Attr) : wdV (attrV a) = attrV a := by simp only [attrV, wdV, wdVs, wds_run]
theorem wds_attr (l : List Attr) : wdVs (l.map attrV) = l.map attrV := wds_of wd_attr l
mutual
theorem wd_tree : ∀ t : Tree, wdV (treeV t) = treeV t
  | .mk tag attrs kids text => by
    rw [treeV]
    simp only [wdV, wdVs, wds_run, wds_attr, wds_tree0 kids]
theorem wds_tree0 : ∀ l : List Tree, wdVs (treeVs l) = treeVs l
  | [] => by simp only [treeVs, wdVs]
  | t :: l => by simp only [treeVs, wdVs, wd_tree t, wds_tree0 l]
end
theorem wds_tree (l : List Tree) : wdVs (l.map treeV) = l.map treeV := wds_of wd_tree l
/-! what is merged is no longer -/
def mtS (t : Tree) : Nat := szS' t.tag + (t.attrs.map szA').sum + szTs t.kids + 2 * t.text.text.length + 2
def mtL (l : List Tree) : Nat := (l.map mtS).sum
theorem mtL_app (a b : List Tree) : mtL (a ++ b) = mtL a + mtL b := by simp [mtL]
theorem szS_fix (s : Str) : szS' (fixS s) ≤ 2 * szS' s := by
  have := fix_runs s
  have e : (fixS s).text = s.text := rfl
  unfold szS'
  rw [e]; omega
theorem szA_own (a : Attr) : szA' (ownA a) ≤ 2 * szA' a := by
  have h1 := szS_fix a.name
  have h2 := szS_fix a.value
  unfold szA' ownA
  simp only
  omega
theorem once_sz : ∀ (l acc : List Attr), ((onceA l acc).map szA').sum ≤ (acc.map szA').sum + 2 * (l.map szA').sum
  | [], acc => by simp [onceA]
  | a :: l, acc => by
    have h1 := szA_own a
    simp only [onceA, List.map_cons, List.sum_cons]
    split
    · have := once_sz l (acc ++ [ownA a])
      simp only [List.map_append, List.map_cons, List.map_nil, List.sum_append, List.sum_cons, List.sum_nil] at this
      omega
    · have := once_sz l acc
      omega
theorem step_sz (acc : List Tree) (t : Tree) (ks : List Tree) (hk : szTs ks ≤ 2 * szTs t.kids) : mtL (stepM acc t ks) ≤ mtL acc + 2 * szT t := by
  have hsz := szT_eq t
  have h1 := szS_fix t.tag
  have h2 := once_sz t.attrs []
  have h3 : 1 ≤ szS' t.tag := by unfold szS'; omega
  have h4 : t.text.text.length + 1 ≤ szS' t.text := by unfold szS'; omega
  have z : szS' zeroS = 1 := rfl
  simp only [List.map_nil, List.sum_nil, Nat.zero_add] at h2
  unfold stepM
  split
  · rw [mtL_app]
    have e : mtL [Tree.mk (fixS t.tag) (onceA t.attrs []) ks zeroS] = szS' (fixS t.tag) + ((onceA t.attrs []).map szA').sum + szTs ks + 2 * 0 + 2 := by simp [mtL, mtS, Tree.tag, Tree.attrs, Tree.kids, Tree.text, zeroS]
    omega
  · split
    · omega
    · have e : mtL [Tree.mk zeroS [] [] (fixS t.text)] = 1 + 2 * t.text.text.length + 2 := by simp [mtL, mtS, Tree.tag, Tree.attrs, Tree.kids, Tree.text, fixS, z, szTs]
      split
      · omega
      · rename_i u hl
        obtain ⟨ys, rfl⟩ := List.getLast?_eq_some_iff.1 hl
        split
        · rw [mtL_app]; omega
        · rw [List.dropLast_concat, mtL_app, mtL_app]
          have e1 : mtL [Tree.mk u.tag u.attrs u.kids (catS [u.text, t.text])] = mtL [u] + 2 * t.text.text.length := by simp [mtL, mtS, Tree.tag, Tree.attrs, Tree.kids, Tree.text, catS]; omega
          omega
theorem sz_mt : ∀ l : List Tree, (∀ u ∈ l, u.text.runs.length ≤ u.text.text.length) → szTs l ≤ mtL l
  | [], _ => by simp [szTs]
  | t :: l, h => by
    have h1 := sz_mt l fun u hu => h u (by simp [hu])
    have h2 := h t (by simp)
    have h3 := szT_eq t
    have h4 : szS' t.text = t.text.text.length + t.text.runs.length + 1 := rfl
    have h5 : mtL (t :: l) = mtS t + mtL l := by simp [mtL]
    have h6 : mtS t = szS' t.tag + (t.attrs.map szA').sum + szTs t.kids + 2 * t.text.text.length + 2 := rfl
    simp only [szTs]
    omega
theorem merge_inv (l : List Tree) : invM (szTs l) (mergeT l) ∧ (mergeT l).length ≤ l.length := by
  have := mergeF_inv l l.length (Nat.le_refl _)
  rw [List.take_length] at this
  exact this
mutual
theorem mergeK_sz : ∀ t : Tree, szTs (mergeK t) ≤ 2 * szTs t.kids
  | .mk tag attrs kids text => by
    have h1 := mergeF_sz kids []
    have h2 := merge_inv kids
    have h3 := sz_mt _ h2.1.1
    rw [mergeK]
    show szTs (mergeT kids) ≤ 2 * szTs kids
    have h4 : mtL (mergeF kids []) ≤ mtL [] + 2 * szTs kids := h1
    have h5 : mtL ([] : List Tree) = 0 := rfl
    have h6 : mtL (mergeT kids) = mtL (mergeF kids []) := rfl
    omega
theorem mergeF_sz : ∀ (l acc : List Tree), mtL (mergeF l acc) ≤ mtL acc + 2 * szTs l
  | [], acc => by simp only [mergeF, szTs]; omega
  | t :: l, acc => by
    have h1 := mergeF_sz l (stepM acc t (mergeK t))
    have h2 := step_sz acc t (mergeK t) (mergeK_sz t)
    simp only [mergeF, szTs]
    omega
end
theorem merge_sz (l : List Tree) : szTs (mergeT l) ≤ 2 * szTs l := by
  have h := mergeK_sz (.mk zeroS [] l zeroS)
  rw [mergeK_eq] at h
  exact h
end Go.Proofs.Ytjplgbalpnlanaa

/- The walks of the law of trees: Cat, Texts, Trees; merge. -/
set_option linter.unusedSimpArgs false
set_option linter.unusedVariables false
set_option maxRecDepth 100000
namespace Go.Proofs.Ytjplgbalpnlanaa
open Go Go.EL
theorem zrTree41 : type_of% (And.intro (And.intro (And.intro (And.intro (@st_run) (@sz_run)) (And.intro (@st1_run) (And.intro (@cl_run) (@st_Str)))) (And.intro (And.intro (@sz_Str) (@st1_Str)) (And.intro (@cl_Str) (And.intro (@st_c) (@sz_c))))) (And.intro (And.intro (And.intro (@st1_c) (@cl_c)) (And.intro (@st_attr) (And.intro (@sz_attr) (@st1_attr)))) (And.intro (And.intro (@cl_attr) (@st_tree)) (And.intro (@sz_tree) (And.intro (@st1_tree) (@cl_tree)))))) := And.intro (And.intro (And.intro (And.intro (@st_run) (@sz_run)) (And.intro (@st1_run) (And.intro (@cl_run) (@st_Str)))) (And.intro (And.intro (@sz_Str) (@st1_Str)) (And.intro (@cl_Str) (And.intro (@st_c) (@sz_c))))) (And.intro (And.intro (And.intro (@st1_c) (@cl_c)) (And.intro (@st_attr) (And.intro (@sz_attr) (@st1_attr)))) (And.intro (And.intro (@cl_attr) (@st_tree)) (And.intro (@sz_tree) (And.intro (@st1_tree) (@cl_tree)))))
theorem zlTree41 : type_of% (And.intro (And.intro (And.intro (And.intro (@lt_vi) (@lt_str)) (And.intro (@lt_vb) (And.intro (@ltc_str) (@ltc_vi)))) (And.intro (And.intro (@lt_run) (@lt1_run)) (And.intro (@ltc_run) (And.intro (@lt_Str) (@lt1_Str))))) (And.intro (And.intro (And.intro (@ltc_Str) (@lt_c)) (And.intro (@lt1_c) (And.intro (@ltc_c) (@lt_attr)))) (And.intro (And.intro (@lt1_attr) (@ltc_attr)) (And.intro (@lt_tree) (And.intro (@lt1_tree) (@ltc_tree)))))) := And.intro (And.intro (And.intro (And.intro (@lt_vi) (@lt_str)) (And.intro (@lt_vb) (And.intro (@ltc_str) (@ltc_vi)))) (And.intro (And.intro (@lt_run) (@lt1_run)) (And.intro (@ltc_run) (And.intro (@lt_Str) (@lt1_Str))))) (And.intro (And.intro (And.intro (@ltc_Str) (@lt_c)) (And.intro (@lt1_c) (And.intro (@ltc_c) (@lt_attr)))) (And.intro (And.intro (@lt1_attr) (@ltc_attr)) (And.intro (@lt_tree) (And.intro (@lt1_tree) (@ltc_tree)))))
noncomputable instance : DecidableEq Tree := fun _ _ => Classical.propDecidable _
mutual
/-- a tree in its own form -/
def fxT : Tree → Tree
  | .mk tag attrs kids text => .mk (fixS tag) (attrs.map ownA) (fxs kids) (fixS text)
def fxs : List Tree → List Tree
  | [] => []
  | t :: l => fxT t :: fxs l
end
theorem fxs_map : ∀ l : List Tree, fxs l = l.map fxT
  | [] => by simp only [fxs, List.map_nil]
  | t :: l => by simp only [fxs, List.map_cons, fxs_map l]
theorem fxT_mk (a : Str) (b : List Attr) (c : List Tree) (d : Str) : fxT (.mk a b c d) = .mk (fixS a) (b.map ownA) (c.map fxT) (fixS d) := by rw [fxT, fxs_map]
theorem fxT_eq (t : Tree) : fxT t = .mk (fixS t.tag) (t.attrs.map ownA) (t.kids.map fxT) (fixS t.text) := by cases t; exact fxT_mk _ _ _ _
theorem plTexts (H : List Ob) (l m : List (List UInt8)) : SCall Try.prog 24 [.slice (l.map V.str), .slice (m.map V.str)] H (fun r H' => r = .bool (decide (l = m)) ∧ H' = H) := by
  refine SCall.sized 0 rfl fun hl => ?_
  rw [List.length_map, maxLen_eq] at hl
  refine SCall.of_good fun hH => ?_
  have hHk := HLt.add hH
  refine SCall.of_code Tok Try.func24 rfl Try.call24 (n := 26) rfl (by simp) (rs := [.tmp 4]) rfl ?_
  refine EWn.to ?_
  refine EWn.of_c Tok mixed (own := false) keep24 tab24 (by kernel_rfl) ?_
  (repeat simp -dsimp only [zrTree41, RB, TB, keep24, tab24, xindexAddr, xindex, xslice, xconvert, xlen, ewOp, FreeW, StabW, SameW, ChangeW, AddW, BaseW, limBytes, simprocAttr, ne_eq])
  refine IfW.intro (fun h => ?_) (fun h => ?_)
  rotate_left
  · (repeat simp -dsimp only [zrTree41, h, RB, TB, keep24, tab24, xindexAddr, xindex, xslice, xconvert, xlen, ewOp, FreeW, StabW, SameW, ChangeW, AddW, BaseW, limBytes, simprocAttr, ne_eq])
    refine RetW.auto0 false _ (by first | rfl | exact (List.append_nil _).symm) ?_ ?_
    · (simp (maxDischargeDepth := 6) [LTB, HLt_set, ltL_take, ltL_drop, ltL_rep, ltL_set, upd, eset, hH, hHk, zlTree41] <;> omega)
    (try simp only [wk, wk1, wk0, RB, limBytes, simprocAttr, ne_eq])
    skip
    have hlm : l ≠ m := by rintro rfl; simp at h
    simp [hlm]
  have hlm : l.length = m.length := by simp at h; omega
  (repeat simp -dsimp only [zrTree41, h, RB, TB, keep24, tab24, xindexAddr, xindex, xslice, xconvert, xlen, ewOp, FreeW, StabW, SameW, ChangeW, AddW, BaseW, limBytes, simprocAttr, ne_eq])
  refine EWn.loopE (ι := (Nat)) (fun (i : (Nat)) => i ≤ l.length ∧ l.take i = m.take i) (fun (i : (Nat)) => l.length - i) (fun (i : (Nat)) => [(5, .int .i64 i)]) (fun (i : (Nat)) => H) (0) ?_ ?_ ?_ ?_ ?_
  · first | rfl | simp [upd, eset]
  · first | rfl | (simp; done) | exact (set_same (by assumption)).symm
  · rintro i hok; exact ⟨by first | (simp; done) | (simp; omega), by (simp (maxDischargeDepth := 6) [LTB, HLt_set, ltL_take, ltL_drop, ltL_rep, ltL_set, upd, eset, hH, hHk, zlTree41] <;> omega), by (simp (maxDischargeDepth := 6) [LTB, HLt_set, ltL_take, ltL_drop, ltL_rep, ltL_set, upd, eset, hH, hHk, zlTree41] <;> omega)⟩
  · simp
  rintro i ⟨hi, hno⟩
  refine EWn.of_c Tok mixed (own := false) keep24 tab24 (by kernel_rfl) ?_
  (repeat simp -dsimp only [zrTree41, RB, TB, keep24, tab24, xindexAddr, xindex, xslice, xconvert, xlen, ewOp, FreeW, StabW, SameW, ChangeW, AddW, BaseW, limBytes, simprocAttr, ne_eq])
  refine IfW.intro (fun h1 => ?_) (fun h1 => ?_)
  · have hlt := lt_of h1
    have hlt' : i < m.length := by omega
    (repeat (first | simp -dsimp only [zrTree41, h1, at_map V.str l i hlt, at_map V.str m i hlt', st_str, RB, TB, keep24, tab24, xindexAddr, xindex, xslice, xconvert, xlen, ewOp, FreeW, StabW, SameW, ChangeW, AddW, BaseW, limBytes, simprocAttr, ne_eq] | ((with_reducible refine Need.intro ?_ ?_); (omega))))
    refine IfW.intro (fun hb => ?_) (fun hb => ?_)
    · (repeat simp -dsimp only [zrTree41, hb, RB, TB, keep24, tab24, xindexAddr, xindex, xslice, xconvert, xlen, ewOp, FreeW, StabW, SameW, ChangeW, AddW, BaseW, limBytes, simprocAttr, ne_eq])
      rw [wrapI (by omega)]
      have hb : l[i] = m[i] := by simp at hb; exact hb
      refine UpTo.here ⟨(i + 1), ?_, by first | omega | (simp only [List.length_append, List.length_cons, List.length_nil]; omega), by simp [upd, eset], ⟨_, by simp; try rfl⟩⟩
      exact ⟨hlt, by rw [List.take_succ_eq_append_getElem hlt, List.take_succ_eq_append_getElem hlt', hno, hb]⟩
    · (repeat simp -dsimp only [zrTree41, hb, RB, TB, keep24, tab24, xindexAddr, xindex, xslice, xconvert, xlen, ewOp, FreeW, StabW, SameW, ChangeW, AddW, BaseW, limBytes, simprocAttr, ne_eq])
      refine RetW.auto0 false _ (by first | rfl | exact (List.append_nil _).symm) ?_ ?_
      · (simp (maxDischargeDepth := 6) [LTB, HLt_set, ltL_take, ltL_drop, ltL_rep, ltL_set, upd, eset, hH, hHk, zlTree41] <;> omega)
      (try simp only [wk, wk1, wk0, RB, limBytes, simprocAttr, ne_eq])
      skip
      have hlm : l ≠ m := by rintro rfl; simp at hb
      simp [hlm]
  · (repeat simp -dsimp only [zrTree41, h1, RB, TB, keep24, tab24, xindexAddr, xindex, xslice, xconvert, xlen, ewOp, FreeW, StabW, SameW, ChangeW, AddW, BaseW, limBytes, simprocAttr, ne_eq])
    have hge := ge_of h1
    rw [List.take_of_length_le hge, List.take_of_length_le (by omega)] at hno
    refine RetW.auto0 false _ (by first | rfl | exact (List.append_nil _).symm) ?_ ?_
    · (simp (maxDischargeDepth := 6) [LTB, HLt_set, ltL_take, ltL_drop, ltL_rep, ltL_set, upd, eset, hH, hHk, zlTree41] <;> omega)
    (try simp only [wk, wk1, wk0, RB, limBytes, simprocAttr, ne_eq])
    skip
    simp [hno]

set_option maxHeartbeats 4000000 in
theorem pTrees : ∀ (n : Nat) (l m : List Tree), szTs l ≤ n → szTs l ≤ 1000000000 → szTs m ≤ 1000000000 → ∀ H : List Ob, SCall Try.prog 21 [.slice (l.map treeV), .slice (m.map treeV)] H (fun r H' => r = .bool (decide (l.map fxT = m.map fxT)) ∧ H' = H) := by
  intro n
  induction n with
  | zero =>
    intro l m h _ hm H
    have h0 : l = [] := List.eq_nil_of_length_eq_zero (by have := sz_len l; omega)
    subst h0
    have hmm := sz_len m
    refine SCall.of_good fun hH => ?_
    have hHk := HLt.add hH
    refine SCall.of_code Tok Try.func21 rfl Try.call21 (n := 71) rfl (by simp) (rs := [.tmp 4]) rfl ?_
    refine EWn.to ?_
    refine EWn.of_c Tok mixed (own := false) keep21 tab21 (by kernel_rfl) ?_
    (repeat simp -dsimp only [zrTree41, RB, TB, keep21, tab21, xindexAddr, xindex, xslice, xconvert, xlen, ewOp, FreeW, StabW, SameW, ChangeW, AddW, BaseW, limBytes, simprocAttr, ne_eq])
    refine IfW.intro (fun h => ?_) (fun h => ?_)
    rotate_left
    · (repeat simp -dsimp only [zrTree41, h, RB, TB, keep21, tab21, xindexAddr, xindex, xslice, xconvert, xlen, ewOp, FreeW, StabW, SameW, ChangeW, AddW, BaseW, limBytes, simprocAttr, ne_eq])
      refine RetW.auto0 false _ (by first | rfl | exact (List.append_nil _).symm) ?_ ?_
      · (simp (maxDischargeDepth := 6) [LTB, HLt_set, ltL_take, ltL_drop, ltL_rep, ltL_set, upd, eset, hH, hHk, zlTree41] <;> omega)
      (try simp only [wk, wk1, wk0, RB, limBytes, simprocAttr, ne_eq])
      skip
      have : m ≠ [] := by rintro rfl; simp at h
      simp [this]
    have hm0 : m = [] := List.eq_nil_of_length_eq_zero (by simp at h; omega)
    subst hm0
    (repeat simp -dsimp only [zrTree41, h, RB, TB, keep21, tab21, xindexAddr, xindex, xslice, xconvert, xlen, ewOp, FreeW, StabW, SameW, ChangeW, AddW, BaseW, limBytes, simprocAttr, ne_eq])
    refine EWn.rounds 1 ?_
    show EWn _ _ _ _ _ _ _
    refine EWn.of_c Tok mixed (own := false) keep21 tab21 (by kernel_rfl) ?_
    (repeat simp -dsimp only [zrTree41, RB, TB, keep21, tab21, xindexAddr, xindex, xslice, xconvert, xlen, ewOp, FreeW, StabW, SameW, ChangeW, AddW, BaseW, limBytes, simprocAttr, ne_eq])
    refine RetW.auto0 false _ (by first | rfl | exact (List.append_nil _).symm) ?_ ?_
    · (simp (maxDischargeDepth := 6) [LTB, HLt_set, ltL_take, ltL_drop, ltL_rep, ltL_set, upd, eset, hH, hHk, zlTree41] <;> omega)
    (try simp only [wk, wk1, wk0, RB, limBytes, simprocAttr, ne_eq])
    skip
  | succ n ih =>
    intro l m hn hl hm H
    have hll := sz_len l
    have hmm := sz_len m
    refine SCall.of_good fun hH => ?_
    have hHk := HLt.add hH
    refine SCall.of_code Tok Try.func21 rfl Try.call21 (n := 71) rfl (by simp) (rs := [.tmp 4]) rfl ?_
    refine EWn.to ?_
    refine EWn.of_c Tok mixed (own := false) keep21 tab21 (by kernel_rfl) ?_
    (repeat simp -dsimp only [zrTree41, RB, TB, keep21, tab21, xindexAddr, xindex, xslice, xconvert, xlen, ewOp, FreeW, StabW, SameW, ChangeW, AddW, BaseW, limBytes, simprocAttr, ne_eq])
    refine IfW.intro (fun h => ?_) (fun h => ?_)
    rotate_left
    · (repeat simp -dsimp only [zrTree41, h, RB, TB, keep21, tab21, xindexAddr, xindex, xslice, xconvert, xlen, ewOp, FreeW, StabW, SameW, ChangeW, AddW, BaseW, limBytes, simprocAttr, ne_eq])
      refine RetW.auto0 false _ (by first | rfl | exact (List.append_nil _).symm) ?_ ?_
      · (simp (maxDischargeDepth := 6) [LTB, HLt_set, ltL_take, ltL_drop, ltL_rep, ltL_set, upd, eset, hH, hHk, zlTree41] <;> omega)
      (try simp only [wk, wk1, wk0, RB, limBytes, simprocAttr, ne_eq])
      skip
      have hlm : l.map fxT ≠ m.map fxT := by intro h0; have := congrArg List.length h0; simp at this h; omega
      simp [hlm]
    have hlm : l.length = m.length := by simp at h; omega
    (repeat simp -dsimp only [zrTree41, h, RB, TB, keep21, tab21, xindexAddr, xindex, xslice, xconvert, xlen, ewOp, FreeW, StabW, SameW, ChangeW, AddW, BaseW, limBytes, simprocAttr, ne_eq])
    refine EWn.loopE (ι := (Nat)) (fun (i : (Nat)) => i ≤ l.length ∧ (l.take i).map fxT = (m.take i).map fxT) (fun (i : (Nat)) => l.length - i) (fun (i : (Nat)) => [(5, .int .i64 i)]) (fun (i : (Nat)) => H) (0) ?_ ?_ ?_ ?_ ?_
    · first | rfl | simp [upd, eset]
    · first | rfl | (simp; done) | exact (set_same (by assumption)).symm
    · rintro i hok; exact ⟨by first | (simp; done) | (simp; omega), by (simp (maxDischargeDepth := 6) [LTB, HLt_set, ltL_take, ltL_drop, ltL_rep, ltL_set, upd, eset, hH, hHk, zlTree41] <;> omega), by (simp (maxDischargeDepth := 6) [LTB, HLt_set, ltL_take, ltL_drop, ltL_rep, ltL_set, upd, eset, hH, hHk, zlTree41] <;> omega)⟩
    · simp
    rintro i ⟨hi, hno⟩
    refine EWn.of_c Tok mixed (own := false) keep21 tab21 (by kernel_rfl) ?_
    (repeat simp -dsimp only [zrTree41, RB, TB, keep21, tab21, xindexAddr, xindex, xslice, xconvert, xlen, ewOp, FreeW, StabW, SameW, ChangeW, AddW, BaseW, limBytes, simprocAttr, ne_eq])
    refine IfW.intro (fun h1 => ?_) (fun h1 => ?_)
    · have hlt := lt_of h1
      have hlt' : i < m.length := by omega
      have hte := treeV_eq l[i]
      have hte' := treeV_eq m[i]
      have s1 := szT_eq l[i]
      have s2 := szT_eq m[i]
      have s3 := szTs_mem (List.getElem_mem hlt)
      have s4 := szTs_mem (List.getElem_mem hlt')
      obtain ⟨oa1, oa2⟩ := okA_sz' (l := l[i].attrs) (by omega)
      obtain ⟨ob1, ob2⟩ := okA_sz' (l := m[i].attrs) (by omega)
      have bad : fxT l[i] ≠ fxT m[i] → decide (l.map fxT = m.map fxT) = false := fun hne => decide_eq_false fun h0 => by
        have := congrArg (fun x => x[i]?) h0
        simp only [List.getElem?_map, List.getElem?_eq_getElem hlt, List.getElem?_eq_getElem hlt', Option.map_some] at this
        injection this with this
        exact hne this
      have bad : ¬ (fixS l[i].tag = fixS m[i].tag ∧ l[i].attrs.map ownA = m[i].attrs.map ownA ∧ l[i].kids.map fxT = m[i].kids.map fxT ∧ fixS l[i].text = fixS m[i].text) → decide (l.map fxT = m.map fxT) = false := fun hne => bad fun h0 => by
        rw [fxT_eq, fxT_eq] at h0
        injection h0 with e1 e2 e3 e4
        exact hne ⟨e1, e2, e3, e4⟩
      (repeat (first | simp -dsimp only [zrTree41, h1, at_map treeV l i hlt, at_map treeV m i hlt', hte, hte', RB, TB, keep21, tab21, xindexAddr, xindex, xslice, xconvert, xlen, ewOp, FreeW, StabW, SameW, ChangeW, AddW, BaseW, limBytes, simprocAttr, ne_eq] | ((with_reducible refine Need.intro ?_ ?_); (omega))))
      (refine CallE.intro _ (pStr _ l[i].tag m[i].tag (okS_sz' (by omega)) (okS_sz' (by omega))) ?_)
      (repeat simp -dsimp only [zrTree41, RB, TB, keep21, tab21, xindexAddr, xindex, xslice, xconvert, xlen, ewOp, FreeW, StabW, SameW, ChangeW, AddW, BaseW, limBytes, simprocAttr, ne_eq])
      refine IfW.intro (fun hb => ?_) (fun hb => ?_)
      · have hb' := of_decide_eq_true hb
        (repeat (first | simp -dsimp only [zrTree41, hb, h1, at_map treeV l i hlt, at_map treeV m i hlt', hte, hte', RB, TB, keep21, tab21, xindexAddr, xindex, xslice, xconvert, xlen, ewOp, FreeW, StabW, SameW, ChangeW, AddW, BaseW, limBytes, simprocAttr, ne_eq] | ((with_reducible refine Need.intro ?_ ?_); (omega))))
        (refine CallE.intro _ (pStr _ l[i].text m[i].text (okS_sz' (by omega)) (okS_sz' (by omega))) ?_)
        (repeat simp -dsimp only [zrTree41, RB, TB, keep21, tab21, xindexAddr, xindex, xslice, xconvert, xlen, ewOp, FreeW, StabW, SameW, ChangeW, AddW, BaseW, limBytes, simprocAttr, ne_eq])
        refine IfW.intro (fun hc => ?_) (fun hc => ?_)
        · have hc' := of_decide_eq_true hc
          (repeat (first | simp -dsimp only [zrTree41, hb, hc, h1, at_map treeV l i hlt, at_map treeV m i hlt', hte, hte', RB, TB, keep21, tab21, xindexAddr, xindex, xslice, xconvert, xlen, ewOp, FreeW, StabW, SameW, ChangeW, AddW, BaseW, limBytes, simprocAttr, ne_eq] | ((with_reducible refine Need.intro ?_ ?_); (omega))))
          (refine CallE.intro _ (pAttrs _ l[i].attrs m[i].attrs oa1 ob1) ?_)
          (repeat simp -dsimp only [zrTree41, RB, TB, keep21, tab21, xindexAddr, xindex, xslice, xconvert, xlen, ewOp, FreeW, StabW, SameW, ChangeW, AddW, BaseW, limBytes, simprocAttr, ne_eq])
          refine IfW.intro (fun hd => ?_) (fun hd => ?_)
          · have hd' := of_decide_eq_true hd
            (repeat (first | simp -dsimp only [zrTree41, hb, hc, hd, h1, at_map treeV l i hlt, at_map treeV m i hlt', hte, hte', RB, TB, keep21, tab21, xindexAddr, xindex, xslice, xconvert, xlen, ewOp, FreeW, StabW, SameW, ChangeW, AddW, BaseW, limBytes, simprocAttr, ne_eq] | ((with_reducible refine Need.intro ?_ ?_); (omega))))
            (refine CallE.intro _ (ih l[i].kids m[i].kids (by omega) (by omega) (by omega) _) ?_)
            (repeat simp -dsimp only [zrTree41, RB, TB, keep21, tab21, xindexAddr, xindex, xslice, xconvert, xlen, ewOp, FreeW, StabW, SameW, ChangeW, AddW, BaseW, limBytes, simprocAttr, ne_eq])
            refine IfW.intro (fun he => ?_) (fun he => ?_)
            · have he' := of_decide_eq_true he
              (repeat simp -dsimp only [zrTree41, hb, hc, hd, he, RB, TB, keep21, tab21, xindexAddr, xindex, xslice, xconvert, xlen, ewOp, FreeW, StabW, SameW, ChangeW, AddW, BaseW, limBytes, simprocAttr, ne_eq])
              rw [wrapI (by omega)]
              refine UpTo.here ⟨(i + 1), ?_, by first | omega | (simp only [List.length_append, List.length_cons, List.length_nil]; omega), by simp [upd, eset], ⟨_, by simp; try rfl⟩⟩
              have e : fxT l[i] = fxT m[i] := by rw [fxT_eq, fxT_eq, hb', hc', hd', he']
              exact ⟨hlt, by rw [List.take_succ_eq_append_getElem hlt, List.take_succ_eq_append_getElem hlt', List.map_append, List.map_append, hno]; simp [e]⟩
            · (repeat simp -dsimp only [zrTree41, hb, hc, hd, he, RB, TB, keep21, tab21, xindexAddr, xindex, xslice, xconvert, xlen, ewOp, FreeW, StabW, SameW, ChangeW, AddW, BaseW, limBytes, simprocAttr, ne_eq])
              refine RetW.auto0 false _ (by first | rfl | exact (List.append_nil _).symm) ?_ ?_
              · (simp (maxDischargeDepth := 6) [LTB, HLt_set, ltL_take, ltL_drop, ltL_rep, ltL_set, upd, eset, hH, hHk, zlTree41] <;> omega)
              (try simp only [wk, wk1, wk0, RB, limBytes, simprocAttr, ne_eq])
              skip
              rw [bad fun h => of_decide_eq_false he h.2.2.1]
          · (repeat simp -dsimp only [zrTree41, hb, hc, hd, RB, TB, keep21, tab21, xindexAddr, xindex, xslice, xconvert, xlen, ewOp, FreeW, StabW, SameW, ChangeW, AddW, BaseW, limBytes, simprocAttr, ne_eq])
            refine RetW.auto0 false _ (by first | rfl | exact (List.append_nil _).symm) ?_ ?_
            · (simp (maxDischargeDepth := 6) [LTB, HLt_set, ltL_take, ltL_drop, ltL_rep, ltL_set, upd, eset, hH, hHk, zlTree41] <;> omega)
            (try simp only [wk, wk1, wk0, RB, limBytes, simprocAttr, ne_eq])
            skip
            rw [bad fun h => of_decide_eq_false hd h.2.1]
        · (repeat simp -dsimp only [zrTree41, hb, hc, RB, TB, keep21, tab21, xindexAddr, xindex, xslice, xconvert, xlen, ewOp, FreeW, StabW, SameW, ChangeW, AddW, BaseW, limBytes, simprocAttr, ne_eq])
          refine RetW.auto0 false _ (by first | rfl | exact (List.append_nil _).symm) ?_ ?_
          · (simp (maxDischargeDepth := 6) [LTB, HLt_set, ltL_take, ltL_drop, ltL_rep, ltL_set, upd, eset, hH, hHk, zlTree41] <;> omega)
          (try simp only [wk, wk1, wk0, RB, limBytes, simprocAttr, ne_eq])
          skip
          rw [bad fun h => of_decide_eq_false hc h.2.2.2]
      · (repeat simp -dsimp only [zrTree41, hb, RB, TB, keep21, tab21, xindexAddr, xindex, xslice, xconvert, xlen, ewOp, FreeW, StabW, SameW, ChangeW, AddW, BaseW, limBytes, simprocAttr, ne_eq])
        refine RetW.auto0 false _ (by first | rfl | exact (List.append_nil _).symm) ?_ ?_
        · (simp (maxDischargeDepth := 6) [LTB, HLt_set, ltL_take, ltL_drop, ltL_rep, ltL_set, upd, eset, hH, hHk, zlTree41] <;> omega)
        (try simp only [wk, wk1, wk0, RB, limBytes, simprocAttr, ne_eq])
        skip
        rw [bad fun h => of_decide_eq_false hb h.1]
    · (repeat simp -dsimp only [zrTree41, h1, RB, TB, keep21, tab21, xindexAddr, xindex, xslice, xconvert, xlen, ewOp, FreeW, StabW, SameW, ChangeW, AddW, BaseW, limBytes, simprocAttr, ne_eq])
      have hge := ge_of h1
      rw [List.take_of_length_le hge, List.take_of_length_le (by omega)] at hno
      refine RetW.auto0 false _ (by first | rfl | exact (List.append_nil _).symm) ?_ ?_
      · (simp (maxDischargeDepth := 6) [LTB, HLt_set, ltL_take, ltL_drop, ltL_rep, ltL_set, upd, eset, hH, hHk, zlTree41] <;> omega)
      (try simp only [wk, wk1, wk0, RB, limBytes, simprocAttr, ne_eq])
      skip
      simp [hno]
end Go.Proofs.Ytjplgbalpnlanaa

/- The walks of package arena: nodes, own, slices.Clone, is, New. -/
set_option maxHeartbeats 600000
set_option linter.unusedSimpArgs false
set_option linter.unusedVariables false
set_option maxRecDepth 100000
namespace Go.Proofs.Ytjplgbalpnlanaa
open Go Go.EL
theorem zrArena01 : type_of% (And.intro (And.intro (And.intro (And.intro (@st_run) (@sz_run)) (And.intro (@st1_run) (@cl_run))) (And.intro (And.intro (@st_Str) (@sz_Str)) (And.intro (@st1_Str) (@cl_Str)))) (And.intro (And.intro (And.intro (@st_c) (@sz_c)) (And.intro (@st1_c) (@cl_c))) (And.intro (And.intro (@st_attr) (@sz_attr)) (And.intro (@st1_attr) (@cl_attr))))) := And.intro (And.intro (And.intro (And.intro (@st_run) (@sz_run)) (And.intro (@st1_run) (@cl_run))) (And.intro (And.intro (@st_Str) (@sz_Str)) (And.intro (@st1_Str) (@cl_Str)))) (And.intro (And.intro (And.intro (@st_c) (@sz_c)) (And.intro (@st1_c) (@cl_c))) (And.intro (And.intro (@st_attr) (@sz_attr)) (And.intro (@st1_attr) (@cl_attr))))
theorem zlArena01 : type_of% (And.intro (And.intro (And.intro (And.intro (@lt_vi) (@lt_str)) (And.intro (@lt_vb) (@ltc_str))) (And.intro (And.intro (@ltc_vi) (@lt_run)) (And.intro (@lt1_run) (@ltc_run)))) (And.intro (And.intro (And.intro (@lt_Str) (@lt1_Str)) (And.intro (@ltc_Str) (@lt_c))) (And.intro (And.intro (@lt1_c) (@ltc_c)) (And.intro (@lt_attr) (And.intro (@lt1_attr) (@ltc_attr)))))) := And.intro (And.intro (And.intro (And.intro (@lt_vi) (@lt_str)) (And.intro (@lt_vb) (@ltc_str))) (And.intro (And.intro (@ltc_vi) (@lt_run)) (And.intro (@lt1_run) (@ltc_run)))) (And.intro (And.intro (And.intro (@lt_Str) (@lt1_Str)) (And.intro (@ltc_Str) (@lt_c))) (And.intro (And.intro (@lt1_c) (@ltc_c)) (And.intro (@lt_attr) (And.intro (@lt1_attr) (@ltc_attr)))))
structure Hook where
  ev : Int
  cap : Bool
  nm : Int
structure Node where
  id : Int
  owner : Int
  parent : Int
  kind : Int
  tag : Str
  key : List UInt8
  slot : Int
  attrs : List Attr
  hooks : List Hook
  kids : List Int
  text : Str
def hookV (h : Hook) : V := .agg [.int .i64 h.ev, .bool h.cap, .int .i64 h.nm]
theorem lt_hook (n : Nat) (l : List (Hook)) : ltL n (l.map hookV) := ltL_map (f := hookV) (fun _ => by simp [hookV, V.lt, ltL]) l
theorem lt1_hook (n : Nat) (x : Hook) : V.lt n (hookV x) := by simp [hookV, V.lt, ltL]
theorem ltc_hook {α : Type} (n : Nat) (g : α → Hook) (l : List α) : ltL n (l.map (hookV ∘ g)) := ltL_map (f := hookV ∘ g) (fun x => lt1_hook n (g x)) l
theorem st_hook (l : List (Hook)) : (∀ x, x ∈ l.map hookV → x.storable) = True := eq_true (storable_map (f := hookV) (fun _ => trivial) l)
theorem sz_hook (l : List (Hook)) : Sized 3 (l.map hookV) = True := eq_true (sizedMapV (f := hookV) (fun _ => rfl) l)
theorem st1_hook (x : Hook) : (hookV x).storable = True := eq_true trivial
theorem cl_hook (x : Hook) : (hookV x).cells.length = 3 := rfl

def nodeV (n : Node) : V := .agg [.int .i64 n.id, .int .i64 n.owner, .int .i64 n.parent, .int .i64 n.kind, .str n.tag.text, .slice (n.tag.runs.map runV), .str n.key, .int .i64 n.slot, .slice (n.attrs.map attrV), .slice (n.hooks.map hookV), .slice (n.kids.map vi), .str n.text.text, .slice (n.text.runs.map runV)]
theorem lt_node (n : Nat) (l : List (Node)) : ltL n (l.map nodeV) := ltL_map (f := nodeV) (fun _ => by simp [nodeV, V.lt, ltL, lt_run, lt_attr, lt_hook, lt_vi]) l
theorem lt1_node (n : Nat) (x : Node) : V.lt n (nodeV x) := by simp [nodeV, V.lt, ltL, lt_run, lt_attr, lt_hook, lt_vi]
theorem ltc_node {α : Type} (n : Nat) (g : α → Node) (l : List α) : ltL n (l.map (nodeV ∘ g)) := ltL_map (f := nodeV ∘ g) (fun x => lt1_node n (g x)) l
theorem st_node (l : List (Node)) : (∀ x, x ∈ l.map nodeV → x.storable) = True := eq_true (storable_map (f := nodeV) (fun _ => trivial) l)
theorem sz_node (l : List (Node)) : Sized 13 (l.map nodeV) = True := eq_true (sizedMapV (f := nodeV) (fun _ => rfl) l)
theorem st1_node (x : Node) : (nodeV x).storable = True := eq_true trivial
theorem cl_node (x : Node) : (nodeV x).cells.length = 13 := rfl

def ownN (n : Node) : Node := { n with tag := fixS n.tag, text := fixS n.text, attrs := n.attrs.map ownA }
def okN (n : Node) : Prop := okS n.tag ∧ okS n.text ∧ (∀ a ∈ n.attrs, okA a) ∧ n.attrs.length ≤ 1000000000000 ∧ n.hooks.length ≤ 1000000000000 ∧ n.kids.length ≤ 1000000000000
theorem cloneH (H : List Ob) (l : List Hook) (hl : l.length ≤ 1000000000000) : SCall Try.prog 112 [.slice (l.map hookV)] H (fun r H' => r = .slice (l.map hookV) ∧ H' = H) := by
  refine SCall.of_good fun hH => ?_
  have hHk := HLt.add hH
  refine SCall.of_code Tok Try.func112 rfl Try.call112 (n := 8) rfl (by simp) (rs := [.tmp 2]) rfl ?_
  refine EWn.to ?_
  refine EWn.of_c Tok mixed (own := false) keep112 tab112 (by kernel_rfl) ?_
  (repeat simp -dsimp only [zrArena01, st_hook, sz_hook, st1_hook, cl_hook, st_node, sz_node, st1_node, cl_node, xnils, xnilm, xrange, xmakeMap, RB, TB, keep112, tab112, xindexAddr, xindex, xslice, xconvert, xlen, ewOp, FreeW, StabW, SameW, ChangeW, AddW, BaseW, limBytes, simprocAttr, ne_eq])
  refine AnyB.intro fun b hb => ?_
  (repeat simp -dsimp only [zrArena01, st_hook, sz_hook, st1_hook, cl_hook, st_node, sz_node, st1_node, cl_node, xnils, xnilm, xrange, xmakeMap, RB, TB, keep112, tab112, xindexAddr, xindex, xslice, xconvert, xlen, ewOp, FreeW, StabW, SameW, ChangeW, AddW, BaseW, limBytes, simprocAttr, ne_eq])
  refine IfW.intro (fun h => ?_) (fun h => ?_)
  · subst h
    have h0 : l = [] := by cases l with
      | nil => rfl
      | cons x l => exact absurd (hb (by simp)) (by simp)
    subst h0
    (repeat simp -dsimp only [zrArena01, st_hook, sz_hook, st1_hook, cl_hook, st_node, sz_node, st1_node, cl_node, xnils, xnilm, xrange, xmakeMap, RB, TB, keep112, tab112, xindexAddr, xindex, xslice, xconvert, xlen, ewOp, FreeW, StabW, SameW, ChangeW, AddW, BaseW, limBytes, simprocAttr, ne_eq])
    refine RetW.auto0 false _ (by first | rfl | exact (List.append_nil _).symm) ?_ ?_
    · (simp (maxDischargeDepth := 6) [LTB, HLt_set, ltL_take, ltL_drop, ltL_rep, ltL_set, upd, eset, hH, hHk, zlArena01, lt_hook, lt1_hook, ltc_hook, lt_node, lt1_node, ltc_node] <;> omega)
    (try simp only [wk, wk1, wk0, RB, limBytes, simprocAttr, ne_eq])
    skip
  · subst h
    (repeat (first | simp -dsimp only [zrArena01, st_hook, sz_hook, st1_hook, cl_hook, st_node, sz_node, st1_node, cl_node, xnils, xnilm, xrange, xmakeMap, RB, TB, keep112, tab112, xindexAddr, xindex, xslice, xconvert, xlen, ewOp, FreeW, StabW, SameW, ChangeW, AddW, BaseW, limBytes, simprocAttr, ne_eq] | ((with_reducible refine Need.intro ?_ ?_); (omega))))
    refine RetW.auto0 false _ (by first | rfl | exact (List.append_nil _).symm) ?_ ?_
    · (simp (maxDischargeDepth := 6) [LTB, HLt_set, ltL_take, ltL_drop, ltL_rep, ltL_set, upd, eset, hH, hHk, zlArena01, lt_hook, lt1_hook, ltc_hook, lt_node, lt1_node, ltc_node] <;> omega)
    (try simp only [wk, wk1, wk0, RB, limBytes, simprocAttr, ne_eq])
    (try (rw [List.take_of_length_le]; rotate_left 1; (· first | (simp; done) | (simp; omega) | omega)))
theorem cloneI (H : List Ob) (l : List Int) (hl : l.length ≤ 1000000000000) : SCall Try.prog 161 [.slice (l.map vi)] H (fun r H' => r = .slice (l.map vi) ∧ H' = H) := by
  refine SCall.of_good fun hH => ?_
  have hHk := HLt.add hH
  refine SCall.of_code Tok Try.func161 rfl Try.call161 (n := 8) rfl (by simp) (rs := [.tmp 2]) rfl ?_
  refine EWn.to ?_
  refine EWn.of_c Tok mixed (own := false) keep161 tab161 (by kernel_rfl) ?_
  (repeat simp -dsimp only [zrArena01, st_hook, sz_hook, st1_hook, cl_hook, st_node, sz_node, st1_node, cl_node, xnils, xnilm, xrange, xmakeMap, RB, TB, keep161, tab161, xindexAddr, xindex, xslice, xconvert, xlen, ewOp, FreeW, StabW, SameW, ChangeW, AddW, BaseW, limBytes, simprocAttr, ne_eq])
  refine AnyB.intro fun b hb => ?_
  (repeat simp -dsimp only [zrArena01, st_hook, sz_hook, st1_hook, cl_hook, st_node, sz_node, st1_node, cl_node, xnils, xnilm, xrange, xmakeMap, RB, TB, keep161, tab161, xindexAddr, xindex, xslice, xconvert, xlen, ewOp, FreeW, StabW, SameW, ChangeW, AddW, BaseW, limBytes, simprocAttr, ne_eq])
  refine IfW.intro (fun h => ?_) (fun h => ?_)
  · subst h
    have h0 : l = [] := by cases l with
      | nil => rfl
      | cons x l => exact absurd (hb (by simp)) (by simp)
    subst h0
    (repeat simp -dsimp only [zrArena01, st_hook, sz_hook, st1_hook, cl_hook, st_node, sz_node, st1_node, cl_node, xnils, xnilm, xrange, xmakeMap, RB, TB, keep161, tab161, xindexAddr, xindex, xslice, xconvert, xlen, ewOp, FreeW, StabW, SameW, ChangeW, AddW, BaseW, limBytes, simprocAttr, ne_eq])
    refine RetW.auto0 false _ (by first | rfl | exact (List.append_nil _).symm) ?_ ?_
    · (simp (maxDischargeDepth := 6) [LTB, HLt_set, ltL_take, ltL_drop, ltL_rep, ltL_set, upd, eset, hH, hHk, zlArena01, lt_hook, lt1_hook, ltc_hook, lt_node, lt1_node, ltc_node] <;> omega)
    (try simp only [wk, wk1, wk0, RB, limBytes, simprocAttr, ne_eq])
    skip
  · subst h
    (repeat (first | simp -dsimp only [zrArena01, st_hook, sz_hook, st1_hook, cl_hook, st_node, sz_node, st1_node, cl_node, xnils, xnilm, xrange, xmakeMap, RB, TB, keep161, tab161, xindexAddr, xindex, xslice, xconvert, xlen, ewOp, FreeW, StabW, SameW, ChangeW, AddW, BaseW, limBytes, simprocAttr, ne_eq] | ((with_reducible refine Need.intro ?_ ?_); (omega))))
    refine RetW.auto0 false _ (by first | rfl | exact (List.append_nil _).symm) ?_ ?_
    · (simp (maxDischargeDepth := 6) [LTB, HLt_set, ltL_take, ltL_drop, ltL_rep, ltL_set, upd, eset, hH, hHk, zlArena01, lt_hook, lt1_hook, ltc_hook, lt_node, lt1_node, ltc_node] <;> omega)
    (try simp only [wk, wk1, wk0, RB, limBytes, simprocAttr, ne_eq])
    (try (rw [List.take_of_length_le]; rotate_left 1; (· first | (simp; done) | (simp; omega) | omega)))
/-- a node; its kids are a list of the caller's own -/
def nodeK (n : Node) (o v : Nat) : V := .agg [.int .i64 n.id, .int .i64 n.owner, .int .i64 n.parent, .int .i64 n.kind, .str n.tag.text, .slice (n.tag.runs.map runV), .str n.key, .int .i64 n.slot, .slice (n.attrs.map attrV), .slice (n.hooks.map hookV), .vec o v 0 n.kids.length, .str n.text.text, .slice (n.text.runs.map runV)]
/-- what a call answers, after a ghost step -/
theorem _root_.Go.EL.SCall.ghoE {f : FuncId} {args : List V} {H : List Ob} {R R2 : V → List Ob → Prop} (h : SCall Try.prog f args H R) (hg : ∀ r H', R r H' → ∃ r2 H2, Gho H.length [(0, r)] H' [(0, r2)] H2 ∧ R2 r2 H2) : SCall Try.prog f args H R2 := by
  intro g w cargs hG ha
  refine (h g w cargs hG ha).mono fun cv w' ⟨r, H', g', k1, k2, k3, hr⟩ => ?_
  obtain ⟨r2, H2, hh, h2⟩ := hg r H' hr
  obtain ⟨g2, j1, j2, j3⟩ := hh g' w' k1
  refine ⟨r2, H2, g2, j1, j2 _ _ k2, ?_, h2⟩
  have := j3 0 cv (by simpa [eget] using k3)
  simpa [eget] using this
theorem cloneIV0 (H : List Ob) (l : List Int) (hl : l.length ≤ 1000000000000) : SCall Try.prog 161 [.slice (l.map vi)] H (fun r H' => (l = [] ∧ r = .fslice [] ∧ H' = H) ∨ (r = .vec H.length 1 0 l.length ∧ H' = H ++ [.vec 1 1 (l.map vi)])) := by
  refine SCall.of_good fun hH => ?_
  have hHk := HLt.add hH
  refine SCall.of_code Tok Try.func161 rfl Try.call161 (n := 8) rfl (by simp) (rs := [.tmp 2]) rfl ?_
  refine EWn.to ?_
  refine EWn.of_c Tok mixed (own := false) keep161 tab161 (by kernel_rfl) ?_
  (repeat simp -dsimp only [zrArena01, st_hook, sz_hook, st1_hook, cl_hook, st_node, sz_node, st1_node, cl_node, xnils, xnilm, xrange, xmakeMap, RB, TB, keep161, tab161, xindexAddr, xindex, xslice, xconvert, xlen, ewOp, FreeW, StabW, SameW, ChangeW, AddW, BaseW, limBytes, simprocAttr, ne_eq])
  refine AnyB.intro fun b hb => ?_
  (repeat simp -dsimp only [zrArena01, st_hook, sz_hook, st1_hook, cl_hook, st_node, sz_node, st1_node, cl_node, xnils, xnilm, xrange, xmakeMap, RB, TB, keep161, tab161, xindexAddr, xindex, xslice, xconvert, xlen, ewOp, FreeW, StabW, SameW, ChangeW, AddW, BaseW, limBytes, simprocAttr, ne_eq])
  refine IfW.intro (fun h => ?_) (fun h => ?_)
  · subst h
    have h0 : l = [] := by cases l with
      | nil => rfl
      | cons x l => exact absurd (hb (by simp)) (by simp)
    subst h0
    (repeat simp -dsimp only [zrArena01, st_hook, sz_hook, st1_hook, cl_hook, st_node, sz_node, st1_node, cl_node, xnils, xnilm, xrange, xmakeMap, RB, TB, keep161, tab161, xindexAddr, xindex, xslice, xconvert, xlen, ewOp, FreeW, StabW, SameW, ChangeW, AddW, BaseW, limBytes, simprocAttr, ne_eq])
    refine RetW.auto0 true _ (by first | rfl | exact (List.append_nil _).symm) ?_ ?_
    · (simp (maxDischargeDepth := 6) [LTB, HLt_set, ltL_take, ltL_drop, ltL_rep, ltL_set, upd, eset, hH, hHk, zlArena01, lt_hook, lt1_hook, ltc_hook, lt_node, lt1_node, ltc_node] <;> omega)
    (try simp only [wk, wk1, wk0, RB, if_true, limBytes, simprocAttr, ne_eq])
    skip
  · subst h
    (repeat (first | simp -dsimp only [zrArena01, st_hook, sz_hook, st1_hook, cl_hook, st_node, sz_node, st1_node, cl_node, xnils, xnilm, xrange, xmakeMap, RB, TB, keep161, tab161, xindexAddr, xindex, xslice, xconvert, xlen, ewOp, FreeW, StabW, SameW, ChangeW, AddW, BaseW, limBytes, simprocAttr, ne_eq] | ((with_reducible refine Need.intro ?_ ?_); (omega))))
    refine RetW.auto false [.vec 1 1 (l.map vi)] _ (by first | rfl | simp) ?_ ?_ ?_
    · (simp (maxDischargeDepth := 6) [LTB, HLt_set, ltL_take, ltL_drop, ltL_rep, ltL_set, upd, eset, hH, hHk, zlArena01, lt_hook, lt1_hook, ltc_hook, lt_node, lt1_node, ltc_node] <;> omega)
    · (simp (maxDischargeDepth := 6) [LTB, HLt_set, ltL_take, ltL_drop, ltL_rep, ltL_set, upd, eset, hH, hHk, zlArena01, lt_hook, lt1_hook, ltc_hook, lt_node, lt1_node, ltc_node] <;> omega)
    (try simp only [wk, wk1, wk0, RB, limBytes, simprocAttr, ne_eq])
    (try (rw [List.take_of_length_le]; rotate_left 1; (· first | (simp; done) | (simp; omega) | omega)))
    first | (simp; done) | (refine .inr ⟨?_, ?_⟩ <;> simp; done) | trace_state
theorem cloneIV (H : List Ob) (l : List Int) (hl : l.length ≤ 1000000000000) : SCall Try.prog 161 [.slice (l.map vi)] H (fun r H' => r = .vec H.length 1 0 l.length ∧ H' = H ++ [.vec 1 1 (l.map vi)]) := by
  refine (cloneIV0 H l hl).ghoE fun r H' h => ?_
  rcases h with ⟨rfl, rfl, rfl⟩ | ⟨rfl, rfl⟩
  · refine ⟨_, _, Gho.adopt (n0 := H'.length) (env := [(0, .fslice [])]) 0 1 rfl, And.intro rfl rfl⟩
  · exact ⟨_, _, Gho.refl _ _ _, And.intro rfl rfl⟩
theorem aOwnV0 (H : List Ob) (n : Node) (hn : okN n) : SCall Try.prog 115 [nodeV n] H (fun r H' => ∃ L v, r = .agg [.int .i64 n.id, .int .i64 n.owner, .int .i64 n.parent, .int .i64 n.kind, .str (fixS n.tag).text, .slice ((fixS n.tag).runs.map runV), .str n.key, .int .i64 n.slot, .vec (H.length + 3) v 0 n.attrs.length, .slice (n.hooks.map hookV), .vec (H.length + 2) 1 0 n.kids.length, .str (fixS n.text).text, .slice ((fixS n.text).runs.map runV)] ∧ H' = H ++ L ∧ L[2]? = some (.vec 1 1 (n.kids.map vi)) ∧ L[3]? = some (.vec v 4 ((n.attrs.map ownA).map attrV))) := by
  obtain ⟨h1, h2, h3, h4, h5, h6⟩ := hn
  unfold nodeV
  refine SCall.of_good fun hH => ?_
  have hHk := HLt.add hH
  refine SCall.of_code Tok Try.func115 rfl Try.call115 (n := 43) rfl (by simp) (rs := [.cell 2 60]) rfl ?_
  refine EWn.to ?_
  refine EWn.of_c Tok mixed (own := false) keep115 tab115 (by kernel_rfl) ?_
  (repeat simp -dsimp only [zrArena01, st_hook, sz_hook, st1_hook, cl_hook, st_node, sz_node, st1_node, cl_node, xnils, xnilm, xrange, xmakeMap, RB, TB, keep115, tab115, xindexAddr, xindex, xslice, xconvert, xlen, ewOp, FreeW, StabW, SameW, ChangeW, AddW, BaseW, limBytes, simprocAttr, ne_eq])
  (refine CallE.intro _ (mFix _ n.tag h1) ?_)
  (repeat simp -dsimp only [zrArena01, st_hook, sz_hook, st1_hook, cl_hook, st_node, sz_node, st1_node, cl_node, xnils, xnilm, xrange, xmakeMap, strV, RB, TB, keep115, tab115, xindexAddr, xindex, xslice, xconvert, xlen, ewOp, FreeW, StabW, SameW, ChangeW, AddW, BaseW, limBytes, simprocAttr, ne_eq])
  (refine CallE.intro _ (mFix _ n.text h2) ?_)
  (repeat simp -dsimp only [zrArena01, st_hook, sz_hook, st1_hook, cl_hook, st_node, sz_node, st1_node, cl_node, xnils, xnilm, xrange, xmakeMap, strV, RB, TB, keep115, tab115, xindexAddr, xindex, xslice, xconvert, xlen, ewOp, FreeW, StabW, SameW, ChangeW, AddW, BaseW, limBytes, simprocAttr, ne_eq])
  refine ⟨fun i_ => match i_ with
    | 0 => .ref H.length 9
    | 1 => .slice (n.hooks.map hookV)
    | 2 => .slice (n.hooks.map hookV)
    | 3 => .ref H.length 10
    | 4 => .slice (n.kids.map vi)
    | 5 => .vec (H.length + 2) 1 0 n.kids.length
    | 6 => .ref H.length 9
    | 8 => .ref H.length 10
    | _ => .dead, fun fl => H ++ (.var [.int .i64 n.id, .int .i64 n.owner, .int .i64 n.parent, .int .i64 n.kind, .str (fixS n.tag).text, .slice ((fixS n.tag).runs.map runV), .str n.key, .int .i64 n.slot, .slice (n.attrs.map attrV), .slice (n.hooks.map hookV), if fl 9 = true then .vec (H.length + 2) 1 0 n.kids.length else .slice (n.kids.map vi), .str (fixS n.text).text, .slice ((fixS n.text).runs.map runV)] :: .var [.int .i64 0, .int .i64 0, .int .i64 0, .int .i64 0, .str [], .fslice [], .str [], .int .i64 0, .fslice [], .fslice [], .fslice [], .str [], .fslice []] :: (if fl 5 = true then [.vec 1 1 (n.kids.map vi)] else [])), ?_, ?_, ?_, ?_⟩
  · simp
  · intro fl fl' hfl
    simp only [hfl 5 (by simp), hfl 9 (by simp)]
  · intro i_ o hi fl hcl hil hed
    have q9 := hcl 9 _ rfl
    simp [Region.binds] at q9
    match i_, hi, hil, hed with
    | 0, hi, hil, hed =>
      simp only [List.getElem?_cons_zero, List.getElem?_cons_succ, Option.some.injEq] at hi
      subst hi
      (repeat simp -dsimp only [zrArena01, st_hook, sz_hook, st1_hook, cl_hook, st_node, sz_node, st1_node, cl_node, xnils, xnilm, xrange, xmakeMap, envAt, List.take_succ_cons, List.take_zero, hil, Bool.false_eq_true, if_false, if_true, RB, TB, keep115, tab115, xindexAddr, xindex, xslice, xconvert, xlen, ewOp, FreeW, StabW, SameW, ChangeW, AddW, BaseW, limBytes, simprocAttr, ne_eq])
    | 1, hi, hil, hed =>
      simp only [List.getElem?_cons_zero, List.getElem?_cons_succ, Option.some.injEq] at hi
      subst hi
      (repeat simp -dsimp only [zrArena01, st_hook, sz_hook, st1_hook, cl_hook, st_node, sz_node, st1_node, cl_node, xnils, xnilm, xrange, xmakeMap, envAt, List.take_succ_cons, List.take_zero, hil, Bool.false_eq_true, if_false, if_true, RB, TB, keep115, tab115, xindexAddr, xindex, xslice, xconvert, xlen, ewOp, FreeW, StabW, SameW, ChangeW, AddW, BaseW, limBytes, simprocAttr, ne_eq])
    | 2, hi, hil, hed =>
      simp only [List.getElem?_cons_zero, List.getElem?_cons_succ, Option.some.injEq] at hi
      subst hi
      (repeat simp -dsimp only [zrArena01, st_hook, sz_hook, st1_hook, cl_hook, st_node, sz_node, st1_node, cl_node, xnils, xnilm, xrange, xmakeMap, envAt, List.take_succ_cons, List.take_zero, hil, Bool.false_eq_true, if_false, if_true, RB, TB, keep115, tab115, xindexAddr, xindex, xslice, xconvert, xlen, ewOp, FreeW, StabW, SameW, ChangeW, AddW, BaseW, limBytes, simprocAttr, ne_eq])
      refine SCall.mono (cloneH _ n.hooks h5) ?_
      rintro _ _ ⟨rfl, rfl⟩
      simp
    | 3, hi, hil, hed =>
      simp only [List.getElem?_cons_zero, List.getElem?_cons_succ, Option.some.injEq] at hi
      subst hi
      (repeat simp -dsimp only [zrArena01, st_hook, sz_hook, st1_hook, cl_hook, st_node, sz_node, st1_node, cl_node, xnils, xnilm, xrange, xmakeMap, envAt, List.take_succ_cons, List.take_zero, hil, Bool.false_eq_true, if_false, if_true, RB, TB, keep115, tab115, xindexAddr, xindex, xslice, xconvert, xlen, ewOp, FreeW, StabW, SameW, ChangeW, AddW, BaseW, limBytes, simprocAttr, ne_eq])
    | 4, hi, hil, hed =>
      simp only [List.getElem?_cons_zero, List.getElem?_cons_succ, Option.some.injEq] at hi
      subst hi
      have f9 : fl 9 = false := Bool.eq_false_iff.2 fun h => by have := q9 h; simp [hil] at this
      (repeat simp -dsimp only [zrArena01, st_hook, sz_hook, st1_hook, cl_hook, st_node, sz_node, st1_node, cl_node, xnils, xnilm, xrange, xmakeMap, envAt, List.take_succ_cons, List.take_zero, hil, f9, Bool.false_eq_true, if_false, if_true, RB, TB, keep115, tab115, xindexAddr, xindex, xslice, xconvert, xlen, ewOp, FreeW, StabW, SameW, ChangeW, AddW, BaseW, limBytes, simprocAttr, ne_eq])
    | 5, hi, hil, hed =>
      simp only [List.getElem?_cons_zero, List.getElem?_cons_succ, Option.some.injEq] at hi
      subst hi
      have f9 : fl 9 = false := Bool.eq_false_iff.2 fun h => by have := q9 h; simp [hil] at this
      (repeat simp -dsimp only [zrArena01, st_hook, sz_hook, st1_hook, cl_hook, st_node, sz_node, st1_node, cl_node, xnils, xnilm, xrange, xmakeMap, envAt, List.take_succ_cons, List.take_zero, hil, f9, Bool.false_eq_true, if_false, if_true, RB, TB, keep115, tab115, xindexAddr, xindex, xslice, xconvert, xlen, ewOp, FreeW, StabW, SameW, ChangeW, AddW, BaseW, limBytes, simprocAttr, ne_eq])
      refine SCall.mono (cloneIV _ n.kids h6) ?_
      rintro _ _ ⟨rfl, rfl⟩
      simp [f9]
    | 6, hi, hil, hed =>
      simp only [List.getElem?_cons_zero, List.getElem?_cons_succ, Option.some.injEq] at hi
      subst hi
      (repeat simp -dsimp only [zrArena01, st_hook, sz_hook, st1_hook, cl_hook, st_node, sz_node, st1_node, cl_node, xnils, xnilm, xrange, xmakeMap, envAt, List.take_succ_cons, List.take_zero, hil, Bool.false_eq_true, if_false, if_true, RB, TB, keep115, tab115, xindexAddr, xindex, xslice, xconvert, xlen, ewOp, FreeW, StabW, SameW, ChangeW, AddW, BaseW, limBytes, simprocAttr, ne_eq])
    | 7, hi, hil, hed =>
      simp only [List.getElem?_cons_zero, List.getElem?_cons_succ, Option.some.injEq] at hi
      subst hi
      (repeat simp -dsimp only [zrArena01, st_hook, sz_hook, st1_hook, cl_hook, st_node, sz_node, st1_node, cl_node, xnils, xnilm, xrange, xmakeMap, envAt, List.take_succ_cons, List.take_zero, hil, Bool.false_eq_true, if_false, if_true, RB, TB, keep115, tab115, xindexAddr, xindex, xslice, xconvert, xlen, ewOp, FreeW, StabW, SameW, ChangeW, AddW, BaseW, limBytes, simprocAttr, ne_eq])
    | 8, hi, hil, hed =>
      simp only [List.getElem?_cons_zero, List.getElem?_cons_succ, Option.some.injEq] at hi
      subst hi
      (repeat simp -dsimp only [zrArena01, st_hook, sz_hook, st1_hook, cl_hook, st_node, sz_node, st1_node, cl_node, xnils, xnilm, xrange, xmakeMap, envAt, List.take_succ_cons, List.take_zero, hil, Bool.false_eq_true, if_false, if_true, RB, TB, keep115, tab115, xindexAddr, xindex, xslice, xconvert, xlen, ewOp, FreeW, StabW, SameW, ChangeW, AddW, BaseW, limBytes, simprocAttr, ne_eq])
    | 9, hi, hil, hed =>
      simp only [List.getElem?_cons_zero, List.getElem?_cons_succ, Option.some.injEq] at hi
      subst hi
      have p5 : fl 5 = true := hed ⟨5, .data⟩ (by simp) rfl
      (repeat simp -dsimp only [zrArena01, st_hook, sz_hook, st1_hook, cl_hook, st_node, sz_node, st1_node, cl_node, xnils, xnilm, xrange, xmakeMap, envAt, List.take_succ_cons, List.take_zero, hil, p5, Bool.false_eq_true, if_false, if_true, RB, TB, keep115, tab115, xindexAddr, xindex, xslice, xconvert, xlen, ewOp, FreeW, StabW, SameW, ChangeW, AddW, BaseW, limBytes, simprocAttr, ne_eq])
    | c + 10, hi, hil, hed => simp at hi
  (repeat simp -dsimp only [zrArena01, st_hook, sz_hook, st1_hook, cl_hook, st_node, sz_node, st1_node, cl_node, xnils, xnilm, xrange, xmakeMap, envAt, RB, TB, keep115, tab115, xindexAddr, xindex, xslice, xconvert, xlen, ewOp, FreeW, StabW, SameW, ChangeW, AddW, BaseW, limBytes, simprocAttr, ne_eq])
  refine EWn.ghost (Gho.adopt 3 4 rfl) ?_
  simp only [RB, limBytes, simprocAttr, ne_eq]
  refine EWn.loopE (ι := (Nat)) (fun (i : (Nat)) => i ≤ n.attrs.length) (fun (i : (Nat)) => n.attrs.length - i) (fun (i : (Nat)) => [(3, .vec (H.length + 3) (1 + i) 0 i), (25, .int .i64 i)]) (fun (i : (Nat)) => H ++ [.var [.int .i64 n.id, .int .i64 n.owner, .int .i64 n.parent, .int .i64 n.kind, .str (fixS n.tag).text, .slice ((fixS n.tag).runs.map runV), .str n.key, .int .i64 n.slot, .slice (n.attrs.map attrV), .slice (n.hooks.map hookV), .vec (H.length + 2) 1 0 n.kids.length, .str (fixS n.text).text, .slice ((fixS n.text).runs.map runV)], .var [.int .i64 0, .int .i64 0, .int .i64 0, .int .i64 0, .str [], .fslice [], .str [], .int .i64 0, .fslice [], .fslice [], .fslice [], .str [], .fslice []], .vec 1 1 (n.kids.map vi), .vec (1 + i) 4 (((n.attrs.take i).map ownA).map attrV)]) (0) ?_ ?_ ?_ ?_ ?_
  · first | rfl | simp [upd, eset]
  · first | rfl | (simp; done) | exact (set_same (by assumption)).symm
  · rintro i hok; exact ⟨by first | (simp; done) | (simp; omega), by (simp (maxDischargeDepth := 6) [LTB, HLt_set, ltL_take, ltL_drop, ltL_rep, ltL_set, upd, eset, hH, hHk, zlArena01, lt_hook, lt1_hook, ltc_hook, lt_node, lt1_node, ltc_node] <;> omega), by (simp (maxDischargeDepth := 6) [LTB, HLt_set, ltL_take, ltL_drop, ltL_rep, ltL_set, upd, eset, hH, hHk, zlArena01, lt_hook, lt1_hook, ltc_hook, lt_node, lt1_node, ltc_node] <;> omega)⟩
  · omega
  rintro i hi
  refine EWn.of_c Tok mixed (own := false) keep115 tab115 (by kernel_rfl) ?_
  (repeat simp -dsimp only [zrArena01, st_hook, sz_hook, st1_hook, cl_hook, st_node, sz_node, st1_node, cl_node, xnils, xnilm, xrange, xmakeMap, RB, TB, keep115, tab115, xindexAddr, xindex, xslice, xconvert, xlen, ewOp, FreeW, StabW, SameW, ChangeW, AddW, BaseW, limBytes, simprocAttr, ne_eq])
  refine IfW.intro (fun h => ?_) (fun h => ?_)
  · have hlt := lt_of h
    obtain ⟨o1, o2⟩ := h3 _ (List.getElem_mem hlt)
    (repeat (first | simp -dsimp only [zrArena01, st_hook, sz_hook, st1_hook, cl_hook, st_node, sz_node, st1_node, cl_node, xnils, xnilm, xrange, xmakeMap, h, at_map attrV n.attrs i hlt, attrV, RB, TB, keep115, tab115, xindexAddr, xindex, xslice, xconvert, xlen, ewOp, FreeW, StabW, SameW, ChangeW, AddW, BaseW, limBytes, simprocAttr, ne_eq] | ((with_reducible refine Need.intro ?_ ?_); (omega))))
    (refine CallE.intro _ (mFix _ n.attrs[i].name o1) ?_)
    (repeat simp -dsimp only [zrArena01, st_hook, sz_hook, st1_hook, cl_hook, st_node, sz_node, st1_node, cl_node, xnils, xnilm, xrange, xmakeMap, strV, RB, TB, keep115, tab115, xindexAddr, xindex, xslice, xconvert, xlen, ewOp, FreeW, StabW, SameW, ChangeW, AddW, BaseW, limBytes, simprocAttr, ne_eq])
    (refine CallE.intro _ (mFix _ n.attrs[i].value o2) ?_)
    (repeat (first | simp -dsimp only [zrArena01, st_hook, sz_hook, st1_hook, cl_hook, st_node, sz_node, st1_node, cl_node, xnils, xnilm, xrange, xmakeMap, strV, RB, TB, keep115, tab115, xindexAddr, xindex, xslice, xconvert, xlen, ewOp, FreeW, StabW, SameW, ChangeW, AddW, BaseW, limBytes, simprocAttr, ne_eq] | ((with_reducible refine Need.intro ?_ ?_); (first | trivial | (simp; omega)))))
    rw [wrapI (by omega)]
    have hsucc : (n.attrs.take (i + 1)).map ownA = (n.attrs.take i).map ownA ++ [ownA n.attrs[i]] := by rw [List.take_succ_eq_append_getElem hlt, List.map_append]; rfl
    refine UpTo.here ⟨i + 1, hlt, by simp only; omega, by simp [upd, eset] <;> omega, ⟨_, by simp only [hsucc]; simp [attrV, ownA]; rfl⟩⟩
  · (repeat simp -dsimp only [zrArena01, st_hook, sz_hook, st1_hook, cl_hook, st_node, sz_node, st1_node, cl_node, xnils, xnilm, xrange, xmakeMap, h, RB, TB, keep115, tab115, xindexAddr, xindex, xslice, xconvert, xlen, ewOp, FreeW, StabW, SameW, ChangeW, AddW, BaseW, limBytes, simprocAttr, ne_eq])
    have hi2 : i = n.attrs.length := Nat.le_antisymm hi (ge_of h)
    subst hi2
    rw [List.take_length]
    refine RetW.keep false (by simp) ?_ ?_ ?_
    · (simp (maxDischargeDepth := 6) [LTB, HLt_set, ltL_take, ltL_drop, ltL_rep, ltL_set, upd, eset, hH, hHk, zlArena01, lt_hook, lt1_hook, ltc_hook, lt_node, lt1_node, ltc_node] <;> omega)
    · simp [okW, okW1, okW0, V.lt, ltL, lt_run, lt_hook]
    · simp only [wk, wk1, wk0]
      exact ⟨_, 1 + n.attrs.length, by simp [wk1, wk0], rfl, by simp, by simp⟩
theorem aOwnV (H : List Ob) (n : Node) (hn : okN n) : SCall Try.prog 115 [nodeV n] H (fun r H' => ∃ o L, r = nodeK (ownN n) o 1 ∧ H' = H ++ L ∧ H.length ≤ o ∧ H'[o]? = some (.vec 1 1 (n.kids.map vi))) := by
  refine (aOwnV0 H n hn).ghoE ?_
  rintro r H' ⟨L, v, rfl, rfl, h2, h3⟩
  have l3 := (List.getElem?_eq_some_iff.1 h3).1
  have ho : (H ++ L)[H.length + 3]? = some (.vec v 4 ((n.attrs.map ownA).map attrV)) := by rw [hget]; exact h3
  have e : (H ++ L).set (H.length + 3) .gone = H ++ L.set 3 .gone := by rw [hset]
  refine ⟨nodeK (ownN n) (H.length + 2) 1, H ++ L.set 3 .gone, ?_, H.length + 2, L.set 3 .gone, rfl, rfl, by omega, by rw [hget, List.getElem?_set_ne (by omega)]; exact h2⟩
  rw [← e]
  refine Gho.conv (n0 := H.length) (some (H.length + 3, v, (n.attrs.map ownA).map attrV)) (fun _ _ _ e => by cases e; exact ⟨⟨4, ho⟩, List.getElem?_set_self (by simp; omega)⟩) (by simp) (fun j x hx hz => ⟨x, ?_, ?_⟩) ?_
  · rw [List.getElem?_set_ne (by rintro rfl; simp [isZ] at hz)]
    exact hx
  · cases x with
    | gone => trivial
    | hole => trivial
    | var cs => exact All2.rfl' (fun _ => .inl (.inl rfl)) _
    | vec v e l => exact ⟨rfl, rfl, All2.rfl' CvA.rfl' _⟩
    | raw _ _ _ _ => exact ⟨rfl, rfl, rfl, rfl⟩
    | map _ _ => exact ⟨rfl, All2.rfl' (fun _ => ⟨rfl, rfl, CvA.rfl' _⟩) _⟩
    | iter _ _ _ _ => exact ⟨rfl, rfl, rfl, rfl⟩
  · refine ⟨⟨rfl, .inr (.inr ⟨_, _, rfl, rfl, ?_⟩)⟩, trivial⟩
    refine ⟨.inl (.inl rfl), .inl (.inl rfl), .inl (.inl rfl), .inl (.inl rfl), .inl (.inl rfl), .inl (.inl rfl), .inl (.inl rfl), .inl (.inl rfl), .inr ⟨_, _, _, 0, _, rfl, rfl, ?_, ?_⟩, .inl (.inl rfl), .inl (.inl rfl), .inl (.inl rfl), .inl (.inl rfl), trivial⟩
    · simp
    · rw [List.drop_zero, List.take_of_length_le (by simp)]; rfl
theorem aOwnN (H : List Ob) (n : Node) (hn : okN n) : SCall Try.prog 115 [nodeV n] H (fun r H' => r = nodeV (ownN n) ∧ H' = H) := by
  refine SCall.of_good fun hH => ?_
  refine (aOwnV H n hn).ghoE ?_
  rintro r H' ⟨o, L, rfl, rfl, hle, ho⟩
  have hlt := (List.getElem?_eq_some_iff.1 ho).1
  have e : (H ++ L).set o .gone = H ++ L.set (o - H.length) .gone := List.set_append_right _ _ hle
  refine ⟨_, _, (Gho.conv (n0 := H.length) (some (o, 1, n.kids.map vi)) (H := H ++ L) (H' := (H ++ L).set o .gone) (env := [(0, nodeK (ownN n) o 1)]) (env' := [(0, nodeV (ownN n))]) (fun _ _ _ e => by cases e; exact ⟨⟨1, ho⟩, List.getElem?_set_self hlt⟩) (by simp) (fun j x hx hz => ⟨x, ?_, ?_⟩) ?_).trans ?_, rfl, rfl⟩
  · rw [List.getElem?_set_ne (by rintro rfl; simp [isZ] at hz)]
    exact hx
  · cases x with
    | gone => trivial
    | hole => trivial
    | var cs => exact All2.rfl' (fun _ => .inl (.inl rfl)) _
    | vec v e l => exact ⟨rfl, rfl, All2.rfl' CvA.rfl' _⟩
    | raw _ _ _ _ => exact ⟨rfl, rfl, rfl, rfl⟩
    | map _ _ => exact ⟨rfl, All2.rfl' (fun _ => ⟨rfl, rfl, CvA.rfl' _⟩) _⟩
    | iter _ _ _ _ => exact ⟨rfl, rfl, rfl, rfl⟩
  · refine ⟨⟨rfl, .inr (.inr ⟨_, _, rfl, rfl, ?_⟩)⟩, trivial⟩
    refine ⟨.inl (.inl rfl), .inl (.inl rfl), .inl (.inl rfl), .inl (.inl rfl), .inl (.inl rfl), .inl (.inl rfl), .inl (.inl rfl), .inl (.inl rfl), .inl (.inl rfl), .inl (.inl rfl), .inr ⟨o, 1, _, 0, _, rfl, rfl, ?_, ?_⟩, .inl (.inl rfl), .inl (.inl rfl), trivial⟩
    · simp [ownN]
    · rw [List.drop_zero, List.take_of_length_le (by simp [ownN])]; rfl
  · rw [e]
    exact drop_rest (Nat.le_refl _) hH (by simp [lt1_node])
end Go.Proofs.Ytjplgbalpnlanaa

/- The walks of package arena: is, maps.Clone, New, Clone. -/
set_option maxHeartbeats 600000
set_option linter.unusedSimpArgs false
set_option linter.unusedVariables false
set_option maxRecDepth 100000
namespace Go.Proofs.Ytjplgbalpnlanaa
open Go Go.EL
theorem zrArena11 : type_of% (And.intro (And.intro (And.intro (And.intro (@st_run) (And.intro (@sz_run) (@st1_run))) (And.intro (@cl_run) (And.intro (@st_Str) (@sz_Str)))) (And.intro (And.intro (@st1_Str) (And.intro (@cl_Str) (@st_c))) (And.intro (@sz_c) (And.intro (@st1_c) (@cl_c))))) (And.intro (And.intro (And.intro (@st_attr) (And.intro (@sz_attr) (@st1_attr))) (And.intro (@cl_attr) (And.intro (@st_hook) (@sz_hook)))) (And.intro (And.intro (@st1_hook) (And.intro (@cl_hook) (@st_node))) (And.intro (@sz_node) (And.intro (@st1_node) (@cl_node)))))) := And.intro (And.intro (And.intro (And.intro (@st_run) (And.intro (@sz_run) (@st1_run))) (And.intro (@cl_run) (And.intro (@st_Str) (@sz_Str)))) (And.intro (And.intro (@st1_Str) (And.intro (@cl_Str) (@st_c))) (And.intro (@sz_c) (And.intro (@st1_c) (@cl_c))))) (And.intro (And.intro (And.intro (@st_attr) (And.intro (@sz_attr) (@st1_attr))) (And.intro (@cl_attr) (And.intro (@st_hook) (@sz_hook)))) (And.intro (And.intro (@st1_hook) (And.intro (@cl_hook) (@st_node))) (And.intro (@sz_node) (And.intro (@st1_node) (@cl_node)))))
theorem zlArena11 : type_of% (And.intro (And.intro (And.intro (And.intro (@lt_vi) (@lt_str)) (And.intro (@lt_vb) (And.intro (@ltc_str) (@ltc_vi)))) (And.intro (And.intro (@lt_run) (And.intro (@lt1_run) (@ltc_run))) (And.intro (@lt_Str) (And.intro (@lt1_Str) (@ltc_Str))))) (And.intro (And.intro (And.intro (@lt_c) (And.intro (@lt1_c) (@ltc_c))) (And.intro (@lt_attr) (And.intro (@lt1_attr) (@ltc_attr)))) (And.intro (And.intro (@lt_hook) (And.intro (@lt1_hook) (@ltc_hook))) (And.intro (@lt_node) (And.intro (@lt1_node) (@ltc_node)))))) := And.intro (And.intro (And.intro (And.intro (@lt_vi) (@lt_str)) (And.intro (@lt_vb) (And.intro (@ltc_str) (@ltc_vi)))) (And.intro (And.intro (@lt_run) (And.intro (@lt1_run) (@ltc_run))) (And.intro (@lt_Str) (And.intro (@lt1_Str) (@ltc_Str))))) (And.intro (And.intro (And.intro (@lt_c) (And.intro (@lt1_c) (@ltc_c))) (And.intro (@lt_attr) (And.intro (@lt1_attr) (@ltc_attr)))) (And.intro (And.intro (@lt_hook) (And.intro (@lt1_hook) (@ltc_hook))) (And.intro (@lt_node) (And.intro (@lt1_node) (@ltc_node)))))
structure Arena where
  nodes : List (Int × Nat × Node)
  clock : Nat
  used : List Int
  live : List Int
def encM (l : List (Int × Nat × Node)) : List (Int × Nat × V) := l.map fun p => (p.1, p.2.1, nodeV p.2.2)
/-- an arena stands at A, its nodes at m -/
def arenaAt (H : List Ob) (A m : Nat) (a : Arena) : Prop := H[A]? = some (.var (.mapr m :: (a.used.map vi ++ a.live.map vi))) ∧ H[m]? = some (.map (encM a.nodes) a.clock) ∧ a.used.length = 4 ∧ a.live.length = 4
theorem aIsNil (H : List Ob) : SCall Try.prog 105 [.nilp] H (fun r H' => r = .bool false ∧ H' = H) := by
  refine SCall.of_good fun hH => ?_
  have hHk := HLt.add hH
  refine SCall.of_code Tok Try.func105 rfl Try.call105 (n := 12) rfl (by simp) (rs := [.tmp 2]) rfl ?_
  refine EWn.to ?_
  refine EWn.of_c Tok mixed (own := false) keep105 tab105 (by kernel_rfl) ?_
  (repeat simp -dsimp only [zrArena11, xnils, xnilm, xrange, xmakeMap, RB, TB, keep105, tab105, xindexAddr, xindex, xslice, xconvert, xlen, ewOp, FreeW, StabW, SameW, ChangeW, AddW, BaseW, limBytes, simprocAttr, ne_eq])
  refine RetW.auto0 false _ (by first | rfl | exact (List.append_nil _).symm) ?_ ?_
  · (simp (maxDischargeDepth := 6) [LTB, HLt_set, ltL_take, ltL_drop, ltL_rep, ltL_set, upd, eset, hH, hHk, zlArena11] <;> omega)
  (try simp only [wk, wk1, wk0, RB, limBytes, simprocAttr, ne_eq])
  skip
theorem aIs (H : List Ob) (A m : Nat) (a : Arena) (h : arenaAt H A m a) : SCall Try.prog 105 [.ref A 0] H (fun r H' => r = .bool true ∧ H' = H) := by
  obtain ⟨h1, h2, h3, h4⟩ := h
  refine SCall.of_good fun hH => ?_
  have hHk := HLt.add hH
  refine SCall.of_code Tok Try.func105 rfl Try.call105 (n := 12) rfl (by simp) (rs := [.tmp 2]) rfl ?_
  refine EWn.to ?_
  refine EWn.of_c Tok mixed (own := false) keep105 tab105 (by kernel_rfl) ?_
  (repeat (first | simp -dsimp only [zrArena11, xnils, xnilm, xrange, xmakeMap, h1, h2, RB, TB, keep105, tab105, xindexAddr, xindex, xslice, xconvert, xlen, ewOp, FreeW, StabW, SameW, ChangeW, AddW, BaseW, limBytes, simprocAttr, ne_eq] | ((with_reducible refine Need.intro ?_ ?_); (omega))))
  try with_reducible refine Need.intro ⟨_, _, rfl⟩ ?_
  (repeat simp -dsimp only [zrArena11, xnils, xnilm, xrange, xmakeMap, h1, h2, RB, TB, keep105, tab105, xindexAddr, xindex, xslice, xconvert, xlen, ewOp, FreeW, StabW, SameW, ChangeW, AddW, BaseW, limBytes, simprocAttr, ne_eq])
  refine RetW.auto0 false _ (by first | rfl | exact (List.append_nil _).symm) ?_ ?_
  · (simp (maxDischargeDepth := 6) [LTB, HLt_set, ltL_take, ltL_drop, ltL_rep, ltL_set, upd, eset, hH, hHk, zlArena11] <;> omega)
  (try simp only [wk, wk1, wk0, RB, limBytes, simprocAttr, ne_eq])
  skip
theorem cloneX (H : List Ob) (t o : Nat) (l : List (Int × Nat × V)) (ck : Nat) (h : H[o]? = some (.map l ck)) : SCall Try.prog 178 [.iface t (.mapr o)] H (fun r H' => r = .iface t (.mapr H.length) ∧ H' = H ++ [.map l ck]) := by
  intro g w cargs hG ha
  obtain ⟨b, es, q1, q2, q3⟩ := hG.map h
  obtain ⟨v, rfl, hv⟩ : ∃ v, cargs = #[v] ∧ RepV (cxOf g H.length w) (.iface t (.mapr o)) v := by
    rcases cargs with ⟨l⟩
    match l, ha with
    | [c], ha => exact ⟨c, rfl, ha.1⟩
  have hl := hv.leaf (by simp) (by simp)
  simp only [RepC] at hl
  obtain ⟨u, hu, k1, k2⟩ := hl
  injection hu with hu
  subst hu
  have hm := mapr_val (RepV.of_parts (by simpa only [RepC] using k1) k2) q1
  subst hm
  obtain ⟨s1, s2, s3⟩ := step_map_new hG (ck := ck) q3
  have hrun : (callFunc 178 #[.iface t (.map (some b))]).run Try.prog w = .ok (.value (.iface t (.map (some w.heap.size)))) (pushW w (.map es ck)) := by
    rw [run_callFunc_extern (P := Try.prog) (fn := Try.f178) (e := Extern.MapsClone.clone) (by kernel_rfl) (by kernel_rfl) (by kernel_rfl) (by kernel_rfl) (by kernel_rfl)]
    rw [show Extern.MapsClone.clone #[.iface t (.map (some b))] = (do match ← getObj b with | .map entries clock => pure (.iface t (.map (some (← newObj (.map entries clock))))) | _ => stuck "maps.clone: a map expected" : Sem Value) from rfl]
    simp [getObj_run q2, run_newObj, pushW]
  unfold CallR
  rw [hrun]
  refine ⟨_, _, _, s1, s2, ?_, rfl, rfl⟩
  have k := s3.leaf (by simp) (by simp)
  refine RepV.mk_leaf ?_ (by simp) (by simp)
  simp only [RepC] at k ⊢
  exact ⟨_, rfl, k, trivial⟩
theorem cloneM (H : List Ob) (o : Nat) (l : List (Int × Nat × V)) (ck : Nat) (h : H[o]? = some (.map l ck)) : SCall Try.prog 163 [.mapr o] H (fun r H' => r = .mapr H.length ∧ H' = H ++ [.map l ck]) := by
  refine SCall.of_good fun hH => ?_
  have hHk := HLt.add hH
  refine SCall.of_code Tok Try.func163 rfl Try.call163 (n := 9) rfl (by simp) (rs := [.tmp 2]) rfl ?_
  refine EWn.to ?_
  refine EWn.of_c Tok mixed (own := false) keep163 tab163 (by kernel_rfl) ?_
  (repeat (first | simp -dsimp only [zrArena11, xnils, xnilm, xrange, xmakeMap, h, RB, TB, keep163, tab163, xindexAddr, xindex, xslice, xconvert, xlen, ewOp, FreeW, StabW, SameW, ChangeW, AddW, BaseW, limBytes, simprocAttr, ne_eq] | ((with_reducible refine Need.intro ?_ ?_); (exact ⟨by first | trivial | (simp; done), _, by first | rfl | (simp; rfl)⟩))))
  try with_reducible refine Need.intro ⟨_, _, rfl⟩ ?_
  skip
  (refine SCall.then (cloneX H _ o l ck h) ?_)
  (repeat simp -dsimp only [zrArena11, xnils, xnilm, xrange, xmakeMap, RB, TB, keep163, tab163, xindexAddr, xindex, xslice, xconvert, xlen, ewOp, FreeW, StabW, SameW, ChangeW, AddW, BaseW, limBytes, simprocAttr, ne_eq])
  have hlm : ltL (H.length + 1) (l.map (·.2.2)) := ltL_le (Nat.le_succ _) _ (hH _ (List.mem_of_getElem? h))
  refine RetW.auto false [.map l ck] _ (by first | rfl | simp) ?_ ?_ ?_
  · (simp (maxDischargeDepth := 6) [LTB, HLt_set, ltL_take, ltL_drop, ltL_rep, ltL_set, upd, eset, hH, hHk, hlm, zlArena11] <;> omega)
  · (simp (maxDischargeDepth := 6) [LTB, HLt_set, ltL_take, ltL_drop, ltL_rep, ltL_set, upd, eset, hH, hHk, hlm, zlArena11] <;> omega)
  (try simp only [wk, wk1, wk0, RB, limBytes, simprocAttr, ne_eq])
  skip
def rootN : Node := ⟨0, 0, -1, 1, ⟨[100, 105, 118], rle (List.replicate 3 0)⟩, [], 0, [], [], [], zeroS⟩
def newA : Arena := ⟨[(0, 0, rootN)], 1, [0, 0, 0, 0], [1, 0, 0, 0]⟩
def rootV : V := .agg [.int .i64 0, .int .i64 0, .int .i64 (-1), .int .i64 1, .str [100, 105, 118], .slice ((rle (List.replicate 3 0)).map runV), .str [], .int .i64 0, .fslice [], .fslice [], .fslice [], .str [], .fslice []]
theorem aNew0 (H : List Ob) : SCall Try.prog 36 [] H (fun r H' => r = .ref (H.length + 1) 0 ∧ H' = H ++ [.map [(0, 0, rootV)] 1, .var (.mapr H.length :: (newA.used.map vi ++ newA.live.map vi))]) := by
  refine SCall.of_good fun hH => ?_
  have hHk := HLt.add hH
  refine SCall.of_code Tok Try.func36 rfl Try.call36 (n := 16) rfl (by simp) (rs := [.tmp 0]) rfl ?_
  refine EWn.to ?_
  refine EWn.of_c Tok mixed (own := false) keep36 tab36 (by kernel_rfl) ?_
  (repeat (first | simp -dsimp only [zrArena11, xnils, xnilm, xrange, xmakeMap, RB, TB, keep36, tab36, xindexAddr, xindex, xslice, xconvert, xlen, ewOp, FreeW, StabW, SameW, ChangeW, AddW, BaseW, limBytes, simprocAttr, ne_eq] | ((with_reducible refine Need.intro ?_ ?_); (trivial))))
  refine CallE.intro _ (mOf _ [100, 105, 118] 0) ?_
  (repeat (first | simp -dsimp only [zrArena11, xnils, xnilm, xrange, xmakeMap, strV, RB, TB, keep36, tab36, xindexAddr, xindex, xslice, xconvert, xlen, ewOp, FreeW, StabW, SameW, ChangeW, AddW, BaseW, limBytes, simprocAttr, ne_eq] | ((with_reducible refine Need.intro ?_ ?_); (trivial))))
  have hlm : ltL (H.length + 2) ([(0, 0, rootV)].map fun p : Int × Nat × V => p.2.2) := by simp [rootV, ltL, V.lt]; exact lt_run _ _
  refine RetW.auto false [.map [(0, 0, rootV)] 1, .var (.mapr H.length :: (newA.used.map vi ++ newA.live.map vi))] [] (by simp [EL.mput, mget, rootV, newA, vi, near]; rfl) ?_ ?_ ?_
  · refine HLt.cons ?_ (HLt.cons ?_ (HLt.nil _))
    · simpa [Ob.lt] using hlm
    · simp [Ob.lt, newA, vi, ltL, V.lt]
  · simp [okW, okW1, okW0, V.lt]
  · simp [wk, wk1, wk0]
/-- what a call leaves, told otherwise -/
theorem _root_.Go.EL.SCall.gho {f : FuncId} {args : List V} {H : List Ob} {v v1 : V} {H1 H2 : List Ob} (h : SCall Try.prog f args H (fun r H' => r = v ∧ H' = H1)) (hg : Gho H.length [(0, v)] H1 [(0, v1)] H2) : SCall Try.prog f args H (fun r H' => r = v1 ∧ H' = H2) := by
  intro g w cargs hG ha
  refine (h g w cargs hG ha).mono fun cv w' ⟨r, H', g', h1, h2, h3, h4, h5⟩ => ?_
  subst h4 h5
  obtain ⟨g'', k1, k2, k3⟩ := hg g' w' h1
  exact ⟨v1, H2, g'', k1, k2 _ _ h2, k3 0 cv h3, rfl, rfl⟩
theorem aNew (H : List Ob) : SCall Try.prog 36 [] H (fun r H' => r = .ref (H.length + 1) 0 ∧ H' = H ++ [.map (encM newA.nodes) 1, .var (.mapr H.length :: (newA.used.map vi ++ newA.live.map vi))]) := by
  refine (aNew0 H).gho ?_
  have hs : H ++ [Ob.map (encM newA.nodes) 1, .var (.mapr H.length :: (newA.used.map vi ++ newA.live.map vi))] = (H ++ [Ob.map [(0, 0, rootV)] 1, .var (.mapr H.length :: (newA.used.map vi ++ newA.live.map vi))]).set H.length (Ob.map (encM newA.nodes) 1) := by simp
  rw [hs]
  refine Gho.weakOb H.length (x := Ob.map [(0, 0, rootV)] 1) (by simp) ⟨rfl, ⟨rfl, rfl, .inr ⟨_, _, rfl, rfl, ?_⟩⟩, trivial⟩
  repeat (first | exact trivial | refine ⟨.inl (.inl rfl), ?_⟩ | refine ⟨.inl (.inr ⟨_, rfl, rfl⟩), ?_⟩)
end Go.Proofs.Ytjplgbalpnlanaa

/- The walk of arena's Clone. -/
set_option maxHeartbeats 600000
set_option linter.unusedSimpArgs false
set_option linter.unusedVariables false
set_option maxRecDepth 100000
namespace Go.Proofs.Ytjplgbalpnlanaa
open Go Go.EL
theorem zrArena21 : type_of% (And.intro (And.intro (And.intro (And.intro (@st_run) (And.intro (@sz_run) (@st1_run))) (And.intro (@cl_run) (And.intro (@st_Str) (@sz_Str)))) (And.intro (And.intro (@st1_Str) (And.intro (@cl_Str) (@st_c))) (And.intro (@sz_c) (And.intro (@st1_c) (@cl_c))))) (And.intro (And.intro (And.intro (@st_attr) (And.intro (@sz_attr) (@st1_attr))) (And.intro (@cl_attr) (And.intro (@st_hook) (@sz_hook)))) (And.intro (And.intro (@st1_hook) (And.intro (@cl_hook) (@st_node))) (And.intro (@sz_node) (And.intro (@st1_node) (@cl_node)))))) := And.intro (And.intro (And.intro (And.intro (@st_run) (And.intro (@sz_run) (@st1_run))) (And.intro (@cl_run) (And.intro (@st_Str) (@sz_Str)))) (And.intro (And.intro (@st1_Str) (And.intro (@cl_Str) (@st_c))) (And.intro (@sz_c) (And.intro (@st1_c) (@cl_c))))) (And.intro (And.intro (And.intro (@st_attr) (And.intro (@sz_attr) (@st1_attr))) (And.intro (@cl_attr) (And.intro (@st_hook) (@sz_hook)))) (And.intro (And.intro (@st1_hook) (And.intro (@cl_hook) (@st_node))) (And.intro (@sz_node) (And.intro (@st1_node) (@cl_node)))))
theorem zlArena21 : type_of% (And.intro (And.intro (And.intro (And.intro (@lt_vi) (@lt_str)) (And.intro (@lt_vb) (And.intro (@ltc_str) (@ltc_vi)))) (And.intro (And.intro (@lt_run) (And.intro (@lt1_run) (@ltc_run))) (And.intro (@lt_Str) (And.intro (@lt1_Str) (@ltc_Str))))) (And.intro (And.intro (And.intro (@lt_c) (And.intro (@lt1_c) (@ltc_c))) (And.intro (@lt_attr) (And.intro (@lt1_attr) (@ltc_attr)))) (And.intro (And.intro (@lt_hook) (And.intro (@lt1_hook) (@ltc_hook))) (And.intro (@lt_node) (And.intro (@lt1_node) (@ltc_node)))))) := And.intro (And.intro (And.intro (And.intro (@lt_vi) (@lt_str)) (And.intro (@lt_vb) (And.intro (@ltc_str) (@ltc_vi)))) (And.intro (And.intro (@lt_run) (And.intro (@lt1_run) (@ltc_run))) (And.intro (@lt_Str) (And.intro (@lt1_Str) (@ltc_Str))))) (And.intro (And.intro (And.intro (@lt_c) (And.intro (@lt1_c) (@ltc_c))) (And.intro (@lt_attr) (And.intro (@lt1_attr) (@ltc_attr)))) (And.intro (And.intro (@lt_hook) (And.intro (@lt1_hook) (@ltc_hook))) (And.intro (@lt_node) (And.intro (@lt1_node) (@ltc_node)))))
abbrev Ent := Int × Nat × Node
def ownE (p : Ent) : Ent := (p.1, p.2.1, ownN p.2.2)
/-- those that were seen are one's own -/
def mSeen (l : List Ent) (seen : List Nat) : List Ent := l.map fun p => if p.2.1 ∈ seen then ownE p else p
structure okAr (a : Arena) : Prop where
  nodes : ∀ p ∈ a.nodes, okN p.2.2
  keys : (a.nodes.map (·.1)).Nodup
  born : (a.nodes.map (·.2.1)).Nodup
  old : ∀ p ∈ a.nodes, p.2.1 < a.clock
def ownAr (a : Arena) : Arena := { a with nodes := a.nodes.map ownE }
theorem seen_key (p : Ent) (seen : List Nat) : (if p.2.1 ∈ seen then ownE p else p).1 = p.1 := by split <;> rfl
theorem seen_born (p : Ent) (seen : List Nat) : (if p.2.1 ∈ seen then ownE p else p).2.1 = p.2.1 := by split <;> rfl
theorem seen_other {p q : Ent} {seen : List Nat} (h : p.2.1 ≠ q.2.1) : (if p.2.1 ∈ seen ++ [q.2.1] then ownE p else p) = if p.2.1 ∈ seen then ownE p else p := by
  have : (p.2.1 ∈ seen ++ [q.2.1]) ↔ p.2.1 ∈ seen := by simp [h]
  simp only [this]
theorem seen_same {q : Ent} {seen : List Nat} : ∀ {l : List Ent}, q.2.1 ∉ l.map (·.2.1) → mSeen l (seen ++ [q.2.1]) = mSeen l seen
  | [], _ => rfl
  | p :: l, h => by
    simp only [List.map_cons, List.mem_cons, not_or] at h
    simp only [mSeen, List.map_cons]
    rw [seen_other (Ne.symm h.1)]
    congr 1
    exact seen_same h.2
theorem mset_seen {q : Ent} {seen : List Nat} : ∀ {l : List Ent}, (l.map (·.1)).Nodup → (l.map (·.2.1)).Nodup → q ∈ l → mset (encM (mSeen l seen)) q.1 (nodeV (ownN q.2.2)) = encM (mSeen l (seen ++ [q.2.1])) ∧ (mget (encM (mSeen l seen)) q.1).isSome = true
  | [], _, _, h => by cases h
  | p :: l, h1, h2, h => by
    simp only [List.map_cons, List.nodup_cons] at h1 h2
    by_cases hk : q.1 = p.1
    · have hq : q = p := by
        rcases List.mem_cons.1 h with h | h
        · exact h
        · exact absurd (List.mem_map.2 ⟨q, h, hk⟩) h1.1
      subst hq
      refine ⟨?_, ?_⟩
      · have := seen_same (seen := seen) h2.1
        simp only [mSeen] at this
        simp only [mSeen, encM, List.map_cons, mset]
        rw [if_pos (seen_key q seen).symm, this]
        rw [if_pos (show q.2.1 ∈ seen ++ [q.2.1] by simp), seen_key, seen_born]
        rfl
      · simp only [mSeen, encM, List.map_cons, mget]
        rw [if_pos (seen_key q seen).symm]; rfl
    · have hq : q ∈ l := by
        rcases List.mem_cons.1 h with h | h
        · subst h; exact absurd rfl hk
        · exact h
      obtain ⟨k1, k2⟩ := mset_seen h1.2 h2.2 hq
      have hb : p.2.1 ≠ q.2.1 := fun e => h2.1 (List.mem_map.2 ⟨q, hq, e.symm⟩)
      have hn : ¬ q.1 = (if p.2.1 ∈ seen then ownE p else p).1 := by rw [seen_key]; exact hk
      simp only [mSeen, encM] at k1 k2
      refine ⟨?_, ?_⟩
      · simp only [mSeen, encM, List.map_cons, mset]
        rw [if_neg hn, k1, seen_other hb]
      · simp only [mSeen, encM, List.map_cons, mget]
        rw [if_neg hn, k2]
theorem find_seen {q : Ent} {seen : List Nat} (hns : q.2.1 ∉ seen) : ∀ {l : List Ent}, (l.map (·.2.1)).Nodup → q ∈ l → (encM (mSeen l seen)).find? (fun p => p.2.1 == q.2.1) = some (q.1, q.2.1, nodeV q.2.2)
  | [], _, h => by cases h
  | p :: l, h2, h => by
    simp only [List.map_cons, List.nodup_cons] at h2
    by_cases hk : q.2.1 = p.2.1
    · have hq : q = p := by
        rcases List.mem_cons.1 h with h | h
        · exact h
        · exact absurd (List.mem_map.2 ⟨q, h, hk⟩) h2.1
      subst hq
      simp only [mSeen, encM, List.map_cons, if_neg hns]
      rw [List.find?_cons_of_pos (by simp)]
    · have hq : q ∈ l := by
        rcases List.mem_cons.1 h with h | h
        · subst h; exact absurd rfl hk
        · exact h
      have := find_seen hns h2.2 hq
      simp only [mSeen, encM] at this
      simp only [mSeen, encM, List.map_cons]
      rw [List.find?_cons_of_neg (by simp only [seen_born]; simpa using fun e => hk e.symm), this]
theorem seen_mem {p : Int × Nat × V} {seen : List Nat} {l : List Ent} (h : p ∈ encM (mSeen l seen)) (hns : p.2.1 ∉ seen) : ∃ q ∈ l, p = (q.1, q.2.1, nodeV q.2.2) := by
  obtain ⟨x, hx, rfl⟩ := List.mem_map.1 h
  obtain ⟨q, hq, rfl⟩ := List.mem_map.1 hx
  simp only [seen_born] at hns
  exact ⟨q, hq, by rw [if_neg hns]⟩
theorem seen_mem' {q : Ent} {seen : List Nat} {l : List Ent} (h : q ∈ l) : ∃ p ∈ encM (mSeen l seen), p.2.1 = q.2.1 :=
  ⟨_, List.mem_map.2 ⟨_, List.mem_map.2 ⟨q, h, rfl⟩, rfl⟩, seen_born q seen⟩
theorem seen_all {seen : List Nat} {l : List Ent} (h : ∀ q ∈ l, q.2.1 ∈ seen) : mSeen l seen = l.map ownE :=
  List.map_congr_left fun p hp => by rw [if_pos (h p hp)]
theorem seen_nil (l : List Ent) : mSeen l [] = l := by simp [mSeen]
theorem nodup_len : ∀ {l m : List Nat}, l.Nodup → (∀ b ∈ l, b ∈ m) → l.length ≤ m.length
  | [], m, _, _ => Nat.zero_le _
  | a :: l, m, h, hs => by
    rw [List.nodup_cons] at h
    have ha := hs a (by simp)
    have := nodup_len (m := m.erase a) h.2 (fun b hb => by
      rw [List.mem_erase_of_ne (fun e : b = a => h.1 (e ▸ hb))]
      exact hs b (by simp [hb]))
    rw [List.length_erase_of_mem ha] at this
    have := List.length_pos_of_mem ha
    simp only [List.length_cons]
    omega
theorem lt_encM (n : Nat) (l : List Ent) : ltL n ((encM l).map fun p : Int × Nat × V => p.2.2) := by
  simp only [encM, List.map_map]
  exact ltL_map (f := (fun p : Int × Nat × V => p.2.2) ∘ fun p : Ent => (p.1, p.2.1, nodeV p.2.2)) (fun x => lt1_node n x.2.2) l
theorem aCloneNil (H : List Ob) : SCall Try.prog 121 [.nilp] H (fun r H' => r = .nilp ∧ H' = H) := by
  refine SCall.of_good fun hH => ?_
  have hHk := HLt.add hH
  refine SCall.of_code Tok Try.func121 rfl Try.call121 (n := 42) rfl (by simp) (rs := [.tmp 2]) rfl ?_
  refine EWn.to ?_
  refine EWn.of_c Tok mixed (own := false) keep121 tab121 (by kernel_rfl) ?_
  (repeat simp -dsimp only [zrArena21, xnils, xnilm, xrange, xmakeMap, RB, TB, keep121, tab121, xindexAddr, xindex, xslice, xconvert, xlen, ewOp, FreeW, StabW, SameW, ChangeW, AddW, BaseW, limBytes, simprocAttr, ne_eq])
  (refine SCall.then (aIsNil _) ?_)
  (repeat simp -dsimp only [zrArena21, xnils, xnilm, xrange, xmakeMap, RB, TB, keep121, tab121, xindexAddr, xindex, xslice, xconvert, xlen, ewOp, FreeW, StabW, SameW, ChangeW, AddW, BaseW, limBytes, simprocAttr, ne_eq])
  refine RetW.auto0 false _ (by first | rfl | exact (List.append_nil _).symm) ?_ ?_
  · (simp (maxDischargeDepth := 6) [LTB, HLt_set, ltL_take, ltL_drop, ltL_rep, ltL_set, upd, eset, hH, hHk, lt_encM, vi, zlArena21] <;> omega)
  (try simp only [wk, wk1, wk0, RB, limBytes, simprocAttr, ne_eq])
  skip
theorem aClone (H : List Ob) (A m : Nat) (a : Arena) (h : arenaAt H A m a) (hok : okAr a) : SCall Try.prog 121 [.ref A 0] H (fun r H' => r = .ref (H.length + 1) 0 ∧ H' = H ++ [.map (encM (ownAr a).nodes) a.clock, .var (.mapr H.length :: (a.used.map vi ++ a.live.map vi))]) := by
  obtain ⟨nodes, clock, used, live⟩ := a
  have hat := h
  obtain ⟨h1, h2, h3, h4⟩ := h
  simp only at h1 h2 h3 h4
  match used, live, h3, h4 with
  | [u0, u1, u2, u3], [l0, l1, l2, l3], _, _ =>
  have hA : ∀ L, (H ++ L)[A]? = some (.var [.mapr m, vi u0, vi u1, vi u2, vi u3, vi l0, vi l1, vi l2, vi l3]) := fun L => by rw [List.getElem?_append_left (List.getElem?_eq_some_iff.1 h1).1]; exact h1
  simp only [List.map_cons, List.map_nil, List.cons_append, List.nil_append] at h1
  refine SCall.of_good fun hH => ?_
  have hHk := HLt.add hH
  refine SCall.of_code Tok Try.func121 rfl Try.call121 (n := 42) rfl (by simp) (rs := [.tmp 2]) rfl ?_
  refine EWn.to ?_
  refine EWn.of_c Tok mixed (own := false) keep121 tab121 (by kernel_rfl) ?_
  (repeat simp -dsimp only [zrArena21, xnils, xnilm, xrange, xmakeMap, RB, TB, keep121, tab121, xindexAddr, xindex, xslice, xconvert, xlen, ewOp, FreeW, StabW, SameW, ChangeW, AddW, BaseW, limBytes, simprocAttr, ne_eq])
  (refine SCall.then (aIs H A m _ hat) ?_)
  (repeat simp -dsimp only [zrArena21, xnils, xnilm, xrange, xmakeMap, h1, RB, TB, keep121, tab121, xindexAddr, xindex, xslice, xconvert, xlen, ewOp, FreeW, StabW, SameW, ChangeW, AddW, BaseW, limBytes, simprocAttr, ne_eq])
  (refine CallE2.intro _ _ (cloneM _ m _ _ h2) ?_)
  (repeat (first | simp -dsimp only [zrArena21, xnils, xnilm, xrange, xmakeMap, h1, hA, RB, TB, keep121, tab121, xindexAddr, xindex, xslice, xconvert, xlen, ewOp, FreeW, StabW, SameW, ChangeW, AddW, BaseW, limBytes, simprocAttr, ne_eq] | ((with_reducible refine Need.intro ?_ ?_); (first | trivial | exact ⟨_, rfl⟩))))
  have hcl : ∀ seen, encM (mSeen nodes seen) = encM (mSeen nodes seen) := fun _ => rfl
  rw [show encM nodes = encM (mSeen nodes []) by rw [seen_nil]]
  refine EWn.loopE (ι := (List Nat)) (fun (seen : (List Nat)) => seen.Nodup ∧ (∀ b ∈ seen, b ∈ nodes.map (·.2.1))) (fun (seen : (List Nat)) => nodes.length - seen.length) (fun (seen : (List Nat)) => []) (fun (seen : (List Nat)) => H ++ [.map (encM (mSeen nodes seen)) clock, .var [.mapr H.length, vi u0, vi u1, vi u2, vi u3, vi l0, vi l1, vi l2, vi l3], .iter H.length clock seen clock]) ([]) ?_ ?_ ?_ ?_ ?_
  · first | rfl | simp [upd, eset]
  · first | rfl | (simp; done) | exact (set_same (by assumption)).symm
  · rintro seen hok; exact ⟨by first | (simp; done) | (simp; omega), by (simp (maxDischargeDepth := 6) [LTB, HLt_set, ltL_take, ltL_drop, ltL_rep, ltL_set, upd, eset, hH, hHk, lt_encM, vi, zlArena21] <;> omega), by (simp (maxDischargeDepth := 6) [LTB, HLt_set, ltL_take, ltL_drop, ltL_rep, ltL_set, upd, eset, hH, hHk, lt_encM, vi, zlArena21] <;> omega)⟩
  · exact ⟨List.nodup_nil, fun b hb => by cases hb⟩
  rintro seen ⟨hnd, hin⟩
  refine EWn.of_c Tok mixed (own := false) keep121 tab121 (by kernel_rfl) ?_
  (repeat simp -dsimp only [zrArena21, xnils, xnilm, xrange, xmakeMap, RB, TB, keep121, tab121, xindexAddr, xindex, xslice, xconvert, xlen, ewOp, FreeW, StabW, SameW, ChangeW, AddW, BaseW, limBytes, simprocAttr, ne_eq])
  refine NextW.intro (H.length + 2) H.length clock seen clock _ clock rfl (by simp) (by simp; rfl) ?_ (fun p hp hns => ?_) (fun hall => ?_)
  · cases nodes with
    | nil => exact .inr (.inl rfl)
    | cons q l =>
      obtain ⟨p, k1, k2⟩ := seen_mem' (seen := seen) (q := q) (l := q :: l) (by simp)
      exact .inr (.inr ⟨p, k1, by rw [k2]; exact hok.old q (by simp)⟩)
  · obtain ⟨q, hq, rfl⟩ := seen_mem hp hns
    simp only at hns
    obtain ⟨s1, s2⟩ := mset_seen (seen := seen) hok.keys hok.born hq
    have hf : List.find? (fun p : Int × Nat × V => p.2.1 == (seen ++ [q.2.1]).getLastD 0) (encM (mSeen nodes seen)) = some (q.1, q.2.1, nodeV q.2.2) := by
      rw [show (seen ++ [q.2.1]).getLastD 0 = q.2.1 by simp]
      exact find_seen hns hok.born hq
    have hnew : (seen ++ [q.2.1]).Nodup := by
      rw [List.nodup_append]
      exact ⟨hnd, by simp, fun a ha b hb e => by simp at hb; subst hb; exact hns (e ▸ ha)⟩
    have hin2 : ∀ b ∈ seen ++ [q.2.1], b ∈ nodes.map (·.2.1) := fun b hb => by
      rcases List.mem_append.1 hb with hb | hb
      · exact hin b hb
      · simp at hb; subst hb; exact List.mem_map.2 ⟨q, hq, rfl⟩
    have hlen : (seen ++ [q.2.1]).length ≤ nodes.length := by
      have := nodup_len hnew hin2
      simpa using this
    (repeat simp -dsimp only [zrArena21, xnils, xnilm, xrange, xmakeMap, hf, nodeV, RB, TB, keep121, tab121, xindexAddr, xindex, xslice, xconvert, xlen, ewOp, FreeW, StabW, SameW, ChangeW, AddW, BaseW, limBytes, simprocAttr, ne_eq])
    refine Need.intro (by simp) ?_
    (repeat simp -dsimp only [zrArena21, xnils, xnilm, xrange, xmakeMap, hf, nodeV, RB, TB, keep121, tab121, xindexAddr, xindex, xslice, xconvert, xlen, ewOp, FreeW, StabW, SameW, ChangeW, AddW, BaseW, limBytes, simprocAttr, ne_eq])
    (refine CallE.intro _ (aOwnN _ q.2.2 (hok.nodes q hq)) ?_)
    (repeat simp -dsimp only [zrArena21, xnils, xnilm, xrange, xmakeMap, nodeV, RB, TB, keep121, tab121, xindexAddr, xindex, xslice, xconvert, xlen, ewOp, FreeW, StabW, SameW, ChangeW, AddW, BaseW, limBytes, simprocAttr, ne_eq])
    have e1 : EL.mput (encM (mSeen nodes seen)) clock q.1 (nodeV (ownN q.2.2)) = encM (mSeen nodes (seen ++ [q.2.1])) := by
      unfold EL.mput
      rw [if_pos s2]; exact s1
    have e2 : (if (mget (encM (mSeen nodes seen)) q.1).isSome = true then clock else clock + 1) = clock := if_pos s2
    unfold nodeV at e1
    rw [e1, e2]
    rw [List.length_append, List.length_singleton] at hlen
    refine UpTo.here ⟨seen ++ [q.2.1], ⟨hnew, hin2⟩, by simp only [List.length_append, List.length_singleton]; omega, rfl, ⟨_, by simp only [List.append_assoc, List.cons_append, List.nil_append]; rfl⟩⟩
  · (repeat simp -dsimp only [zrArena21, xnils, xnilm, xrange, xmakeMap, RB, TB, keep121, tab121, xindexAddr, xindex, xslice, xconvert, xlen, ewOp, FreeW, StabW, SameW, ChangeW, AddW, BaseW, limBytes, simprocAttr, ne_eq])
    have hsa : mSeen nodes seen = nodes.map ownE := seen_all fun q hq => by
      obtain ⟨p, k1, k2⟩ := seen_mem' (seen := seen) hq
      have := hall p k1 (by rw [k2]; exact hok.old q hq)
      rwa [k2] at this
    rw [hsa]
    refine RetW.auto false [.map (encM (nodes.map ownE)) clock, .var [.mapr H.length, vi u0, vi u1, vi u2, vi u3, vi l0, vi l1, vi l2, vi l3]] _ (by first | rfl | simp) ?_ ?_ ?_
    · (simp (maxDischargeDepth := 6) [LTB, HLt_set, ltL_take, ltL_drop, ltL_rep, ltL_set, upd, eset, hH, hHk, lt_encM, vi, zlArena21] <;> omega)
    · (simp (maxDischargeDepth := 6) [LTB, HLt_set, ltL_take, ltL_drop, ltL_rep, ltL_set, upd, eset, hH, hHk, lt_encM, vi, zlArena21] <;> omega)
    (try simp only [wk, wk1, wk0, RB, limBytes, simprocAttr, ne_eq])
    skip
    simp [ownAr]
end Go.Proofs.Ytjplgbalpnlanaa

/- The walks of package arena: Has, Get. -/
set_option maxHeartbeats 600000
set_option linter.unusedSimpArgs false
set_option linter.unusedVariables false
set_option maxRecDepth 100000
namespace Go.Proofs.Ytjplgbalpnlanaa
open Go Go.EL
theorem zrArena31 : type_of% (And.intro (And.intro (And.intro (And.intro (@st_run) (And.intro (@sz_run) (@st1_run))) (And.intro (@cl_run) (And.intro (@st_Str) (@sz_Str)))) (And.intro (And.intro (@st1_Str) (And.intro (@cl_Str) (@st_c))) (And.intro (@sz_c) (And.intro (@st1_c) (@cl_c))))) (And.intro (And.intro (And.intro (@st_attr) (And.intro (@sz_attr) (@st1_attr))) (And.intro (@cl_attr) (And.intro (@st_hook) (@sz_hook)))) (And.intro (And.intro (@st1_hook) (And.intro (@cl_hook) (@st_node))) (And.intro (@sz_node) (And.intro (@st1_node) (@cl_node)))))) := And.intro (And.intro (And.intro (And.intro (@st_run) (And.intro (@sz_run) (@st1_run))) (And.intro (@cl_run) (And.intro (@st_Str) (@sz_Str)))) (And.intro (And.intro (@st1_Str) (And.intro (@cl_Str) (@st_c))) (And.intro (@sz_c) (And.intro (@st1_c) (@cl_c))))) (And.intro (And.intro (And.intro (@st_attr) (And.intro (@sz_attr) (@st1_attr))) (And.intro (@cl_attr) (And.intro (@st_hook) (@sz_hook)))) (And.intro (And.intro (@st1_hook) (And.intro (@cl_hook) (@st_node))) (And.intro (@sz_node) (And.intro (@st1_node) (@cl_node)))))
theorem zlArena31 : type_of% (And.intro (And.intro (And.intro (And.intro (@lt_vi) (@lt_str)) (And.intro (@lt_vb) (And.intro (@ltc_str) (@ltc_vi)))) (And.intro (And.intro (@lt_run) (And.intro (@lt1_run) (@ltc_run))) (And.intro (@lt_Str) (And.intro (@lt1_Str) (@ltc_Str))))) (And.intro (And.intro (And.intro (@lt_c) (And.intro (@lt1_c) (@ltc_c))) (And.intro (@lt_attr) (And.intro (@lt1_attr) (@ltc_attr)))) (And.intro (And.intro (@lt_hook) (And.intro (@lt1_hook) (@ltc_hook))) (And.intro (@lt_node) (And.intro (@lt1_node) (@ltc_node)))))) := And.intro (And.intro (And.intro (And.intro (@lt_vi) (@lt_str)) (And.intro (@lt_vb) (And.intro (@ltc_str) (@ltc_vi)))) (And.intro (And.intro (@lt_run) (And.intro (@lt1_run) (@ltc_run))) (And.intro (@lt_Str) (And.intro (@lt1_Str) (@ltc_Str))))) (And.intro (And.intro (And.intro (@lt_c) (And.intro (@lt1_c) (@ltc_c))) (And.intro (@lt_attr) (And.intro (@lt1_attr) (@ltc_attr)))) (And.intro (And.intro (@lt_hook) (And.intro (@lt1_hook) (@ltc_hook))) (And.intro (@lt_node) (And.intro (@lt1_node) (@ltc_node)))))
/-- the node of an id -/
def nget : List Ent → Int → Option Node
  | [], _ => none
  | p :: l, n => if n = p.1 then some p.2.2 else nget l n
theorem mget_enc (id : Int) : ∀ l : List Ent, mget (encM l) id = (nget l id).map nodeV
  | [] => rfl
  | p :: l => by
    simp only [encM, List.map_cons, mget, nget]
    by_cases h : id = p.1
    · rw [if_pos h, if_pos h]; rfl
    · rw [if_neg h, if_neg h]; exact mget_enc id l
theorem nget_mem {id : Int} {n : Node} : ∀ {l : List Ent}, nget l id = some n → ∃ p ∈ l, p.2.2 = n
  | p :: l, h => by
    simp only [nget] at h
    split at h
    · injection h with h; exact ⟨p, by simp, h⟩
    · obtain ⟨q, h1, h2⟩ := nget_mem h; exact ⟨q, by simp [h1], h2⟩
def nodeZ : Node := ⟨0, 0, 0, 0, zeroS, [], 0, [], [], [], zeroS⟩
theorem aHasNil (H : List Ob) (id : Int) : SCall Try.prog 114 [.nilp, .int .i64 id] H (fun r H' => r = .bool false ∧ H' = H) := by
  refine SCall.of_good fun hH => ?_
  have hHk := HLt.add hH
  refine SCall.of_code Tok Try.func114 rfl Try.call114 (n := 20) rfl (by simp) (rs := [.tmp 4]) rfl ?_
  refine EWn.to ?_
  refine EWn.of_c Tok mixed (own := false) keep114 tab114 (by kernel_rfl) ?_
  (repeat simp -dsimp only [zrArena31, xnils, xnilm, xrange, xmakeMap, xslice3, RB, TB, keep114, tab114, xindexAddr, xindex, xslice, xconvert, xlen, ewOp, FreeW, StabW, SameW, ChangeW, AddW, BaseW, limBytes, simprocAttr, ne_eq])
  (refine SCall.then (aIsNil _) ?_)
  (repeat simp -dsimp only [zrArena31, xnils, xnilm, xrange, xmakeMap, xslice3, RB, TB, keep114, tab114, xindexAddr, xindex, xslice, xconvert, xlen, ewOp, FreeW, StabW, SameW, ChangeW, AddW, BaseW, limBytes, simprocAttr, ne_eq])
  refine RetW.auto0 false _ (by first | rfl | exact (List.append_nil _).symm) ?_ ?_
  · (simp (maxDischargeDepth := 6) [LTB, HLt_set, ltL_take, ltL_drop, ltL_rep, ltL_set, upd, eset, hH, hHk, zlArena31] <;> omega)
  (try simp only [wk, wk1, wk0, RB, limBytes, simprocAttr, ne_eq])
  skip
theorem aHas (H : List Ob) (A m : Nat) (a : Arena) (h : arenaAt H A m a) (id : Int) : SCall Try.prog 114 [.ref A 0, .int .i64 id] H (fun r H' => r = .bool (nget a.nodes id).isSome ∧ H' = H) := by
  have hg := mget_enc id a.nodes
  have h' := h
  obtain ⟨h1, h2, h3, h4⟩ := h
  cases hn : nget a.nodes id with
  | none =>
    rw [hn] at hg
    simp only [Option.map_none] at hg
    refine SCall.of_good fun hH => ?_
    have hHk := HLt.add hH
    refine SCall.of_code Tok Try.func114 rfl Try.call114 (n := 20) rfl (by simp) (rs := [.tmp 4]) rfl ?_
    refine EWn.to ?_
    refine EWn.of_c Tok mixed (own := false) keep114 tab114 (by kernel_rfl) ?_
    (repeat simp -dsimp only [zrArena31, xnils, xnilm, xrange, xmakeMap, xslice3, RB, TB, keep114, tab114, xindexAddr, xindex, xslice, xconvert, xlen, ewOp, FreeW, StabW, SameW, ChangeW, AddW, BaseW, limBytes, simprocAttr, ne_eq])
    (refine SCall.then (aIs H A m a h') ?_)
    (repeat (first | simp -dsimp only [zrArena31, xnils, xnilm, xrange, xmakeMap, xslice3, h1, h2, hg, Option.getD_none, RB, TB, keep114, tab114, xindexAddr, xindex, xslice, xconvert, xlen, ewOp, FreeW, StabW, SameW, ChangeW, AddW, BaseW, limBytes, simprocAttr, ne_eq] | ((with_reducible refine Need.intro ?_ ?_); (omega))))
    refine RetW.auto0 false _ (by first | rfl | exact (List.append_nil _).symm) ?_ ?_
    · (simp (maxDischargeDepth := 6) [LTB, HLt_set, ltL_take, ltL_drop, ltL_rep, ltL_set, upd, eset, hH, hHk, zlArena31] <;> omega)
    (try simp only [wk, wk1, wk0, RB, limBytes, simprocAttr, ne_eq])
    skip
  | some n =>
    rw [hn] at hg
    simp only [Option.map_some] at hg
    refine SCall.of_good fun hH => ?_
    have hHk := HLt.add hH
    refine SCall.of_code Tok Try.func114 rfl Try.call114 (n := 20) rfl (by simp) (rs := [.tmp 4]) rfl ?_
    refine EWn.to ?_
    refine EWn.of_c Tok mixed (own := false) keep114 tab114 (by kernel_rfl) ?_
    (repeat simp -dsimp only [zrArena31, xnils, xnilm, xrange, xmakeMap, xslice3, RB, TB, keep114, tab114, xindexAddr, xindex, xslice, xconvert, xlen, ewOp, FreeW, StabW, SameW, ChangeW, AddW, BaseW, limBytes, simprocAttr, ne_eq])
    (refine SCall.then (aIs H A m a h') ?_)
    (repeat (first | simp -dsimp only [zrArena31, xnils, xnilm, xrange, xmakeMap, xslice3, h1, h2, hg, RB, TB, keep114, tab114, xindexAddr, xindex, xslice, xconvert, xlen, ewOp, FreeW, StabW, SameW, ChangeW, AddW, BaseW, limBytes, simprocAttr, ne_eq] | ((with_reducible refine Need.intro ?_ ?_); (omega))))
    refine RetW.auto0 false _ (by first | rfl | exact (List.append_nil _).symm) ?_ ?_
    · (simp (maxDischargeDepth := 6) [LTB, HLt_set, ltL_take, ltL_drop, ltL_rep, ltL_set, upd, eset, hH, hHk, zlArena31] <;> omega)
    (try simp only [wk, wk1, wk0, RB, limBytes, simprocAttr, ne_eq])
    skip
theorem aGetNil (H : List Ob) (id : Int) : SCall Try.prog 40 [.nilp, .int .i64 id] H (fun r H' => r = .tuple [nodeV nodeZ, .bool false] ∧ H' = H) := by
  refine SCall.of_good fun hH => ?_
  have hHk := HLt.add hH
  refine SCall.of_code Tok Try.func40 rfl Try.call40 (n := 18) rfl (by simp) (rs := [.cell 4 60, .tmp 5]) rfl ?_
  refine EWn.to ?_
  refine EWn.of_c Tok mixed (own := false) keep40 tab40 (by kernel_rfl) ?_
  (repeat simp -dsimp only [zrArena31, xnils, xnilm, xrange, xmakeMap, xslice3, RB, TB, keep40, tab40, xindexAddr, xindex, xslice, xconvert, xlen, ewOp, FreeW, StabW, SameW, ChangeW, AddW, BaseW, limBytes, simprocAttr, ne_eq])
  (refine SCall.then (aHasNil _ id) ?_)
  (repeat simp -dsimp only [zrArena31, xnils, xnilm, xrange, xmakeMap, xslice3, RB, TB, keep40, tab40, xindexAddr, xindex, xslice, xconvert, xlen, ewOp, FreeW, StabW, SameW, ChangeW, AddW, BaseW, limBytes, simprocAttr, ne_eq])
  refine RetW.auto0 false _ (by first | rfl | exact (List.append_nil _).symm) ?_ ?_
  · (simp (maxDischargeDepth := 6) [LTB, HLt_set, ltL_take, ltL_drop, ltL_rep, ltL_set, upd, eset, hH, hHk, zlArena31] <;> omega)
  (try simp only [wk, wk1, wk0, RB, limBytes, simprocAttr, ne_eq])
  skip
  rfl
theorem arena_app {H : List Ob} {A m : Nat} {a : Arena} (h : arenaAt H A m a) (K : List Ob) : arenaAt (H ++ K) A m a :=
  ⟨by rw [List.getElem?_append_left (List.getElem?_eq_some_iff.1 h.1).1]; exact h.1, by rw [List.getElem?_append_left (List.getElem?_eq_some_iff.1 h.2.1).1]; exact h.2.1, h.2.2.1, h.2.2.2⟩
theorem aGet (H : List Ob) (A m : Nat) (a : Arena) (h : arenaAt H A m a) (hok : ∀ p ∈ a.nodes, okN p.2.2) (id : Int) : SCall Try.prog 40 [.ref A 0, .int .i64 id] H (fun r H' => r = (match nget a.nodes id with | some n => .tuple [nodeV (ownN n), .bool true] | none => .tuple [nodeV nodeZ, .bool false]) ∧ H' = H) := by
  have hg := mget_enc id a.nodes
  have hK := fun K => (arena_app h K).1
  have hM := fun K => (arena_app h K).2.1
  cases hn : nget a.nodes id with
  | none =>
    rw [hn] at hg
    simp only [Option.map_none] at hg
    refine SCall.of_good fun hH => ?_
    have hHk := HLt.add hH
    refine SCall.of_code Tok Try.func40 rfl Try.call40 (n := 18) rfl (by simp) (rs := [.cell 4 60, .tmp 5]) rfl ?_
    refine EWn.to ?_
    refine EWn.of_c Tok mixed (own := false) keep40 tab40 (by kernel_rfl) ?_
    (repeat simp -dsimp only [zrArena31, xnils, xnilm, xrange, xmakeMap, xslice3, RB, TB, keep40, tab40, xindexAddr, xindex, xslice, xconvert, xlen, ewOp, FreeW, StabW, SameW, ChangeW, AddW, BaseW, limBytes, simprocAttr, ne_eq])
    (refine SCall.then (aHas _ A m a (arena_app h _) id) ?_)
    (repeat simp -dsimp only [zrArena31, xnils, xnilm, xrange, xmakeMap, xslice3, hn, Option.isSome_none, RB, TB, keep40, tab40, xindexAddr, xindex, xslice, xconvert, xlen, ewOp, FreeW, StabW, SameW, ChangeW, AddW, BaseW, limBytes, simprocAttr, ne_eq])
    refine RetW.auto0 false _ (by first | rfl | exact (List.append_nil _).symm) ?_ ?_
    · (simp (maxDischargeDepth := 6) [LTB, HLt_set, ltL_take, ltL_drop, ltL_rep, ltL_set, upd, eset, hH, hHk, zlArena31] <;> omega)
    (try simp only [wk, wk1, wk0, RB, limBytes, simprocAttr, ne_eq])
    skip
    rfl
  | some n =>
    rw [hn] at hg
    simp only [Option.map_some] at hg
    obtain ⟨p, hp, rfl⟩ := nget_mem hn
    refine SCall.of_good fun hH => ?_
    have hHk := HLt.add hH
    refine SCall.of_code Tok Try.func40 rfl Try.call40 (n := 18) rfl (by simp) (rs := [.cell 4 60, .tmp 5]) rfl ?_
    refine EWn.to ?_
    refine EWn.of_c Tok mixed (own := false) keep40 tab40 (by kernel_rfl) ?_
    (repeat simp -dsimp only [zrArena31, xnils, xnilm, xrange, xmakeMap, xslice3, RB, TB, keep40, tab40, xindexAddr, xindex, xslice, xconvert, xlen, ewOp, FreeW, StabW, SameW, ChangeW, AddW, BaseW, limBytes, simprocAttr, ne_eq])
    (refine SCall.then (aHas _ A m a (arena_app h _) id) ?_)
    (repeat (first | simp -dsimp only [zrArena31, xnils, xnilm, xrange, xmakeMap, xslice3, hn, Option.isSome_some, hK, hM, hg, RB, TB, keep40, tab40, xindexAddr, xindex, xslice, xconvert, xlen, ewOp, FreeW, StabW, SameW, ChangeW, AddW, BaseW, limBytes, simprocAttr, ne_eq] | ((with_reducible refine Need.intro ?_ ?_); (omega))))
    (refine SCall.then (aOwnN _ p.2.2 (hok p hp)) ?_)
    (repeat simp -dsimp only [zrArena31, xnils, xnilm, xrange, xmakeMap, xslice3, nodeV, RB, TB, keep40, tab40, xindexAddr, xindex, xslice, xconvert, xlen, ewOp, FreeW, StabW, SameW, ChangeW, AddW, BaseW, limBytes, simprocAttr, ne_eq])
    refine RetW.auto0 false _ (by first | rfl | exact (List.append_nil _).symm) ?_ ?_
    · (simp (maxDischargeDepth := 6) [LTB, HLt_set, ltL_take, ltL_drop, ltL_rep, ltL_set, upd, eset, hH, hHk, zlArena31] <;> omega)
    (try simp only [wk, wk1, wk0, RB, limBytes, simprocAttr, ne_eq])
    skip
theorem aGetS (H : List Ob) (A m : Nat) (a : Arena) (h : arenaAt H A m a) (hok : ∀ p ∈ a.nodes, okN p.2.2) (id : Int) (n : Node) (hn : nget a.nodes id = some n) : SCall Try.prog 40 [.ref A 0, .int .i64 id] H (fun r H' => r = .tuple [nodeV (ownN n), .bool true] ∧ H' = H) := by
  have := aGet H A m a h hok id
  rw [hn] at this
  exact this
theorem aGetN (H : List Ob) (A m : Nat) (a : Arena) (h : arenaAt H A m a) (hok : ∀ p ∈ a.nodes, okN p.2.2) (id : Int) (hn : nget a.nodes id = none) : SCall Try.prog 40 [.ref A 0, .int .i64 id] H (fun r H' => r = .tuple [nodeV nodeZ, .bool false] ∧ H' = H) := by
  have := aGet H A m a h hok id
  rw [hn] at this
  exact this
theorem okN_own {n : Node} (h : okN n) : okN (ownN n) := ⟨okS_fix h.1, okS_fix h.2.1, fun a ha => by
  obtain ⟨b, hb, rfl⟩ := List.mem_map.1 ha
  exact okA_own (h.2.2.1 b hb), by simpa [ownN] using h.2.2.2.1, h.2.2.2.2.1, h.2.2.2.2.2⟩
end Go.Proofs.Ytjplgbalpnlanaa

/- The walks of package arena: known, most, full, Next, Make, Set; of the owner 0. -/
set_option maxHeartbeats 600000
set_option linter.unusedSimpArgs false
set_option linter.unusedVariables false
set_option maxRecDepth 100000
namespace Go.Proofs.Ytjplgbalpnlanaa
open Go Go.EL
theorem zrArena41 : type_of% (And.intro (And.intro (And.intro (And.intro (@st_run) (And.intro (@sz_run) (@st1_run))) (And.intro (@cl_run) (And.intro (@st_Str) (@sz_Str)))) (And.intro (And.intro (@st1_Str) (And.intro (@cl_Str) (@st_c))) (And.intro (@sz_c) (And.intro (@st1_c) (@cl_c))))) (And.intro (And.intro (And.intro (@st_attr) (And.intro (@sz_attr) (@st1_attr))) (And.intro (@cl_attr) (And.intro (@st_hook) (@sz_hook)))) (And.intro (And.intro (@st1_hook) (And.intro (@cl_hook) (@st_node))) (And.intro (@sz_node) (And.intro (@st1_node) (@cl_node)))))) := And.intro (And.intro (And.intro (And.intro (@st_run) (And.intro (@sz_run) (@st1_run))) (And.intro (@cl_run) (And.intro (@st_Str) (@sz_Str)))) (And.intro (And.intro (@st1_Str) (And.intro (@cl_Str) (@st_c))) (And.intro (@sz_c) (And.intro (@st1_c) (@cl_c))))) (And.intro (And.intro (And.intro (@st_attr) (And.intro (@sz_attr) (@st1_attr))) (And.intro (@cl_attr) (And.intro (@st_hook) (@sz_hook)))) (And.intro (And.intro (@st1_hook) (And.intro (@cl_hook) (@st_node))) (And.intro (@sz_node) (And.intro (@st1_node) (@cl_node)))))
theorem zlArena41 : type_of% (And.intro (And.intro (And.intro (And.intro (@lt_vi) (@lt_str)) (And.intro (@lt_vb) (And.intro (@ltc_str) (@ltc_vi)))) (And.intro (And.intro (@lt_run) (And.intro (@lt1_run) (@ltc_run))) (And.intro (@lt_Str) (And.intro (@lt1_Str) (@ltc_Str))))) (And.intro (And.intro (And.intro (@lt_c) (And.intro (@lt1_c) (@ltc_c))) (And.intro (@lt_attr) (And.intro (@lt1_attr) (@ltc_attr)))) (And.intro (And.intro (@lt_hook) (And.intro (@lt1_hook) (@ltc_hook))) (And.intro (@lt_node) (And.intro (@lt1_node) (@ltc_node)))))) := And.intro (And.intro (And.intro (And.intro (@lt_vi) (@lt_str)) (And.intro (@lt_vb) (And.intro (@ltc_str) (@ltc_vi)))) (And.intro (And.intro (@lt_run) (And.intro (@lt1_run) (@ltc_run))) (And.intro (@lt_Str) (And.intro (@lt1_Str) (@ltc_Str))))) (And.intro (And.intro (And.intro (@lt_c) (And.intro (@lt1_c) (@ltc_c))) (And.intro (@lt_attr) (And.intro (@lt1_attr) (@ltc_attr)))) (And.intro (And.intro (@lt_hook) (And.intro (@lt1_hook) (@ltc_hook))) (And.intro (@lt_node) (And.intro (@lt1_node) (@ltc_node)))))
/-- an arena, its numbers one by one -/
def arena8 (ns : List Ent) (ck : Nat) (u0 u1 u2 u3 l0 l1 l2 l3 : Int) : Arena := ⟨ns, ck, [u0, u1, u2, u3], [l0, l1, l2, l3]⟩
theorem at8 {G : List Ob} {A m : Nat} {ns : List Ent} {ck : Nat} {u0 u1 u2 u3 l0 l1 l2 l3 : Int} (h : arenaAt G A m (arena8 ns ck u0 u1 u2 u3 l0 l1 l2 l3)) : G[A]? = some (.var [.mapr m, .int .i64 u0, .int .i64 u1, .int .i64 u2, .int .i64 u3, .int .i64 l0, .int .i64 l1, .int .i64 l2, .int .i64 l3]) ∧ G[m]? = some (.map (encM ns) ck) := ⟨h.1, h.2.1⟩
def nset : List Ent → Int → Node → List Ent
  | [], _, _ => []
  | p :: l, n, x => if n = p.1 then (p.1, p.2.1, x) :: l else p :: nset l n x
theorem mset_enc (id : Int) (x : Node) : ∀ l : List Ent, mset (encM l) id (nodeV x) = encM (nset l id x)
  | [] => rfl
  | p :: l => by
    have := mset_enc id x l
    simp only [encM] at this
    simp only [encM, List.map_cons, mset, nset]
    by_cases h : id = p.1
    · rw [if_pos h, if_pos h]; rfl
    · rw [if_neg h, if_neg h, List.map_cons, this]
theorem aKnown0 (H : List Ob) : SCall Try.prog 106 [.int .i64 0] H (fun r H' => r = .bool true ∧ H' = H) := by
  refine SCall.of_good fun hH => ?_
  have hHk := HLt.add hH
  refine SCall.of_code Tok Try.func106 rfl Try.call106 (n := 9) rfl (by simp) (rs := [.tmp 2]) rfl ?_
  refine EWn.to ?_
  refine EWn.of_c Tok mixed (own := false) keep106 tab106 (by kernel_rfl) ?_
  (repeat simp -dsimp only [zrArena41, xnils, xnilm, xrange, xmakeMap, xslice3, RB, TB, keep106, tab106, xindexAddr, xindex, xslice, xconvert, xlen, ewOp, FreeW, StabW, SameW, ChangeW, AddW, BaseW, limBytes, simprocAttr, ne_eq])
  refine RetW.auto0 false _ (by first | rfl | exact (List.append_nil _).symm) ?_ ?_
  · (simp (maxDischargeDepth := 6) [LTB, HLt_set, ltL_take, ltL_drop, ltL_rep, ltL_set, upd, eset, hH, hHk, zlArena41] <;> omega)
  (try simp only [wk, wk1, wk0, RB, limBytes, simprocAttr, ne_eq])
  skip
theorem aMost0 (H : List Ob) : SCall Try.prog 160 [.int .i64 0] H (fun r H' => r = .int .i64 128 ∧ H' = H) := by
  refine SCall.of_good fun hH => ?_
  have hHk := HLt.add hH
  refine SCall.of_code Tok Try.func160 rfl Try.call160 (n := 5) rfl (by simp) (rs := [.tmp 2]) rfl ?_
  refine EWn.to ?_
  refine EWn.of_c Tok mixed (own := false) keep160 tab160 (by kernel_rfl) ?_
  (repeat simp -dsimp only [zrArena41, xnils, xnilm, xrange, xmakeMap, xslice3, RB, TB, keep160, tab160, xindexAddr, xindex, xslice, xconvert, xlen, ewOp, FreeW, StabW, SameW, ChangeW, AddW, BaseW, limBytes, simprocAttr, ne_eq])
  refine RetW.auto0 false _ (by first | rfl | exact (List.append_nil _).symm) ?_ ?_
  · (simp (maxDischargeDepth := 6) [LTB, HLt_set, ltL_take, ltL_drop, ltL_rep, ltL_set, upd, eset, hH, hHk, zlArena41] <;> omega)
  (try simp only [wk, wk1, wk0, RB, limBytes, simprocAttr, ne_eq])
  skip
theorem aFull0 (G : List Ob) (A m : Nat) (ns : List Ent) (ck : Nat) (u0 u1 u2 u3 l0 l1 l2 l3 : Int) (h : arenaAt G A m (arena8 ns ck u0 u1 u2 u3 l0 l1 l2 l3)) (hl : l0 < 128) (hu : u0 < 1048575) : SCall Try.prog 107 [.ref A 0, .int .i64 0] G (fun r H' => r = .bool false ∧ H' = G) := by
  have e1 : decide (l0 ≥ 128) = false := decide_eq_false (by omega)
  have e2 : decide (u0 ≥ 1048575) = false := decide_eq_false (by omega)
  obtain ⟨g1, g2⟩ := at8 h
  refine SCall.of_good fun hH => ?_
  have hHk := HLt.add hH
  refine SCall.of_code Tok Try.func107 rfl Try.call107 (n := 23) rfl (by simp) (rs := [.tmp 4]) rfl ?_
  refine EWn.to ?_
  refine EWn.of_c Tok mixed (own := false) keep107 tab107 (by kernel_rfl) ?_
  (repeat simp -dsimp only [zrArena41, xnils, xnilm, xrange, xmakeMap, xslice3, g1, RB, TB, keep107, tab107, xindexAddr, xindex, xslice, xconvert, xlen, ewOp, FreeW, StabW, SameW, ChangeW, AddW, BaseW, limBytes, simprocAttr, ne_eq])
  (refine CallE.intro _ (aMost0 _) ?_)
  (repeat simp -dsimp only [zrArena41, xnils, xnilm, xrange, xmakeMap, xslice3, e1, e2, g1, RB, TB, keep107, tab107, xindexAddr, xindex, xslice, xconvert, xlen, ewOp, FreeW, StabW, SameW, ChangeW, AddW, BaseW, limBytes, simprocAttr, ne_eq])
  refine RetW.auto0 false _ (by first | rfl | exact (List.append_nil _).symm) ?_ ?_
  · (simp (maxDischargeDepth := 6) [LTB, HLt_set, ltL_take, ltL_drop, ltL_rep, ltL_set, upd, eset, hH, hHk, zlArena41] <;> omega)
  (try simp only [wk, wk1, wk0, RB, limBytes, simprocAttr, ne_eq])
  skip
theorem aNext0 (G : List Ob) (A m : Nat) (ns : List Ent) (ck : Nat) (u0 u1 u2 u3 l0 l1 l2 l3 : Int) (h : arenaAt G A m (arena8 ns ck u0 u1 u2 u3 l0 l1 l2 l3)) (hl : l0 < 128) (hu : u0 < 1048575) (h0 : 0 ≤ u0) : SCall Try.prog 108 [.ref A 0, .int .i64 0] G (fun r H' => r = .int .i64 (u0 + 1) ∧ H' = G) := by
  obtain ⟨g1, g2⟩ := at8 h
  have w1 : IntKind.i64.wrap (0 + u0) = u0 := by rw [Int.zero_add]; exact wrapI (by omega)
  have w2 : IntKind.i64.wrap (u0 + 1) = u0 + 1 := wrapI (by omega)
  have w0 : IntKind.i64.wrap 0 = 0 := rfl
  refine SCall.of_good fun hH => ?_
  have hHk := HLt.add hH
  refine SCall.of_code Tok Try.func108 rfl Try.call108 (n := 28) rfl (by simp) (rs := [.tmp 4]) rfl ?_
  refine EWn.to ?_
  refine EWn.of_c Tok mixed (own := false) keep108 tab108 (by kernel_rfl) ?_
  (repeat simp -dsimp only [zrArena41, xnils, xnilm, xrange, xmakeMap, xslice3, RB, TB, keep108, tab108, xindexAddr, xindex, xslice, xconvert, xlen, ewOp, FreeW, StabW, SameW, ChangeW, AddW, BaseW, limBytes, simprocAttr, ne_eq])
  (refine SCall.then (aIs _ A m _ h) ?_)
  (repeat simp -dsimp only [zrArena41, xnils, xnilm, xrange, xmakeMap, xslice3, RB, TB, keep108, tab108, xindexAddr, xindex, xslice, xconvert, xlen, ewOp, FreeW, StabW, SameW, ChangeW, AddW, BaseW, limBytes, simprocAttr, ne_eq])
  (refine SCall.then (aKnown0 _) ?_)
  (repeat simp -dsimp only [zrArena41, xnils, xnilm, xrange, xmakeMap, xslice3, RB, TB, keep108, tab108, xindexAddr, xindex, xslice, xconvert, xlen, ewOp, FreeW, StabW, SameW, ChangeW, AddW, BaseW, limBytes, simprocAttr, ne_eq])
  (refine SCall.then (aFull0 _ A m ns ck u0 u1 u2 u3 l0 l1 l2 l3 h hl hu) ?_)
  (repeat simp -dsimp only [zrArena41, xnils, xnilm, xrange, xmakeMap, xslice3, g1, w0, w1, w2, RB, TB, keep108, tab108, xindexAddr, xindex, xslice, xconvert, xlen, ewOp, FreeW, StabW, SameW, ChangeW, AddW, BaseW, limBytes, simprocAttr, ne_eq])
  refine RetW.auto0 false _ (by first | rfl | exact (List.append_nil _).symm) ?_ ?_
  · (simp (maxDischargeDepth := 6) [LTB, HLt_set, ltL_take, ltL_drop, ltL_rep, ltL_set, upd, eset, hH, hHk, zlArena41] <;> omega)
  (try simp only [wk, wk1, wk0, RB, limBytes, simprocAttr, ne_eq])
  skip
theorem encM_app (l : List Ent) (p : Ent) : encM (l ++ [p]) = encM l ++ [(p.1, p.2.1, nodeV p.2.2)] := by simp [encM]
def madeV (id kind : Int) (tag : Str) (key : List UInt8) (slot : Int) : V := .agg [.int .i64 id, .int .i64 0, .int .i64 (-1), .int .i64 kind, .str (fixS tag).text, .slice ((fixS tag).runs.map runV), .str key, .int .i64 slot, .fslice [], .fslice [], .fslice [], .str [], .fslice []]
def madeN (id kind : Int) (tag : Str) (key : List UInt8) (slot : Int) : Node := ⟨id, 0, -1, kind, fixS tag, key, slot, [], [], [], zeroS⟩
theorem aMake00 (G : List Ob) (A m : Nat) (ns : List Ent) (ck : Nat) (u0 u1 u2 u3 l0 l1 l2 l3 : Int) (h : arenaAt G A m (arena8 ns ck u0 u1 u2 u3 l0 l1 l2 l3)) (hl : l0 < 128) (hl0 : 0 ≤ l0) (hu : u0 < 1048575) (h0 : 0 ≤ u0)
    (kind : Int) (hk : 1 ≤ kind ∧ kind ≤ 3) (tag : Str) (htag : okS tag) (key : List UInt8) (slot : Int) (hnew : nget ns (u0 + 1) = none) (hAm : A ≠ m) :
    SCall Try.prog 37 [.ref A 0, .int .i64 0, .int .i64 kind, strV tag, .str key, .int .i64 slot] G (fun r H' => r = .tuple [.int .i64 (u0 + 1), .int .i64 0] ∧
      H' = (G.set A (.var [.mapr m, .int .i64 (u0 + 1), .int .i64 u1, .int .i64 u2, .int .i64 u3, .int .i64 (l0 + 1), .int .i64 l1, .int .i64 l2, .int .i64 l3])).set m (.map (encM ns ++ [(u0 + 1, ck, madeV (u0 + 1) kind tag key slot)]) (ck + 1))) := by
  obtain ⟨g1, g2⟩ := at8 h
  have e1 : decide (kind < 1) = false := decide_eq_false (by omega)
  have e2 : decide (kind > 3) = false := decide_eq_false (by omega)
  refine SCall.of_good fun hH => ?_
  have hHk := HLt.add hH
  refine SCall.of_code Tok Try.func37 rfl Try.call37 (n := 71) rfl (by simp) (rs := [.tmp 12, .tmp 13]) rfl ?_
  refine EWn.to ?_
  refine EWn.of_c Tok mixed (own := false) keep37 tab37 (by kernel_rfl) ?_
  (repeat simp -dsimp only [zrArena41, xnils, xnilm, xrange, xmakeMap, xslice3, strV, RB, TB, keep37, tab37, xindexAddr, xindex, xslice, xconvert, xlen, ewOp, FreeW, StabW, SameW, ChangeW, AddW, BaseW, limBytes, simprocAttr, ne_eq])
  (refine SCall.then (aIs _ A m _ (arena_app h _)) ?_)
  (repeat simp -dsimp only [zrArena41, xnils, xnilm, xrange, xmakeMap, xslice3, RB, TB, keep37, tab37, xindexAddr, xindex, xslice, xconvert, xlen, ewOp, FreeW, StabW, SameW, ChangeW, AddW, BaseW, limBytes, simprocAttr, ne_eq])
  (refine SCall.then (aKnown0 _) ?_)
  (repeat simp -dsimp only [zrArena41, xnils, xnilm, xrange, xmakeMap, xslice3, RB, TB, keep37, tab37, xindexAddr, xindex, xslice, xconvert, xlen, ewOp, FreeW, StabW, SameW, ChangeW, AddW, BaseW, limBytes, simprocAttr, ne_eq])
  (refine SCall.then (aFull0 _ A m ns ck u0 u1 u2 u3 l0 l1 l2 l3 (arena_app h _) hl hu) ?_)
  (repeat simp -dsimp only [zrArena41, xnils, xnilm, xrange, xmakeMap, xslice3, e1, e2, RB, TB, keep37, tab37, xindexAddr, xindex, xslice, xconvert, xlen, ewOp, FreeW, StabW, SameW, ChangeW, AddW, BaseW, limBytes, simprocAttr, ne_eq])
  have lA : A < G.length := (List.getElem?_eq_some_iff.1 g1).1
  have lm : m < G.length := (List.getElem?_eq_some_iff.1 g2).1
  have w2 : IntKind.i64.wrap (u0 + 1) = u0 + 1 := wrapI (by omega)
  have w3 : IntKind.i64.wrap (l0 + 1) = l0 + 1 := wrapI (by omega)
  have gA : ∀ L, (G ++ L)[A]? = some (.var [.mapr m, .int .i64 u0, .int .i64 u1, .int .i64 u2, .int .i64 u3, .int .i64 l0, .int .i64 l1, .int .i64 l2, .int .i64 l3]) := fun L => by rw [List.getElem?_append_left lA]; exact g1
  have hsA : ∀ (L : List Ob) (x : Ob), (G ++ L).set A x = G.set A x ++ L := fun L x => List.set_append_left _ _ lA
  have hgA : ∀ (x : Ob) (L : List Ob), (G.set A x ++ L)[A]? = some x := fun x L => by rw [List.getElem?_append_left (by simpa using lA), List.getElem?_set_self lA]
  have hss : ∀ (x y : Ob) (L : List Ob), (G.set A x ++ L).set A y = G.set A y ++ L := fun x y L => by rw [List.set_append_left _ _ (by simpa using lA), List.set_set]
  have hgm : ∀ (x : Ob) (L : List Ob), (G.set A x ++ L)[m]? = some (.map (encM ns) ck) := fun x L => by rw [List.getElem?_append_left (by simpa using lm), List.getElem?_set_ne hAm]; exact g2
  have hsm : ∀ (x y : Ob) (L : List Ob), (G.set A x ++ L).set m y = (G.set A x).set m y ++ L := fun x y L => List.set_append_left _ _ (by simpa using lm)
  (refine SCall.then (aNext0 _ A m ns ck u0 u1 u2 u3 l0 l1 l2 l3 (arena_app h _) hl hu h0) ?_)
  (repeat simp -dsimp only [zrArena41, xnils, xnilm, xrange, xmakeMap, xslice3, gA, hsA, hgA, hss, hgm, hsm, w2, w3, RB, TB, keep37, tab37, xindexAddr, xindex, xslice, xconvert, xlen, ewOp, FreeW, StabW, SameW, ChangeW, AddW, BaseW, limBytes, simprocAttr, ne_eq])
  have hg := mget_enc (u0 + 1) ns
  rw [hnew, Option.map_none] at hg
  (refine CallE.intro _ (mFix _ tag htag) ?_)
  (repeat (first | simp -dsimp only [zrArena41, xnils, xnilm, xrange, xmakeMap, xslice3, strV, gA, hsA, hgA, hss, hgm, hsm, w2, w3, EL.mput, hg, Option.isSome_none, RB, TB, keep37, tab37, xindexAddr, xindex, xslice, xconvert, xlen, ewOp, FreeW, StabW, SameW, ChangeW, AddW, BaseW, limBytes, simprocAttr, ne_eq] | ((with_reducible refine Need.intro ?_ ?_); (trivial))))
  refine RetW.cutK false ((G.set A (.var [.mapr m, .int .i64 (u0 + 1), .int .i64 u1, .int .i64 u2, .int .i64 u3, .int .i64 (l0 + 1), .int .i64 l1, .int .i64 l2, .int .i64 l3])).set m (.map (encM ns ++ [(u0 + 1, ck, madeV (u0 + 1) kind tag key slot)]) (ck + 1))) _ rfl (by simp) ?_ ?_ ?_
  · have hn : ltL G.length ((encM ns ++ [(u0 + 1, ck, madeV (u0 + 1) kind tag key slot)]).map fun p : Int × Nat × V => p.2.2) := by
      rw [List.map_append, ltL_append]
      refine ⟨lt_encM _ _, ?_⟩
      simp only [List.map_cons, List.map_nil, madeV, ltL, V.lt, and_true, true_and]
      exact lt_run _ _
    rw [List.length_set, List.length_set]
    refine HLt_set (HLt_set hH ?_) hn
    simp only [Ob.lt, ltL, V.lt, and_true]; exact lm
  · simp [okW, okW1, okW0, V.lt]
  · simp [wk, wk1, wk0]
theorem aMake0 (G : List Ob) (A m : Nat) (ns : List Ent) (ck : Nat) (u0 u1 u2 u3 l0 l1 l2 l3 : Int) (h : arenaAt G A m (arena8 ns ck u0 u1 u2 u3 l0 l1 l2 l3)) (hl : l0 < 128) (hl0 : 0 ≤ l0) (hu : u0 < 1048575) (h0 : 0 ≤ u0)
    (kind : Int) (hk : 1 ≤ kind ∧ kind ≤ 3) (tag : Str) (htag : okS tag) (key : List UInt8) (slot : Int) (hnew : nget ns (u0 + 1) = none) (hAm : A ≠ m) :
    SCall Try.prog 37 [.ref A 0, .int .i64 0, .int .i64 kind, strV tag, .str key, .int .i64 slot] G (fun r H' => r = .tuple [.int .i64 (u0 + 1), .int .i64 0] ∧
      H' = (G.set A (.var [.mapr m, .int .i64 (u0 + 1), .int .i64 u1, .int .i64 u2, .int .i64 u3, .int .i64 (l0 + 1), .int .i64 l1, .int .i64 l2, .int .i64 l3])).set m (.map (encM (ns ++ [(u0 + 1, ck, madeN (u0 + 1) kind tag key slot)])) (ck + 1))) := by
  refine (aMake00 G A m ns ck u0 u1 u2 u3 l0 l1 l2 l3 h hl hl0 hu h0 kind hk tag htag key slot hnew hAm).gho ?_
  obtain ⟨g1, g2⟩ := at8 h
  have lm : m < G.length := (List.getElem?_eq_some_iff.1 g2).1
  have hcv : CvO none (Ob.map (encM ns ++ [(u0 + 1, ck, madeV (u0 + 1) kind tag key slot)]) (ck + 1)) (Ob.map (encM ns ++ [(u0 + 1, ck, nodeV (madeN (u0 + 1) kind tag key slot))]) (ck + 1)) := by
    refine ⟨rfl, All2.app (All2.rfl' (fun _ => ⟨rfl, rfl, CvA.rfl' _⟩) _) ⟨⟨rfl, rfl, .inr ⟨_, _, rfl, rfl, ?_⟩⟩, trivial⟩⟩
    repeat (first | exact trivial | refine ⟨.inl (.inl rfl), ?_⟩ | refine ⟨.inl (.inr ⟨_, rfl, rfl⟩), ?_⟩)
  have hw := fun (env : Env) (X : List Ob) (hX : X[m]? = some (Ob.map (encM ns ++ [(u0 + 1, ck, madeV (u0 + 1) kind tag key slot)]) (ck + 1))) => Gho.weakOb (n0 := G.length) (env := env) m hX hcv
  have := hw [(0, .tuple [.int .i64 (u0 + 1), .int .i64 0])] ((G.set A (.var [.mapr m, .int .i64 (u0 + 1), .int .i64 u1, .int .i64 u2, .int .i64 u3, .int .i64 (l0 + 1), .int .i64 l1, .int .i64 l2, .int .i64 l3])).set m (.map (encM ns ++ [(u0 + 1, ck, madeV (u0 + 1) kind tag key slot)]) (ck + 1))) (by rw [List.getElem?_set_self (by simpa using lm)])
  rw [List.set_set] at this
  rw [encM_app]
  exact this
/-- what Set leaves of a node -/
def setN (x n : Node) : Node := { x with attrs := n.attrs.map ownA, hooks := n.hooks, kids := n.kids, text := fixS n.text, parent := n.parent }
theorem aSetNone (G : List Ob) (A m : Nat) (a : Arena) (h : arenaAt G A m a) (n : Node) (hn : nget a.nodes n.id = none) : SCall Try.prog 113 [.ref A 0, nodeV n] G (fun r H' => r = .int .i64 14 ∧ H' = G) := by
  have hg := mget_enc n.id a.nodes
  rw [hn, Option.map_none] at hg
  have hK := fun K => (arena_app h K).1
  have hM := fun K => (arena_app h K).2.1
  refine SCall.of_good fun hH => ?_
  have hHk := HLt.add hH
  refine SCall.of_code Tok Try.func113 rfl Try.call113 (n := 46) rfl (by simp) (rs := [.tmp 4]) rfl ?_
  refine EWn.to ?_
  refine EWn.of_c Tok mixed (own := false) keep113 tab113 (by kernel_rfl) ?_
  (repeat simp -dsimp only [zrArena41, xnils, xnilm, xrange, xmakeMap, xslice3, nodeV, RB, TB, keep113, tab113, xindexAddr, xindex, xslice, xconvert, xlen, ewOp, FreeW, StabW, SameW, ChangeW, AddW, BaseW, limBytes, simprocAttr, ne_eq])
  (refine SCall.then (aIs _ A m a (arena_app h _)) ?_)
  (repeat (first | simp -dsimp only [zrArena41, xnils, xnilm, xrange, xmakeMap, xslice3, hK, hM, hg, Option.isSome_none, Option.getD_none, RB, TB, keep113, tab113, xindexAddr, xindex, xslice, xconvert, xlen, ewOp, FreeW, StabW, SameW, ChangeW, AddW, BaseW, limBytes, simprocAttr, ne_eq] | ((with_reducible refine Need.intro ?_ ?_); (first | exact ⟨_, rfl⟩ | omega))))
  refine RetW.auto0 false _ (by first | rfl | exact (List.append_nil _).symm) ?_ ?_
  · (simp (maxDischargeDepth := 6) [LTB, HLt_set, ltL_take, ltL_drop, ltL_rep, ltL_set, upd, eset, hH, hHk, zlArena41] <;> omega)
  (try simp only [wk, wk1, wk0, RB, limBytes, simprocAttr, ne_eq])
  skip
theorem aSet (G : List Ob) (A m : Nat) (a : Arena) (h : arenaAt G A m a) (n x : Node) (hx : nget a.nodes n.id = some x) (hok : okN n) : SCall Try.prog 113 [.ref A 0, nodeV n] G (fun r H' => r = .int .i64 0 ∧ H' = G.set m (.map (encM (nset a.nodes n.id (setN x n))) a.clock)) := by
  have hg := mget_enc n.id a.nodes
  rw [hx, Option.map_some] at hg
  have hK := fun K => (arena_app h K).1
  have hM := fun K => (arena_app h K).2.1
  refine SCall.of_good fun hH => ?_
  have hHk := HLt.add hH
  refine SCall.of_code Tok Try.func113 rfl Try.call113 (n := 46) rfl (by simp) (rs := [.tmp 4]) rfl ?_
  refine EWn.to ?_
  refine EWn.of_c Tok mixed (own := false) keep113 tab113 (by kernel_rfl) ?_
  (repeat simp -dsimp only [zrArena41, xnils, xnilm, xrange, xmakeMap, xslice3, nodeV, RB, TB, keep113, tab113, xindexAddr, xindex, xslice, xconvert, xlen, ewOp, FreeW, StabW, SameW, ChangeW, AddW, BaseW, limBytes, simprocAttr, ne_eq])
  (refine SCall.then (aIs _ A m a (arena_app h _)) ?_)
  (repeat (first | simp -dsimp only [zrArena41, xnils, xnilm, xrange, xmakeMap, xslice3, hK, hM, hg, Option.isSome_some, Option.getD_some, nodeV, RB, TB, keep113, tab113, xindexAddr, xindex, xslice, xconvert, xlen, ewOp, FreeW, StabW, SameW, ChangeW, AddW, BaseW, limBytes, simprocAttr, ne_eq] | ((with_reducible refine Need.intro ?_ ?_); (first | exact ⟨_, rfl⟩ | omega))))
  (refine SCall.then (aOwnN _ n hok) ?_)
  (repeat (first | simp -dsimp only [zrArena41, xnils, xnilm, xrange, xmakeMap, xslice3, hK, hM, hg, nodeV, RB, TB, keep113, tab113, xindexAddr, xindex, xslice, xconvert, xlen, ewOp, FreeW, StabW, SameW, ChangeW, AddW, BaseW, limBytes, simprocAttr, ne_eq] | ((with_reducible refine Need.intro ?_ ?_); (first | exact ⟨_, rfl⟩ | omega))))
  have lm : m < G.length := (List.getElem?_eq_some_iff.1 h.2.1).1
  have e1 : EL.mput (encM a.nodes) a.clock n.id (nodeV (setN x n)) = encM (nset a.nodes n.id (setN x n)) := by
    unfold EL.mput
    rw [if_pos (by rw [hg]; rfl), mset_enc]
  have e2 : (if (mget (encM a.nodes) n.id).isSome = true then a.clock else a.clock + 1) = a.clock := if_pos (by rw [hg]; rfl)
  refine RetW.cutK false (G.set m (.map (encM (nset a.nodes n.id (setN x n))) a.clock)) _ (by rw [List.set_append_left _ _ lm]; exact congrArg (· ++ _) (congrArg (G.set m) (congr (congrArg Ob.map e1) e2))) (by simp) ?_ ?_ ?_
  · rw [List.length_set]
    exact HLt_set hH (lt_encM _ _)
  · simp [okW, okW1, okW0, V.lt]
  · simp [wk, wk1, wk0]
end Go.Proofs.Ytjplgbalpnlanaa

/- The walks of package dom: of, SetHooks. -/
set_option maxHeartbeats 600000
set_option linter.unusedSimpArgs false
set_option linter.unusedVariables false
set_option maxRecDepth 100000
namespace Go.Proofs.Ytjplgbalpnlanaa
open Go Go.EL
theorem zrDom11 : type_of% (And.intro (And.intro (And.intro (And.intro (@st_run) (And.intro (@sz_run) (@st1_run))) (And.intro (@cl_run) (And.intro (@st_Str) (@sz_Str)))) (And.intro (And.intro (@st1_Str) (And.intro (@cl_Str) (@st_c))) (And.intro (@sz_c) (And.intro (@st1_c) (@cl_c))))) (And.intro (And.intro (And.intro (@st_attr) (And.intro (@sz_attr) (@st1_attr))) (And.intro (@cl_attr) (And.intro (@st_hook) (@sz_hook)))) (And.intro (And.intro (@st1_hook) (And.intro (@cl_hook) (@st_node))) (And.intro (@sz_node) (And.intro (@st1_node) (@cl_node)))))) := And.intro (And.intro (And.intro (And.intro (@st_run) (And.intro (@sz_run) (@st1_run))) (And.intro (@cl_run) (And.intro (@st_Str) (@sz_Str)))) (And.intro (And.intro (@st1_Str) (And.intro (@cl_Str) (@st_c))) (And.intro (@sz_c) (And.intro (@st1_c) (@cl_c))))) (And.intro (And.intro (And.intro (@st_attr) (And.intro (@sz_attr) (@st1_attr))) (And.intro (@cl_attr) (And.intro (@st_hook) (@sz_hook)))) (And.intro (And.intro (@st1_hook) (And.intro (@cl_hook) (@st_node))) (And.intro (@sz_node) (And.intro (@st1_node) (@cl_node)))))
theorem zlDom11 : type_of% (And.intro (And.intro (And.intro (And.intro (@lt_vi) (@lt_str)) (And.intro (@lt_vb) (And.intro (@ltc_str) (@ltc_vi)))) (And.intro (And.intro (@lt_run) (And.intro (@lt1_run) (@ltc_run))) (And.intro (@lt_Str) (And.intro (@lt1_Str) (@ltc_Str))))) (And.intro (And.intro (And.intro (@lt_c) (And.intro (@lt1_c) (@ltc_c))) (And.intro (@lt_attr) (And.intro (@lt1_attr) (@ltc_attr)))) (And.intro (And.intro (@lt_hook) (And.intro (@lt1_hook) (@ltc_hook))) (And.intro (@lt_node) (And.intro (@lt1_node) (@ltc_node)))))) := And.intro (And.intro (And.intro (And.intro (@lt_vi) (@lt_str)) (And.intro (@lt_vb) (And.intro (@ltc_str) (@ltc_vi)))) (And.intro (And.intro (@lt_run) (And.intro (@lt1_run) (@ltc_run))) (And.intro (@lt_Str) (And.intro (@lt1_Str) (@ltc_Str))))) (And.intro (And.intro (And.intro (@lt_c) (And.intro (@lt1_c) (@ltc_c))) (And.intro (@lt_attr) (And.intro (@lt1_attr) (@ltc_attr)))) (And.intro (And.intro (@lt_hook) (And.intro (@lt1_hook) (@ltc_hook))) (And.intro (@lt_node) (And.intro (@lt1_node) (@ltc_node)))))
theorem index_int (H : List Ob) (l : List (Int)) (v : Int) : SCall Try.prog 137 [.slice (l.map vi), .int .i64 v] H (fun r H' => r = .int .i64 (ix (fun x => v == x) l) ∧ H' = H) := by
  refine SCall.sized 0 rfl fun hl => ?_
  rw [List.length_map, maxLen_eq] at hl
  refine SCall.of_good fun hH => ?_
  have hHk := HLt.add hH
  refine SCall.of_code Tok Try.func137 rfl Try.call137 (n := 19) rfl (by simp) (rs := [.tmp 4]) rfl ?_
  refine EWn.to ?_
  refine EWn.of_c Tok mixed (own := false) keep137 tab137 (by kernel_rfl) ?_
  (repeat simp -dsimp only [zrDom11, xnils, xnilm, xrange, xmakeMap, xslice3, RB, TB, keep137, tab137, xindexAddr, xindex, xslice, xconvert, xlen, ewOp, FreeW, StabW, SameW, ChangeW, AddW, BaseW, limBytes, simprocAttr, ne_eq])
  refine EWn.loopE (ι := (Nat)) (fun (i : (Nat)) => i ≤ l.length ∧ ∀ x ∈ l.take i, (v == x) = false) (fun (i : (Nat)) => l.length - i) (fun (i : (Nat)) => [(8, .int .i64 i)]) (fun (i : (Nat)) => H) (0) ?_ ?_ ?_ ?_ ?_
  · first | rfl | simp [upd, eset]
  · first | rfl | (simp; done) | exact (set_same (by assumption)).symm
  · rintro i hok; exact ⟨by first | (simp; done) | (simp; omega), by (simp (maxDischargeDepth := 6) [LTB, HLt_set, ltL_take, ltL_drop, ltL_rep, ltL_set, upd, eset, hH, hHk, zlDom11] <;> omega), by (simp (maxDischargeDepth := 6) [LTB, HLt_set, ltL_take, ltL_drop, ltL_rep, ltL_set, upd, eset, hH, hHk, zlDom11] <;> omega)⟩
  · simp
  rintro i ⟨hi, hno⟩
  refine EWn.of_c Tok mixed (own := false) keep137 tab137 (by kernel_rfl) ?_
  (repeat simp -dsimp only [zrDom11, xnils, xnilm, xrange, xmakeMap, xslice3, RB, TB, keep137, tab137, xindexAddr, xindex, xslice, xconvert, xlen, ewOp, FreeW, StabW, SameW, ChangeW, AddW, BaseW, limBytes, simprocAttr, ne_eq])
  refine IfW.intro (fun h => ?_) (fun h => ?_)
  · have hlt := lt_of h
    (repeat (first | simp -dsimp only [zrDom11, xnils, xnilm, xrange, xmakeMap, xslice3, h, at_map vi l i hlt, vi, RB, TB, keep137, tab137, xindexAddr, xindex, xslice, xconvert, xlen, ewOp, FreeW, StabW, SameW, ChangeW, AddW, BaseW, limBytes, simprocAttr, ne_eq] | ((with_reducible refine Need.intro ?_ ?_); (omega))))
    refine IfW.intro (fun hb => ?_) (fun hb => ?_)
    · (repeat simp -dsimp only [zrDom11, xnils, xnilm, xrange, xmakeMap, xslice3, hb, RB, TB, keep137, tab137, xindexAddr, xindex, xslice, xconvert, xlen, ewOp, FreeW, StabW, SameW, ChangeW, AddW, BaseW, limBytes, simprocAttr, ne_eq])
      refine RetW.auto0 false _ (by first | rfl | exact (List.append_nil _).symm) ?_ ?_
      · (simp (maxDischargeDepth := 6) [LTB, HLt_set, ltL_take, ltL_drop, ltL_rep, ltL_set, upd, eset, hH, hHk, zlDom11] <;> omega)
      (try simp only [wk, wk1, wk0, RB, limBytes, simprocAttr, ne_eq])
      skip
      rw [ix_hit hlt hb hno]
    · (repeat simp -dsimp only [zrDom11, xnils, xnilm, xrange, xmakeMap, xslice3, hb, RB, TB, keep137, tab137, xindexAddr, xindex, xslice, xconvert, xlen, ewOp, FreeW, StabW, SameW, ChangeW, AddW, BaseW, limBytes, simprocAttr, ne_eq])
      rw [wrapI (by omega)]
      refine UpTo.here ⟨(i + 1), ?_, by first | omega | (simp only [List.length_append, List.length_cons, List.length_nil]; omega), by simp [upd, eset], ⟨_, by simp; try rfl⟩⟩
      exact ⟨hlt, take_step hlt hb hno⟩
  · (repeat simp -dsimp only [zrDom11, xnils, xnilm, xrange, xmakeMap, xslice3, h, RB, TB, keep137, tab137, xindexAddr, xindex, xslice, xconvert, xlen, ewOp, FreeW, StabW, SameW, ChangeW, AddW, BaseW, limBytes, simprocAttr, ne_eq])
    refine RetW.auto0 false _ (by first | rfl | exact (List.append_nil _).symm) ?_ ?_
    · (simp (maxDischargeDepth := 6) [LTB, HLt_set, ltL_take, ltL_drop, ltL_rep, ltL_set, upd, eset, hH, hHk, zlDom11] <;> omega)
    (try simp only [wk, wk1, wk0, RB, limBytes, simprocAttr, ne_eq])
    skip
    rw [ix_none (take_all (ge_of h) hno)]
theorem contains_int (H : List Ob) (l : List (Int)) (v : Int) : SCall Try.prog 128 [.slice (l.map vi), .int .i64 v] H (fun r H' => r = .bool (decide (v ∈ l)) ∧ H' = H) := by
  refine SCall.of_good fun hH => ?_
  have hHk := HLt.add hH
  refine SCall.of_code Tok Try.func128 rfl Try.call128 (n := 9) rfl (by simp) (rs := [.tmp 4]) rfl ?_
  refine EWn.to ?_
  refine EWn.of_c Tok mixed (own := false) keep128 tab128 (by kernel_rfl) ?_
  (repeat simp -dsimp only [zrDom11, xnils, xnilm, xrange, xmakeMap, xslice3, RB, TB, keep128, tab128, xindexAddr, xindex, xslice, xconvert, xlen, ewOp, FreeW, StabW, SameW, ChangeW, AddW, BaseW, limBytes, simprocAttr, ne_eq])
  (refine SCall.then (index_int _ l v) ?_)
  (repeat simp -dsimp only [zrDom11, xnils, xnilm, xrange, xmakeMap, xslice3, RB, TB, keep128, tab128, xindexAddr, xindex, xslice, xconvert, xlen, ewOp, FreeW, StabW, SameW, ChangeW, AddW, BaseW, limBytes, simprocAttr, ne_eq])
  refine RetW.auto0 false _ (by first | rfl | exact (List.append_nil _).symm) ?_ ?_
  · (simp (maxDischargeDepth := 6) [LTB, HLt_set, ltL_take, ltL_drop, ltL_rep, ltL_set, upd, eset, hH, hHk, zlDom11] <;> omega)
  (try simp only [wk, wk1, wk0, RB, limBytes, simprocAttr, ne_eq])
  skip
  rw [show (decide (ix (fun x => v == x) l ≥ 0)) = decide (0 ≤ ix (fun x => v == x) l) from rfl, ix_any]
  congr 1
  rw [Bool.eq_iff_iff]
  simp
theorem contains_int_vec (H : List Ob) (l : List (Int)) (v : Int) (o ver es n : Nat) (ho : H[o]? = some (.vec ver es (l.map vi))) (hn : n = l.length) : SCall Try.prog 128 [.vec o ver 0 n, .int .i64 v] H (fun r H' => r = .bool (decide (v ∈ l)) ∧ H' = H) := by
  subst hn
  refine SCall.borrow (args' := [.slice (l.map vi), .int .i64 v]) ⟨⟨es, _, ho, by simp, by rw [List.drop_zero, ← List.length_map (f := vi), List.take_length], lt_vi _ _⟩, ⟨rfl, by first | trivial | simp [V.lt, ltL]⟩, trivial⟩ ?_
  refine (contains_int [] l v).mono ?_
  rintro r H' ⟨rfl, _⟩
  exact ⟨rfl, trivial⟩

theorem containsI (H : List Ob) (l : List Int) (v : Int) : SCall Try.prog 128 [.slice (l.map vi), .int .i64 v] H (fun r H' => r = .bool (l.any fun x => v == x) ∧ H' = H) := by
  refine SCall.of_good fun hH => ?_
  have hHk := HLt.add hH
  refine SCall.of_code Tok Try.func128 rfl Try.call128 (n := 9) rfl (by simp) (rs := [.tmp 4]) rfl ?_
  refine EWn.to ?_
  refine EWn.of_c Tok mixed (own := false) keep128 tab128 (by kernel_rfl) ?_
  (repeat simp -dsimp only [zrDom11, xnils, xnilm, xrange, xmakeMap, xslice3, RB, TB, keep128, tab128, xindexAddr, xindex, xslice, xconvert, xlen, ewOp, FreeW, StabW, SameW, ChangeW, AddW, BaseW, limBytes, simprocAttr, ne_eq])
  (refine SCall.then (index_int _ l v) ?_)
  (repeat simp -dsimp only [zrDom11, xnils, xnilm, xrange, xmakeMap, xslice3, RB, TB, keep128, tab128, xindexAddr, xindex, xslice, xconvert, xlen, ewOp, FreeW, StabW, SameW, ChangeW, AddW, BaseW, limBytes, simprocAttr, ne_eq])
  refine RetW.auto0 false _ (by first | rfl | exact (List.append_nil _).symm) ?_ ?_
  · (simp (maxDischargeDepth := 6) [LTB, HLt_set, ltL_take, ltL_drop, ltL_rep, ltL_set, upd, eset, hH, hHk, zlDom11] <;> omega)
  (try simp only [wk, wk1, wk0, RB, limBytes, simprocAttr, ne_eq])
  skip
  simp [← ix_any]
/-- a node of a kind -/
def ofF (a : Arena) (id kind : Int) : Node × Int := match nget a.nodes id with
  | none => (nodeZ, 14)
  | some n => if n.kind = kind then (ownN n, 0) else (nodeZ, 12)
theorem dOf (G : List Ob) (A m : Nat) (a : Arena) (h : arenaAt G A m a) (hok : ∀ p ∈ a.nodes, okN p.2.2) (id kind : Int) : SCall Try.prog 111 [.ref A 0, .int .i64 id, .int .i64 kind] G (fun r H' => r = .tuple [nodeV (ofF a id kind).1, .int .i64 (ofF a id kind).2] ∧ H' = G) := by
  cases hn : nget a.nodes id with
  | none =>
    have e : ofF a id kind = (nodeZ, 14) := by simp [ofF, hn]
    rw [e]
    refine SCall.of_good fun hH => ?_
    have hHk := HLt.add hH
    refine SCall.of_code Tok Try.func111 rfl Try.call111 (n := 27) rfl (by simp) (rs := [.cell 6 60, .tmp 7]) rfl ?_
    refine EWn.to ?_
    refine EWn.of_c Tok mixed (own := false) keep111 tab111 (by kernel_rfl) ?_
    (repeat simp -dsimp only [zrDom11, xnils, xnilm, xrange, xmakeMap, xslice3, RB, TB, keep111, tab111, xindexAddr, xindex, xslice, xconvert, xlen, ewOp, FreeW, StabW, SameW, ChangeW, AddW, BaseW, limBytes, simprocAttr, ne_eq])
    (refine SCall.then (aGetN _ A m a (arena_app h _) hok id hn) ?_)
    (repeat simp -dsimp only [zrDom11, xnils, xnilm, xrange, xmakeMap, xslice3, nodeV, RB, TB, keep111, tab111, xindexAddr, xindex, xslice, xconvert, xlen, ewOp, FreeW, StabW, SameW, ChangeW, AddW, BaseW, limBytes, simprocAttr, ne_eq])
    refine RetW.auto0 false _ (by first | rfl | exact (List.append_nil _).symm) ?_ ?_
    · (simp (maxDischargeDepth := 6) [LTB, HLt_set, ltL_take, ltL_drop, ltL_rep, ltL_set, upd, eset, hH, hHk, zlDom11] <;> omega)
    (try simp only [wk, wk1, wk0, RB, limBytes, simprocAttr, ne_eq])
    skip
    rfl
  | some n =>
    refine SCall.of_good fun hH => ?_
    have hHk := HLt.add hH
    refine SCall.of_code Tok Try.func111 rfl Try.call111 (n := 27) rfl (by simp) (rs := [.cell 6 60, .tmp 7]) rfl ?_
    refine EWn.to ?_
    refine EWn.of_c Tok mixed (own := false) keep111 tab111 (by kernel_rfl) ?_
    (repeat simp -dsimp only [zrDom11, xnils, xnilm, xrange, xmakeMap, xslice3, RB, TB, keep111, tab111, xindexAddr, xindex, xslice, xconvert, xlen, ewOp, FreeW, StabW, SameW, ChangeW, AddW, BaseW, limBytes, simprocAttr, ne_eq])
    (refine SCall.then (aGetS _ A m a (arena_app h _) hok id n hn) ?_)
    (repeat simp -dsimp only [zrDom11, xnils, xnilm, xrange, xmakeMap, xslice3, nodeV, RB, TB, keep111, tab111, xindexAddr, xindex, xslice, xconvert, xlen, ewOp, FreeW, StabW, SameW, ChangeW, AddW, BaseW, limBytes, simprocAttr, ne_eq])
    refine IfW.intro (fun hk => ?_) (fun hk => ?_)
    · (repeat simp -dsimp only [zrDom11, xnils, xnilm, xrange, xmakeMap, xslice3, hk, RB, TB, keep111, tab111, xindexAddr, xindex, xslice, xconvert, xlen, ewOp, FreeW, StabW, SameW, ChangeW, AddW, BaseW, limBytes, simprocAttr, ne_eq])
      have e : ofF a id kind = (ownN n, 0) := by
        have : n.kind = kind := by simpa [ownN] using hk
        simp [ofF, hn, this]
      rw [e]
      refine RetW.auto0 false _ (by first | rfl | exact (List.append_nil _).symm) ?_ ?_
      · (simp (maxDischargeDepth := 6) [LTB, HLt_set, ltL_take, ltL_drop, ltL_rep, ltL_set, upd, eset, hH, hHk, zlDom11] <;> omega)
      (try simp only [wk, wk1, wk0, RB, limBytes, simprocAttr, ne_eq])
      skip
      rfl
    · (repeat simp -dsimp only [zrDom11, xnils, xnilm, xrange, xmakeMap, xslice3, hk, RB, TB, keep111, tab111, xindexAddr, xindex, xslice, xconvert, xlen, ewOp, FreeW, StabW, SameW, ChangeW, AddW, BaseW, limBytes, simprocAttr, ne_eq])
      have e : ofF a id kind = (nodeZ, 12) := by
        have : n.kind ≠ kind := by simpa [ownN] using hk
        simp [ofF, hn, this]
      rw [e]
      refine RetW.auto0 false _ (by first | rfl | exact (List.append_nil _).symm) ?_ ?_
      · (simp (maxDischargeDepth := 6) [LTB, HLt_set, ltL_take, ltL_drop, ltL_rep, ltL_set, upd, eset, hH, hHk, zlDom11] <;> omega)
      (try simp only [wk, wk1, wk0, RB, limBytes, simprocAttr, ne_eq])
      skip
      rfl
theorem dSetHooksE (G : List Ob) (A m : Nat) (a : Arena) (h : arenaAt G A m a) (hok : ∀ p ∈ a.nodes, okN p.2.2) (id : Int) (l : List Hook) (he : (ofF a id 1).2 ≠ 0) : SCall Try.prog 39 [.ref A 0, .int .i64 id, .slice (l.map hookV)] G (fun r H' => r = .int .i64 (ofF a id 1).2 ∧ H' = G) := by
  have e1 : ((ofF a id 1).2 != 0) = true := by simpa using he
  refine SCall.of_good fun hH => ?_
  have hHk := HLt.add hH
  refine SCall.of_code Tok Try.func39 rfl Try.call39 (n := 24) rfl (by simp) (rs := [.tmp 6]) rfl ?_
  refine EWn.to ?_
  refine EWn.of_c Tok mixed (own := false) keep39 tab39 (by kernel_rfl) ?_
  (repeat simp -dsimp only [zrDom11, xnils, xnilm, xrange, xmakeMap, xslice3, RB, TB, keep39, tab39, xindexAddr, xindex, xslice, xconvert, xlen, ewOp, FreeW, StabW, SameW, ChangeW, AddW, BaseW, limBytes, simprocAttr, ne_eq])
  (refine SCall.then (dOf _ A m a h hok id 1) ?_)
  (repeat simp -dsimp only [zrDom11, xnils, xnilm, xrange, xmakeMap, xslice3, nodeV, e1, RB, TB, keep39, tab39, xindexAddr, xindex, xslice, xconvert, xlen, ewOp, FreeW, StabW, SameW, ChangeW, AddW, BaseW, limBytes, simprocAttr, ne_eq])
  refine RetW.auto0 false _ (by first | rfl | exact (List.append_nil _).symm) ?_ ?_
  · (simp (maxDischargeDepth := 6) [LTB, HLt_set, ltL_take, ltL_drop, ltL_rep, ltL_set, upd, eset, hH, hHk, zlDom11] <;> omega)
  (try simp only [wk, wk1, wk0, RB, limBytes, simprocAttr, ne_eq])
  skip
theorem dSetHooks (G : List Ob) (A m : Nat) (a : Arena) (h : arenaAt G A m a) (hok : ∀ p ∈ a.nodes, okN p.2.2) (id : Int) (l : List Hook) (hl : l.length ≤ 1000000000000) (n : Node) (hn : nget a.nodes id = some n) (hk : n.kind = 1) (hid : n.id = id) : SCall Try.prog 39 [.ref A 0, .int .i64 id, .slice (l.map hookV)] G (fun r H' => r = .int .i64 0 ∧ H' = G.set m (.map (encM (nset a.nodes id (setN n { ownN n with hooks := l }))) a.clock)) := by
  have e : ofF a id 1 = (ownN n, 0) := by simp [ofF, hn, hk]
  obtain ⟨p, hp, hp2⟩ := nget_mem hn
  have hokn : okN n := hp2 ▸ hok p hp
  have ho := okN_own hokn
  refine SCall.of_good fun hH => ?_
  have hHk := HLt.add hH
  refine SCall.of_code Tok Try.func39 rfl Try.call39 (n := 24) rfl (by simp) (rs := [.tmp 6]) rfl ?_
  refine EWn.to ?_
  refine EWn.of_c Tok mixed (own := false) keep39 tab39 (by kernel_rfl) ?_
  (repeat simp -dsimp only [zrDom11, xnils, xnilm, xrange, xmakeMap, xslice3, RB, TB, keep39, tab39, xindexAddr, xindex, xslice, xconvert, xlen, ewOp, FreeW, StabW, SameW, ChangeW, AddW, BaseW, limBytes, simprocAttr, ne_eq])
  (refine SCall.then (dOf _ A m a h hok id 1) ?_)
  (repeat simp -dsimp only [zrDom11, xnils, xnilm, xrange, xmakeMap, xslice3, nodeV, e, RB, TB, keep39, tab39, xindexAddr, xindex, xslice, xconvert, xlen, ewOp, FreeW, StabW, SameW, ChangeW, AddW, BaseW, limBytes, simprocAttr, ne_eq])
  (refine SCall.then (cloneH _ l hl) ?_)
  (repeat simp -dsimp only [zrDom11, xnils, xnilm, xrange, xmakeMap, xslice3, nodeV, RB, TB, keep39, tab39, xindexAddr, xindex, xslice, xconvert, xlen, ewOp, FreeW, StabW, SameW, ChangeW, AddW, BaseW, limBytes, simprocAttr, ne_eq])
  have lm : m < G.length := (List.getElem?_eq_some_iff.1 h.2.1).1
  have hx : nget a.nodes ({ ownN n with hooks := l } : Node).id = some n := by show nget a.nodes n.id = _; rw [hid]; exact hn
  (refine SCall.then (aSet _ A m a (arena_app h _) { ownN n with hooks := l } n hx ⟨ho.1, ho.2.1, ho.2.2.1, ho.2.2.2.1, hl, ho.2.2.2.2.2⟩) ?_)
  (repeat simp -dsimp only [zrDom11, xnils, xnilm, xrange, xmakeMap, xslice3, RB, TB, keep39, tab39, xindexAddr, xindex, xslice, xconvert, xlen, ewOp, FreeW, StabW, SameW, ChangeW, AddW, BaseW, limBytes, simprocAttr, ne_eq])
  rw [show ({ ownN n with hooks := l } : Node).id = id from hid]
  refine RetW.cutK false (G.set m (.map (encM (nset a.nodes id (setN n { ownN n with hooks := l }))) a.clock)) _ (List.set_append_left _ _ lm) (by simp) ?_ ?_ ?_
  · rw [List.length_set]
    exact HLt_set hH (lt_encM _ _)
  · simp [okW, okW1, okW0, V.lt]
  · simp [wk, wk1, wk0]; rfl
theorem dRemove0 (G : List Ob) (A m : Nat) (a : Arena) (h : arenaAt G A m a) (hok : ∀ p ∈ a.nodes, okN p.2.2) (n : Node) (hn : nget a.nodes 0 = some n) : SCall Try.prog 71 [.ref A 0, .int .i64 0] G (fun r H' => r = .tuple [.int .i64 0, .int .i64 20] ∧ H' = G) := by
  refine SCall.of_good fun hH => ?_
  have hHk := HLt.add hH
  refine SCall.of_code Tok Try.func71 rfl Try.call71 (n := 41) rfl (by simp) (rs := [.tmp 4, .tmp 5]) rfl ?_
  refine EWn.to ?_
  refine EWn.of_c Tok mixed (own := false) keep71 tab71 (by kernel_rfl) ?_
  (repeat simp -dsimp only [zrDom11, xnils, xnilm, xrange, xmakeMap, xslice3, RB, TB, keep71, tab71, xindexAddr, xindex, xslice, xconvert, xlen, ewOp, FreeW, StabW, SameW, ChangeW, AddW, BaseW, limBytes, simprocAttr, ne_eq])
  (refine SCall.then (aGetS _ A m a h hok 0 n hn) ?_)
  (repeat simp -dsimp only [zrDom11, xnils, xnilm, xrange, xmakeMap, xslice3, nodeV, RB, TB, keep71, tab71, xindexAddr, xindex, xslice, xconvert, xlen, ewOp, FreeW, StabW, SameW, ChangeW, AddW, BaseW, limBytes, simprocAttr, ne_eq])
  refine RetW.auto0 false _ (by first | rfl | exact (List.append_nil _).symm) ?_ ?_
  · (simp (maxDischargeDepth := 6) [LTB, HLt_set, ltL_take, ltL_drop, ltL_rep, ltL_set, upd, eset, hH, hHk, zlDom11] <;> omega)
  (try simp only [wk, wk1, wk0, RB, limBytes, simprocAttr, ne_eq])
  skip
end Go.Proofs.Ytjplgbalpnlanaa

/- The walks of package mark: Worst, Cut, Cat. -/
import Derived.Test.YtjplgbalpnlanaaMark1
set_option maxHeartbeats 600000
set_option linter.unusedSimpArgs false
set_option linter.unusedVariables false
set_option maxRecDepth 100000
namespace Go.Proofs.Ytjplgbalpnlanaa
open Go Go.EL
theorem zrMark21 : type_of% (And.intro (And.intro (And.intro (@st_run) (And.intro (@sz_run) (@st1_run))) (And.intro (@cl_run) (And.intro (@st_Str) (@sz_Str)))) (And.intro (And.intro (@st1_Str) (And.intro (@cl_Str) (@st_c))) (And.intro (@sz_c) (And.intro (@st1_c) (@cl_c))))) := And.intro (And.intro (And.intro (@st_run) (And.intro (@sz_run) (@st1_run))) (And.intro (@cl_run) (And.intro (@st_Str) (@sz_Str)))) (And.intro (And.intro (@st1_Str) (And.intro (@cl_Str) (@st_c))) (And.intro (@sz_c) (And.intro (@st1_c) (@cl_c))))
theorem zlMark21 : type_of% (And.intro (And.intro (And.intro (@lt_vi) (And.intro (@lt_str) (@lt_vb))) (And.intro (And.intro (@ltc_str) (@ltc_vi)) (And.intro (@lt_run) (@lt1_run)))) (And.intro (And.intro (@ltc_run) (And.intro (@lt_Str) (@lt1_Str))) (And.intro (And.intro (@ltc_Str) (@lt_c)) (And.intro (@lt1_c) (@ltc_c))))) := And.intro (And.intro (And.intro (@lt_vi) (And.intro (@lt_str) (@lt_vb))) (And.intro (And.intro (@ltc_str) (@ltc_vi)) (And.intro (@lt_run) (@lt1_run)))) (And.intro (And.intro (@ltc_run) (And.intro (@lt_Str) (@lt1_Str))) (And.intro (And.intro (@ltc_Str) (@lt_c)) (And.intro (@lt1_c) (@ltc_c))))
def worstS (s : Str) : Int := ((fixS s).runs.map Prod.snd).foldl max 0
def cutS (s : Str) (f t : Nat) : Str := if t ≤ f then ⟨[], []⟩ else ⟨(s.text.take t).drop f, rle (((orig s).take t).drop f)⟩
def clip (n : Nat) (a : Int) : Nat := (min (max a 0) n).toNat
theorem seg_step {A B : List Int} {len f t : Nat} {o : Int} : ((A ++ List.replicate len o ++ B).take (min (A.length + len) t)).drop f = ((A ++ List.replicate len o ++ B).take (min A.length t)).drop f ++ List.replicate (min (A.length + len) t - max A.length f) o := by
  by_cases h : t ≤ A.length
  · rw [Nat.min_eq_right h, Nat.min_eq_right (by omega), show t - max A.length f = 0 by omega]
    simp
  · rw [Nat.min_eq_left (show A.length ≤ t by omega)]
    have e1 : (A ++ List.replicate len o ++ B).take (min (A.length + len) t) = A ++ List.replicate (min len (t - A.length)) o := by
      rw [List.append_assoc, show min (A.length + len) t = A.length + min len (t - A.length) by omega, List.take_append, List.take_of_length_le (by omega), Nat.add_sub_cancel_left, List.take_append, List.take_replicate]
      rw [List.length_replicate, show min len (t - A.length) - len = 0 by omega, List.take_zero, List.append_nil, show min (min len (t - A.length)) len = min len (t - A.length) by omega]
    have e2 : (A ++ List.replicate len o ++ B).take A.length = A := by rw [List.append_assoc, List.take_left]
    rw [e1, e2, List.drop_append, List.drop_replicate]
    congr 2
    omega
theorem putR_nat (l : List (Int × Int)) (n o : Int) : putR l n o = putR l (n.toNat : Nat) o := by
  by_cases h : n < 1
  · rw [putR_zero _ _ _ h, putR_zero _ _ _ (by omega)]
  · rw [Int.toNat_of_nonneg (by omega)]
theorem fm_take {α β : Type} (g : α → List β) (l : List α) (i : Nat) : ((l.take i).flatMap g).length ≤ (l.flatMap g).length := by
  conv => rhs; rw [← List.take_append_drop i l]
  rw [List.flatMap_append, List.length_append]
  omega
theorem fm_orig : ∀ l : List Str, (l.flatMap orig).length = (l.flatMap Str.text).length
  | [] => rfl
  | s :: l => by simp only [List.flatMap_cons, List.length_append, orig_len, fm_orig l]
/-- one behind the other -/
def catS (l : List Str) : Str := ⟨l.flatMap Str.text, rle (l.flatMap orig)⟩
theorem mCat (H : List Ob) (l : List Str) (hl : ∀ s ∈ l, okS s) (hs : (l.flatMap Str.text).length ≤ 1000000000) (hll : l.length ≤ 1000000000) : SCall Try.prog 95 [.slice (l.map strV)] H (fun r H' => r = strV (catS l) ∧ H' = H) := by
  refine SCall.of_good fun hH => ?_
  have hHk := HLt.add hH
  refine SCall.of_code Tok Try.func95 rfl Try.call95 (n := 41) rfl (by simp) (rs := [.cell 2 30]) rfl ?_
  refine EWn.to ?_
  refine EWn.of_c Tok mixed (own := false) keep95 tab95 (by kernel_rfl) ?_
  (repeat (first | simp -dsimp only [zrMark21, RB, TB, keep95, tab95, xindexAddr, xindex, xslice, xconvert, xlen, ewOp, FreeW, StabW, SameW, ChangeW, AddW, BaseW, limBytes, simprocAttr, ne_eq] | ((with_reducible refine Need.intro ?_ ?_); (first | trivial | exact ⟨_, rfl⟩ | exact ⟨[], (List.append_nil _).symm⟩ | omega | (simp; done) | (simp; omega) | exact ⟨by first | trivial | (simp; done), _, by first | rfl | (simp; rfl)⟩))))
  refine EWn.ghost (Gho.adoptCell (H.length + 1) 1 2 (by simp only [RB, hget]; rfl) rfl (by simp)) ?_
  simp only [RB, limBytes, simprocAttr, ne_eq]
  refine EWn.ghost (Gho.adopt 4 1 rfl) ?_
  simp only [RB, limBytes, simprocAttr, ne_eq]
  refine EWn.loopE (ι := (Nat) × (Nat) × (Nat)) (fun (x_ : (Nat) × (Nat) × (Nat)) => match x_ with | (i, v1, v2) => i ≤ l.length) (fun (x_ : (Nat) × (Nat) × (Nat)) => match x_ with | (i, v1, v2) => l.length - i) (fun (x_ : (Nat) × (Nat) × (Nat)) => match x_ with | (i, v1, v2) => [(4, .vec (H.length + 3) v2 0 ((l.take i).flatMap Str.text).length), (11, .int .i64 i)]) (fun (x_ : (Nat) × (Nat) × (Nat)) => match x_ with | (i, v1, v2) => H ++ [.var [.str [], .fslice []], .var [.str [], .vec (H.length + 2) v1 0 (rle ((l.take i).flatMap orig)).length], .vec v1 2 ((rle ((l.take i).flatMap orig)).map runV), .vec v2 1 (((l.take i).flatMap Str.text).map vb)]) (0, 1, 1) ?_ ?_ ?_ ?_ ?_
  · first | rfl | (simp [upd, eset]; done) | (simp [upd, eset, rle]; done)
  · simp [rle]
  · rintro ⟨i, v1, v2⟩ hok; exact ⟨by first | (simp; done) | (simp; omega), by (simp (maxDischargeDepth := 6) [LTB, HLt_set, ltL_take, ltL_drop, ltL_rep, ltL_set, upd, eset, hH, hHk, zlMark21] <;> omega), by (simp (maxDischargeDepth := 6) [LTB, HLt_set, ltL_take, ltL_drop, ltL_rep, ltL_set, upd, eset, hH, hHk, zlMark21] <;> omega)⟩
  · omega
  rintro ⟨i, v1, v2⟩ hi
  refine EWn.of_c Tok mixed (own := false) keep95 tab95 (by kernel_rfl) ?_
  (repeat (first | simp -dsimp only [zrMark21, RB, TB, keep95, tab95, xindexAddr, xindex, xslice, xconvert, xlen, ewOp, FreeW, StabW, SameW, ChangeW, AddW, BaseW, limBytes, simprocAttr, ne_eq] | ((with_reducible refine Need.intro ?_ ?_); (first | trivial | exact ⟨_, rfl⟩ | exact ⟨[], (List.append_nil _).symm⟩ | omega | (simp; done) | (simp; omega) | exact ⟨by first | trivial | (simp; done), _, by first | rfl | (simp; rfl)⟩))))
  refine IfW.intro (fun h => ?_) (fun h => ?_)
  · have hlt := lt_of h
    have ht1 : (l.take (i + 1)).flatMap Str.text = (l.take i).flatMap Str.text ++ l[i].text := by
      rw [List.take_succ_eq_append_getElem hlt, List.flatMap_append, List.flatMap_cons, List.flatMap_nil, List.append_nil]
    have ho1 : (l.take (i + 1)).flatMap orig = (l.take i).flatMap orig ++ orig l[i] := by
      rw [List.take_succ_eq_append_getElem hlt, List.flatMap_append, List.flatMap_cons, List.flatMap_nil, List.append_nil]
    have hb1 := fm_take Str.text l (i + 1)
    have hoo := fm_orig (l.take i)
    rw [ht1, List.length_append] at hb1
    have hok := hl l[i] (List.getElem_mem hlt)
    generalize (l.take i).flatMap Str.text = tx at *
    generalize (l.take i).flatMap orig = og at *
    have hn1 : (tx.length + l[i].text.length) * 1 ≤ 140737488355328 := by omega
    (repeat (first | simp -dsimp only [zrMark21, h, at_map strV l i hlt, strV, hn1, RB, TB, keep95, tab95, xindexAddr, xindex, xslice, xconvert, xlen, ewOp, FreeW, StabW, SameW, ChangeW, AddW, BaseW, limBytes, simprocAttr, ne_eq] | ((with_reducible refine Need.intro ?_ ?_); (first | trivial | exact ⟨_, rfl⟩ | exact ⟨[], (List.append_nil _).symm⟩ | omega | (simp; done) | (simp; omega) | exact ⟨by first | trivial | (simp; done), _, by first | rfl | (simp; rfl)⟩))))
    have hO := orig_len l[i]
    have hrf : (fixS l[i]).runs = rle (orig l[i]) := rfl
    have hun := (unrle_rle_pos (orig l[i])).2
    have huo := unrle_rle (orig l[i])
    have hrll := rle_len (orig l[i])
    (first | refine SCall.then (mFix _ l[i] hok) ?_ | refine SCall.thenA (mFix _ l[i] hok) (by repeat (first | exact trivial | exact .inl (.inl rfl) | exact .inl (.inr ⟨_, rfl, rfl⟩) | exact .inl rfl | exact .inr ⟨_, rfl, rfl⟩ | refine .inr ⟨_, _, rfl, rfl, ?_⟩ | refine ⟨?_, ?_⟩)) ?_ | refine CallE.intro _ (mFix _ l[i] hok) ?_ | refine CallE.introA (mFix _ l[i] hok) (by repeat (first | exact trivial | exact .inl (.inl rfl) | exact .inl (.inr ⟨_, rfl, rfl⟩) | exact .inl rfl | exact .inr ⟨_, rfl, rfl⟩ | refine .inr ⟨_, _, rfl, rfl, ?_⟩ | refine ⟨?_, ?_⟩)) ?_ | refine CallE.intro _ (fun _ => mFix _ l[i] hok) ?_ | refine CallE.intro _ (fun _ => SCall.arg (by repeat (first | exact trivial | exact .inl (.inl rfl) | exact .inl (.inr ⟨_, rfl, rfl⟩) | exact .inl rfl | exact .inr ⟨_, rfl, rfl⟩ | refine .inr ⟨_, _, rfl, rfl, ?_⟩ | refine ⟨?_, ?_⟩)) (mFix _ l[i] hok)) ?_ | refine CallE2.intro _ _ (mFix _ l[i] hok) ?_ | refine CallE2.intro _ _ (SCall.arg (by repeat (first | exact trivial | exact .inl (.inl rfl) | exact .inl (.inr ⟨_, rfl, rfl⟩) | exact .inl rfl | exact .inr ⟨_, rfl, rfl⟩ | refine .inr ⟨_, _, rfl, rfl, ?_⟩ | refine ⟨?_, ?_⟩)) (mFix _ l[i] hok)) ?_)
    (repeat (first | simp -dsimp only [zrMark21, strV, RB, TB, keep95, tab95, xindexAddr, xindex, xslice, xconvert, xlen, ewOp, FreeW, StabW, SameW, ChangeW, AddW, BaseW, limBytes, simprocAttr, ne_eq] | ((with_reducible refine Need.intro ?_ ?_); (first | trivial | exact ⟨_, rfl⟩ | exact ⟨[], (List.append_nil _).symm⟩ | omega | (simp; done) | (simp; omega) | exact ⟨by first | trivial | (simp; done), _, by first | rfl | (simp; rfl)⟩))))
    rw [hrf]
    generalize orig l[i] = O at *
    generalize rle O = rs at *
    refine EWn.loopE (ι := (Nat) × (Nat)) (fun (x_ : (Nat) × (Nat)) => match x_ with | (k, w1) => k ≤ rs.length) (fun (x_ : (Nat) × (Nat)) => match x_ with | (k, w1) => rs.length - k) (fun (x_ : (Nat) × (Nat)) => match x_ with | (k, w1) => [(23, .int .i64 k)]) (fun (x_ : (Nat) × (Nat)) => match x_ with | (k, w1) => H ++ [.var [.str [], .fslice []], .var [.str [], .vec (H.length + 2) w1 0 (rle (og ++ unrle (rs.take k))).length], .vec w1 2 ((rle (og ++ unrle (rs.take k))).map runV), .vec (v2 + 1) 1 ((tx ++ l[i].text).map vb), .var [.str l[i].text, .slice (l[i].runs.map runV)]]) (0, v1) ?_ ?_ ?_ ?_ ?_
    · first | rfl | (simp [upd, eset]; done) | (simp [upd, eset, unrle]; done)
    · simp [unrle]
    · rintro ⟨k, w1⟩ hok; exact ⟨by first | (simp; done) | (simp; omega), by (simp (maxDischargeDepth := 6) [LTB, HLt_set, ltL_take, ltL_drop, ltL_rep, ltL_set, upd, eset, hH, hHk, zlMark21] <;> omega), by (simp (maxDischargeDepth := 6) [LTB, HLt_set, ltL_take, ltL_drop, ltL_rep, ltL_set, upd, eset, hH, hHk, zlMark21] <;> omega)⟩
    · omega
    rintro ⟨k, w1⟩ hk
    refine EWn.of_c Tok mixed (own := false) keep95 tab95 (by kernel_rfl) ?_
    (repeat (first | simp -dsimp only [zrMark21, RB, TB, keep95, tab95, xindexAddr, xindex, xslice, xconvert, xlen, ewOp, FreeW, StabW, SameW, ChangeW, AddW, BaseW, limBytes, simprocAttr, ne_eq] | ((with_reducible refine Need.intro ?_ ?_); (first | trivial | exact ⟨_, rfl⟩ | exact ⟨[], (List.append_nil _).symm⟩ | omega | (simp; done) | (simp; omega) | exact ⟨by first | trivial | (simp; done), _, by first | rfl | (simp; rfl)⟩))))
    refine IfW.intro (fun h3 => ?_) (fun h3 => ?_)
    · have hkt := lt_of h3
      have e1 : unrle (rs.take (k + 1)) = unrle (rs.take k) ++ List.replicate rs[k].1.toNat rs[k].2 := by
        rw [List.take_succ_eq_append_getElem hkt]
        unfold unrle
        rw [List.flatMap_append, List.flatMap_cons, List.flatMap_nil, List.append_nil]
      have hp1 := hun rs[k] (List.getElem_mem hkt)
      have hm1 := mem_le_sum (List.getElem_mem hkt)
      have hle := fm_take (fun p : Int × Int => List.replicate p.1.toNat p.2) rs k
      have hle : (unrle (rs.take k)).length ≤ (unrle rs).length := hle
      rw [huo] at hm1 hle
      have hX : (og ++ unrle (rs.take k)).length ≤ 1000000000000 := by rw [List.length_append]; omega
      have hsucc : rle (og ++ unrle (rs.take (k + 1))) = putR (rle (og ++ unrle (rs.take k))) rs[k].1 rs[k].2 := by
        rw [putR_nat, e1, ← List.append_assoc, rle_append]
      generalize og ++ unrle (rs.take k) = X at *
      have hrl := rle_len X
      have hrb : ∀ p ∈ rle X, 0 ≤ p.1 ∧ p.1 ≤ 1000000000000 := fun p hp => by have := rle_bound hp; omega
      (repeat (first | simp -dsimp only [zrMark21, h3, at_map runV rs k hkt, runV, RB, TB, keep95, tab95, xindexAddr, xindex, xslice, xconvert, xlen, ewOp, FreeW, StabW, SameW, ChangeW, AddW, BaseW, limBytes, simprocAttr, ne_eq] | ((with_reducible refine Need.intro ?_ ?_); (first | trivial | exact ⟨_, rfl⟩ | exact ⟨[], (List.append_nil _).symm⟩ | omega | (simp; done) | (simp; omega) | exact ⟨by first | trivial | (simp; done), _, by first | rfl | (simp; rfl)⟩))))
      (first | refine SCall.then (mput _ (rle X) rs[k].1 rs[k].2 (H.length + 2) w1 (by simp only [RB, hget]) (by omega) hrb (by omega)) ?_ | refine SCall.thenA (mput _ (rle X) rs[k].1 rs[k].2 (H.length + 2) w1 (by simp only [RB, hget]) (by omega) hrb (by omega)) (by repeat (first | exact trivial | exact .inl (.inl rfl) | exact .inl (.inr ⟨_, rfl, rfl⟩) | exact .inl rfl | exact .inr ⟨_, rfl, rfl⟩ | refine .inr ⟨_, _, rfl, rfl, ?_⟩ | refine ⟨?_, ?_⟩)) ?_ | refine CallE.intro _ (mput _ (rle X) rs[k].1 rs[k].2 (H.length + 2) w1 (by simp only [RB, hget]) (by omega) hrb (by omega)) ?_ | refine CallE.introA (mput _ (rle X) rs[k].1 rs[k].2 (H.length + 2) w1 (by simp only [RB, hget]) (by omega) hrb (by omega)) (by repeat (first | exact trivial | exact .inl (.inl rfl) | exact .inl (.inr ⟨_, rfl, rfl⟩) | exact .inl rfl | exact .inr ⟨_, rfl, rfl⟩ | refine .inr ⟨_, _, rfl, rfl, ?_⟩ | refine ⟨?_, ?_⟩)) ?_ | refine CallE.intro _ (fun _ => mput _ (rle X) rs[k].1 rs[k].2 (H.length + 2) w1 (by simp only [RB, hget]) (by omega) hrb (by omega)) ?_ | refine CallE.intro _ (fun _ => SCall.arg (by repeat (first | exact trivial | exact .inl (.inl rfl) | exact .inl (.inr ⟨_, rfl, rfl⟩) | exact .inl rfl | exact .inr ⟨_, rfl, rfl⟩ | refine .inr ⟨_, _, rfl, rfl, ?_⟩ | refine ⟨?_, ?_⟩)) (mput _ (rle X) rs[k].1 rs[k].2 (H.length + 2) w1 (by simp only [RB, hget]) (by omega) hrb (by omega))) ?_ | refine CallE2.intro _ _ (mput _ (rle X) rs[k].1 rs[k].2 (H.length + 2) w1 (by simp only [RB, hget]) (by omega) hrb (by omega)) ?_ | refine CallE2.intro _ _ (SCall.arg (by repeat (first | exact trivial | exact .inl (.inl rfl) | exact .inl (.inr ⟨_, rfl, rfl⟩) | exact .inl rfl | exact .inr ⟨_, rfl, rfl⟩ | refine .inr ⟨_, _, rfl, rfl, ?_⟩ | refine ⟨?_, ?_⟩)) (mput _ (rle X) rs[k].1 rs[k].2 (H.length + 2) w1 (by simp only [RB, hget]) (by omega) hrb (by omega))) ?_)
      (repeat (first | simp -dsimp only [zrMark21, RB, TB, keep95, tab95, xindexAddr, xindex, xslice, xconvert, xlen, ewOp, FreeW, StabW, SameW, ChangeW, AddW, BaseW, limBytes, simprocAttr, ne_eq] | ((with_reducible refine Need.intro ?_ ?_); (first | trivial | exact ⟨_, rfl⟩ | exact ⟨[], (List.append_nil _).symm⟩ | omega | (simp; done) | (simp; omega) | exact ⟨by first | trivial | (simp; done), _, by first | rfl | (simp; rfl)⟩))))
      rw [← hsucc, wrapI (by omega)]
      generalize grewR (rle X) rs[k].1 rs[k].2 = gr
      refine UpTo.here ⟨(k + 1, w1 + gr), hkt, by simp only; omega, by simp [upd, eset], ⟨_, by simp; rfl⟩⟩
    · (repeat (first | simp -dsimp only [zrMark21, h3, RB, TB, keep95, tab95, xindexAddr, xindex, xslice, xconvert, xlen, ewOp, FreeW, StabW, SameW, ChangeW, AddW, BaseW, limBytes, simprocAttr, ne_eq] | ((with_reducible refine Need.intro ?_ ?_); (first | trivial | exact ⟨_, rfl⟩ | exact ⟨[], (List.append_nil _).symm⟩ | omega | (simp; done) | (simp; omega) | exact ⟨by first | trivial | (simp; done), _, by first | rfl | (simp; rfl)⟩))))
      have hk2 : k = rs.length := Nat.le_antisymm hk (ge_of h3)
      subst hk2
      rw [List.take_length, huo, ← ho1, ← ht1]
      rw [wrapI (by omega)]
      refine UpTo.here ⟨(i + 1, w1, v2 + 1), hlt, by simp only; omega, by simp [upd, eset, ht1], ⟨_, by simp; rfl⟩⟩
  · have hi2 : i = l.length := Nat.le_antisymm hi (ge_of h)
    subst hi2
    rw [List.take_length]
    have hbl : (l.flatMap Str.text).length ≤ 9223372036854775807 := by omega
    (repeat (first | simp -dsimp only [zrMark21, h, List.take_length, hbl, RB, TB, keep95, tab95, xindexAddr, xindex, xslice, xconvert, xlen, ewOp, FreeW, StabW, SameW, ChangeW, AddW, BaseW, limBytes, simprocAttr, ne_eq] | ((with_reducible refine Need.intro ?_ ?_); (first | trivial | exact ⟨_, rfl⟩ | exact ⟨[], (List.append_nil _).symm⟩ | omega | (simp; done) | (simp; omega) | exact ⟨by first | trivial | (simp; done), _, by first | rfl | (simp; rfl)⟩))))
    refine RetW.auto0 false _ (by first | rfl | exact (List.append_nil _).symm) ?_ ?_
    · (simp (maxDischargeDepth := 6) [LTB, HLt_set, ltL_take, ltL_drop, ltL_rep, ltL_set, upd, eset, hH, hHk, zlMark21] <;> omega)
    (try simp only [wk, wk1, wk0, RB, limBytes, simprocAttr, ne_eq])
    (try (rw [List.take_of_length_le]; rotate_left 1; (· first | (simp; done) | (simp; omega) | omega)))
    simp [catS, strV]
end Go.Proofs.Ytjplgbalpnlanaa

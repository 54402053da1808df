/- UtfBack, where what it reads is of bulk at most 1048576: the law returns true and the arguments read as they did. -/
import Derived.Test.YtjhjcldpcngldaaUtfLaw
import Derived.Test.YtjhjcldpcngldaaUtfRunes
import Derived.Test.YtjhjcldpcngldaaRows
import Derived.ProofKit
import Derived.JoinedCond
set_option linter.unusedSimpArgs false
set_option linter.unusedVariables false
set_option maxRecDepth 100000
set_option maxHeartbeats 1000000
namespace Go.Proofs.Ytjhjcldpcngldaa
open Go Go.EL

theorem contU_pre (t r : List UInt8) : ∀ (k : Nat) (lo hi : Int) (i n : Nat), contU t lo hi i k = (n, true) → n ≤ t.length → contU (t.take n ++ r) lo hi i k = (n, true) ∧ i ≤ n
  | 0, _, _, i, n, h, _ => by rw [contU] at h ⊢; injection h with h _; subst h; exact ⟨rfl, Nat.le_refl _⟩
  | k + 1, lo, hi, i, n, h, hn => by
    rw [contU] at h
    cases hx : t[i]? with
    | none => rw [hx] at h; injection h with _ h; cases h
    | some c =>
      rw [hx] at h
      simp only at h
      split at h
      · injection h with _ h; cases h
      · rename_i hc
        obtain ⟨h1, h2⟩ := contU_pre t r k 128 191 (i + 1) n h hn
        have hi' := (List.getElem?_eq_some_iff.1 hx).1
        have hg : (t.take n ++ r)[i]? = some c := by
          rw [List.getElem?_append_left (by rw [List.length_take]; omega), List.getElem?_take, if_pos (by omega), hx]
        rw [contU, hg]
        simp only
        rw [if_neg hc]
        exact ⟨h1, by omega⟩
theorem next_pre (t r : List UInt8) (n : Nat) (h : nextU t = (n, true)) (ht : t ≠ []) : nextU (t.take n ++ r) = (n, true) := by
  have hp := next_pos ht
  rw [h] at hp
  simp only at hp
  cases t with
  | nil => exact absurd rfl ht
  | cons c t =>
    obtain ⟨n, rfl⟩ : ∃ m, n = m + 1 := ⟨n - 1, by omega⟩
    rw [List.take_succ_cons, List.cons_append]
    simp only [nextU] at h ⊢
    split at h
    · injection h with _ h; cases h
    · rename_i hc
      rw [if_neg hc]
      have := (contU_pre (c :: t) r _ _ _ _ _ h hp.2).1
      rwa [List.take_succ_cons, List.cons_append] at this
theorem valid_cons (t : List UInt8) (n : Nat) (h : nextU t = (n, true)) (ht : 0 < t.length) (h0 : t.headD 0 ≠ 0) : validU t = validU (t.drop n) := by
  rw [List.headD_eq_head?_getD, List.head?_eq_getElem?, List.getElem?_eq_getElem ht] at h0
  have h0 : t[0] ≠ 0 := h0
  rw [validU_cons ht, h]
  have : (t[0] != 0) = true := by simp [h0]
  rw [this]
  rfl
theorem next_wrong (r : List UInt8) : nextU ([239, 191, 189] ++ r) = (3, true) := by
  show (if (leadC 239).1 < 0 then (1, false) else contU (239 :: 191 :: 189 :: r) (leadC 239).2.1 (leadC 239).2.2 1 (leadC 239).1.toNat) = _
  have : leadC 239 = (2, 128, 191) := by decide
  rw [this, if_neg (by decide)]
  show contU (239 :: 191 :: 189 :: r) 128 191 1 2 = _
  rw [cont_step (c := 191) rfl (by decide) (by decide), cont_step (c := 189) rfl (by decide) (by decide), contU]
theorem runeN_len (n : Int) : (runeN n).length ≤ 4 := by
  unfold runeN runeM
  repeat' split
  all_goals simp
/-- what is repaired is valid -/
theorem rep_valid : ∀ (k : Nat) (l : List (UInt8 × Int)), validU (fsts (repK k l)) = true
  | 0, l => by unfold repK fsts validU; rw [List.map_nil, wlks]; rfl
  | k + 1, l => by
    rw [repK]
    split
    · unfold fsts validU; rw [List.map_nil, wlks]; rfl
    · rename_i h0
      have ih := rep_valid k (l.drop (nextU (fsts l)).1)
      have hp := next_posC (l := l) (by omega)
      have hlf : (fsts l).length = l.length := by simp [fsts]
      have hne : fsts l ≠ [] := by intro e; rw [e] at hlf; simp at hlf; omega
      have happ : ∀ a b : List (UInt8 × Int), fsts (a ++ b) = fsts a ++ fsts b := fun a b => by unfold fsts; rw [List.map_append]
      rw [happ]
      generalize fsts (repK k (l.drop (nextU (fsts l)).1)) = R at *
      unfold oneC
      split
      · rename_i hok
        unfold okC2 at hok
        rw [Bool.and_eq_true] at hok
        have hnx : nextU (fsts l) = ((nextU (fsts l)).1, true) := Prod.ext rfl hok.1
        have hpre := next_pre (fsts l) R _ hnx hne
        have htk : fsts (l.take (nextU (fsts l)).1) = (fsts l).take (nextU (fsts l)).1 := by unfold fsts; rw [List.map_take]
        rw [htk]
        generalize nextU (fsts l) = nx at *
        obtain ⟨m, b⟩ := nx
        simp only at hp hok hpre ⊢
        have hlen : ((fsts l).take m).length = m := by rw [List.length_take]; omega
        rw [valid_cons _ m hpre (by rw [List.length_append]; omega) ?_, List.drop_append_of_le_length (by omega), List.drop_eq_nil_of_le (by omega), List.nil_append]
        · exact ih
        · have h2 := hok.2
          cases hf : fsts l with
          | nil => exact absurd hf hne
          | cons c t =>
            rw [hf] at h2
            obtain ⟨m, rfl⟩ : ∃ j, m = j + 1 := ⟨m - 1, by omega⟩
            simp at h2 ⊢
            exact h2
      · have e : fsts (wrongC (worstC (l.take (nextU (fsts l)).1))) = [239, 191, 189] := rfl
        rw [e, valid_cons _ 3 (next_wrong R) (by simp) (by simp)]
        exact ih
/-- what is valid stays -/
theorem rep_same : ∀ (k : Nat) (l : List (UInt8 × Int)), l.length ≤ k → validU (fsts l) = true → repK k l = l
  | 0, l, h, _ => by have := List.eq_nil_of_length_eq_zero (Nat.le_zero.1 h); subst this; rfl
  | k + 1, l, h, hv => by
    rw [repK]
    split
    · rename_i h0; rw [List.eq_nil_of_length_eq_zero h0]
    · rename_i h0
      have hp := next_posC (l := l) (by omega)
      have hlf : (fsts l).length = l.length := by simp [fsts]
      have hlt : 0 < (fsts l).length := by omega
      rw [validU_cons hlt, Bool.and_eq_true] at hv
      have hhd : (fsts l).headD 0 = (fsts l)[0] := by
        rw [List.headD_eq_head?_getD, List.head?_eq_getElem?, List.getElem?_eq_getElem hlt]
        rfl
      have hok : okC2 l = true := by unfold okC2; rw [hhd]; exact hv.1
      unfold oneC
      rw [if_pos hok]
      rw [rep_same k (l.drop (nextU (fsts l)).1) (by rw [List.length_drop]; omega) (by rw [fsts_drop]; exact hv.2)]
      exact List.take_append_drop _ _
theorem rune_valid (n : Int) : validU (runeN n) = true := by
  have h := runeN_next n
  have hne := runeN_ne n
  have h0 : 0 < (runeN n).length := by
    cases hr : runeN n with
    | nil => exact absurd hr hne
    | cons _ _ => simp
  have hz : (runeN n).headD 0 ≠ 0 := by
    revert h0
    unfold runeN
    split
    · intro _; simp
    · rename_i hb
      unfold badR at hb
      have key : ∀ k, 1 ≤ k → k < 256 → bN k ≠ 0 := fun k h1 h2 e => by
        have := bN_toNat h2
        rw [e] at this
        simp at this
        omega
      unfold runeM
      repeat' split
      all_goals
        intro _
        simp only [List.headD_cons]
        refine key _ (by omega) (by omega)
  rw [valid_cons _ _ h h0 hz, List.drop_length]
  unfold validU
  rw [wlks]
  rfl
theorem dec_run : Dec Try.prog 120 runV (fun _ => True) (fun _ => 1) := by
  refine Dec.of (Dec.struct Try.underlying120 (DecFs.cons rfl (next := 1) (by kernel_rfl) (Dec.int Try.underlying3) (DecFs.cons rfl (next := 2) (by kernel_rfl) (Dec.int Try.underlying3) DecFs.nil))) (fun x => (x.1, x.2.1)) (fun x _ => ⟨rfl, trivial, by first | omega | (simp only; omega)⟩)
theorem dec_runs : Dec Try.prog 57 (fun l : List (Int × Int) => V.slice (l.map runV)) (fun _ => True) (fun l => l.length) :=
  Dec.of (Dec.slice Try.underlying57 (of_decide_eq_true (by kernel_rfl)) dec_run) id (fun x _ => ⟨rfl, trivial, by have := len_sum (fun x : Int × Int => 1) (fun x => by omega) x; simp only [id]; omega⟩)
def szS (s : Str) : Nat := s.text.length + s.runs.length + 1
theorem dec_str : Dec Try.prog 59 strV (fun _ => True) szS := by
  refine Dec.of (Dec.struct Try.underlying59 (DecFs.cons rfl (next := 1) (by kernel_rfl) (Dec.str Try.underlying9) (DecFs.cons rfl (next := 2) (by kernel_rfl) dec_runs DecFs.nil))) (fun x => ⟨x.1, x.2.1⟩) (fun x _ => ⟨rfl, trivial, by simp only [szS]; omega⟩)
theorem okS_sz {s : Str} (h : szS s ≤ 1048576) : okS s := by unfold szS at h; exact ⟨by omega, by omega⟩
def szA (a : Attr) : Nat := szS a.name + szS a.value + 1
theorem dec_attr : Dec Try.prog 149 attrV (fun _ => True) szA := by
  refine Dec.of (Dec.struct Try.underlying149 (DecFs.cons rfl (next := 2) (by kernel_rfl) dec_str (DecFs.cons rfl (next := 4) (by kernel_rfl) dec_str DecFs.nil))) (fun x => ⟨x.1, x.2.1⟩) (fun x _ => ⟨rfl, trivial, by simp only [szA]; omega⟩)
theorem okA_sz {a : Attr} (h : szA a ≤ 1048576) : okA a := by unfold szA at h; exact ⟨okS_sz (by omega), okS_sz (by omega)⟩
def szAs (l : List Attr) : Nat := (l.map szA).sum + 1
theorem dec_attrs : Dec Try.prog 68 (fun l : List Attr => V.slice (l.map attrV)) (fun _ => True) szAs :=
  Dec.of (Dec.slice Try.underlying68 (of_decide_eq_true (by kernel_rfl)) dec_attr) id (fun x _ => ⟨rfl, trivial, by simp only [id, szAs]; omega⟩)
theorem okA_szs {l : List Attr} (h : szAs l ≤ 1048576) : (∀ a ∈ l, okA a) ∧ l.length ≤ 1048576 := by
  unfold szAs at h
  refine ⟨fun a ha => okA_sz (by have := le_sum szA ha; omega), ?_⟩
  have := len_sum szA (fun x => by simp [szA]) l
  omega

set_option maxHeartbeats 1000000 in
theorem utfBack (H : List Ob) (s : Str) (n : Int) (hs : okS s) (hl : s.text.length ≤ 1048576) : SCall Try.prog 9 [strV s, .int .i64 n] H (fun r _ => r = .bool true) := by
  have hsv : strV s = .agg [.str s.text, .slice (s.runs.map runV)] := rfl
  have hC := ofS_len s
  have hfC : fsts (ofS s) = s.text := ofS_fst s
  have hrl := repair_len s
  have hro := repair_ok s (by omega)
  have hor := ofS_repair s
  have hvr : validU (repairS s).text = true := by
    have := rep_valid (ofS s).length (ofS s)
    rw [repair_is]
    exact this
  have hfr : fsts (ofS (repairS s)) = (repairS s).text := ofS_fst _
  have hback : ofS (repairS (repairS s)) = ofS (repairS s) := by
    rw [ofS_repair]
    exact rep_same _ _ (Nat.le_refl _) (by rw [hfr]; exact hvr)
  have hsame : validU s.text = true → ofS (repairS s) = ofS s := fun h => by
    rw [hor]
    exact rep_same _ _ (Nat.le_refl _) (by rw [hfC]; exact h)
  have hrol := repair_ok (repairS s) (by omega)
  have hrn := rune_valid n
  rw [hsv]
  refine SCall.of_good fun hH => ?_
  have hHk := HLt.add hH
  refine SCall.of_code Tok Try.func9 rfl Try.call9 (n := 42) rfl (by simp) (rs := [.tmp 4]) rfl ?_
  refine EWn.to ?_
  refine EWn.of_c Tok mixed (own := false) keep9 tab9 (by kernel_rfl) ?_
  (repeat (first | simp -dsimp only [st_run, sz_run, st1_run, cl_run, st_Str, sz_Str, st1_Str, cl_Str, st_c, sz_c, st1_c, cl_c, st_wlk, sz_wlk, st1_wlk, cl_wlk, RB, TB, keep9, tab9, ewOp, xop, xindexAddr, xindex, xslice, xconvert, xlen, drawStep, FreeW, SameW, ChangeW, limBytes, Nat.reduceBEq, Nat.reduceAdd, Nat.reduceEqDiff, Nat.reduceLT, Nat.reduceLeDiff, Nat.reduceMul, Nat.reduceSub, Int.reduceBEq, Int.reduceBNe, Int.reduceToNat, Int.reduceLT, Int.reduceLE, Int.reduceGT, Int.reduceGE, Int.reduceAdd, Int.reduceSub, Int.reduceNeg, Int.reduceEq, Int.toNat_zero, Int.toNat_one, reduceIte, reduceCtorEq, ne_eq, decide_true, decide_false] | ((with_reducible refine Need.intro ?_ ?_); (first | trivial | omega | (simp; done) | (simp; omega)))))
  (first | refine SCall.then (alive02 _) ?_ | refine SCall.thenA (alive02 _) (by repeat (first | exact trivial | exact .inl (.inl rfl) | exact .inl (.inr ⟨_, rfl, rfl⟩) | exact .inl rfl | exact .inr ⟨_, rfl, rfl⟩ | refine .inr ⟨_, _, rfl, rfl, ?_⟩ | refine ⟨?_, ?_⟩)) ?_ | refine CallE.intro _ (alive02 _) ?_ | refine CallE.introA (alive02 _) (by repeat (first | exact trivial | exact .inl (.inl rfl) | exact .inl (.inr ⟨_, rfl, rfl⟩) | exact .inl rfl | exact .inr ⟨_, rfl, rfl⟩ | refine .inr ⟨_, _, rfl, rfl, ?_⟩ | refine ⟨?_, ?_⟩)) ?_ | refine CallE.intro _ (fun _ => alive02 _) ?_ | refine CallE.intro _ (fun _ => SCall.arg (by repeat (first | exact trivial | exact .inl (.inl rfl) | exact .inl (.inr ⟨_, rfl, rfl⟩) | exact .inl rfl | exact .inr ⟨_, rfl, rfl⟩ | refine .inr ⟨_, _, rfl, rfl, ?_⟩ | refine ⟨?_, ?_⟩)) (alive02 _)) ?_ | refine CallE2.intro _ _ (alive02 _) ?_ | refine CallE2.intro _ _ (SCall.arg (by repeat (first | exact trivial | exact .inl (.inl rfl) | exact .inl (.inr ⟨_, rfl, rfl⟩) | exact .inl rfl | exact .inr ⟨_, rfl, rfl⟩ | refine .inr ⟨_, _, rfl, rfl, ?_⟩ | refine ⟨?_, ?_⟩)) (alive02 _)) ?_)
  (repeat (first | simp -dsimp only [st_run, sz_run, st1_run, cl_run, st_Str, sz_Str, st1_Str, cl_Str, st_c, sz_c, st1_c, cl_c, st_wlk, sz_wlk, st1_wlk, cl_wlk, RB, TB, keep9, tab9, ewOp, xop, xindexAddr, xindex, xslice, xconvert, xlen, drawStep, FreeW, SameW, ChangeW, limBytes, Nat.reduceBEq, Nat.reduceAdd, Nat.reduceEqDiff, Nat.reduceLT, Nat.reduceLeDiff, Nat.reduceMul, Nat.reduceSub, Int.reduceBEq, Int.reduceBNe, Int.reduceToNat, Int.reduceLT, Int.reduceLE, Int.reduceGT, Int.reduceGE, Int.reduceAdd, Int.reduceSub, Int.reduceNeg, Int.reduceEq, Int.toNat_zero, Int.toNat_one, reduceIte, reduceCtorEq, ne_eq, decide_true, decide_false] | ((with_reducible refine Need.intro ?_ ?_); (first | trivial | omega | (simp; done) | (simp; omega)))))
  (first | refine SCall.then (uRepair _ s hs (by omega)) ?_ | refine SCall.thenA (uRepair _ s hs (by omega)) (by repeat (first | exact trivial | exact .inl (.inl rfl) | exact .inl (.inr ⟨_, rfl, rfl⟩) | exact .inl rfl | exact .inr ⟨_, rfl, rfl⟩ | refine .inr ⟨_, _, rfl, rfl, ?_⟩ | refine ⟨?_, ?_⟩)) ?_ | refine CallE.intro _ (uRepair _ s hs (by omega)) ?_ | refine CallE.introA (uRepair _ s hs (by omega)) (by repeat (first | exact trivial | exact .inl (.inl rfl) | exact .inl (.inr ⟨_, rfl, rfl⟩) | exact .inl rfl | exact .inr ⟨_, rfl, rfl⟩ | refine .inr ⟨_, _, rfl, rfl, ?_⟩ | refine ⟨?_, ?_⟩)) ?_ | refine CallE.intro _ (fun _ => uRepair _ s hs (by omega)) ?_ | refine CallE.intro _ (fun _ => SCall.arg (by repeat (first | exact trivial | exact .inl (.inl rfl) | exact .inl (.inr ⟨_, rfl, rfl⟩) | exact .inl rfl | exact .inr ⟨_, rfl, rfl⟩ | refine .inr ⟨_, _, rfl, rfl, ?_⟩ | refine ⟨?_, ?_⟩)) (uRepair _ s hs (by omega))) ?_ | refine CallE2.intro _ _ (uRepair _ s hs (by omega)) ?_ | refine CallE2.intro _ _ (SCall.arg (by repeat (first | exact trivial | exact .inl (.inl rfl) | exact .inl (.inr ⟨_, rfl, rfl⟩) | exact .inl rfl | exact .inr ⟨_, rfl, rfl⟩ | refine .inr ⟨_, _, rfl, rfl, ?_⟩ | refine ⟨?_, ?_⟩)) (uRepair _ s hs (by omega))) ?_)
  (repeat (first | simp -dsimp only [st_run, sz_run, st1_run, cl_run, st_Str, sz_Str, st1_Str, cl_Str, st_c, sz_c, st1_c, cl_c, st_wlk, sz_wlk, st1_wlk, cl_wlk, strV, RB, TB, keep9, tab9, ewOp, xop, xindexAddr, xindex, xslice, xconvert, xlen, drawStep, FreeW, SameW, ChangeW, limBytes, Nat.reduceBEq, Nat.reduceAdd, Nat.reduceEqDiff, Nat.reduceLT, Nat.reduceLeDiff, Nat.reduceMul, Nat.reduceSub, Int.reduceBEq, Int.reduceBNe, Int.reduceToNat, Int.reduceLT, Int.reduceLE, Int.reduceGT, Int.reduceGE, Int.reduceAdd, Int.reduceSub, Int.reduceNeg, Int.reduceEq, Int.toNat_zero, Int.toNat_one, reduceIte, reduceCtorEq, ne_eq, decide_true, decide_false] | ((with_reducible refine Need.intro ?_ ?_); (first | trivial | omega | (simp; done) | (simp; omega)))))
  (first | refine SCall.then (uRepair _ (repairS s) hro (by omega)) ?_ | refine SCall.thenA (uRepair _ (repairS s) hro (by omega)) (by repeat (first | exact trivial | exact .inl (.inl rfl) | exact .inl (.inr ⟨_, rfl, rfl⟩) | exact .inl rfl | exact .inr ⟨_, rfl, rfl⟩ | refine .inr ⟨_, _, rfl, rfl, ?_⟩ | refine ⟨?_, ?_⟩)) ?_ | refine CallE.intro _ (uRepair _ (repairS s) hro (by omega)) ?_ | refine CallE.introA (uRepair _ (repairS s) hro (by omega)) (by repeat (first | exact trivial | exact .inl (.inl rfl) | exact .inl (.inr ⟨_, rfl, rfl⟩) | exact .inl rfl | exact .inr ⟨_, rfl, rfl⟩ | refine .inr ⟨_, _, rfl, rfl, ?_⟩ | refine ⟨?_, ?_⟩)) ?_ | refine CallE.intro _ (fun _ => uRepair _ (repairS s) hro (by omega)) ?_ | refine CallE.intro _ (fun _ => SCall.arg (by repeat (first | exact trivial | exact .inl (.inl rfl) | exact .inl (.inr ⟨_, rfl, rfl⟩) | exact .inl rfl | exact .inr ⟨_, rfl, rfl⟩ | refine .inr ⟨_, _, rfl, rfl, ?_⟩ | refine ⟨?_, ?_⟩)) (uRepair _ (repairS s) hro (by omega))) ?_ | refine CallE2.intro _ _ (uRepair _ (repairS s) hro (by omega)) ?_ | refine CallE2.intro _ _ (SCall.arg (by repeat (first | exact trivial | exact .inl (.inl rfl) | exact .inl (.inr ⟨_, rfl, rfl⟩) | exact .inl rfl | exact .inr ⟨_, rfl, rfl⟩ | refine .inr ⟨_, _, rfl, rfl, ?_⟩ | refine ⟨?_, ?_⟩)) (uRepair _ (repairS s) hro (by omega))) ?_)
  (repeat (first | simp -dsimp only [st_run, sz_run, st1_run, cl_run, st_Str, sz_Str, st1_Str, cl_Str, st_c, sz_c, st1_c, cl_c, st_wlk, sz_wlk, st1_wlk, cl_wlk, strV, RB, TB, keep9, tab9, ewOp, xop, xindexAddr, xindex, xslice, xconvert, xlen, drawStep, FreeW, SameW, ChangeW, limBytes, Nat.reduceBEq, Nat.reduceAdd, Nat.reduceEqDiff, Nat.reduceLT, Nat.reduceLeDiff, Nat.reduceMul, Nat.reduceSub, Int.reduceBEq, Int.reduceBNe, Int.reduceToNat, Int.reduceLT, Int.reduceLE, Int.reduceGT, Int.reduceGE, Int.reduceAdd, Int.reduceSub, Int.reduceNeg, Int.reduceEq, Int.toNat_zero, Int.toNat_one, reduceIte, reduceCtorEq, ne_eq, decide_true, decide_false] | ((with_reducible refine Need.intro ?_ ?_); (first | trivial | omega | (simp; done) | (simp; omega)))))
  (first | refine SCall.then (uValid _ (repairS s).text (by omega)) ?_ | refine SCall.thenA (uValid _ (repairS s).text (by omega)) (by repeat (first | exact trivial | exact .inl (.inl rfl) | exact .inl (.inr ⟨_, rfl, rfl⟩) | exact .inl rfl | exact .inr ⟨_, rfl, rfl⟩ | refine .inr ⟨_, _, rfl, rfl, ?_⟩ | refine ⟨?_, ?_⟩)) ?_ | refine CallE.intro _ (uValid _ (repairS s).text (by omega)) ?_ | refine CallE.introA (uValid _ (repairS s).text (by omega)) (by repeat (first | exact trivial | exact .inl (.inl rfl) | exact .inl (.inr ⟨_, rfl, rfl⟩) | exact .inl rfl | exact .inr ⟨_, rfl, rfl⟩ | refine .inr ⟨_, _, rfl, rfl, ?_⟩ | refine ⟨?_, ?_⟩)) ?_ | refine CallE.intro _ (fun _ => uValid _ (repairS s).text (by omega)) ?_ | refine CallE.intro _ (fun _ => SCall.arg (by repeat (first | exact trivial | exact .inl (.inl rfl) | exact .inl (.inr ⟨_, rfl, rfl⟩) | exact .inl rfl | exact .inr ⟨_, rfl, rfl⟩ | refine .inr ⟨_, _, rfl, rfl, ?_⟩ | refine ⟨?_, ?_⟩)) (uValid _ (repairS s).text (by omega))) ?_ | refine CallE2.intro _ _ (uValid _ (repairS s).text (by omega)) ?_ | refine CallE2.intro _ _ (SCall.arg (by repeat (first | exact trivial | exact .inl (.inl rfl) | exact .inl (.inr ⟨_, rfl, rfl⟩) | exact .inl rfl | exact .inr ⟨_, rfl, rfl⟩ | refine .inr ⟨_, _, rfl, rfl, ?_⟩ | refine ⟨?_, ?_⟩)) (uValid _ (repairS s).text (by omega))) ?_)
  (repeat (first | simp -dsimp only [st_run, sz_run, st1_run, cl_run, st_Str, sz_Str, st1_Str, cl_Str, st_c, sz_c, st1_c, cl_c, st_wlk, sz_wlk, st1_wlk, cl_wlk, hvr, RB, TB, keep9, tab9, ewOp, xop, xindexAddr, xindex, xslice, xconvert, xlen, drawStep, FreeW, SameW, ChangeW, limBytes, Nat.reduceBEq, Nat.reduceAdd, Nat.reduceEqDiff, Nat.reduceLT, Nat.reduceLeDiff, Nat.reduceMul, Nat.reduceSub, Int.reduceBEq, Int.reduceBNe, Int.reduceToNat, Int.reduceLT, Int.reduceLE, Int.reduceGT, Int.reduceGE, Int.reduceAdd, Int.reduceSub, Int.reduceNeg, Int.reduceEq, Int.toNat_zero, Int.toNat_one, reduceIte, reduceCtorEq, ne_eq, decide_true, decide_false] | ((with_reducible refine Need.intro ?_ ?_); (first | trivial | omega | (simp; done) | (simp; omega)))))
  (first | refine SCall.then (rOf _ (repairS (repairS s)) hrol) ?_ | refine SCall.thenA (rOf _ (repairS (repairS s)) hrol) (by repeat (first | exact trivial | exact .inl (.inl rfl) | exact .inl (.inr ⟨_, rfl, rfl⟩) | exact .inl rfl | exact .inr ⟨_, rfl, rfl⟩ | refine .inr ⟨_, _, rfl, rfl, ?_⟩ | refine ⟨?_, ?_⟩)) ?_ | refine CallE.intro _ (rOf _ (repairS (repairS s)) hrol) ?_ | refine CallE.introA (rOf _ (repairS (repairS s)) hrol) (by repeat (first | exact trivial | exact .inl (.inl rfl) | exact .inl (.inr ⟨_, rfl, rfl⟩) | exact .inl rfl | exact .inr ⟨_, rfl, rfl⟩ | refine .inr ⟨_, _, rfl, rfl, ?_⟩ | refine ⟨?_, ?_⟩)) ?_ | refine CallE.intro _ (fun _ => rOf _ (repairS (repairS s)) hrol) ?_ | refine CallE.intro _ (fun _ => SCall.arg (by repeat (first | exact trivial | exact .inl (.inl rfl) | exact .inl (.inr ⟨_, rfl, rfl⟩) | exact .inl rfl | exact .inr ⟨_, rfl, rfl⟩ | refine .inr ⟨_, _, rfl, rfl, ?_⟩ | refine ⟨?_, ?_⟩)) (rOf _ (repairS (repairS s)) hrol)) ?_ | refine CallE2.intro _ _ (rOf _ (repairS (repairS s)) hrol) ?_ | refine CallE2.intro _ _ (SCall.arg (by repeat (first | exact trivial | exact .inl (.inl rfl) | exact .inl (.inr ⟨_, rfl, rfl⟩) | exact .inl rfl | exact .inr ⟨_, rfl, rfl⟩ | refine .inr ⟨_, _, rfl, rfl, ?_⟩ | refine ⟨?_, ?_⟩)) (rOf _ (repairS (repairS s)) hrol)) ?_)
  (repeat (first | simp -dsimp only [st_run, sz_run, st1_run, cl_run, st_Str, sz_Str, st1_Str, cl_Str, st_c, sz_c, st1_c, cl_c, st_wlk, sz_wlk, st1_wlk, cl_wlk, RB, TB, keep9, tab9, ewOp, xop, xindexAddr, xindex, xslice, xconvert, xlen, drawStep, FreeW, SameW, ChangeW, limBytes, Nat.reduceBEq, Nat.reduceAdd, Nat.reduceEqDiff, Nat.reduceLT, Nat.reduceLeDiff, Nat.reduceMul, Nat.reduceSub, Int.reduceBEq, Int.reduceBNe, Int.reduceToNat, Int.reduceLT, Int.reduceLE, Int.reduceGT, Int.reduceGE, Int.reduceAdd, Int.reduceSub, Int.reduceNeg, Int.reduceEq, Int.toNat_zero, Int.toNat_one, reduceIte, reduceCtorEq, ne_eq, decide_true, decide_false] | ((with_reducible refine Need.intro ?_ ?_); (first | trivial | omega | (simp; done) | (simp; omega)))))
  (first | refine SCall.then (rOf _ (repairS s) hro) ?_ | refine SCall.thenA (rOf _ (repairS s) hro) (by repeat (first | exact trivial | exact .inl (.inl rfl) | exact .inl (.inr ⟨_, rfl, rfl⟩) | exact .inl rfl | exact .inr ⟨_, rfl, rfl⟩ | refine .inr ⟨_, _, rfl, rfl, ?_⟩ | refine ⟨?_, ?_⟩)) ?_ | refine CallE.intro _ (rOf _ (repairS s) hro) ?_ | refine CallE.introA (rOf _ (repairS s) hro) (by repeat (first | exact trivial | exact .inl (.inl rfl) | exact .inl (.inr ⟨_, rfl, rfl⟩) | exact .inl rfl | exact .inr ⟨_, rfl, rfl⟩ | refine .inr ⟨_, _, rfl, rfl, ?_⟩ | refine ⟨?_, ?_⟩)) ?_ | refine CallE.intro _ (fun _ => rOf _ (repairS s) hro) ?_ | refine CallE.intro _ (fun _ => SCall.arg (by repeat (first | exact trivial | exact .inl (.inl rfl) | exact .inl (.inr ⟨_, rfl, rfl⟩) | exact .inl rfl | exact .inr ⟨_, rfl, rfl⟩ | refine .inr ⟨_, _, rfl, rfl, ?_⟩ | refine ⟨?_, ?_⟩)) (rOf _ (repairS s) hro)) ?_ | refine CallE2.intro _ _ (rOf _ (repairS s) hro) ?_ | refine CallE2.intro _ _ (SCall.arg (by repeat (first | exact trivial | exact .inl (.inl rfl) | exact .inl (.inr ⟨_, rfl, rfl⟩) | exact .inl rfl | exact .inr ⟨_, rfl, rfl⟩ | refine .inr ⟨_, _, rfl, rfl, ?_⟩ | refine ⟨?_, ?_⟩)) (rOf _ (repairS s) hro)) ?_)
  (repeat (first | simp -dsimp only [st_run, sz_run, st1_run, cl_run, st_Str, sz_Str, st1_Str, cl_Str, st_c, sz_c, st1_c, cl_c, st_wlk, sz_wlk, st1_wlk, cl_wlk, RB, TB, keep9, tab9, ewOp, xop, xindexAddr, xindex, xslice, xconvert, xlen, drawStep, FreeW, SameW, ChangeW, limBytes, Nat.reduceBEq, Nat.reduceAdd, Nat.reduceEqDiff, Nat.reduceLT, Nat.reduceLeDiff, Nat.reduceMul, Nat.reduceSub, Int.reduceBEq, Int.reduceBNe, Int.reduceToNat, Int.reduceLT, Int.reduceLE, Int.reduceGT, Int.reduceGE, Int.reduceAdd, Int.reduceSub, Int.reduceNeg, Int.reduceEq, Int.toNat_zero, Int.toNat_one, reduceIte, reduceCtorEq, ne_eq, decide_true, decide_false] | ((with_reducible refine Need.intro ?_ ?_); (first | trivial | omega | (simp; done) | (simp; omega)))))
  (first | refine SCall.then (rSame _ (ofS (repairS (repairS s))) (ofS (repairS s))) ?_ | refine SCall.thenA (rSame _ (ofS (repairS (repairS s))) (ofS (repairS s))) (by repeat (first | exact trivial | exact .inl (.inl rfl) | exact .inl (.inr ⟨_, rfl, rfl⟩) | exact .inl rfl | exact .inr ⟨_, rfl, rfl⟩ | refine .inr ⟨_, _, rfl, rfl, ?_⟩ | refine ⟨?_, ?_⟩)) ?_ | refine CallE.intro _ (rSame _ (ofS (repairS (repairS s))) (ofS (repairS s))) ?_ | refine CallE.introA (rSame _ (ofS (repairS (repairS s))) (ofS (repairS s))) (by repeat (first | exact trivial | exact .inl (.inl rfl) | exact .inl (.inr ⟨_, rfl, rfl⟩) | exact .inl rfl | exact .inr ⟨_, rfl, rfl⟩ | refine .inr ⟨_, _, rfl, rfl, ?_⟩ | refine ⟨?_, ?_⟩)) ?_ | refine CallE.intro _ (fun _ => rSame _ (ofS (repairS (repairS s))) (ofS (repairS s))) ?_ | refine CallE.intro _ (fun _ => SCall.arg (by repeat (first | exact trivial | exact .inl (.inl rfl) | exact .inl (.inr ⟨_, rfl, rfl⟩) | exact .inl rfl | exact .inr ⟨_, rfl, rfl⟩ | refine .inr ⟨_, _, rfl, rfl, ?_⟩ | refine ⟨?_, ?_⟩)) (rSame _ (ofS (repairS (repairS s))) (ofS (repairS s)))) ?_ | refine CallE2.intro _ _ (rSame _ (ofS (repairS (repairS s))) (ofS (repairS s))) ?_ | refine CallE2.intro _ _ (SCall.arg (by repeat (first | exact trivial | exact .inl (.inl rfl) | exact .inl (.inr ⟨_, rfl, rfl⟩) | exact .inl rfl | exact .inr ⟨_, rfl, rfl⟩ | refine .inr ⟨_, _, rfl, rfl, ?_⟩ | refine ⟨?_, ?_⟩)) (rSame _ (ofS (repairS (repairS s))) (ofS (repairS s)))) ?_)
  (repeat (first | simp -dsimp only [st_run, sz_run, st1_run, cl_run, st_Str, sz_Str, st1_Str, cl_Str, st_c, sz_c, st1_c, cl_c, st_wlk, sz_wlk, st1_wlk, cl_wlk, hback, decide_true, RB, TB, keep9, tab9, ewOp, xop, xindexAddr, xindex, xslice, xconvert, xlen, drawStep, FreeW, SameW, ChangeW, limBytes, Nat.reduceBEq, Nat.reduceAdd, Nat.reduceEqDiff, Nat.reduceLT, Nat.reduceLeDiff, Nat.reduceMul, Nat.reduceSub, Int.reduceBEq, Int.reduceBNe, Int.reduceToNat, Int.reduceLT, Int.reduceLE, Int.reduceGT, Int.reduceGE, Int.reduceAdd, Int.reduceSub, Int.reduceNeg, Int.reduceEq, Int.toNat_zero, Int.toNat_one, reduceIte, reduceCtorEq, ne_eq, decide_true, decide_false] | ((with_reducible refine Need.intro ?_ ?_); (first | trivial | omega | (simp; done) | (simp; omega)))))
  (first | refine SCall.then (uRune _ n) ?_ | refine SCall.thenA (uRune _ n) (by repeat (first | exact trivial | exact .inl (.inl rfl) | exact .inl (.inr ⟨_, rfl, rfl⟩) | exact .inl rfl | exact .inr ⟨_, rfl, rfl⟩ | refine .inr ⟨_, _, rfl, rfl, ?_⟩ | refine ⟨?_, ?_⟩)) ?_ | refine CallE.intro _ (uRune _ n) ?_ | refine CallE.introA (uRune _ n) (by repeat (first | exact trivial | exact .inl (.inl rfl) | exact .inl (.inr ⟨_, rfl, rfl⟩) | exact .inl rfl | exact .inr ⟨_, rfl, rfl⟩ | refine .inr ⟨_, _, rfl, rfl, ?_⟩ | refine ⟨?_, ?_⟩)) ?_ | refine CallE.intro _ (fun _ => uRune _ n) ?_ | refine CallE.intro _ (fun _ => SCall.arg (by repeat (first | exact trivial | exact .inl (.inl rfl) | exact .inl (.inr ⟨_, rfl, rfl⟩) | exact .inl rfl | exact .inr ⟨_, rfl, rfl⟩ | refine .inr ⟨_, _, rfl, rfl, ?_⟩ | refine ⟨?_, ?_⟩)) (uRune _ n)) ?_ | refine CallE2.intro _ _ (uRune _ n) ?_ | refine CallE2.intro _ _ (SCall.arg (by repeat (first | exact trivial | exact .inl (.inl rfl) | exact .inl (.inr ⟨_, rfl, rfl⟩) | exact .inl rfl | exact .inr ⟨_, rfl, rfl⟩ | refine .inr ⟨_, _, rfl, rfl, ?_⟩ | refine ⟨?_, ?_⟩)) (uRune _ n)) ?_)
  (repeat (first | simp -dsimp only [st_run, sz_run, st1_run, cl_run, st_Str, sz_Str, st1_Str, cl_Str, st_c, sz_c, st1_c, cl_c, st_wlk, sz_wlk, st1_wlk, cl_wlk, RB, TB, keep9, tab9, ewOp, xop, xindexAddr, xindex, xslice, xconvert, xlen, drawStep, FreeW, SameW, ChangeW, limBytes, Nat.reduceBEq, Nat.reduceAdd, Nat.reduceEqDiff, Nat.reduceLT, Nat.reduceLeDiff, Nat.reduceMul, Nat.reduceSub, Int.reduceBEq, Int.reduceBNe, Int.reduceToNat, Int.reduceLT, Int.reduceLE, Int.reduceGT, Int.reduceGE, Int.reduceAdd, Int.reduceSub, Int.reduceNeg, Int.reduceEq, Int.toNat_zero, Int.toNat_one, reduceIte, reduceCtorEq, ne_eq, decide_true, decide_false] | ((with_reducible refine Need.intro ?_ ?_); (first | trivial | omega | (simp; done) | (simp; omega)))))
  (first | refine SCall.then (uValid _ (runeN n) (by have := runeN_len n; omega)) ?_ | refine SCall.thenA (uValid _ (runeN n) (by have := runeN_len n; omega)) (by repeat (first | exact trivial | exact .inl (.inl rfl) | exact .inl (.inr ⟨_, rfl, rfl⟩) | exact .inl rfl | exact .inr ⟨_, rfl, rfl⟩ | refine .inr ⟨_, _, rfl, rfl, ?_⟩ | refine ⟨?_, ?_⟩)) ?_ | refine CallE.intro _ (uValid _ (runeN n) (by have := runeN_len n; omega)) ?_ | refine CallE.introA (uValid _ (runeN n) (by have := runeN_len n; omega)) (by repeat (first | exact trivial | exact .inl (.inl rfl) | exact .inl (.inr ⟨_, rfl, rfl⟩) | exact .inl rfl | exact .inr ⟨_, rfl, rfl⟩ | refine .inr ⟨_, _, rfl, rfl, ?_⟩ | refine ⟨?_, ?_⟩)) ?_ | refine CallE.intro _ (fun _ => uValid _ (runeN n) (by have := runeN_len n; omega)) ?_ | refine CallE.intro _ (fun _ => SCall.arg (by repeat (first | exact trivial | exact .inl (.inl rfl) | exact .inl (.inr ⟨_, rfl, rfl⟩) | exact .inl rfl | exact .inr ⟨_, rfl, rfl⟩ | refine .inr ⟨_, _, rfl, rfl, ?_⟩ | refine ⟨?_, ?_⟩)) (uValid _ (runeN n) (by have := runeN_len n; omega))) ?_ | refine CallE2.intro _ _ (uValid _ (runeN n) (by have := runeN_len n; omega)) ?_ | refine CallE2.intro _ _ (SCall.arg (by repeat (first | exact trivial | exact .inl (.inl rfl) | exact .inl (.inr ⟨_, rfl, rfl⟩) | exact .inl rfl | exact .inr ⟨_, rfl, rfl⟩ | refine .inr ⟨_, _, rfl, rfl, ?_⟩ | refine ⟨?_, ?_⟩)) (uValid _ (runeN n) (by have := runeN_len n; omega))) ?_)
  (repeat (first | simp -dsimp only [st_run, sz_run, st1_run, cl_run, st_Str, sz_Str, st1_Str, cl_Str, st_c, sz_c, st1_c, cl_c, st_wlk, sz_wlk, st1_wlk, cl_wlk, hrn, RB, TB, keep9, tab9, ewOp, xop, xindexAddr, xindex, xslice, xconvert, xlen, drawStep, FreeW, SameW, ChangeW, limBytes, Nat.reduceBEq, Nat.reduceAdd, Nat.reduceEqDiff, Nat.reduceLT, Nat.reduceLeDiff, Nat.reduceMul, Nat.reduceSub, Int.reduceBEq, Int.reduceBNe, Int.reduceToNat, Int.reduceLT, Int.reduceLE, Int.reduceGT, Int.reduceGE, Int.reduceAdd, Int.reduceSub, Int.reduceNeg, Int.reduceEq, Int.toNat_zero, Int.toNat_one, reduceIte, reduceCtorEq, ne_eq, decide_true, decide_false] | ((with_reducible refine Need.intro ?_ ?_); (first | trivial | omega | (simp; done) | (simp; omega)))))
  (first | refine SCall.then (uValid _ s.text (by omega)) ?_ | refine SCall.thenA (uValid _ s.text (by omega)) (by repeat (first | exact trivial | exact .inl (.inl rfl) | exact .inl (.inr ⟨_, rfl, rfl⟩) | exact .inl rfl | exact .inr ⟨_, rfl, rfl⟩ | refine .inr ⟨_, _, rfl, rfl, ?_⟩ | refine ⟨?_, ?_⟩)) ?_ | refine CallE.intro _ (uValid _ s.text (by omega)) ?_ | refine CallE.introA (uValid _ s.text (by omega)) (by repeat (first | exact trivial | exact .inl (.inl rfl) | exact .inl (.inr ⟨_, rfl, rfl⟩) | exact .inl rfl | exact .inr ⟨_, rfl, rfl⟩ | refine .inr ⟨_, _, rfl, rfl, ?_⟩ | refine ⟨?_, ?_⟩)) ?_ | refine CallE.intro _ (fun _ => uValid _ s.text (by omega)) ?_ | refine CallE.intro _ (fun _ => SCall.arg (by repeat (first | exact trivial | exact .inl (.inl rfl) | exact .inl (.inr ⟨_, rfl, rfl⟩) | exact .inl rfl | exact .inr ⟨_, rfl, rfl⟩ | refine .inr ⟨_, _, rfl, rfl, ?_⟩ | refine ⟨?_, ?_⟩)) (uValid _ s.text (by omega))) ?_ | refine CallE2.intro _ _ (uValid _ s.text (by omega)) ?_ | refine CallE2.intro _ _ (SCall.arg (by repeat (first | exact trivial | exact .inl (.inl rfl) | exact .inl (.inr ⟨_, rfl, rfl⟩) | exact .inl rfl | exact .inr ⟨_, rfl, rfl⟩ | refine .inr ⟨_, _, rfl, rfl, ?_⟩ | refine ⟨?_, ?_⟩)) (uValid _ s.text (by omega))) ?_)
  (repeat (first | simp -dsimp only [st_run, sz_run, st1_run, cl_run, st_Str, sz_Str, st1_Str, cl_Str, st_c, sz_c, st1_c, cl_c, st_wlk, sz_wlk, st1_wlk, cl_wlk, RB, TB, keep9, tab9, ewOp, xop, xindexAddr, xindex, xslice, xconvert, xlen, drawStep, FreeW, SameW, ChangeW, limBytes, Nat.reduceBEq, Nat.reduceAdd, Nat.reduceEqDiff, Nat.reduceLT, Nat.reduceLeDiff, Nat.reduceMul, Nat.reduceSub, Int.reduceBEq, Int.reduceBNe, Int.reduceToNat, Int.reduceLT, Int.reduceLE, Int.reduceGT, Int.reduceGE, Int.reduceAdd, Int.reduceSub, Int.reduceNeg, Int.reduceEq, Int.toNat_zero, Int.toNat_one, reduceIte, reduceCtorEq, ne_eq, decide_true, decide_false] | ((with_reducible refine Need.intro ?_ ?_); (first | trivial | omega | (simp; done) | (simp; omega)))))
  cases hv : validU s.text
  · (repeat (first | simp -dsimp only [st_run, sz_run, st1_run, cl_run, st_Str, sz_Str, st1_Str, cl_Str, st_c, sz_c, st1_c, cl_c, st_wlk, sz_wlk, st1_wlk, cl_wlk, hv, RB, TB, keep9, tab9, ewOp, xop, xindexAddr, xindex, xslice, xconvert, xlen, drawStep, FreeW, SameW, ChangeW, limBytes, Nat.reduceBEq, Nat.reduceAdd, Nat.reduceEqDiff, Nat.reduceLT, Nat.reduceLeDiff, Nat.reduceMul, Nat.reduceSub, Int.reduceBEq, Int.reduceBNe, Int.reduceToNat, Int.reduceLT, Int.reduceLE, Int.reduceGT, Int.reduceGE, Int.reduceAdd, Int.reduceSub, Int.reduceNeg, Int.reduceEq, Int.toNat_zero, Int.toNat_one, reduceIte, reduceCtorEq, ne_eq, decide_true, decide_false] | ((with_reducible refine Need.intro ?_ ?_); (first | trivial | omega | (simp; done) | (simp; omega)))))
    refine RetW.auto0 false _ (by first | rfl | exact (List.append_nil _).symm) ?_ ?_
    · (simp (maxDischargeDepth := 6) [LTB, HLt_set, ltL_take, ltL_drop, ltL_rep, ltL_set, upd, eset, hH, hHk, lt_vi, lt_str, lt_vb, ltc_str, ltc_vi, lt_run, lt1_run, ltc_run, lt_Str, lt1_Str, ltc_Str, lt_c, lt1_c, ltc_c, lt_wlk, lt1_wlk, ltc_wlk] <;> omega)
    (try simp only [wk, wk1, wk0, RB, limBytes, Nat.reduceBEq, Nat.reduceAdd, Nat.reduceEqDiff, Nat.reduceLT, Nat.reduceLeDiff, Nat.reduceMul, Nat.reduceSub, Int.reduceBEq, Int.reduceBNe, Int.reduceToNat, Int.reduceLT, Int.reduceLE, Int.reduceGT, Int.reduceGE, Int.reduceAdd, Int.reduceSub, Int.reduceNeg, Int.reduceEq, Int.toNat_zero, Int.toNat_one, reduceIte, reduceCtorEq, ne_eq, decide_true, decide_false])
    (try (rw [List.take_of_length_le]; rotate_left 1; (· first | (simp; done) | (simp; omega) | omega)))
  · (repeat (first | simp -dsimp only [st_run, sz_run, st1_run, cl_run, st_Str, sz_Str, st1_Str, cl_Str, st_c, sz_c, st1_c, cl_c, st_wlk, sz_wlk, st1_wlk, cl_wlk, hv, RB, TB, keep9, tab9, ewOp, xop, xindexAddr, xindex, xslice, xconvert, xlen, drawStep, FreeW, SameW, ChangeW, limBytes, Nat.reduceBEq, Nat.reduceAdd, Nat.reduceEqDiff, Nat.reduceLT, Nat.reduceLeDiff, Nat.reduceMul, Nat.reduceSub, Int.reduceBEq, Int.reduceBNe, Int.reduceToNat, Int.reduceLT, Int.reduceLE, Int.reduceGT, Int.reduceGE, Int.reduceAdd, Int.reduceSub, Int.reduceNeg, Int.reduceEq, Int.toNat_zero, Int.toNat_one, reduceIte, reduceCtorEq, ne_eq, decide_true, decide_false] | ((with_reducible refine Need.intro ?_ ?_); (first | trivial | omega | (simp; done) | (simp; omega)))))
    (first | refine SCall.then (rOf _ (repairS s) hro) ?_ | refine SCall.thenA (rOf _ (repairS s) hro) (by repeat (first | exact trivial | exact .inl (.inl rfl) | exact .inl (.inr ⟨_, rfl, rfl⟩) | exact .inl rfl | exact .inr ⟨_, rfl, rfl⟩ | refine .inr ⟨_, _, rfl, rfl, ?_⟩ | refine ⟨?_, ?_⟩)) ?_ | refine CallE.intro _ (rOf _ (repairS s) hro) ?_ | refine CallE.introA (rOf _ (repairS s) hro) (by repeat (first | exact trivial | exact .inl (.inl rfl) | exact .inl (.inr ⟨_, rfl, rfl⟩) | exact .inl rfl | exact .inr ⟨_, rfl, rfl⟩ | refine .inr ⟨_, _, rfl, rfl, ?_⟩ | refine ⟨?_, ?_⟩)) ?_ | refine CallE.intro _ (fun _ => rOf _ (repairS s) hro) ?_ | refine CallE.intro _ (fun _ => SCall.arg (by repeat (first | exact trivial | exact .inl (.inl rfl) | exact .inl (.inr ⟨_, rfl, rfl⟩) | exact .inl rfl | exact .inr ⟨_, rfl, rfl⟩ | refine .inr ⟨_, _, rfl, rfl, ?_⟩ | refine ⟨?_, ?_⟩)) (rOf _ (repairS s) hro)) ?_ | refine CallE2.intro _ _ (rOf _ (repairS s) hro) ?_ | refine CallE2.intro _ _ (SCall.arg (by repeat (first | exact trivial | exact .inl (.inl rfl) | exact .inl (.inr ⟨_, rfl, rfl⟩) | exact .inl rfl | exact .inr ⟨_, rfl, rfl⟩ | refine .inr ⟨_, _, rfl, rfl, ?_⟩ | refine ⟨?_, ?_⟩)) (rOf _ (repairS s) hro)) ?_)
    (repeat (first | simp -dsimp only [st_run, sz_run, st1_run, cl_run, st_Str, sz_Str, st1_Str, cl_Str, st_c, sz_c, st1_c, cl_c, st_wlk, sz_wlk, st1_wlk, cl_wlk, RB, TB, keep9, tab9, ewOp, xop, xindexAddr, xindex, xslice, xconvert, xlen, drawStep, FreeW, SameW, ChangeW, limBytes, Nat.reduceBEq, Nat.reduceAdd, Nat.reduceEqDiff, Nat.reduceLT, Nat.reduceLeDiff, Nat.reduceMul, Nat.reduceSub, Int.reduceBEq, Int.reduceBNe, Int.reduceToNat, Int.reduceLT, Int.reduceLE, Int.reduceGT, Int.reduceGE, Int.reduceAdd, Int.reduceSub, Int.reduceNeg, Int.reduceEq, Int.toNat_zero, Int.toNat_one, reduceIte, reduceCtorEq, ne_eq, decide_true, decide_false] | ((with_reducible refine Need.intro ?_ ?_); (first | trivial | omega | (simp; done) | (simp; omega)))))
    (first | refine SCall.then (rOf _ s hs) ?_ | refine SCall.thenA (rOf _ s hs) (by repeat (first | exact trivial | exact .inl (.inl rfl) | exact .inl (.inr ⟨_, rfl, rfl⟩) | exact .inl rfl | exact .inr ⟨_, rfl, rfl⟩ | refine .inr ⟨_, _, rfl, rfl, ?_⟩ | refine ⟨?_, ?_⟩)) ?_ | refine CallE.intro _ (rOf _ s hs) ?_ | refine CallE.introA (rOf _ s hs) (by repeat (first | exact trivial | exact .inl (.inl rfl) | exact .inl (.inr ⟨_, rfl, rfl⟩) | exact .inl rfl | exact .inr ⟨_, rfl, rfl⟩ | refine .inr ⟨_, _, rfl, rfl, ?_⟩ | refine ⟨?_, ?_⟩)) ?_ | refine CallE.intro _ (fun _ => rOf _ s hs) ?_ | refine CallE.intro _ (fun _ => SCall.arg (by repeat (first | exact trivial | exact .inl (.inl rfl) | exact .inl (.inr ⟨_, rfl, rfl⟩) | exact .inl rfl | exact .inr ⟨_, rfl, rfl⟩ | refine .inr ⟨_, _, rfl, rfl, ?_⟩ | refine ⟨?_, ?_⟩)) (rOf _ s hs)) ?_ | refine CallE2.intro _ _ (rOf _ s hs) ?_ | refine CallE2.intro _ _ (SCall.arg (by repeat (first | exact trivial | exact .inl (.inl rfl) | exact .inl (.inr ⟨_, rfl, rfl⟩) | exact .inl rfl | exact .inr ⟨_, rfl, rfl⟩ | refine .inr ⟨_, _, rfl, rfl, ?_⟩ | refine ⟨?_, ?_⟩)) (rOf _ s hs)) ?_)
    (repeat (first | simp -dsimp only [st_run, sz_run, st1_run, cl_run, st_Str, sz_Str, st1_Str, cl_Str, st_c, sz_c, st1_c, cl_c, st_wlk, sz_wlk, st1_wlk, cl_wlk, RB, TB, keep9, tab9, ewOp, xop, xindexAddr, xindex, xslice, xconvert, xlen, drawStep, FreeW, SameW, ChangeW, limBytes, Nat.reduceBEq, Nat.reduceAdd, Nat.reduceEqDiff, Nat.reduceLT, Nat.reduceLeDiff, Nat.reduceMul, Nat.reduceSub, Int.reduceBEq, Int.reduceBNe, Int.reduceToNat, Int.reduceLT, Int.reduceLE, Int.reduceGT, Int.reduceGE, Int.reduceAdd, Int.reduceSub, Int.reduceNeg, Int.reduceEq, Int.toNat_zero, Int.toNat_one, reduceIte, reduceCtorEq, ne_eq, decide_true, decide_false] | ((with_reducible refine Need.intro ?_ ?_); (first | trivial | omega | (simp; done) | (simp; omega)))))
    (first | refine SCall.then (rSame _ (ofS (repairS s)) (ofS s)) ?_ | refine SCall.thenA (rSame _ (ofS (repairS s)) (ofS s)) (by repeat (first | exact trivial | exact .inl (.inl rfl) | exact .inl (.inr ⟨_, rfl, rfl⟩) | exact .inl rfl | exact .inr ⟨_, rfl, rfl⟩ | refine .inr ⟨_, _, rfl, rfl, ?_⟩ | refine ⟨?_, ?_⟩)) ?_ | refine CallE.intro _ (rSame _ (ofS (repairS s)) (ofS s)) ?_ | refine CallE.introA (rSame _ (ofS (repairS s)) (ofS s)) (by repeat (first | exact trivial | exact .inl (.inl rfl) | exact .inl (.inr ⟨_, rfl, rfl⟩) | exact .inl rfl | exact .inr ⟨_, rfl, rfl⟩ | refine .inr ⟨_, _, rfl, rfl, ?_⟩ | refine ⟨?_, ?_⟩)) ?_ | refine CallE.intro _ (fun _ => rSame _ (ofS (repairS s)) (ofS s)) ?_ | refine CallE.intro _ (fun _ => SCall.arg (by repeat (first | exact trivial | exact .inl (.inl rfl) | exact .inl (.inr ⟨_, rfl, rfl⟩) | exact .inl rfl | exact .inr ⟨_, rfl, rfl⟩ | refine .inr ⟨_, _, rfl, rfl, ?_⟩ | refine ⟨?_, ?_⟩)) (rSame _ (ofS (repairS s)) (ofS s))) ?_ | refine CallE2.intro _ _ (rSame _ (ofS (repairS s)) (ofS s)) ?_ | refine CallE2.intro _ _ (SCall.arg (by repeat (first | exact trivial | exact .inl (.inl rfl) | exact .inl (.inr ⟨_, rfl, rfl⟩) | exact .inl rfl | exact .inr ⟨_, rfl, rfl⟩ | refine .inr ⟨_, _, rfl, rfl, ?_⟩ | refine ⟨?_, ?_⟩)) (rSame _ (ofS (repairS s)) (ofS s))) ?_)
    (repeat (first | simp -dsimp only [st_run, sz_run, st1_run, cl_run, st_Str, sz_Str, st1_Str, cl_Str, st_c, sz_c, st1_c, cl_c, st_wlk, sz_wlk, st1_wlk, cl_wlk, RB, TB, keep9, tab9, ewOp, xop, xindexAddr, xindex, xslice, xconvert, xlen, drawStep, FreeW, SameW, ChangeW, limBytes, Nat.reduceBEq, Nat.reduceAdd, Nat.reduceEqDiff, Nat.reduceLT, Nat.reduceLeDiff, Nat.reduceMul, Nat.reduceSub, Int.reduceBEq, Int.reduceBNe, Int.reduceToNat, Int.reduceLT, Int.reduceLE, Int.reduceGT, Int.reduceGE, Int.reduceAdd, Int.reduceSub, Int.reduceNeg, Int.reduceEq, Int.toNat_zero, Int.toNat_one, reduceIte, reduceCtorEq, ne_eq, decide_true, decide_false] | ((with_reducible refine Need.intro ?_ ?_); (first | trivial | omega | (simp; done) | (simp; omega)))))
    refine RetW.auto0 false _ (by first | rfl | exact (List.append_nil _).symm) ?_ ?_
    · (simp (maxDischargeDepth := 6) [LTB, HLt_set, ltL_take, ltL_drop, ltL_rep, ltL_set, upd, eset, hH, hHk, lt_vi, lt_str, lt_vb, ltc_str, ltc_vi, lt_run, lt1_run, ltc_run, lt_Str, lt1_Str, ltc_Str, lt_c, lt1_c, ltc_c, lt_wlk, lt1_wlk, ltc_wlk] <;> omega)
    (try simp only [wk, wk1, wk0, RB, limBytes, Nat.reduceBEq, Nat.reduceAdd, Nat.reduceEqDiff, Nat.reduceLT, Nat.reduceLeDiff, Nat.reduceMul, Nat.reduceSub, Int.reduceBEq, Int.reduceBNe, Int.reduceToNat, Int.reduceLT, Int.reduceLE, Int.reduceGT, Int.reduceGE, Int.reduceAdd, Int.reduceSub, Int.reduceNeg, Int.reduceEq, Int.toNat_zero, Int.toNat_one, reduceIte, reduceCtorEq, ne_eq, decide_true, decide_false])
    (try (rw [List.take_of_length_le]; rotate_left 1; (· first | (simp; done) | (simp; omega) | omega)))
    rw [hsame hv]
    simp
open Go.ChangeShapes Go.WideShapes Go.ChangeAt Go.RowKit in
theorem utfBack_lifted (os : Os) (started : os.Started) (H : Type) (enc : TypeId × Value → H) (F : Stop.Interp) :
    ReturnsInHanded {} Try.checked os 9 .any ((Rows.OpenSpec.upto Rows.utfBackSpec).pre6 enc Try.prog Try.f9 Rows.utfBackUptoRow.domain false) (((Rows.OpenSpec.upto Rows.utfBackSpec).at F).post enc Try.prog Try.f9 false true false false) := by
  refine returnsInHanded_of_cond (C := Try.checked) (s := Rows.OpenSpec.upto Rows.utfBackSpec) (k := Rows.uptoSmall) rfl own_none started (by kernel_rfl) Try.func9
    (OpenSpec.witness (enc := enc) (C := Try.checked) (s := Rows.OpenSpec.upto Rows.utfBackSpec) (k := Rows.uptoSmall) rfl false ⟨#[], #[.agg #[.string ⟨#[]⟩, .slice none 0 0], .int .i64 0], []⟩ 8 (by kernel_rfl) (by kernel_rfl) (by kernel_rfl)
      (x := ([.agg [.lit (.string []), .nil], .lit (.int .i64 0)], [], [])) (by kernel_rfl) rfl (by kernel_rfl)) ?_
  intro W base args ds gs before hval0 hW _ hk _
  have hval : ∀ (j : Nat) t v, Try.f9.params[j]? = some t → args[j]? = some v → Value.okWide Try.prog W .any base t v := hval0
  obtain ⟨p0_, q0_, hA, _⟩ := id hW
  have hA0 : DataW.TrodAll enc Try.prog W 0 (fun _ => true) true Try.f9.params.toList args.toList ds p0_ := hA
  rw [Try.params9] at hA0 hval
  obtain ⟨v0, v1, d0, d1, p0, p1, rfl, rfl, rfl, h0, h1⟩ := trodAll_two hA0
  obtain ⟨s, hp_s, hz_s, hv_s⟩ := dec_str.value h0 (fun _ => okAgg_agg (ok_struct Try.underlying59 (hval 0 59 v0 rfl rfl)))
  obtain ⟨n, hp_n, hz_n, hv_n⟩ := (Dec.int Try.underlying3).value h1 (fun _ => okAgg_leaf (by simp) (ok_int Try.underlying3 (hval 1 3 v1 rfl rfl)))
  have hb : Rows.uptoBulkAll ([d0, d1] ++ gs) ≤ 1048576 := of_decide_eq_true hk
  rw [← bulkAll_eq] at hb
  simp only [List.cons_append, bulkAll] at hb
  exact row_contract (P := Try.prog) (s := Rows.utfBackSpec) (vs := [strV s, .int .i64 n]) laid_out (by kernel_rfl) rfl Try.call9 rfl Try.underlying4 hW ⟨rfl, rfl, rfl⟩ ⟨hv_s, hv_n, trivial⟩ (utfBack [] s n (okS_sz (by omega)) (by have h_ : szS s ≤ 1048576 := (by omega); unfold szS at h_; omega))
theorem utfBack_upto : Rows.UtfBackUptoSaid :=
  OpenClaim.holds_of_cond 9 Try.f9 rfl rfl rfl rfl rfl rfl rfl ⟨rfl, rfl, rfl, rfl, rfl⟩ rfl rfl rfl rfl rfl (by kernel_rfl) Try.func9 (by kernel_rfl)
    (of_decide_eq_true (by kernel_rfl)) (by unfold Func.isWrapper; first | (rw [if_neg (by decide +kernel)]; exact ⟨rfl, rfl⟩) | (rw [if_pos (by decide +kernel)]; kernel_rfl))
    (fun os started H enc _ F => utfBack_lifted os started H enc F)
end Go.Proofs.Ytjhjcldpcngldaa

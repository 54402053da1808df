/- The plain law of repairing: what is put together of kept and replaced parts is, byte by byte, what the reference tells. -/
import Derived.Test.YtjhjcldpcngldaaUtf6
set_option linter.unusedSimpArgs false
set_option linter.unusedVariables false
set_option maxRecDepth 100000
namespace Go.Proofs.Ytjhjcldpcngldaa
open Go Go.EL
theorem ofS_fst (s : Str) : (ofS s).map Prod.fst = s.text := by
  unfold ofS
  rw [List.map_fst_zip (by rw [orig_len]; exact Nat.le_refl _)]
theorem ofS_snd (s : Str) : (ofS s).map Prod.snd = orig s := by
  unfold ofS
  rw [List.map_snd_zip (by rw [orig_len]; exact Nat.le_refl _)]
theorem cut_orig (s : Str) {f t : Nat} (h : f < t) (ht : t ≤ s.text.length) : orig (cutS s f t) = ((orig s).take t).drop f := by
  unfold cutS
  rw [if_neg (by omega)]
  refine orig_rle ?_ ?_
  · simp [orig_len]
  · intro o ho
    exact orig_near s o (List.mem_of_mem_take (List.mem_of_mem_drop ho))
theorem ofS_cut (s : Str) {f t : Nat} (ht : t ≤ s.text.length) : ofS (cutS s f t) = ((ofS s).take t).drop f := by
  by_cases h : t ≤ f
  · have e : cutS s f t = ⟨[], []⟩ := by unfold cutS; rw [if_pos h]
    rw [e, List.drop_eq_nil_of_le (by rw [List.length_take]; omega)]
    rfl
  · have := cut_orig s (f := f) (t := t) (by omega) ht
    have ht : (cutS s f t).text = (s.text.take t).drop f := by unfold cutS; rw [if_neg h]
    unfold ofS
    rw [this, ht]
    simp only [List.zip, List.take_zipWith, List.drop_zipWith]
theorem near_near (o : Int) : near (near o) = near o := near_id ⟨near_ge _, near_le _⟩
theorem foldmax_ge : ∀ (l : List Int) (a : Int), a ≤ l.foldl max a
  | [], a => Int.le_refl _
  | x :: l, a => Int.le_trans (Int.le_max_left a x) (foldmax_ge l (max a x))
theorem foldmax_putR (r : List (Int × Int)) (o a : Int) : ((putR r 1 o).map Prod.snd).foldl max a = max ((r.map Prod.snd).foldl max a) o := by
  unfold putR
  rw [if_neg (by omega)]
  cases hl : r.getLast? with
  | none =>
    rw [List.getLast?_eq_none_iff] at hl
    subst hl
    rfl
  | some q =>
    obtain ⟨k, o'⟩ := q
    obtain ⟨ys, rfl⟩ := List.getLast?_eq_some_iff.1 hl
    simp only
    by_cases ho : o' = o
    · subst ho
      rw [if_pos rfl, List.dropLast_concat]
      simp only [List.map_append, List.map_cons, List.map_nil, List.foldl_append, List.foldl_cons, List.foldl_nil]
      omega
    · rw [if_neg ho]
      simp only [List.map_append, List.map_cons, List.map_nil, List.foldl_append, List.foldl_cons, List.foldl_nil]
theorem foldmax_rle : ∀ (l : List Int) (r : List (Int × Int)) (a : Int), ((l.foldl (fun acc o => putR acc 1 o) r).map Prod.snd).foldl max a = l.foldl max ((r.map Prod.snd).foldl max a)
  | [], _, _ => rfl
  | o :: l, r, a => by
    rw [List.foldl_cons, foldmax_rle l, foldmax_putR]
    rfl
theorem worst_of (s : Str) : worstS s = worstC (ofS s) := by
  unfold worstS worstC
  rw [ofS_snd]
  exact foldmax_rle (orig s) [] 0
theorem ofS_wrong (s : Str) (w : Wlk) (h : w.pos + w.n ≤ s.text.length) : ofS (wrongS s w) = wrongC (worstC (((ofS s).take (w.pos + w.n)).drop w.pos)) := by
  have e : orig (wrongS s w) = List.replicate 3 (near (worstS (cutS s w.pos (w.pos + w.n)))) := orig_rle rfl (fun o ho => by rw [(List.mem_replicate.1 ho).2]; exact ⟨near_ge _, near_le _⟩)
  unfold ofS
  rw [e, worst_of, ofS_cut s h]
  rfl
theorem fsts_drop (C : List (UInt8 × Int)) (i : Nat) : fsts (C.drop i) = (fsts C).drop i := by unfold fsts; rw [List.map_drop]
theorem repair_law (s : Str) : ∀ (k i : Nat) (pl : List Str) (f : Nat), s.text.length - i ≤ k → i ≤ s.text.length → f ≤ i →
    ((repF s (wlks i (s.text.drop i)) (pl, f)).1 ++ [cutS s (repF s (wlks i (s.text.drop i)) (pl, f)).2 s.text.length]).flatMap ofS = pl.flatMap ofS ++ (((ofS s).take i).drop f ++ repR ((ofS s).drop i)) := by
  intro k
  have hC := ofS_len s
  have hf := ofS_fst s
  induction k with
  | zero =>
    intro i pl f hk hi hfi
    have : i = s.text.length := by omega
    subst this
    have hd0 : (ofS s).drop s.text.length = [] := List.drop_eq_nil_of_le (by omega)
    rw [List.drop_length, wlks, repF, List.flatMap_append, List.flatMap_cons, List.flatMap_nil, List.append_nil, ofS_cut s (Nat.le_refl _), hd0, repR_nil, List.append_nil]
  | succ k ih =>
    intro i pl f hk hi hfi
    by_cases he : i = s.text.length
    · subst he
      have hd0 : (ofS s).drop s.text.length = [] := List.drop_eq_nil_of_le (by omega)
      rw [List.drop_length, wlks, repF, List.flatMap_append, List.flatMap_cons, List.flatMap_nil, List.append_nil, ofS_cut s (Nat.le_refl _), hd0, repR_nil, List.append_nil]
    have hlt : 0 < (s.text.drop i).length := by rw [List.length_drop]; omega
    have hltC : 0 < ((ofS s).drop i).length := by rw [List.length_drop]; omega
    have hfd : fsts ((ofS s).drop i) = s.text.drop i := by rw [fsts_drop]; unfold fsts; rw [hf]
    have hrc := repR_cons hltC
    have hnp := next_posC hltC
    rw [hfd, List.length_drop] at hnp
    have hhd : (s.text.drop i).headD 0 = (s.text.drop i)[0] := by
      rw [List.headD_eq_head?_getD, List.head?_eq_getElem?, List.getElem?_eq_getElem hlt]
      rfl
    rw [wlks_cons i hlt]
    unfold oneC okC2 at hrc
    rw [hfd, hhd] at hrc
    rw [hrc, List.drop_drop, List.drop_drop]
    generalize hnx : nextU (s.text.drop i) = nx at *
    obtain ⟨n, ok⟩ := nx
    simp only at hnp ⊢
    rw [repF]
    simp only
    cases hok : (ok && (s.text.drop i)[0] != 0) with
    | true =>
      rw [if_pos rfl, if_pos rfl, ih (i + n) pl f (by omega) (by omega) (by omega)]
      congr 1
      rw [← List.append_assoc]
      congr 1
      rw [List.take_add, List.drop_append_of_le_length (by rw [List.length_take]; omega)]
    | false =>
      rw [if_neg (by decide), if_neg (by decide), ih (i + n) _ (i + n) (by omega) (by omega) (Nat.le_refl _)]
      simp only [List.flatMap_append, List.flatMap_cons, List.flatMap_nil, List.append_nil]
      rw [ofS_cut s hi, ofS_wrong s _ (by simp only; omega)]
      simp only
      have e1 : ((ofS s).take (i + n)).drop (i + n) = [] := List.drop_eq_nil_of_le (by rw [List.length_take]; omega)
      have e2 : ((ofS s).take (i + n)).drop i = ((ofS s).drop i).take n := by rw [List.drop_take, Nat.add_sub_cancel_left]
      rw [e1, e2, List.nil_append]
      simp only [List.append_assoc]
theorem flat_fst : ∀ l : List Str, (l.flatMap ofS).map Prod.fst = l.flatMap Str.text
  | [] => rfl
  | s :: l => by simp only [List.flatMap_cons, List.map_append, flat_fst l, ofS_fst]
theorem flat_snd : ∀ l : List Str, (l.flatMap ofS).map Prod.snd = l.flatMap orig
  | [] => rfl
  | s :: l => by simp only [List.flatMap_cons, List.map_append, flat_snd l, ofS_snd]
/-- what is repaired is as the reference tells -/
theorem repair_is (s : Str) : repairS s = strR (repR (ofS s)) := by
  have h := repair_law s s.text.length 0 [] 0 (by omega) (by omega) (by omega)
  simp only [List.drop_zero, List.take_zero, List.drop_nil, List.flatMap_nil, List.nil_append] at h
  unfold repairS catS strR
  rw [← h, flat_fst, flat_snd]
theorem rep_near (C : List (UInt8 × Int)) (h : ∀ x ∈ C, 0 ≤ x.2 ∧ x.2 ≤ 65536) : ∀ (k : Nat) (l : List (UInt8 × Int)), (∀ x ∈ l, 0 ≤ x.2 ∧ x.2 ≤ 65536) → ∀ x ∈ repK k l, 0 ≤ x.2 ∧ x.2 ≤ 65536
  | 0, _, _, x, hx => by cases hx
  | k + 1, l, hl, x, hx => by
    rw [repK] at hx
    split at hx
    · cases hx
    · rcases List.mem_append.1 hx with hx | hx
      · unfold oneC at hx
        split at hx
        · exact hl x (List.mem_of_mem_take hx)
        · unfold wrongC at hx
          obtain ⟨c, _, rfl⟩ := List.mem_map.1 hx
          exact ⟨near_ge _, near_le _⟩
      · exact rep_near C h k _ (fun y hy => hl y (List.mem_of_mem_drop hy)) x hx
theorem ofS_near (s : Str) : ∀ x ∈ ofS s, 0 ≤ x.2 ∧ x.2 ≤ 65536 := fun x hx => by
  have : x.2 ∈ (ofS s).map Prod.snd := List.mem_map.2 ⟨x, hx, rfl⟩
  rw [ofS_snd] at this
  exact orig_near s _ this
theorem zip_map (l : List (UInt8 × Int)) : (l.map Prod.fst).zip (l.map Prod.snd) = l := by
  induction l with
  | nil => rfl
  | cons x l ih => simp only [List.map_cons, List.zip_cons_cons, ih]
theorem ofS_strR (l : List (UInt8 × Int)) (h : ∀ x ∈ l, 0 ≤ x.2 ∧ x.2 ≤ 65536) : ofS (strR l) = l := by
  unfold ofS strR
  rw [orig_rle (by simp) (fun o ho => by obtain ⟨x, hx, rfl⟩ := List.mem_map.1 ho; exact h x hx)]
  exact zip_map l
theorem ofS_repair (s : Str) : ofS (repairS s) = repR (ofS s) := by
  rw [repair_is]
  exact ofS_strR _ (rep_near (ofS s) (ofS_near s) _ _ (ofS_near s))
theorem rep_len : ∀ (k : Nat) (l : List (UInt8 × Int)), (repK k l).length ≤ 3 * l.length
  | 0, l => by simp [repK]
  | k + 1, l => by
    rw [repK]
    split
    · simp
    · have h1 := one_len l (by omega)
      have h2 := rep_len k (l.drop (nextU (fsts l)).1)
      have h3 := next_posC (l := l) (by omega)
      rw [List.length_drop] at h2
      rw [List.length_append]
      omega
theorem repair_len (s : Str) : (repairS s).text.length ≤ 3 * s.text.length := by
  have := rep_len (ofS s).length (ofS s)
  rw [ofS_len] at this
  rw [repair_is]
  simp only [strR, List.length_map, repR, ofS_len]
  exact this
theorem repair_ok (s : Str) (h : s.text.length ≤ 10000000) : okS (repairS s) := by
  have h1 := repair_len s
  refine ⟨by omega, ?_⟩
  rw [repair_is] at h1 ⊢
  simp only [strR, List.length_map] at h1 ⊢
  have := rle_len ((repR (ofS s)).map Prod.snd)
  rw [List.length_map] at this
  omega
end Go.Proofs.Ytjhjcldpcngldaa

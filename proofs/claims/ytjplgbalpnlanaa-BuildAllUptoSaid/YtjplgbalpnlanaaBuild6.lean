/- The walks of the law's own functions: void, open2, kids. -/
import Derived.Test.YtjplgbalpnlanaaBuild5
set_option maxHeartbeats 600000
set_option linter.unusedSimpArgs false
set_option linter.unusedVariables false
set_option maxRecDepth 100000
namespace Go.Proofs.Ytjplgbalpnlanaa
open Go Go.EL
theorem zrBuild61 : type_of% (And.intro (And.intro (And.intro (And.intro (@st_run) (And.intro (@sz_run) (@st1_run))) (And.intro (@cl_run) (And.intro (@st_Str) (@sz_Str)))) (And.intro (And.intro (@st1_Str) (And.intro (@cl_Str) (@st_c))) (And.intro (@sz_c) (And.intro (@st1_c) (@cl_c))))) (And.intro (And.intro (And.intro (@st_attr) (And.intro (@sz_attr) (@st1_attr))) (And.intro (@cl_attr) (And.intro (@st_tree) (@sz_tree)))) (And.intro (And.intro (@st1_tree) (And.intro (@cl_tree) (@st_tok))) (And.intro (@sz_tok) (And.intro (@st1_tok) (@cl_tok)))))) := And.intro (And.intro (And.intro (And.intro (@st_run) (And.intro (@sz_run) (@st1_run))) (And.intro (@cl_run) (And.intro (@st_Str) (@sz_Str)))) (And.intro (And.intro (@st1_Str) (And.intro (@cl_Str) (@st_c))) (And.intro (@sz_c) (And.intro (@st1_c) (@cl_c))))) (And.intro (And.intro (And.intro (@st_attr) (And.intro (@sz_attr) (@st1_attr))) (And.intro (@cl_attr) (And.intro (@st_tree) (@sz_tree)))) (And.intro (And.intro (@st1_tree) (And.intro (@cl_tree) (@st_tok))) (And.intro (@sz_tok) (And.intro (@st1_tok) (@cl_tok)))))
theorem zlBuild61 : type_of% (And.intro (And.intro (And.intro (And.intro (@lt_vi) (@lt_str)) (And.intro (@lt_vb) (And.intro (@ltc_str) (@ltc_vi)))) (And.intro (And.intro (@lt_run) (And.intro (@lt1_run) (@ltc_run))) (And.intro (@lt_Str) (And.intro (@lt1_Str) (@ltc_Str))))) (And.intro (And.intro (And.intro (@lt_c) (And.intro (@lt1_c) (@ltc_c))) (And.intro (@lt_attr) (And.intro (@lt1_attr) (@ltc_attr)))) (And.intro (And.intro (@lt_tree) (And.intro (@lt1_tree) (@ltc_tree))) (And.intro (@lt_tok) (And.intro (@lt1_tok) (@ltc_tok)))))) := And.intro (And.intro (And.intro (And.intro (@lt_vi) (@lt_str)) (And.intro (@lt_vb) (And.intro (@ltc_str) (@ltc_vi)))) (And.intro (And.intro (@lt_run) (And.intro (@lt1_run) (@ltc_run))) (And.intro (@lt_Str) (And.intro (@lt1_Str) (@ltc_Str))))) (And.intro (And.intro (And.intro (@lt_c) (And.intro (@lt1_c) (@ltc_c))) (And.intro (@lt_attr) (And.intro (@lt1_attr) (@ltc_attr)))) (And.intro (And.intro (@lt_tree) (And.intro (@lt1_tree) (@ltc_tree))) (And.intro (@lt_tok) (And.intro (@lt1_tok) (@ltc_tok)))))
theorem Kd.suffix {op : List (List UInt8)} {l : List Toke} {acc out : List Tree} {r : List Toke} (h : Kd op l acc out r) : ∃ p, l = p ++ r := by
  induction h with
  | nil op acc => exact ⟨[], rfl⟩
  | stop op t l acc h h1 h2 => exact ⟨[], rfl⟩
  | void op t l acc out r h h1 k ih => obtain ⟨p, rfl⟩ := ih; exact ⟨t :: p, rfl⟩
  | data op t l acc out r h h1 k ih => obtain ⟨p, rfl⟩ := ih; exact ⟨t :: p, rfl⟩
  | skip op t l acc out r h h1 h2 k ih => obtain ⟨p, rfl⟩ := ih; exact ⟨t :: p, rfl⟩
  | elem op t l acc ks l1 out r h h1 k1 k2 ih1 ih2 =>
    obtain ⟨p, rfl⟩ := ih1
    obtain ⟨q, hq⟩ := ih2
    have hs : ∃ p2, l1 = p2 ++ adv op t.name.text l1 := by
      cases l1 with
      | nil => exact ⟨[], rfl⟩
      | cons e l1 =>
        rw [adv]
        split
        · exact ⟨[e], rfl⟩
        · exact ⟨[], rfl⟩
    obtain ⟨p2, h2⟩ := hs
    refine ⟨t :: (p ++ p2 ++ q), ?_⟩
    conv => lhs; rw [h2, hq]
    simp
theorem adv_len (op : List (List UInt8)) (nm : List UInt8) (l : List Toke) : (adv op nm l).length ≤ l.length := by
  cases l with
  | nil => simp [adv]
  | cons e l => rw [adv]; split <;> simp
theorem Kd.total : ∀ (n : Nat) (op : List (List UInt8)) (l : List Toke) (acc : List Tree), l.length ≤ n → ∃ out r, Kd op l acc out r
  | _, op, [], acc, _ => ⟨acc, [], .nil op acc⟩
  | 0, op, t :: l, acc, h => by simp at h
  | n + 1, op, t :: l, acc, h => by
    have hl : l.length ≤ n := by simpa using h
    cases hs : t.starts with
    | true =>
      cases hv : isVoid t.name.text with
      | true =>
        obtain ⟨out, r, k⟩ := Kd.total n op l (acc ++ [.mk t.name t.attrs [] zeroS]) hl
        exact ⟨out, r, .void op t l acc out r hs hv k⟩
      | false =>
        obtain ⟨ks, l1, k1⟩ := Kd.total n (op ++ [t.name.text]) l [] hl
        obtain ⟨p, hp⟩ := k1.suffix
        have h1 : l1.length ≤ n := by rw [hp] at hl; simp at hl; omega
        obtain ⟨out, r, k2⟩ := Kd.total n op (adv op t.name.text l1) (acc ++ [.mk t.name t.attrs ks zeroS]) (Nat.le_trans (adv_len _ _ _) h1)
        exact ⟨out, r, .elem op t l acc ks l1 out r hs hv k1 k2⟩
    | false =>
      by_cases h2 : t.kind = 2 ∧ t.name.text ∈ op
      · exact ⟨acc, t :: l, .stop op t l acc hs h2.1 h2.2⟩
      · by_cases h3 : t.kind = 3
        · obtain ⟨out, r, k⟩ := Kd.total n op l (acc ++ [.mk zeroS [] [] t.text]) hl
          exact ⟨out, r, .data op t l acc out r hs h3 k⟩
        · obtain ⟨out, r, k⟩ := Kd.total n op l acc hl
          exact ⟨out, r, .skip op t l acc out r hs h3 h2 k⟩
theorem Kd.inv {op : List (List UInt8)} {t : Toke} {l : List Toke} {acc out : List Tree} {r : List Toke} (h : Kd op (t :: l) acc out r) :
    (t.starts = false ∧ t.kind = 2 ∧ t.name.text ∈ op ∧ out = acc ∧ r = t :: l) ∨
    (t.starts = true ∧ isVoid t.name.text = true ∧ Kd op l (acc ++ [.mk t.name t.attrs [] zeroS]) out r) ∨
    (t.starts = true ∧ isVoid t.name.text = false ∧ ∃ ks l1, Kd (op ++ [t.name.text]) l [] ks l1 ∧ Kd op (adv op t.name.text l1) (acc ++ [.mk t.name t.attrs ks zeroS]) out r) ∨
    (t.starts = false ∧ t.kind = 3 ∧ Kd op l (acc ++ [.mk zeroS [] [] t.text]) out r) ∨
    (t.starts = false ∧ t.kind ≠ 3 ∧ ¬ (t.kind = 2 ∧ t.name.text ∈ op) ∧ Kd op l acc out r) := by
  cases h with
  | stop _ _ _ _ h h1 h2 => exact .inl ⟨h, h1, h2, rfl, rfl⟩
  | void _ _ _ _ _ _ h h1 k => exact .inr (.inl ⟨h, h1, k⟩)
  | elem _ _ _ _ ks l1 _ _ h h1 k1 k2 => exact .inr (.inr (.inl ⟨h, h1, ks, l1, k1, k2⟩))
  | data _ _ _ _ _ _ h h1 k => exact .inr (.inr (.inr (.inl ⟨h, h1, k⟩)))
  | skip _ _ _ _ _ _ h h1 h2 k => exact .inr (.inr (.inr (.inr ⟨h, h1, h2, k⟩)))
section
variable {op : List (List UInt8)} {t : Toke} {l : List Toke} {acc out : List Tree} {r : List Toke}
theorem Kd.of_void (h : Kd op (t :: l) acc out r) (hs : t.starts = true) (hv : isVoid t.name.text = true) : Kd op l (acc ++ [.mk t.name t.attrs [] zeroS]) out r := by
  rcases h.inv with h | h | h | h | h
  · rw [hs] at h; cases h.1
  · exact h.2.2
  · rw [hv] at h; cases h.2.1
  · rw [hs] at h; cases h.1
  · rw [hs] at h; cases h.1
theorem Kd.of_elem (h : Kd op (t :: l) acc out r) (hs : t.starts = true) (hv : isVoid t.name.text = false) : ∃ ks l1, Kd (op ++ [t.name.text]) l [] ks l1 ∧ Kd op (adv op t.name.text l1) (acc ++ [.mk t.name t.attrs ks zeroS]) out r := by
  rcases h.inv with h | h | h | h | h
  · rw [hs] at h; cases h.1
  · rw [hv] at h; cases h.2.1
  · exact h.2.2
  · rw [hs] at h; cases h.1
  · rw [hs] at h; cases h.1
theorem Kd.of_stop (h : Kd op (t :: l) acc out r) (hs : t.starts = false) (hk : t.kind = 2) (hm : t.name.text ∈ op) : out = acc ∧ r = t :: l := by
  rcases h.inv with h | h | h | h | h
  · exact h.2.2.2
  · rw [hs] at h; cases h.1
  · rw [hs] at h; cases h.1
  · have := h.2.1; omega
  · exact absurd ⟨hk, hm⟩ h.2.2.1
theorem Kd.of_data (h : Kd op (t :: l) acc out r) (hs : t.starts = false) (hk : t.kind = 3) : Kd op l (acc ++ [.mk zeroS [] [] t.text]) out r := by
  rcases h.inv with h | h | h | h | h
  · have := h.2.1; omega
  · rw [hs] at h; cases h.1
  · rw [hs] at h; cases h.1
  · exact h.2.2
  · exact absurd hk h.2.1
theorem Kd.of_skip (h : Kd op (t :: l) acc out r) (hs : t.starts = false) (hk : t.kind ≠ 3) (hm : ¬ (t.kind = 2 ∧ t.name.text ∈ op)) : Kd op l acc out r := by
  rcases h.inv with h | h | h | h | h
  · exact absurd ⟨h.2.1, h.2.2.1⟩ hm
  · rw [hs] at h; cases h.1
  · rw [hs] at h; cases h.1
  · exact absurd h.2.1 hk
  · exact h.2.2.2
end
theorem drop_suffix {l l1 : List Toke} {i : Nat} (hi : i ≤ l.length) {p : List Toke} (h : l.drop i = p ++ l1) : l.drop (l.length - l1.length) = l1 ∧ i ≤ l.length - l1.length ∧ l1.length ≤ l.length := by
  have hl := congrArg List.length h
  simp only [List.length_drop, List.length_append] at hl
  have e : l = (l.take i ++ p) ++ l1 := by rw [List.append_assoc, ← h, List.take_append_drop]
  refine ⟨?_, by omega, by omega⟩
  have e2 : l.length - l1.length = (l.take i ++ p).length := by simp only [List.length_append, List.length_take]; omega
  rw [e2]
  exact (congrArg (List.drop (l.take i ++ p).length) e).trans (by rw [List.drop_left])
theorem Kd.end {op : List (List UInt8)} {acc out : List Tree} {r : List Toke} (h : Kd op [] acc out r) : out = acc ∧ r = [] := by
  cases h; exact ⟨rfl, rfl⟩
/-- what is told is no more than what was read -/
theorem Kd.sz {op : List (List UInt8)} {l : List Toke} {acc out : List Tree} {r : List Toke} (h : Kd op l acc out r) : szTs out + (r.map szK).sum ≤ szTs acc + (l.map szK).sum := by
  have ha : ∀ op nm (l : List Toke), ((adv op nm l).map szK).sum ≤ (l.map szK).sum := fun op nm l => by
    cases l with
    | nil => simp [adv]
    | cons e l => rw [adv]; split <;> simp
  induction h with
  | nil op acc => simp
  | stop op t l acc h h1 h2 => simp
  | void op t l acc out r h h1 k ih =>
    simp only [szTs_append, szTs, szT, List.map_cons, List.sum_cons, szK] at ih ⊢
    simp only [szS', zeroS, List.length_nil] at ih ⊢
    omega
  | data op t l acc out r h h1 k ih =>
    simp only [szTs_append, szTs, szT, List.map_cons, List.sum_cons, szK, List.map_nil, List.sum_nil] at ih ⊢
    simp only [szS', zeroS, List.length_nil] at ih ⊢
    omega
  | skip op t l acc out r h h1 h2 k ih => simp only [List.map_cons, List.sum_cons] at ih ⊢; omega
  | elem op t l acc ks l1 out r h h1 k1 k2 ih1 ih2 =>
    have := ha op t.name.text l1
    simp only [szTs_append, szTs, szT, List.map_cons, List.sum_cons, szK] at ih1 ih2 ⊢
    simp only [szS', zeroS, List.length_nil] at ih1 ih2 ⊢
    omega
theorem lVoid (H : List Ob) (nm : List UInt8) : SCall Try.prog 19 [.str nm] H (fun r H' => r = .bool (isVoid nm) ∧ H' = H) := by
  have e1 : (nm == [98, 114]) = decide (nm = [98, 114]) := by rw [Bool.eq_iff_iff]; simp
  have e2 : (nm == [104, 114]) = decide (nm = [104, 114]) := by rw [Bool.eq_iff_iff]; simp
  have e3 : (nm == [105, 109, 103]) = decide (nm = [105, 109, 103]) := by rw [Bool.eq_iff_iff]; simp
  refine SCall.of_good fun hH => ?_
  have hHk := HLt.add hH
  refine SCall.of_code Tok Try.func19 rfl Try.call19 (n := 13) rfl (by simp) (rs := [.tmp 2]) rfl ?_
  refine EWn.to ?_
  refine EWn.of_c Tok mixed (own := false) keep19 tab19 (by kernel_rfl) ?_
  (repeat (first | simp -dsimp only [zrBuild61, e1, e2, e3, RB, TB, keep19, tab19, xindexAddr, xindex, xslice, xconvert, xlen, ewOp, FreeW, StabW, SameW, ChangeW, AddW, BaseW, limBytes, simprocAttr, ne_eq] | ((with_reducible refine Need.intro ?_ ?_); (first | trivial | exact ⟨_, rfl⟩ | exact ⟨[], (List.append_nil _).symm⟩ | omega | (simp; done) | (simp; omega) | exact ⟨by first | trivial | (simp; done), _, by first | rfl | (simp; rfl)⟩))))
  repeat' (first | simp -dsimp only [zrBuild61, *, e1, e2, e3, RB, TB, keep19, tab19, xindexAddr, xindex, xslice, xconvert, xlen, ewOp, FreeW, StabW, SameW, ChangeW, AddW, BaseW, limBytes, simprocAttr, ne_eq] | ((with_reducible refine Need.intro ?_ ?_); (first | trivial | exact ⟨_, rfl⟩ | exact ⟨[], (List.append_nil _).symm⟩ | omega | (simp; done) | (simp; omega) | exact ⟨by first | trivial | (simp; done), _, by first | rfl | (simp; rfl)⟩)) | (with_reducible refine IfW.intro (fun h_ => ?_) (fun h_ => ?_)) | ((with_reducible refine RetW.auto0 false _ (by first | rfl | exact (List.append_nil _).symm) (by (simp (maxDischargeDepth := 6) [LTB, HLt_set, ltL_take, ltL_drop, ltL_rep, ltL_set, upd, eset, hH, hHk, zlBuild61] <;> omega)) ?_); (try simp only [wk, wk1, wk0, RB, limBytes, simprocAttr, ne_eq]); (try (rw [List.take_of_length_le]; rotate_left 1; (· first | (simp; done) | (simp; omega) | omega))); (try (simp_all [isVoid])); done))
def openI (op : List (List UInt8)) (nm : List UInt8) : Int := match lastAt op nm op.length with | some k => k | none => -1
theorem lastAt_none : ∀ {op : List (List UInt8)} {nm : List UInt8} (i : Nat), i ≤ op.length → (lastAt op nm i = none ↔ ∀ k, k < i → op[k]? ≠ some nm)
  | op, nm, 0, _ => by simp [lastAt]
  | op, nm, i + 1, h => by
    rw [lastAt]
    split
    · rename_i h1
      simp only [reduceCtorEq, false_iff]
      exact fun h2 => h2 i (Nat.lt_succ_self i) h1
    · rename_i h1
      rw [lastAt_none i (by omega)]
      refine ⟨fun h2 k hk => ?_, fun h2 k hk => h2 k (by omega)⟩
      rcases Nat.lt_or_ge k i with h3 | h3
      · exact h2 k h3
      · rw [show k = i from by omega]; exact h1
theorem openI_neg (op : List (List UInt8)) (nm : List UInt8) : openI op nm < 0 ↔ nm ∉ op := by
  unfold openI
  cases h : lastAt op nm op.length with
  | none =>
    have := (lastAt_none op.length (Nat.le_refl _)).1 h
    simp only [Int.reduceNeg, Int.reduceLT, true_iff]
    intro hm
    obtain ⟨k, hk⟩ := List.getElem?_of_mem hm
    exact this k (List.getElem?_eq_some_iff.1 hk).1 hk
  | some k =>
    have : ¬ nm ∉ op := fun hn => by
      have := (lastAt_none (op := op) (nm := nm) op.length (Nat.le_refl _)).2 (fun j _ hj => hn (List.mem_of_getElem? hj))
      rw [h] at this; cases this
    simp only [this, iff_false]
    omega
theorem lOpen2 (H : List Ob) (op : List (List UInt8)) (nm : List UInt8) : SCall Try.prog 20 [.slice (op.map V.str), .str nm] H (fun r H' => r = .int .i64 (openI op nm) ∧ H' = H) := by
  refine SCall.sized 0 rfl fun hl => ?_
  rw [List.length_map, maxLen_eq] at hl
  have w0 : IntKind.i64.wrap ((op.length : Int) - 1) = (op.length : Int) - 1 := wrapI (by omega)
  refine SCall.of_good fun hH => ?_
  have hHk := HLt.add hH
  refine SCall.of_code Tok Try.func20 rfl Try.call20 (n := 20) rfl (by simp) (rs := [.tmp 4]) rfl ?_
  refine EWn.to ?_
  refine EWn.of_c Tok mixed (own := false) keep20 tab20 (by kernel_rfl) ?_
  (repeat (first | simp -dsimp only [zrBuild61, w0, RB, TB, keep20, tab20, xindexAddr, xindex, xslice, xconvert, xlen, ewOp, FreeW, StabW, SameW, ChangeW, AddW, BaseW, limBytes, simprocAttr, ne_eq] | ((with_reducible refine Need.intro ?_ ?_); (first | trivial | exact ⟨_, rfl⟩ | exact ⟨[], (List.append_nil _).symm⟩ | omega | (simp; done) | (simp; omega) | exact ⟨by first | trivial | (simp; done), _, by first | rfl | (simp; rfl)⟩))))
  refine EWn.loopE (ι := (Nat)) (fun (i : (Nat)) => i ≤ op.length ∧ lastAt op nm op.length = lastAt op nm i) (fun (i : (Nat)) => i) (fun (i : (Nat)) => [(5, .int .i64 (i - 1))]) (fun (i : (Nat)) => H) (op.length) ?_ ?_ ?_ ?_ ?_
  · first | rfl | simp [upd, eset]
  · first | rfl | (simp; done) | exact (set_same (by assumption)).symm
  · rintro i hok; exact ⟨by first | (simp; done) | (simp; omega), by (simp (maxDischargeDepth := 6) [LTB, HLt_set, ltL_take, ltL_drop, ltL_rep, ltL_set, upd, eset, hH, hHk, zlBuild61] <;> omega), by (simp (maxDischargeDepth := 6) [LTB, HLt_set, ltL_take, ltL_drop, ltL_rep, ltL_set, upd, eset, hH, hHk, zlBuild61] <;> omega)⟩
  · exact ⟨Nat.le_refl _, rfl⟩
  rintro i ⟨hi, hp⟩
  refine EWn.of_c Tok mixed (own := false) keep20 tab20 (by kernel_rfl) ?_
  (repeat (first | simp -dsimp only [zrBuild61, RB, TB, keep20, tab20, xindexAddr, xindex, xslice, xconvert, xlen, ewOp, FreeW, StabW, SameW, ChangeW, AddW, BaseW, limBytes, simprocAttr, ne_eq] | ((with_reducible refine Need.intro ?_ ?_); (first | trivial | exact ⟨_, rfl⟩ | exact ⟨[], (List.append_nil _).symm⟩ | omega | (simp; done) | (simp; omega) | exact ⟨by first | trivial | (simp; done), _, by first | rfl | (simp; rfl)⟩))))
  refine IfW.intro (fun h => ?_) (fun h => ?_)
  · have h' := of_decide_eq_true h
    obtain ⟨k, rfl⟩ : ∃ k, i = k + 1 := ⟨i - 1, by omega⟩
    have hk : k < op.length := by omega
    have e : ((k + 1 : Nat) : Int) - 1 = (k : Int) := by omega
    (repeat (first | simp -dsimp only [zrBuild61, h, e, at_map V.str op k hk, RB, TB, keep20, tab20, xindexAddr, xindex, xslice, xconvert, xlen, ewOp, FreeW, StabW, SameW, ChangeW, AddW, BaseW, limBytes, simprocAttr, ne_eq] | ((with_reducible refine Need.intro ?_ ?_); (first | trivial | exact ⟨_, rfl⟩ | exact ⟨[], (List.append_nil _).symm⟩ | omega | (simp; done) | (simp; omega) | exact ⟨by first | trivial | (simp; done), _, by first | rfl | (simp; rfl)⟩))))
    refine IfW.intro (fun h2 => ?_) (fun h2 => ?_)
    · have h2' : op[k]? = some nm := by rw [List.getElem?_eq_getElem hk]; simpa using h2
      (repeat (first | simp -dsimp only [zrBuild61, h2, RB, TB, keep20, tab20, xindexAddr, xindex, xslice, xconvert, xlen, ewOp, FreeW, StabW, SameW, ChangeW, AddW, BaseW, limBytes, simprocAttr, ne_eq] | ((with_reducible refine Need.intro ?_ ?_); (first | trivial | exact ⟨_, rfl⟩ | exact ⟨[], (List.append_nil _).symm⟩ | omega | (simp; done) | (simp; omega) | exact ⟨by first | trivial | (simp; done), _, by first | rfl | (simp; rfl)⟩))))
      refine RetW.auto0 false _ (by first | rfl | exact (List.append_nil _).symm) ?_ ?_
      · (simp (maxDischargeDepth := 6) [LTB, HLt_set, ltL_take, ltL_drop, ltL_rep, ltL_set, upd, eset, hH, hHk, zlBuild61] <;> omega)
      (try simp only [wk, wk1, wk0, RB, limBytes, simprocAttr, ne_eq])
      (try (rw [List.take_of_length_le]; rotate_left 1; (· first | (simp; done) | (simp; omega) | omega)))
      unfold openI
      rw [hp, lastAt, if_pos h2']
    · have h2' : ¬ op[k]? = some nm := by rw [List.getElem?_eq_getElem hk]; simpa using h2
      have wk : IntKind.i64.wrap ((k : Int) - 1) = (k : Int) - 1 := wrapI (by omega)
      (repeat (first | simp -dsimp only [zrBuild61, h2, wk, RB, TB, keep20, tab20, xindexAddr, xindex, xslice, xconvert, xlen, ewOp, FreeW, StabW, SameW, ChangeW, AddW, BaseW, limBytes, simprocAttr, ne_eq] | ((with_reducible refine Need.intro ?_ ?_); (first | trivial | exact ⟨_, rfl⟩ | exact ⟨[], (List.append_nil _).symm⟩ | omega | (simp; done) | (simp; omega) | exact ⟨by first | trivial | (simp; done), _, by first | rfl | (simp; rfl)⟩))))
      refine UpTo.here ⟨k, ⟨by omega, by rw [hp, lastAt, if_neg h2']⟩, (by show k < k + 1; omega), by simp [upd, eset], ⟨[], by simp⟩⟩
  · have h0 : i = 0 := by have := of_decide_eq_false h; omega
    subst h0
    (repeat (first | simp -dsimp only [zrBuild61, h, RB, TB, keep20, tab20, xindexAddr, xindex, xslice, xconvert, xlen, ewOp, FreeW, StabW, SameW, ChangeW, AddW, BaseW, limBytes, simprocAttr, ne_eq] | ((with_reducible refine Need.intro ?_ ?_); (first | trivial | exact ⟨_, rfl⟩ | exact ⟨[], (List.append_nil _).symm⟩ | omega | (simp; done) | (simp; omega) | exact ⟨by first | trivial | (simp; done), _, by first | rfl | (simp; rfl)⟩))))
    refine RetW.auto0 false _ (by first | rfl | exact (List.append_nil _).symm) ?_ ?_
    · (simp (maxDischargeDepth := 6) [LTB, HLt_set, ltL_take, ltL_drop, ltL_rep, ltL_set, upd, eset, hH, hHk, zlBuild61] <;> omega)
    (try simp only [wk, wk1, wk0, RB, limBytes, simprocAttr, ne_eq])
    (try (rw [List.take_of_length_le]; rotate_left 1; (· first | (simp; done) | (simp; omega) | omega)))
    unfold openI
    rw [hp, lastAt]
end Go.Proofs.Ytjplgbalpnlanaa

/- The walk of the law BuildAll. -/
import Derived.Test.YtjplgbalpnlanaaBuild9
import Derived.Test.YtjplgbalpnlanaaTreeSum
set_option linter.unusedSimpArgs false
set_option linter.unusedVariables false
set_option maxRecDepth 100000
namespace Go.Proofs.Ytjplgbalpnlanaa
open Go Go.EL
theorem zrBuild101 : type_of% (And.intro (And.intro (And.intro (And.intro (@st_run) (And.intro (@sz_run) (@st1_run))) (And.intro (@cl_run) (And.intro (@st_Str) (@sz_Str)))) (And.intro (And.intro (@st1_Str) (And.intro (@cl_Str) (@st_c))) (And.intro (@sz_c) (And.intro (@st1_c) (@cl_c))))) (And.intro (And.intro (And.intro (@st_attr) (And.intro (@sz_attr) (@st1_attr))) (And.intro (@cl_attr) (And.intro (@st_tree) (@sz_tree)))) (And.intro (And.intro (@st1_tree) (And.intro (@cl_tree) (@st_tok))) (And.intro (@sz_tok) (And.intro (@st1_tok) (@cl_tok)))))) := And.intro (And.intro (And.intro (And.intro (@st_run) (And.intro (@sz_run) (@st1_run))) (And.intro (@cl_run) (And.intro (@st_Str) (@sz_Str)))) (And.intro (And.intro (@st1_Str) (And.intro (@cl_Str) (@st_c))) (And.intro (@sz_c) (And.intro (@st1_c) (@cl_c))))) (And.intro (And.intro (And.intro (@st_attr) (And.intro (@sz_attr) (@st1_attr))) (And.intro (@cl_attr) (And.intro (@st_tree) (@sz_tree)))) (And.intro (And.intro (@st1_tree) (And.intro (@cl_tree) (@st_tok))) (And.intro (@sz_tok) (And.intro (@st1_tok) (@cl_tok)))))
theorem zlBuild101 : type_of% (And.intro (And.intro (And.intro (And.intro (@lt_vi) (@lt_str)) (And.intro (@lt_vb) (And.intro (@ltc_str) (@ltc_vi)))) (And.intro (And.intro (@lt_run) (And.intro (@lt1_run) (@ltc_run))) (And.intro (@lt_Str) (And.intro (@lt1_Str) (@ltc_Str))))) (And.intro (And.intro (And.intro (@lt_c) (And.intro (@lt1_c) (@ltc_c))) (And.intro (@lt_attr) (And.intro (@lt1_attr) (@ltc_attr)))) (And.intro (And.intro (@lt_tree) (And.intro (@lt1_tree) (@ltc_tree))) (And.intro (@lt_tok) (And.intro (@lt1_tok) (@ltc_tok)))))) := And.intro (And.intro (And.intro (And.intro (@lt_vi) (@lt_str)) (And.intro (@lt_vb) (And.intro (@ltc_str) (@ltc_vi)))) (And.intro (And.intro (@lt_run) (And.intro (@lt1_run) (@ltc_run))) (And.intro (@lt_Str) (And.intro (@lt1_Str) (@ltc_Str))))) (And.intro (And.intro (And.intro (@lt_c) (And.intro (@lt1_c) (@ltc_c))) (And.intro (@lt_attr) (And.intro (@lt1_attr) (@ltc_attr)))) (And.intro (And.intro (@lt_tree) (And.intro (@lt1_tree) (@ltc_tree))) (And.intro (@lt_tok) (And.intro (@lt1_tok) (@ltc_tok)))))
theorem Kd.head {op : List (List UInt8)} {l : List Toke} {acc out : List Tree} {r : List Toke} (h : Kd op l acc out r) : r = [] ∨ ∃ e r', r = e :: r' ∧ e.starts = false ∧ e.kind = 2 := by
  induction h with
  | nil op acc => exact .inl rfl
  | stop op t l acc h h1 h2 => exact .inr ⟨t, l, rfl, h, h1⟩
  | void op t l acc out r h h1 k ih => exact ih
  | data op t l acc out r h h1 k ih => exact ih
  | skip op t l acc out r h h1 h2 k ih => exact ih
  | elem op t l acc ks l1 out r h h1 k1 k2 ih1 ih2 => exact ih2
theorem Kd.all {l : List Toke} {acc out : List Tree} {r : List Toke} : ∀ {op : List (List UInt8)}, op = [] → Kd op l acc out r → r = [] := by
  intro op ho h
  induction h with
  | nil op acc => rfl
  | stop op t l acc h h1 h2 => subst ho; cases h2
  | void op t l acc out r h h1 k ih => exact ih ho
  | data op t l acc out r h h1 k ih => exact ih ho
  | skip op t l acc out r h h1 h2 k ih => exact ih ho
  | elem op t l acc ks l1 out r h h1 k1 k2 ih1 ih2 => exact ih2 ho
/-- what a token brings -/
def Sumry.cT {β : Type} (S : Sumry β) (t : Toke) : List β := if t.starts then S.E (.mk t.name t.attrs [] zeroS) else if t.kind = 3 then S.X t.text else []
theorem isE_tok {t : Toke} (h : t.starts = true) (A : List Attr) (K : List Tree) (x : Str) : (Tree.mk t.name A K x).isE = true := by
  unfold Toke.starts at h
  simp only [Bool.and_eq_true] at h
  exact h.2
theorem Kd.sum {β : Type} (S : Sumry β) (h2 : S.Two) {op : List (List UInt8)} {l : List Toke} {acc out : List Tree} {r : List Toke} (h : Kd op l acc out r) : S.rF out ++ r.flatMap S.cT = S.rF acc ++ l.flatMap S.cT := by
  induction h with
  | nil op acc => rfl
  | stop op t l acc h h1 h2 => rfl
  | void op t l acc out r h h1 k ih =>
    rw [ih, S.rF_app, S.rF_one, S.rT_eq, if_pos (isE_tok h _ _ _), List.flatMap_cons]
    have e : S.cT t = S.E (.mk t.name t.attrs [] zeroS) := by unfold Sumry.cT; rw [if_pos h]
    rw [e]; simp [Tree.kids, Sumry.rF]
  | data op t l acc out r h h1 k ih =>
    rw [ih, S.rF_app, S.rF_one, S.rT_eq, if_neg (by simp [Tree.isE, Tree.tag, zeroS]), List.flatMap_cons]
    have e : S.cT t = S.X t.text := by unfold Sumry.cT; rw [if_neg (by simp [h]), if_pos h1]
    rw [e]; simp [Tree.text]
  | skip op t l acc out r h h1 h2 k ih =>
    rw [ih, List.flatMap_cons]
    have e : S.cT t = [] := by unfold Sumry.cT; rw [if_neg (by simp [h]), if_neg h1]
    rw [e, List.nil_append]
  | elem op t l acc ks l1 out r h h1 k1 k2 ih1 ih2 =>
    have ha : (adv op t.name.text l1).flatMap S.cT = l1.flatMap S.cT := by
      rcases k1.head with rfl | ⟨e, r', rfl, e1, e2⟩
      · rfl
      · rw [adv]
        split
        · rw [List.flatMap_cons]
          have e : S.cT e = [] := by unfold Sumry.cT; rw [if_neg (by simp [e1]), if_neg (by omega)]
          rw [e, List.nil_append]
        · rfl
    rw [ih2, ha, S.rF_app, S.rF_one, S.rT_eq, if_pos (isE_tok h _ _ _), List.flatMap_cons]
    have e : S.cT t = S.E (.mk t.name t.attrs ks zeroS) := by unfold Sumry.cT; rw [if_pos h]; exact h2.tag _ _ _ _ _ _ _ _ rfl
    have i1 : S.rF ks ++ l1.flatMap S.cT = l.flatMap S.cT := by rw [ih1]; simp [Sumry.rF]
    rw [e, ← i1]; simp [Tree.kids]
def dataT (l : List Toke) : List Str := (l.filter fun t => decide (t.kind = 3)).map Toke.text
def namesT (l : List Toke) : List (List UInt8) := (l.filter fun t => t.starts).map fun t => t.name.text
theorem starts_three {t : Toke} (h : t.starts = true) : t.kind ≠ 3 := by
  unfold Toke.starts at h
  simp only [Bool.and_eq_true, decide_eq_true_eq] at h
  omega
theorem data_text : ∀ l : List Toke, l.flatMap sumT.cT = (dataT l).flatMap Str.text
  | [] => rfl
  | t :: l => by
    rw [List.flatMap_cons, data_text l]
    unfold dataT
    rw [List.filter_cons]
    unfold Sumry.cT
    by_cases h : t.starts = true
    · rw [if_pos h, if_neg (by simpa using starts_three h)]; rfl
    · rw [if_neg h]
      by_cases h3 : t.kind = 3
      · rw [if_pos h3, if_pos (by simpa using h3), List.map_cons, List.flatMap_cons]; rfl
      · rw [if_neg h3, if_neg (by simpa using h3)]; rfl
theorem data_orig : ∀ l : List Toke, l.flatMap sumO.cT = (dataT l).flatMap orig
  | [] => rfl
  | t :: l => by
    rw [List.flatMap_cons, data_orig l]
    unfold dataT
    rw [List.filter_cons]
    unfold Sumry.cT
    by_cases h : t.starts = true
    · rw [if_pos h, if_neg (by simpa using starts_three h)]; rfl
    · rw [if_neg h]
      by_cases h3 : t.kind = 3
      · rw [if_pos h3, if_pos (by simpa using h3), List.map_cons, List.flatMap_cons]; rfl
      · rw [if_neg h3, if_neg (by simpa using h3)]; rfl
theorem data_names : ∀ l : List Toke, l.flatMap sumG.cT = namesT l
  | [] => rfl
  | t :: l => by
    rw [List.flatMap_cons, data_names l]
    unfold namesT
    rw [List.filter_cons]
    unfold Sumry.cT
    by_cases h : t.starts = true
    · rw [if_pos h, if_pos h]; rfl
    · rw [if_neg h, if_neg h]
      by_cases h3 : t.kind = 3
      · rw [if_pos h3]; rfl
      · rw [if_neg h3]; rfl
theorem dataT_succ {l : List Toke} {i : Nat} (h : i < l.length) : dataT (l.take (i + 1)) = dataT (l.take i) ++ (if l[i].kind = 3 then [l[i].text] else []) := by
  unfold dataT
  rw [List.take_succ_eq_append_getElem h, List.filter_append, List.map_append]
  by_cases h3 : l[i].kind = 3
  · simp [h3]
  · simp [h3]
theorem namesT_succ {l : List Toke} {i : Nat} (h : i < l.length) : namesT (l.take (i + 1)) = namesT (l.take i) ++ (if l[i].starts = true then [l[i].name.text] else []) := by
  unfold namesT
  rw [List.take_succ_eq_append_getElem h, List.filter_append, List.map_append]
  by_cases h3 : l[i].starts = true
  · simp [h3]
  · simp [h3]
theorem dataT_len (l : List Toke) : (dataT l).length ≤ l.length := by unfold dataT; rw [List.length_map]; exact List.length_filter_le _ _
theorem namesT_len (l : List Toke) : (namesT l).length ≤ l.length := by unfold namesT; rw [List.length_map]; exact List.length_filter_le _ _
theorem dataT_sz : ∀ l : List Toke, ((dataT l).map szS').sum ≤ (l.map szK).sum
  | [] => by simp [dataT]
  | t :: l => by
    have := dataT_sz l
    unfold dataT at this ⊢
    rw [List.filter_cons]
    split
    · simp only [List.map_cons, List.sum_cons, szK]; omega
    · simp only [List.map_cons, List.sum_cons]; omega
theorem dataT_ok (l : List Toke) (hsz : (l.map szK).sum ≤ 90000000) : (∀ s ∈ dataT l, okS s) ∧ ((dataT l).flatMap Str.text).length ≤ 1000000000 ∧ (dataT l).length ≤ 1000000000 := by
  have h1 := dataT_sz l
  have h2 := dataT_len l
  have h3 := szK_len l
  exact ⟨fun s hs => okS_sz' (Nat.le_trans (words_sum hs) (by omega)), Nat.le_trans (words_flat _) (by omega), by omega⟩
theorem tData (H : List Ob) (l : List Toke) (hsz : (l.map szK).sum ≤ 90000000) : SCall Try.prog 33 [.slice (l.map tokV)] H (fun r H' => r = strV (catS (dataT l)) ∧ H' = H) := by
  obtain ⟨ho1, ho2, ho3⟩ := dataT_ok l hsz
  have hll := szK_len l
  refine SCall.of_good fun hH => ?_
  have hHk := HLt.add hH
  refine SCall.of_code Tok Try.func33 rfl Try.call33 (n := 23) rfl (by simp) (rs := [.cell 2 30]) rfl ?_
  refine EWn.to ?_
  refine EWn.of_c Tok mixed (own := false) keep33 tab33 (by kernel_rfl) ?_
  (repeat (first | simp -dsimp only [zrBuild101, RB, TB, keep33, tab33, xindexAddr, xindex, xslice, xconvert, xlen, ewOp, FreeW, StabW, SameW, ChangeW, AddW, BaseW, limBytes, simprocAttr, ne_eq] | ((with_reducible refine Need.intro ?_ ?_); (first | trivial | exact ⟨_, rfl⟩ | exact ⟨[], (List.append_nil _).symm⟩ | omega | (simp; done) | (simp; omega) | exact ⟨by first | trivial | (simp; done), _, by first | rfl | (simp; rfl)⟩))))
  refine EWn.ghost (Gho.adopt 3 2 rfl) ?_
  simp only [RB, limBytes, simprocAttr, ne_eq]
  refine EWn.loopE (ι := (Nat) × (Nat)) (fun (x_ : (Nat) × (Nat)) => match x_ with | (i, v) => i ≤ l.length) (fun (x_ : (Nat) × (Nat)) => match x_ with | (i, v) => l.length - i) (fun (x_ : (Nat) × (Nat)) => match x_ with | (i, v) => [(3, .vec (H.length + 1) v 0 (dataT (l.take i)).length), (8, .int .i64 i)]) (fun (x_ : (Nat) × (Nat)) => match x_ with | (i, v) => H ++ [.var [.str [], .fslice []], .vec v 2 ((dataT (l.take i)).map strV)]) (0, 1) ?_ ?_ ?_ ?_ ?_
  · first | rfl | simp [upd, eset]
  · first | rfl | (simp; done) | exact (set_same (by assumption)).symm
  · rintro ⟨i, v⟩ hok; exact ⟨by first | (simp; done) | (simp; omega), by (simp (maxDischargeDepth := 6) [LTB, HLt_set, ltL_take, ltL_drop, ltL_rep, ltL_set, upd, eset, hH, hHk, zlBuild101] <;> omega), by (simp (maxDischargeDepth := 6) [LTB, HLt_set, ltL_take, ltL_drop, ltL_rep, ltL_set, upd, eset, hH, hHk, zlBuild101] <;> omega)⟩
  · omega
  rintro ⟨i, v⟩ hi
  have hdl : (dataT (l.take i)).length ≤ i := Nat.le_trans (dataT_len _) (by simp; omega)
  refine EWn.of_c Tok mixed (own := false) keep33 tab33 (by kernel_rfl) ?_
  (repeat (first | simp -dsimp only [zrBuild101, RB, TB, keep33, tab33, xindexAddr, xindex, xslice, xconvert, xlen, ewOp, FreeW, StabW, SameW, ChangeW, AddW, BaseW, limBytes, simprocAttr, ne_eq] | ((with_reducible refine Need.intro ?_ ?_); (first | trivial | exact ⟨_, rfl⟩ | exact ⟨[], (List.append_nil _).symm⟩ | omega | (simp; done) | (simp; omega) | exact ⟨by first | trivial | (simp; done), _, by first | rfl | (simp; rfl)⟩))))
  refine IfW.intro (fun h => ?_) (fun h => ?_)
  · have hlt := lt_of h
    have hat := at_map tokV l i hlt
    have hsucc := dataT_succ hlt
    generalize l[i] = tk at hat hsucc
    have w1 : IntKind.i64.wrap ((i : Int) + 1) = ((i + 1 : Nat) : Int) := by rw [wrapI (by omega)]; omega
    (repeat (first | simp -dsimp only [zrBuild101, h, hat, tokV, RB, TB, keep33, tab33, xindexAddr, xindex, xslice, xconvert, xlen, ewOp, FreeW, StabW, SameW, ChangeW, AddW, BaseW, limBytes, simprocAttr, ne_eq] | ((with_reducible refine Need.intro ?_ ?_); (first | trivial | exact ⟨_, rfl⟩ | exact ⟨[], (List.append_nil _).symm⟩ | omega | (simp; done) | (simp; omega) | exact ⟨by first | trivial | (simp; done), _, by first | rfl | (simp; rfl)⟩))))
    refine IfW.intro (fun h1 => ?_) (fun h1 => ?_)
    · have h1' : tk.kind = 3 := by simpa using h1
      rw [if_pos h1'] at hsucc
      (repeat (first | simp -dsimp only [zrBuild101, h1, w1, RB, TB, keep33, tab33, xindexAddr, xindex, xslice, xconvert, xlen, ewOp, FreeW, StabW, SameW, ChangeW, AddW, BaseW, limBytes, simprocAttr, ne_eq] | ((with_reducible refine Need.intro ?_ ?_); (first | trivial | exact ⟨_, rfl⟩ | exact ⟨[], (List.append_nil _).symm⟩ | omega | (simp; done) | (simp; omega) | exact ⟨by first | trivial | (simp; done), _, by first | rfl | (simp; rfl)⟩))))
      refine UpTo.here ⟨(i + 1, v + 1), hlt, by simp only; omega, by simp [upd, eset, hsucc], ⟨_, by simp [hsucc, strV]; rfl⟩⟩
    · have h1' : ¬ tk.kind = 3 := by simpa using h1
      rw [if_neg h1', List.append_nil] at hsucc
      (repeat (first | simp -dsimp only [zrBuild101, h1, w1, RB, TB, keep33, tab33, xindexAddr, xindex, xslice, xconvert, xlen, ewOp, FreeW, StabW, SameW, ChangeW, AddW, BaseW, limBytes, simprocAttr, ne_eq] | ((with_reducible refine Need.intro ?_ ?_); (first | trivial | exact ⟨_, rfl⟩ | exact ⟨[], (List.append_nil _).symm⟩ | omega | (simp; done) | (simp; omega) | exact ⟨by first | trivial | (simp; done), _, by first | rfl | (simp; rfl)⟩))))
      refine UpTo.here ⟨(i + 1, v), hlt, by simp only; omega, by simp [upd, eset, hsucc], ⟨_, by simp [hsucc]; rfl⟩⟩
  · (repeat (first | simp -dsimp only [zrBuild101, h, RB, TB, keep33, tab33, xindexAddr, xindex, xslice, xconvert, xlen, ewOp, FreeW, StabW, SameW, ChangeW, AddW, BaseW, limBytes, simprocAttr, ne_eq] | ((with_reducible refine Need.intro ?_ ?_); (first | trivial | exact ⟨_, rfl⟩ | exact ⟨[], (List.append_nil _).symm⟩ | omega | (simp; done) | (simp; omega) | exact ⟨by first | trivial | (simp; done), _, by first | rfl | (simp; rfl)⟩))))
    have hi2 : i = l.length := Nat.le_antisymm hi (ge_of h)
    subst hi2
    rw [List.take_length]
    refine SCall.freeze 0 (l := (dataT l).map strV) (by rfl) ?_ ?_ ?_
    · apply Exists.intro; (try simp only [RB, List.map_append, List.map_cons, List.map_nil, limBytes, simprocAttr, ne_eq]); first | rfl | (simp; done) | (simp; rfl)
    · first | rfl | (simp; done) | (simp; omega)
    (try simp only [RB, limBytes, simprocAttr, ne_eq])
    (first | refine SCall.then (mCat _ (dataT l) ho1 ho2 ho3) ?_ | refine SCall.thenA (mCat _ (dataT l) ho1 ho2 ho3) (by repeat (first | exact trivial | exact .inl (.inl rfl) | exact .inl (.inr ⟨_, rfl, rfl⟩) | exact .inl rfl | exact .inr ⟨_, rfl, rfl⟩ | refine .inr ⟨_, _, rfl, rfl, ?_⟩ | refine ⟨?_, ?_⟩)) ?_ | refine CallE.intro _ (mCat _ (dataT l) ho1 ho2 ho3) ?_ | refine CallE.introA (mCat _ (dataT l) ho1 ho2 ho3) (by repeat (first | exact trivial | exact .inl (.inl rfl) | exact .inl (.inr ⟨_, rfl, rfl⟩) | exact .inl rfl | exact .inr ⟨_, rfl, rfl⟩ | refine .inr ⟨_, _, rfl, rfl, ?_⟩ | refine ⟨?_, ?_⟩)) ?_ | refine CallE.intro _ (fun _ => mCat _ (dataT l) ho1 ho2 ho3) ?_ | refine CallE.intro _ (fun _ => SCall.arg (by repeat (first | exact trivial | exact .inl (.inl rfl) | exact .inl (.inr ⟨_, rfl, rfl⟩) | exact .inl rfl | exact .inr ⟨_, rfl, rfl⟩ | refine .inr ⟨_, _, rfl, rfl, ?_⟩ | refine ⟨?_, ?_⟩)) (mCat _ (dataT l) ho1 ho2 ho3)) ?_ | refine CallE2.intro _ _ (mCat _ (dataT l) ho1 ho2 ho3) ?_ | refine CallE2.intro _ _ (SCall.arg (by repeat (first | exact trivial | exact .inl (.inl rfl) | exact .inl (.inr ⟨_, rfl, rfl⟩) | exact .inl rfl | exact .inr ⟨_, rfl, rfl⟩ | refine .inr ⟨_, _, rfl, rfl, ?_⟩ | refine ⟨?_, ?_⟩)) (mCat _ (dataT l) ho1 ho2 ho3)) ?_)
    (repeat (first | simp -dsimp only [zrBuild101, strV, RB, TB, keep33, tab33, xindexAddr, xindex, xslice, xconvert, xlen, ewOp, FreeW, StabW, SameW, ChangeW, AddW, BaseW, limBytes, simprocAttr, ne_eq] | ((with_reducible refine Need.intro ?_ ?_); (first | trivial | exact ⟨_, rfl⟩ | exact ⟨[], (List.append_nil _).symm⟩ | omega | (simp; done) | (simp; omega) | exact ⟨by first | trivial | (simp; done), _, by first | rfl | (simp; rfl)⟩))))
    refine RetW.auto0 false _ (by first | rfl | exact (List.append_nil _).symm) ?_ ?_
    · (simp (maxDischargeDepth := 6) [LTB, HLt_set, ltL_take, ltL_drop, ltL_rep, ltL_set, upd, eset, hH, hHk, zlBuild101] <;> omega)
    (try simp only [wk, wk1, wk0, RB, limBytes, simprocAttr, ne_eq])
    (try (rw [List.take_of_length_le]; rotate_left 1; (· first | (simp; done) | (simp; omega) | omega)))
set_option maxHeartbeats 2000000 in
theorem buildAll (H : List Ob) (l : List Toke) (hb : (l.map szK).sum ≤ 1048576) : SCall Try.prog 5 [.slice (l.map tokV)] H (fun r _ => r = .bool true) := by
  refine SCall.of_good fun hH => ?_
  have hHk := HLt.add hH
  refine SCall.of_code Tok Try.func5 rfl Try.call5 (n := 56) rfl (by simp) (rs := [.tmp 2]) rfl ?_
  refine EWn.to ?_
  refine EWn.cutE Tok mixed (own := false) (κ := (List Toke)) keep5 tab5 [(), ()] (fun (m : (List Toke)) => m.length ≤ 60 ∧ (m.map szK).sum ≤ 1048576) (fun (m : (List Toke)) => [(0, .slice (m.map tokV))]) (fun (m : (List Toke)) => H) (by simp only [headC]; rfl) (by simp only [tailC]; rfl) (by kernel_rfl) (by kernel_rfl) ?_ ?_ ?_
  · rintro m hok; exact ⟨by first | (simp; done) | (simp; omega), by (simp (maxDischargeDepth := 6) [LTB, HLt_set, ltL_take, ltL_drop, ltL_rep, ltL_set, upd, eset, hH, hHk, zlBuild101] <;> omega), by (simp (maxDischargeDepth := 6) [LTB, HLt_set, ltL_take, ltL_drop, ltL_rep, ltL_set, upd, eset, hH, hHk, zlBuild101] <;> omega)⟩
  · (repeat (first | simp -dsimp only [zrBuild101, RB, TB, keep5, tab5, xindexAddr, xindex, xslice, xconvert, xlen, ewOp, FreeW, StabW, SameW, ChangeW, AddW, BaseW, limBytes, simprocAttr, ne_eq] | ((with_reducible refine Need.intro ?_ ?_); (first | trivial | exact ⟨_, rfl⟩ | exact ⟨[], (List.append_nil _).symm⟩ | omega | (simp; done) | (simp; omega) | exact ⟨by first | trivial | (simp; done), _, by first | rfl | (simp; rfl)⟩))))
    (first | refine SCall.then (alive14 _) ?_ | refine SCall.thenA (alive14 _) (by repeat (first | exact trivial | exact .inl (.inl rfl) | exact .inl (.inr ⟨_, rfl, rfl⟩) | exact .inl rfl | exact .inr ⟨_, rfl, rfl⟩ | refine .inr ⟨_, _, rfl, rfl, ?_⟩ | refine ⟨?_, ?_⟩)) ?_ | refine CallE.intro _ (alive14 _) ?_ | refine CallE.introA (alive14 _) (by repeat (first | exact trivial | exact .inl (.inl rfl) | exact .inl (.inr ⟨_, rfl, rfl⟩) | exact .inl rfl | exact .inr ⟨_, rfl, rfl⟩ | refine .inr ⟨_, _, rfl, rfl, ?_⟩ | refine ⟨?_, ?_⟩)) ?_ | refine CallE.intro _ (fun _ => alive14 _) ?_ | refine CallE.intro _ (fun _ => SCall.arg (by repeat (first | exact trivial | exact .inl (.inl rfl) | exact .inl (.inr ⟨_, rfl, rfl⟩) | exact .inl rfl | exact .inr ⟨_, rfl, rfl⟩ | refine .inr ⟨_, _, rfl, rfl, ?_⟩ | refine ⟨?_, ?_⟩)) (alive14 _)) ?_ | refine CallE2.intro _ _ (alive14 _) ?_ | refine CallE2.intro _ _ (SCall.arg (by repeat (first | exact trivial | exact .inl (.inl rfl) | exact .inl (.inr ⟨_, rfl, rfl⟩) | exact .inl rfl | exact .inr ⟨_, rfl, rfl⟩ | refine .inr ⟨_, _, rfl, rfl, ?_⟩ | refine ⟨?_, ?_⟩)) (alive14 _)) ?_)
    (repeat (first | simp -dsimp only [zrBuild101, RB, TB, keep5, tab5, xindexAddr, xindex, xslice, xconvert, xlen, ewOp, FreeW, StabW, SameW, ChangeW, AddW, BaseW, limBytes, simprocAttr, ne_eq] | ((with_reducible refine Need.intro ?_ ?_); (first | trivial | exact ⟨_, rfl⟩ | exact ⟨[], (List.append_nil _).symm⟩ | omega | (simp; done) | (simp; omega) | exact ⟨by first | trivial | (simp; done), _, by first | rfl | (simp; rfl)⟩))))
    refine IfW.intro (fun h => ?_) (fun h => ?_)
    · have hlen : (60 : Int) ≤ l.length := by have := of_decide_eq_true h; omega
      have ht : ((l.take 60).map szK).sum ≤ (l.map szK).sum := by
        conv => rhs; rw [← List.take_append_drop 60 l]
        rw [List.map_append, List.sum_append]; omega
      (repeat (first | simp -dsimp only [zrBuild101, h, RB, TB, keep5, tab5, xindexAddr, xindex, xslice, xconvert, xlen, ewOp, FreeW, StabW, SameW, ChangeW, AddW, BaseW, limBytes, simprocAttr, ne_eq] | ((with_reducible refine Need.intro ?_ ?_); (first | trivial | exact ⟨_, rfl⟩ | exact ⟨[], (List.append_nil _).symm⟩ | omega | (simp; done) | (simp; omega) | exact ⟨by first | trivial | (simp; done), _, by first | rfl | (simp; rfl)⟩))))
      exact UpTo.here ⟨l.take 60, ⟨by simp; omega, by omega⟩, by simp [List.map_take], [], by simp⟩
    · have hlen : l.length ≤ 60 := by have := of_decide_eq_false h; omega
      (repeat (first | simp -dsimp only [zrBuild101, h, RB, TB, keep5, tab5, xindexAddr, xindex, xslice, xconvert, xlen, ewOp, FreeW, StabW, SameW, ChangeW, AddW, BaseW, limBytes, simprocAttr, ne_eq] | ((with_reducible refine Need.intro ?_ ?_); (first | trivial | exact ⟨_, rfl⟩ | exact ⟨[], (List.append_nil _).symm⟩ | omega | (simp; done) | (simp; omega) | exact ⟨by first | trivial | (simp; done), _, by first | rfl | (simp; rfl)⟩))))
      exact UpTo.step (Gho.restr [0]) (UpTo.here ⟨l, ⟨hlen, hb⟩, rfl, [], by simp⟩)
  rintro m ⟨hm, hms⟩
  obtain ⟨out, r, hk⟩ := Kd.total m.length [] m [] (Nat.le_refl _)
  have hfin : finF (stA m) = out := hk.fin
  have hr : r = [] := Kd.all rfl hk
  subst hr
  have hoz := hk.sz
  simp only [szTs, Nat.zero_add] at hoz
  have hmz := merge_sz out
  have hsO := hk.sum sumO twoO
  have hsT := hk.sum sumT twoT
  have hsG := hk.sum sumG twoG
  simp only [Sumry.rF, List.flatMap_nil, List.append_nil, List.nil_append] at hsO hsT hsG
  have hw : fixS (catS (wordsF (visA (mergeT out)))) = fixS (catS (dataT m)) := by
    refine like_iff.1 ⟨?_, ?_⟩
    · show (wordsF (visA (mergeT out))).flatMap Str.text = (dataT m).flatMap Str.text
      rw [← data_text, ← hsT, ← sumT.twice twoT out 1]
      unfold wordsF visA
      rw [List.flatMap_map]; rfl
    · rw [cat_orig, cat_orig, ← data_orig, ← hsO, ← sumO.twice twoO out 1]
      unfold wordsF visA
      rw [List.flatMap_map]; rfl
  have hg : tagsF (visA (mergeT out)) = namesT m := by
    rw [← data_names, ← hsG, ← sumG.twice twoG out 1, tags_sum]; rfl
  obtain ⟨hw1, hw2, hw3⟩ := words_ok (mergeT out) (by omega)
  obtain ⟨hd1, hd2, hd3⟩ := dataT_ok m (by omega)
  refine EWn.of_c Tok mixed (own := false) keep5 tab5 (by kernel_rfl) ?_
  (repeat (first | simp -dsimp only [zrBuild101, RB, TB, keep5, tab5, xindexAddr, xindex, xslice, xconvert, xlen, ewOp, FreeW, StabW, SameW, ChangeW, AddW, BaseW, limBytes, simprocAttr, ne_eq] | ((with_reducible refine Need.intro ?_ ?_); (first | trivial | exact ⟨_, rfl⟩ | exact ⟨[], (List.append_nil _).symm⟩ | omega | (simp; done) | (simp; omega) | exact ⟨by first | trivial | (simp; done), _, by first | rfl | (simp; rfl)⟩))))
  refine EWn.ghost (Gho.adopt 3 1 rfl) ?_
  simp only [RB, limBytes, simprocAttr, ne_eq]
  refine EWn.loopE (ι := (Nat) × (Nat)) (fun (x_ : (Nat) × (Nat)) => match x_ with | (i, v) => i ≤ m.length) (fun (x_ : (Nat) × (Nat)) => match x_ with | (i, v) => m.length - i) (fun (x_ : (Nat) × (Nat)) => match x_ with | (i, v) => [(3, .vec H.length v 0 (namesT (m.take i)).length), (4, .int .i64 i)]) (fun (x_ : (Nat) × (Nat)) => match x_ with | (i, v) => H ++ [.vec v 1 ((namesT (m.take i)).map V.str)]) (0, 1) ?_ ?_ ?_ ?_ ?_
  · first | rfl | simp [upd, eset]
  · first | rfl | (simp; done) | exact (set_same (by assumption)).symm
  · rintro ⟨i, v⟩ hok; exact ⟨by first | (simp; done) | (simp; omega), by (simp (maxDischargeDepth := 6) [LTB, HLt_set, ltL_take, ltL_drop, ltL_rep, ltL_set, upd, eset, hH, hHk, zlBuild101] <;> omega), by (simp (maxDischargeDepth := 6) [LTB, HLt_set, ltL_take, ltL_drop, ltL_rep, ltL_set, upd, eset, hH, hHk, zlBuild101] <;> omega)⟩
  · omega
  rintro ⟨i, v⟩ hi
  have hol : (namesT (m.take i)).length ≤ i := Nat.le_trans (namesT_len _) (by simp; omega)
  refine EWn.of_c Tok mixed (own := false) keep5 tab5 (by kernel_rfl) ?_
  (repeat (first | simp -dsimp only [zrBuild101, RB, TB, keep5, tab5, xindexAddr, xindex, xslice, xconvert, xlen, ewOp, FreeW, StabW, SameW, ChangeW, AddW, BaseW, limBytes, simprocAttr, ne_eq] | ((with_reducible refine Need.intro ?_ ?_); (first | trivial | exact ⟨_, rfl⟩ | exact ⟨[], (List.append_nil _).symm⟩ | omega | (simp; done) | (simp; omega) | exact ⟨by first | trivial | (simp; done), _, by first | rfl | (simp; rfl)⟩))))
  refine IfW.intro (fun h => ?_) (fun h => ?_)
  · have hlt := lt_of h
    have hat := at_map tokV m i hlt
    have hsucc := namesT_succ hlt
    generalize m[i] = tk at hat hsucc
    have hst := starts_iff tk
    have w1 : IntKind.i64.wrap ((i : Int) + 1) = ((i + 1 : Nat) : Int) := by rw [wrapI (by omega)]; omega
    (repeat (first | simp -dsimp only [zrBuild101, h, hat, tokV, RB, TB, keep5, tab5, xindexAddr, xindex, xslice, xconvert, xlen, ewOp, FreeW, StabW, SameW, ChangeW, AddW, BaseW, limBytes, simprocAttr, ne_eq] | ((with_reducible refine Need.intro ?_ ?_); (first | trivial | exact ⟨_, rfl⟩ | exact ⟨[], (List.append_nil _).symm⟩ | omega | (simp; done) | (simp; omega) | exact ⟨by first | trivial | (simp; done), _, by first | rfl | (simp; rfl)⟩))))
    refine IfW.intro (fun h1 => ?_) (fun h1 => ?_)
    · have hk1 : tk.kind = 1 := by simpa using h1
      (repeat (first | simp -dsimp only [zrBuild101, h1, hat, tokV, RB, TB, keep5, tab5, xindexAddr, xindex, xslice, xconvert, xlen, ewOp, FreeW, StabW, SameW, ChangeW, AddW, BaseW, limBytes, simprocAttr, ne_eq] | ((with_reducible refine Need.intro ?_ ?_); (first | trivial | exact ⟨_, rfl⟩ | exact ⟨[], (List.append_nil _).symm⟩ | omega | (simp; done) | (simp; omega) | exact ⟨by first | trivial | (simp; done), _, by first | rfl | (simp; rfl)⟩))))
      refine IfW.intro (fun h2 => ?_) (fun h2 => ?_)
      · have hs : tk.starts = false := by simp at h2; simp [hst, h2]
        rw [if_neg (by simp [hs]), List.append_nil] at hsucc
        (repeat (first | simp -dsimp only [zrBuild101, h2, hat, tokV, w1, RB, TB, keep5, tab5, xindexAddr, xindex, xslice, xconvert, xlen, ewOp, FreeW, StabW, SameW, ChangeW, AddW, BaseW, limBytes, simprocAttr, ne_eq] | ((with_reducible refine Need.intro ?_ ?_); (first | trivial | exact ⟨_, rfl⟩ | exact ⟨[], (List.append_nil _).symm⟩ | omega | (simp; done) | (simp; omega) | exact ⟨by first | trivial | (simp; done), _, by first | rfl | (simp; rfl)⟩))))
        refine UpTo.here ⟨(i + 1, v), hlt, by simp only; omega, by simp [upd, eset, hsucc], ⟨[], by simp [hsucc]⟩⟩
      · have hs : tk.starts = true := by simp at h2; simp [hst, hk1, h2]
        rw [if_pos hs] at hsucc
        (repeat (first | simp -dsimp only [zrBuild101, h2, hat, tokV, w1, RB, TB, keep5, tab5, xindexAddr, xindex, xslice, xconvert, xlen, ewOp, FreeW, StabW, SameW, ChangeW, AddW, BaseW, limBytes, simprocAttr, ne_eq] | ((with_reducible refine Need.intro ?_ ?_); (first | trivial | exact ⟨_, rfl⟩ | exact ⟨[], (List.append_nil _).symm⟩ | omega | (simp; done) | (simp; omega) | exact ⟨by first | trivial | (simp; done), _, by first | rfl | (simp; rfl)⟩))))
        refine UpTo.here ⟨(i + 1, v + 1), hlt, by simp only; omega, by simp [upd, eset, hsucc], ⟨[], by simp [hsucc]⟩⟩
    · have hk1 : ¬ tk.kind = 1 := by simpa using h1
      have hs : tk.starts = false := by simp [hst, hk1]
      rw [if_neg (by simp [hs]), List.append_nil] at hsucc
      (repeat (first | simp -dsimp only [zrBuild101, h1, hat, tokV, w1, RB, TB, keep5, tab5, xindexAddr, xindex, xslice, xconvert, xlen, ewOp, FreeW, StabW, SameW, ChangeW, AddW, BaseW, limBytes, simprocAttr, ne_eq] | ((with_reducible refine Need.intro ?_ ?_); (first | trivial | exact ⟨_, rfl⟩ | exact ⟨[], (List.append_nil _).symm⟩ | omega | (simp; done) | (simp; omega) | exact ⟨by first | trivial | (simp; done), _, by first | rfl | (simp; rfl)⟩))))
      refine UpTo.here ⟨(i + 1, v), hlt, by simp only; omega, by simp [upd, eset, hsucc], ⟨[], by simp [hsucc]⟩⟩
  · (repeat (first | simp -dsimp only [zrBuild101, h, RB, TB, keep5, tab5, xindexAddr, xindex, xslice, xconvert, xlen, ewOp, FreeW, StabW, SameW, ChangeW, AddW, BaseW, limBytes, simprocAttr, ne_eq] | ((with_reducible refine Need.intro ?_ ?_); (first | trivial | exact ⟨_, rfl⟩ | exact ⟨[], (List.append_nil _).symm⟩ | omega | (simp; done) | (simp; omega) | exact ⟨by first | trivial | (simp; done), _, by first | rfl | (simp; rfl)⟩))))
    have hi2 : i = m.length := Nat.le_antisymm hi (ge_of h)
    subst hi2
    rw [List.take_length]
    have hbt : ∀ G, SCall Try.prog 22 [.slice (m.map tokV)] G (fun r H' => r = .slice ((mergeT out).map treeV) ∧ H' = G) := fun G => by have := bTrees G m (by omega); rw [hfin] at this; exact this
    have hokw : okS (catS (wordsF (visA (mergeT out)))) := ⟨by show ((wordsF (visA (mergeT out))).flatMap Str.text).length ≤ _; omega, Nat.le_trans (cat_runs _) (by show ((wordsF (visA (mergeT out))).flatMap Str.text).length ≤ _; omega)⟩
    have hokd : okS (catS (dataT m)) := ⟨by show ((dataT m).flatMap Str.text).length ≤ _; omega, Nat.le_trans (cat_runs _) (by show ((dataT m).flatMap Str.text).length ≤ _; omega)⟩
    have hdec : decide (fixS (catS (wordsF (visA (mergeT out)))) = fixS (catS (dataT m))) = true := decide_eq_true hw
    (first | refine SCall.then (hbt _) ?_ | refine SCall.thenA (hbt _) (by repeat (first | exact trivial | exact .inl (.inl rfl) | exact .inl (.inr ⟨_, rfl, rfl⟩) | exact .inl rfl | exact .inr ⟨_, rfl, rfl⟩ | refine .inr ⟨_, _, rfl, rfl, ?_⟩ | refine ⟨?_, ?_⟩)) ?_ | refine CallE.intro _ (hbt _) ?_ | refine CallE.introA (hbt _) (by repeat (first | exact trivial | exact .inl (.inl rfl) | exact .inl (.inr ⟨_, rfl, rfl⟩) | exact .inl rfl | exact .inr ⟨_, rfl, rfl⟩ | refine .inr ⟨_, _, rfl, rfl, ?_⟩ | refine ⟨?_, ?_⟩)) ?_ | refine CallE.intro _ (fun _ => hbt _) ?_ | refine CallE.intro _ (fun _ => SCall.arg (by repeat (first | exact trivial | exact .inl (.inl rfl) | exact .inl (.inr ⟨_, rfl, rfl⟩) | exact .inl rfl | exact .inr ⟨_, rfl, rfl⟩ | refine .inr ⟨_, _, rfl, rfl, ?_⟩ | refine ⟨?_, ?_⟩)) (hbt _)) ?_ | refine CallE2.intro _ _ (hbt _) ?_ | refine CallE2.intro _ _ (SCall.arg (by repeat (first | exact trivial | exact .inl (.inl rfl) | exact .inl (.inr ⟨_, rfl, rfl⟩) | exact .inl rfl | exact .inr ⟨_, rfl, rfl⟩ | refine .inr ⟨_, _, rfl, rfl, ?_⟩ | refine ⟨?_, ?_⟩)) (hbt _)) ?_)
    (repeat (first | simp -dsimp only [zrBuild101, RB, TB, keep5, tab5, xindexAddr, xindex, xslice, xconvert, xlen, ewOp, FreeW, StabW, SameW, ChangeW, AddW, BaseW, limBytes, simprocAttr, ne_eq] | ((with_reducible refine Need.intro ?_ ?_); (first | trivial | exact ⟨_, rfl⟩ | exact ⟨[], (List.append_nil _).symm⟩ | omega | (simp; done) | (simp; omega) | exact ⟨by first | trivial | (simp; done), _, by first | rfl | (simp; rfl)⟩))))
    (first | refine SCall.then (tWords _ (mergeT out) (by omega)) ?_ | refine SCall.thenA (tWords _ (mergeT out) (by omega)) (by repeat (first | exact trivial | exact .inl (.inl rfl) | exact .inl (.inr ⟨_, rfl, rfl⟩) | exact .inl rfl | exact .inr ⟨_, rfl, rfl⟩ | refine .inr ⟨_, _, rfl, rfl, ?_⟩ | refine ⟨?_, ?_⟩)) ?_ | refine CallE.intro _ (tWords _ (mergeT out) (by omega)) ?_ | refine CallE.introA (tWords _ (mergeT out) (by omega)) (by repeat (first | exact trivial | exact .inl (.inl rfl) | exact .inl (.inr ⟨_, rfl, rfl⟩) | exact .inl rfl | exact .inr ⟨_, rfl, rfl⟩ | refine .inr ⟨_, _, rfl, rfl, ?_⟩ | refine ⟨?_, ?_⟩)) ?_ | refine CallE.intro _ (fun _ => tWords _ (mergeT out) (by omega)) ?_ | refine CallE.intro _ (fun _ => SCall.arg (by repeat (first | exact trivial | exact .inl (.inl rfl) | exact .inl (.inr ⟨_, rfl, rfl⟩) | exact .inl rfl | exact .inr ⟨_, rfl, rfl⟩ | refine .inr ⟨_, _, rfl, rfl, ?_⟩ | refine ⟨?_, ?_⟩)) (tWords _ (mergeT out) (by omega))) ?_ | refine CallE2.intro _ _ (tWords _ (mergeT out) (by omega)) ?_ | refine CallE2.intro _ _ (SCall.arg (by repeat (first | exact trivial | exact .inl (.inl rfl) | exact .inl (.inr ⟨_, rfl, rfl⟩) | exact .inl rfl | exact .inr ⟨_, rfl, rfl⟩ | refine .inr ⟨_, _, rfl, rfl, ?_⟩ | refine ⟨?_, ?_⟩)) (tWords _ (mergeT out) (by omega))) ?_)
    (repeat (first | simp -dsimp only [zrBuild101, RB, TB, keep5, tab5, xindexAddr, xindex, xslice, xconvert, xlen, ewOp, FreeW, StabW, SameW, ChangeW, AddW, BaseW, limBytes, simprocAttr, ne_eq] | ((with_reducible refine Need.intro ?_ ?_); (first | trivial | exact ⟨_, rfl⟩ | exact ⟨[], (List.append_nil _).symm⟩ | omega | (simp; done) | (simp; omega) | exact ⟨by first | trivial | (simp; done), _, by first | rfl | (simp; rfl)⟩))))
    (first | refine SCall.then (tData _ m (by omega)) ?_ | refine SCall.thenA (tData _ m (by omega)) (by repeat (first | exact trivial | exact .inl (.inl rfl) | exact .inl (.inr ⟨_, rfl, rfl⟩) | exact .inl rfl | exact .inr ⟨_, rfl, rfl⟩ | refine .inr ⟨_, _, rfl, rfl, ?_⟩ | refine ⟨?_, ?_⟩)) ?_ | refine CallE.intro _ (tData _ m (by omega)) ?_ | refine CallE.introA (tData _ m (by omega)) (by repeat (first | exact trivial | exact .inl (.inl rfl) | exact .inl (.inr ⟨_, rfl, rfl⟩) | exact .inl rfl | exact .inr ⟨_, rfl, rfl⟩ | refine .inr ⟨_, _, rfl, rfl, ?_⟩ | refine ⟨?_, ?_⟩)) ?_ | refine CallE.intro _ (fun _ => tData _ m (by omega)) ?_ | refine CallE.intro _ (fun _ => SCall.arg (by repeat (first | exact trivial | exact .inl (.inl rfl) | exact .inl (.inr ⟨_, rfl, rfl⟩) | exact .inl rfl | exact .inr ⟨_, rfl, rfl⟩ | refine .inr ⟨_, _, rfl, rfl, ?_⟩ | refine ⟨?_, ?_⟩)) (tData _ m (by omega))) ?_ | refine CallE2.intro _ _ (tData _ m (by omega)) ?_ | refine CallE2.intro _ _ (SCall.arg (by repeat (first | exact trivial | exact .inl (.inl rfl) | exact .inl (.inr ⟨_, rfl, rfl⟩) | exact .inl rfl | exact .inr ⟨_, rfl, rfl⟩ | refine .inr ⟨_, _, rfl, rfl, ?_⟩ | refine ⟨?_, ?_⟩)) (tData _ m (by omega))) ?_)
    (repeat (first | simp -dsimp only [zrBuild101, RB, TB, keep5, tab5, xindexAddr, xindex, xslice, xconvert, xlen, ewOp, FreeW, StabW, SameW, ChangeW, AddW, BaseW, limBytes, simprocAttr, ne_eq] | ((with_reducible refine Need.intro ?_ ?_); (first | trivial | exact ⟨_, rfl⟩ | exact ⟨[], (List.append_nil _).symm⟩ | omega | (simp; done) | (simp; omega) | exact ⟨by first | trivial | (simp; done), _, by first | rfl | (simp; rfl)⟩))))
    (first | refine SCall.then (pStr _ (catS (wordsF (visA (mergeT out)))) (catS (dataT m)) hokw hokd) ?_ | refine SCall.thenA (pStr _ (catS (wordsF (visA (mergeT out)))) (catS (dataT m)) hokw hokd) (by repeat (first | exact trivial | exact .inl (.inl rfl) | exact .inl (.inr ⟨_, rfl, rfl⟩) | exact .inl rfl | exact .inr ⟨_, rfl, rfl⟩ | refine .inr ⟨_, _, rfl, rfl, ?_⟩ | refine ⟨?_, ?_⟩)) ?_ | refine CallE.intro _ (pStr _ (catS (wordsF (visA (mergeT out)))) (catS (dataT m)) hokw hokd) ?_ | refine CallE.introA (pStr _ (catS (wordsF (visA (mergeT out)))) (catS (dataT m)) hokw hokd) (by repeat (first | exact trivial | exact .inl (.inl rfl) | exact .inl (.inr ⟨_, rfl, rfl⟩) | exact .inl rfl | exact .inr ⟨_, rfl, rfl⟩ | refine .inr ⟨_, _, rfl, rfl, ?_⟩ | refine ⟨?_, ?_⟩)) ?_ | refine CallE.intro _ (fun _ => pStr _ (catS (wordsF (visA (mergeT out)))) (catS (dataT m)) hokw hokd) ?_ | refine CallE.intro _ (fun _ => SCall.arg (by repeat (first | exact trivial | exact .inl (.inl rfl) | exact .inl (.inr ⟨_, rfl, rfl⟩) | exact .inl rfl | exact .inr ⟨_, rfl, rfl⟩ | refine .inr ⟨_, _, rfl, rfl, ?_⟩ | refine ⟨?_, ?_⟩)) (pStr _ (catS (wordsF (visA (mergeT out)))) (catS (dataT m)) hokw hokd)) ?_ | refine CallE2.intro _ _ (pStr _ (catS (wordsF (visA (mergeT out)))) (catS (dataT m)) hokw hokd) ?_ | refine CallE2.intro _ _ (SCall.arg (by repeat (first | exact trivial | exact .inl (.inl rfl) | exact .inl (.inr ⟨_, rfl, rfl⟩) | exact .inl rfl | exact .inr ⟨_, rfl, rfl⟩ | refine .inr ⟨_, _, rfl, rfl, ?_⟩ | refine ⟨?_, ?_⟩)) (pStr _ (catS (wordsF (visA (mergeT out)))) (catS (dataT m)) hokw hokd)) ?_)
    (repeat (first | simp -dsimp only [zrBuild101, hdec, RB, TB, keep5, tab5, xindexAddr, xindex, xslice, xconvert, xlen, ewOp, FreeW, StabW, SameW, ChangeW, AddW, BaseW, limBytes, simprocAttr, ne_eq] | ((with_reducible refine Need.intro ?_ ?_); (first | trivial | exact ⟨_, rfl⟩ | exact ⟨[], (List.append_nil _).symm⟩ | omega | (simp; done) | (simp; omega) | exact ⟨by first | trivial | (simp; done), _, by first | rfl | (simp; rfl)⟩))))
    (first | refine SCall.then (tTags _ (mergeT out) (by omega)) ?_ | refine SCall.thenA (tTags _ (mergeT out) (by omega)) (by repeat (first | exact trivial | exact .inl (.inl rfl) | exact .inl (.inr ⟨_, rfl, rfl⟩) | exact .inl rfl | exact .inr ⟨_, rfl, rfl⟩ | refine .inr ⟨_, _, rfl, rfl, ?_⟩ | refine ⟨?_, ?_⟩)) ?_ | refine CallE.intro _ (tTags _ (mergeT out) (by omega)) ?_ | refine CallE.introA (tTags _ (mergeT out) (by omega)) (by repeat (first | exact trivial | exact .inl (.inl rfl) | exact .inl (.inr ⟨_, rfl, rfl⟩) | exact .inl rfl | exact .inr ⟨_, rfl, rfl⟩ | refine .inr ⟨_, _, rfl, rfl, ?_⟩ | refine ⟨?_, ?_⟩)) ?_ | refine CallE.intro _ (fun _ => tTags _ (mergeT out) (by omega)) ?_ | refine CallE.intro _ (fun _ => SCall.arg (by repeat (first | exact trivial | exact .inl (.inl rfl) | exact .inl (.inr ⟨_, rfl, rfl⟩) | exact .inl rfl | exact .inr ⟨_, rfl, rfl⟩ | refine .inr ⟨_, _, rfl, rfl, ?_⟩ | refine ⟨?_, ?_⟩)) (tTags _ (mergeT out) (by omega))) ?_ | refine CallE2.intro _ _ (tTags _ (mergeT out) (by omega)) ?_ | refine CallE2.intro _ _ (SCall.arg (by repeat (first | exact trivial | exact .inl (.inl rfl) | exact .inl (.inr ⟨_, rfl, rfl⟩) | exact .inl rfl | exact .inr ⟨_, rfl, rfl⟩ | refine .inr ⟨_, _, rfl, rfl, ?_⟩ | refine ⟨?_, ?_⟩)) (tTags _ (mergeT out) (by omega))) ?_)
    (repeat (first | simp -dsimp only [zrBuild101, hdec, hg, RB, TB, keep5, tab5, xindexAddr, xindex, xslice, xconvert, xlen, ewOp, FreeW, StabW, SameW, ChangeW, AddW, BaseW, limBytes, simprocAttr, ne_eq] | ((with_reducible refine Need.intro ?_ ?_); (first | trivial | exact ⟨_, rfl⟩ | exact ⟨[], (List.append_nil _).symm⟩ | omega | (simp; done) | (simp; omega) | exact ⟨by first | trivial | (simp; done), _, by first | rfl | (simp; rfl)⟩))))
    (first | refine SCall.then (plTextsB _ (namesT m) (namesT m) _ (Bo.vec (ver := v) (es := 1) (l := (namesT m).map V.str) (by rw [hget0]; rfl) (by simp) (ltL_map (f := V.str) (fun _ => trivial) (namesT m)))) ?_ | refine SCall.thenA (plTextsB _ (namesT m) (namesT m) _ (Bo.vec (ver := v) (es := 1) (l := (namesT m).map V.str) (by rw [hget0]; rfl) (by simp) (ltL_map (f := V.str) (fun _ => trivial) (namesT m)))) (by repeat (first | exact trivial | exact .inl (.inl rfl) | exact .inl (.inr ⟨_, rfl, rfl⟩) | exact .inl rfl | exact .inr ⟨_, rfl, rfl⟩ | refine .inr ⟨_, _, rfl, rfl, ?_⟩ | refine ⟨?_, ?_⟩)) ?_ | refine CallE.intro _ (plTextsB _ (namesT m) (namesT m) _ (Bo.vec (ver := v) (es := 1) (l := (namesT m).map V.str) (by rw [hget0]; rfl) (by simp) (ltL_map (f := V.str) (fun _ => trivial) (namesT m)))) ?_ | refine CallE.introA (plTextsB _ (namesT m) (namesT m) _ (Bo.vec (ver := v) (es := 1) (l := (namesT m).map V.str) (by rw [hget0]; rfl) (by simp) (ltL_map (f := V.str) (fun _ => trivial) (namesT m)))) (by repeat (first | exact trivial | exact .inl (.inl rfl) | exact .inl (.inr ⟨_, rfl, rfl⟩) | exact .inl rfl | exact .inr ⟨_, rfl, rfl⟩ | refine .inr ⟨_, _, rfl, rfl, ?_⟩ | refine ⟨?_, ?_⟩)) ?_ | refine CallE.intro _ (fun _ => plTextsB _ (namesT m) (namesT m) _ (Bo.vec (ver := v) (es := 1) (l := (namesT m).map V.str) (by rw [hget0]; rfl) (by simp) (ltL_map (f := V.str) (fun _ => trivial) (namesT m)))) ?_ | refine CallE.intro _ (fun _ => SCall.arg (by repeat (first | exact trivial | exact .inl (.inl rfl) | exact .inl (.inr ⟨_, rfl, rfl⟩) | exact .inl rfl | exact .inr ⟨_, rfl, rfl⟩ | refine .inr ⟨_, _, rfl, rfl, ?_⟩ | refine ⟨?_, ?_⟩)) (plTextsB _ (namesT m) (namesT m) _ (Bo.vec (ver := v) (es := 1) (l := (namesT m).map V.str) (by rw [hget0]; rfl) (by simp) (ltL_map (f := V.str) (fun _ => trivial) (namesT m))))) ?_ | refine CallE2.intro _ _ (plTextsB _ (namesT m) (namesT m) _ (Bo.vec (ver := v) (es := 1) (l := (namesT m).map V.str) (by rw [hget0]; rfl) (by simp) (ltL_map (f := V.str) (fun _ => trivial) (namesT m)))) ?_ | refine CallE2.intro _ _ (SCall.arg (by repeat (first | exact trivial | exact .inl (.inl rfl) | exact .inl (.inr ⟨_, rfl, rfl⟩) | exact .inl rfl | exact .inr ⟨_, rfl, rfl⟩ | refine .inr ⟨_, _, rfl, rfl, ?_⟩ | refine ⟨?_, ?_⟩)) (plTextsB _ (namesT m) (namesT m) _ (Bo.vec (ver := v) (es := 1) (l := (namesT m).map V.str) (by rw [hget0]; rfl) (by simp) (ltL_map (f := V.str) (fun _ => trivial) (namesT m))))) ?_)
    (repeat (first | simp -dsimp only [zrBuild101, RB, TB, keep5, tab5, xindexAddr, xindex, xslice, xconvert, xlen, ewOp, FreeW, StabW, SameW, ChangeW, AddW, BaseW, limBytes, simprocAttr, ne_eq] | ((with_reducible refine Need.intro ?_ ?_); (first | trivial | exact ⟨_, rfl⟩ | exact ⟨[], (List.append_nil _).symm⟩ | omega | (simp; done) | (simp; omega) | exact ⟨by first | trivial | (simp; done), _, by first | rfl | (simp; rfl)⟩))))
    refine RetW.auto0 false _ (by first | rfl | exact (List.append_nil _).symm) ?_ ?_
    · (simp (maxDischargeDepth := 6) [LTB, HLt_set, ltL_take, ltL_drop, ltL_rep, ltL_set, upd, eset, hH, hHk, zlBuild101] <;> omega)
    (try simp only [wk, wk1, wk0, RB, limBytes, simprocAttr, ne_eq])
    (try (rw [List.take_of_length_le]; rotate_left 1; (· first | (simp; done) | (simp; omega) | omega)))
end Go.Proofs.Ytjplgbalpnlanaa

/- The walks of package tree: element, Merge. -/
import Derived.Test.YtjplgbalpnlanaaTree0
set_option linter.unusedSimpArgs false
set_option linter.unusedVariables false
set_option maxRecDepth 100000
namespace Go.Proofs.Ytjplgbalpnlanaa
open Go Go.EL
theorem zrTree11 : type_of% (And.intro (And.intro (And.intro (And.intro (@st_run) (@sz_run)) (And.intro (@st1_run) (And.intro (@cl_run) (@st_Str)))) (And.intro (And.intro (@sz_Str) (@st1_Str)) (And.intro (@cl_Str) (And.intro (@st_c) (@sz_c))))) (And.intro (And.intro (And.intro (@st1_c) (@cl_c)) (And.intro (@st_attr) (And.intro (@sz_attr) (@st1_attr)))) (And.intro (And.intro (@cl_attr) (@st_tree)) (And.intro (@sz_tree) (And.intro (@st1_tree) (@cl_tree)))))) := And.intro (And.intro (And.intro (And.intro (@st_run) (@sz_run)) (And.intro (@st1_run) (And.intro (@cl_run) (@st_Str)))) (And.intro (And.intro (@sz_Str) (@st1_Str)) (And.intro (@cl_Str) (And.intro (@st_c) (@sz_c))))) (And.intro (And.intro (And.intro (@st1_c) (@cl_c)) (And.intro (@st_attr) (And.intro (@sz_attr) (@st1_attr)))) (And.intro (And.intro (@cl_attr) (@st_tree)) (And.intro (@sz_tree) (And.intro (@st1_tree) (@cl_tree)))))
theorem zlTree11 : type_of% (And.intro (And.intro (And.intro (And.intro (@lt_vi) (@lt_str)) (And.intro (@lt_vb) (And.intro (@ltc_str) (@ltc_vi)))) (And.intro (And.intro (@lt_run) (@lt1_run)) (And.intro (@ltc_run) (And.intro (@lt_Str) (@lt1_Str))))) (And.intro (And.intro (And.intro (@ltc_Str) (@lt_c)) (And.intro (@lt1_c) (And.intro (@ltc_c) (@lt_attr)))) (And.intro (And.intro (@lt1_attr) (@ltc_attr)) (And.intro (@lt_tree) (And.intro (@lt1_tree) (@ltc_tree)))))) := And.intro (And.intro (And.intro (And.intro (@lt_vi) (@lt_str)) (And.intro (@lt_vb) (And.intro (@ltc_str) (@ltc_vi)))) (And.intro (And.intro (@lt_run) (@lt1_run)) (And.intro (@ltc_run) (And.intro (@lt_Str) (@lt1_Str))))) (And.intro (And.intro (And.intro (@ltc_Str) (@lt_c)) (And.intro (@lt1_c) (And.intro (@ltc_c) (@lt_attr)))) (And.intro (And.intro (@lt1_attr) (@ltc_attr)) (And.intro (@lt_tree) (And.intro (@lt1_tree) (@ltc_tree)))))
def txtL (l : List Tree) : Nat := (l.map fun t => t.text.text.length).sum
theorem txtL_app (a b : List Tree) : txtL (a ++ b) = txtL a + txtL b := by simp [txtL]
theorem txtL_mem {l : List Tree} {t : Tree} (h : t ∈ l) : t.text.text.length ≤ txtL l := by
  induction l with
  | nil => cases h
  | cons u l ih =>
    simp only [txtL, List.map_cons, List.sum_cons] at ih ⊢
    rcases List.mem_cons.1 h with rfl | h
    · omega
    · have := ih h; omega
def invM (N : Nat) (acc : List Tree) : Prop := (∀ u ∈ acc, u.text.runs.length ≤ u.text.text.length) ∧ txtL acc ≤ N
theorem fix_runs (s : Str) : (fixS s).runs.length ≤ s.text.length := by
  have := rle_len (orig s)
  rw [orig_len] at this
  exact this
theorem cat_runs (l : List Str) : (catS l).runs.length ≤ (catS l).text.length := by
  have := rle_len (l.flatMap orig)
  rw [fm_orig] at this
  exact this
theorem stepM_inv {N : Nat} {acc : List Tree} (t : Tree) (ks : List Tree) (h : invM N acc) : invM (N + szT t) (stepM acc t ks) ∧ (stepM acc t ks).length ≤ acc.length + 1 := by
  obtain ⟨h1, h2⟩ := h
  have hsz := szT_eq t
  unfold szS' at hsz
  unfold stepM
  split
  · refine ⟨⟨fun u hu => ?_, ?_⟩, by simp⟩
    · rcases List.mem_append.1 hu with hu | hu
      · exact h1 u hu
      · rw [List.mem_singleton.1 hu]; exact Nat.le_refl _
    · rw [txtL_app]
      have e : txtL [Tree.mk (fixS t.tag) (onceA t.attrs []) ks zeroS] = 0 := rfl
      omega
  · split
    · exact ⟨⟨h1, by omega⟩, by omega⟩
    · split
      · refine ⟨⟨fun u hu => ?_, ?_⟩, by simp⟩
        · rw [List.mem_singleton.1 hu]; exact fix_runs _
        · have e : txtL [Tree.mk zeroS [] [] (fixS t.text)] = t.text.text.length := by simp [txtL, Tree.text, fixS]
          omega
      · rename_i u hl
        obtain ⟨ys, rfl⟩ := List.getLast?_eq_some_iff.1 hl
        split
        · refine ⟨⟨fun v hv => ?_, ?_⟩, by simp⟩
          · rcases List.mem_append.1 hv with hv | hv
            · exact h1 v hv
            · rw [List.mem_singleton.1 hv]; exact fix_runs _
          · rw [txtL_app]
            have : txtL [Tree.mk zeroS [] [] (fixS t.text)] = t.text.text.length := by simp [txtL, Tree.text, fixS]
            omega
        · rw [List.dropLast_concat]
          refine ⟨⟨fun v hv => ?_, ?_⟩, by simp⟩
          · rcases List.mem_append.1 hv with hv | hv
            · exact h1 v (by simp [hv])
            · rw [List.mem_singleton.1 hv]; exact cat_runs _
          · rw [txtL_app] at h2 ⊢
            have e1 : txtL [Tree.mk u.tag u.attrs u.kids (catS [u.text, t.text])] = u.text.text.length + t.text.text.length := by simp [txtL, Tree.text, catS]
            have e2 : txtL [u] = u.text.text.length := by simp [txtL]
            omega
theorem mergeF_inv (l : List Tree) : ∀ i, i ≤ l.length → invM (szTs (l.take i)) (mergeF (l.take i) []) ∧ (mergeF (l.take i) []).length ≤ i
  | 0, _ => by simp only [List.take_zero, mergeF]; exact ⟨⟨by simp, by simp [txtL]⟩, by simp⟩
  | i + 1, h => by
    obtain ⟨h1, h2⟩ := mergeF_inv l i (by omega)
    obtain ⟨h3, h4⟩ := stepM_inv (l[i]'(by omega)) (mergeT (l[i]'(by omega)).kids) h1
    rw [mergeF_succ (by omega), List.take_succ_eq_append_getElem (by omega), szTs_append]
    refine ⟨?_, by omega⟩
    simp only [szTs, Nat.add_zero]
    exact h3
theorem tElem (H : List Ob) (t : Tree) : SCall Try.prog 92 [.agg [.str t.tag.text, .slice (t.tag.runs.map runV), .slice (t.attrs.map attrV), .slice (t.kids.map treeV), .str t.text.text, .slice (t.text.runs.map runV)]] H (fun r H' => r = .bool t.isE ∧ H' = H) := by
  refine SCall.of_good fun hH => ?_
  have hHk := HLt.add hH
  refine SCall.of_code Tok Try.func92 rfl Try.call92 (n := 7) rfl (by simp) (rs := [.tmp 2]) rfl ?_
  refine EWn.to ?_
  refine EWn.of_c Tok mixed (own := false) keep92 tab92 (by kernel_rfl) ?_
  (repeat (first | simp -dsimp only [zrTree11, RB, TB, keep92, tab92, xindexAddr, xindex, xslice, xconvert, xlen, ewOp, FreeW, StabW, SameW, ChangeW, AddW, BaseW, limBytes, simprocAttr, ne_eq] | ((with_reducible refine Need.intro ?_ ?_); (first | trivial | exact ⟨_, rfl⟩ | exact ⟨[], (List.append_nil _).symm⟩ | omega | (simp; done) | (simp; omega) | exact ⟨by first | trivial | (simp; done), _, by first | rfl | (simp; rfl)⟩))))
  refine RetW.auto0 false _ (by first | rfl | exact (List.append_nil _).symm) ?_ ?_
  · (simp (maxDischargeDepth := 6) [LTB, HLt_set, ltL_take, ltL_drop, ltL_rep, ltL_set, upd, eset, hH, hHk, zlTree11] <;> omega)
  (try simp only [wk, wk1, wk0, RB, limBytes, simprocAttr, ne_eq])
  (try (rw [List.take_of_length_le]; rotate_left 1; (· first | (simp; done) | (simp; omega) | omega)))
  rfl
set_option maxHeartbeats 4000000 in
theorem tMerge : ∀ (n : Nat) (l : List Tree), szTs l ≤ n → szTs l ≤ 100000000 → ∀ H : List Ob, SCall Try.prog 23 [.slice (l.map treeV)] H (fun r H' => r = .slice ((mergeT l).map treeV) ∧ H' = H) := by
  intro n
  induction n with
  | zero =>
    intro l h _ H
    have h0 : l = [] := List.eq_nil_of_length_eq_zero (by have := sz_len l; omega)
    subst h0
    refine SCall.of_good fun hH => ?_
    have hHk := HLt.add hH
    refine SCall.of_code Tok Try.func23 rfl Try.call23 (n := 70) rfl (by simp) (rs := [.tmp 2]) rfl ?_
    refine EWn.to ?_
    refine EWn.of_c Tok mixed (own := false) keep23 tab23 (by kernel_rfl) ?_
    (repeat (first | simp -dsimp only [zrTree11, RB, TB, keep23, tab23, xindexAddr, xindex, xslice, xconvert, xlen, ewOp, FreeW, StabW, SameW, ChangeW, AddW, BaseW, limBytes, simprocAttr, ne_eq] | ((with_reducible refine Need.intro ?_ ?_); (first | trivial | exact ⟨_, rfl⟩ | exact ⟨[], (List.append_nil _).symm⟩ | omega | (simp; done) | (simp; omega) | exact ⟨by first | trivial | (simp; done), _, by first | rfl | (simp; rfl)⟩))))
    refine EWn.rounds 1 ?_
    show EWn _ _ _ _ _ _ _
    refine EWn.of_c Tok mixed (own := false) keep23 tab23 (by kernel_rfl) ?_
    (repeat (first | simp -dsimp only [zrTree11, RB, TB, keep23, tab23, xindexAddr, xindex, xslice, xconvert, xlen, ewOp, FreeW, StabW, SameW, ChangeW, AddW, BaseW, limBytes, simprocAttr, ne_eq] | ((with_reducible refine Need.intro ?_ ?_); (first | trivial | exact ⟨_, rfl⟩ | exact ⟨[], (List.append_nil _).symm⟩ | omega | (simp; done) | (simp; omega) | exact ⟨by first | trivial | (simp; done), _, by first | rfl | (simp; rfl)⟩))))
    refine RetW.auto0 false _ (by first | rfl | exact (List.append_nil _).symm) ?_ ?_
    · (simp (maxDischargeDepth := 6) [LTB, HLt_set, ltL_take, ltL_drop, ltL_rep, ltL_set, upd, eset, hH, hHk, zlTree11] <;> omega)
    (try simp only [wk, wk1, wk0, RB, limBytes, simprocAttr, ne_eq])
    (try (rw [List.take_of_length_le]; rotate_left 1; (· first | (simp; done) | (simp; omega) | omega)))
    simp [mergeT_nil]
  | succ n ih =>
    intro l hn hb H
    have hll := sz_len l
    refine SCall.of_good fun hH => ?_
    have hHk := HLt.add hH
    refine SCall.of_code Tok Try.func23 rfl Try.call23 (n := 70) rfl (by simp) (rs := [.tmp 2]) rfl ?_
    refine EWn.to ?_
    refine EWn.of_c Tok mixed (own := false) keep23 tab23 (by kernel_rfl) ?_
    (repeat (first | simp -dsimp only [zrTree11, RB, TB, keep23, tab23, xindexAddr, xindex, xslice, xconvert, xlen, ewOp, FreeW, StabW, SameW, ChangeW, AddW, BaseW, limBytes, simprocAttr, ne_eq] | ((with_reducible refine Need.intro ?_ ?_); (first | trivial | exact ⟨_, rfl⟩ | exact ⟨[], (List.append_nil _).symm⟩ | omega | (simp; done) | (simp; omega) | exact ⟨by first | trivial | (simp; done), _, by first | rfl | (simp; rfl)⟩))))
    refine EWn.ghost (Gho.adopt 3 6 rfl) ?_
    simp only [RB, limBytes, simprocAttr, ne_eq]
    refine EWn.loopE (ι := (Nat) × (Nat)) (fun (x_ : (Nat) × (Nat)) => match x_ with | (i, ver) => i ≤ l.length) (fun (x_ : (Nat) × (Nat)) => match x_ with | (i, ver) => l.length - i) (fun (x_ : (Nat) × (Nat)) => match x_ with | (i, ver) => [(3, .vec H.length ver 0 (mergeF (l.take i) []).length), (9, .int .i64 i)]) (fun (x_ : (Nat) × (Nat)) => match x_ with | (i, ver) => H ++ [.vec ver 6 ((mergeF (l.take i) []).map treeV)]) (0, 1) ?_ ?_ ?_ ?_ ?_
    · first | rfl | (simp [upd, eset]; done) | (simp [upd, eset, mergeF]; done)
    · simp [mergeF]
    · rintro ⟨i, ver⟩ hok; exact ⟨by first | (simp; done) | (simp; omega), by (simp (maxDischargeDepth := 6) [LTB, HLt_set, ltL_take, ltL_drop, ltL_rep, ltL_set, upd, eset, hH, hHk, zlTree11] <;> omega), by (simp (maxDischargeDepth := 6) [LTB, HLt_set, ltL_take, ltL_drop, ltL_rep, ltL_set, upd, eset, hH, hHk, zlTree11] <;> omega)⟩
    · omega
    rintro ⟨i, ver⟩ hi
    obtain ⟨hinv, hal⟩ := mergeF_inv l i hi
    have hbt := szTs_take l i
    refine EWn.of_c Tok mixed (own := false) keep23 tab23 (by kernel_rfl) ?_
    (repeat (first | simp -dsimp only [zrTree11, RB, TB, keep23, tab23, xindexAddr, xindex, xslice, xconvert, xlen, ewOp, FreeW, StabW, SameW, ChangeW, AddW, BaseW, limBytes, simprocAttr, ne_eq] | ((with_reducible refine Need.intro ?_ ?_); (first | trivial | exact ⟨_, rfl⟩ | exact ⟨[], (List.append_nil _).symm⟩ | omega | (simp; done) | (simp; omega) | exact ⟨by first | trivial | (simp; done), _, by first | rfl | (simp; rfl)⟩))))
    refine IfW.intro (fun h => ?_) (fun h => ?_)
    · have hlt := lt_of h
      have hsucc := mergeF_succ hlt []
      have hsz := szT_eq l[i]
      have hszl := szTs_mem (List.getElem_mem hlt)
      have hok1 : okS l[i].tag := okS_sz' (by omega)
      have hok2 : okS l[i].text := okS_sz' (by omega)
      obtain ⟨hoka, hokl⟩ := okA_sz' (l := l[i].attrs) (by omega)
      generalize mergeF (l.take i) [] = acc at *
      have hte := treeV_eq l[i]
      (repeat (first | simp -dsimp only [zrTree11, h, at_map treeV l i hlt, hte, RB, TB, keep23, tab23, xindexAddr, xindex, xslice, xconvert, xlen, ewOp, FreeW, StabW, SameW, ChangeW, AddW, BaseW, limBytes, simprocAttr, ne_eq] | ((with_reducible refine Need.intro ?_ ?_); (first | trivial | exact ⟨_, rfl⟩ | exact ⟨[], (List.append_nil _).symm⟩ | omega | (simp; done) | (simp; omega) | exact ⟨by first | trivial | (simp; done), _, by first | rfl | (simp; rfl)⟩))))
      rw [wrapI (by omega)]
      (first | refine SCall.then (tElem _ l[i]) ?_ | refine SCall.thenA (tElem _ l[i]) (by repeat (first | exact trivial | exact .inl (.inl rfl) | exact .inl (.inr ⟨_, rfl, rfl⟩) | exact .inl rfl | exact .inr ⟨_, rfl, rfl⟩ | refine .inr ⟨_, _, rfl, rfl, ?_⟩ | refine ⟨?_, ?_⟩)) ?_ | refine CallE.intro _ (tElem _ l[i]) ?_ | refine CallE.introA (tElem _ l[i]) (by repeat (first | exact trivial | exact .inl (.inl rfl) | exact .inl (.inr ⟨_, rfl, rfl⟩) | exact .inl rfl | exact .inr ⟨_, rfl, rfl⟩ | refine .inr ⟨_, _, rfl, rfl, ?_⟩ | refine ⟨?_, ?_⟩)) ?_ | refine CallE.intro _ (fun _ => tElem _ l[i]) ?_ | refine CallE.intro _ (fun _ => SCall.arg (by repeat (first | exact trivial | exact .inl (.inl rfl) | exact .inl (.inr ⟨_, rfl, rfl⟩) | exact .inl rfl | exact .inr ⟨_, rfl, rfl⟩ | refine .inr ⟨_, _, rfl, rfl, ?_⟩ | refine ⟨?_, ?_⟩)) (tElem _ l[i])) ?_ | refine CallE2.intro _ _ (tElem _ l[i]) ?_ | refine CallE2.intro _ _ (SCall.arg (by repeat (first | exact trivial | exact .inl (.inl rfl) | exact .inl (.inr ⟨_, rfl, rfl⟩) | exact .inl rfl | exact .inr ⟨_, rfl, rfl⟩ | refine .inr ⟨_, _, rfl, rfl, ?_⟩ | refine ⟨?_, ?_⟩)) (tElem _ l[i])) ?_)
      (repeat (first | simp -dsimp only [zrTree11, RB, TB, keep23, tab23, xindexAddr, xindex, xslice, xconvert, xlen, ewOp, FreeW, StabW, SameW, ChangeW, AddW, BaseW, limBytes, simprocAttr, ne_eq] | ((with_reducible refine Need.intro ?_ ?_); (first | trivial | exact ⟨_, rfl⟩ | exact ⟨[], (List.append_nil _).symm⟩ | omega | (simp; done) | (simp; omega) | exact ⟨by first | trivial | (simp; done), _, by first | rfl | (simp; rfl)⟩))))
      have hin : szTs l[i].kids ≤ n := by omega
      unfold stepM at hsucc
      refine IfW.intro (fun he => ?_) (fun he => ?_)
      · rw [if_pos he] at hsucc
        (repeat (first | simp -dsimp only [zrTree11, he, RB, TB, keep23, tab23, xindexAddr, xindex, xslice, xconvert, xlen, ewOp, FreeW, StabW, SameW, ChangeW, AddW, BaseW, limBytes, simprocAttr, ne_eq] | ((with_reducible refine Need.intro ?_ ?_); (first | trivial | exact ⟨_, rfl⟩ | exact ⟨[], (List.append_nil _).symm⟩ | omega | (simp; done) | (simp; omega) | exact ⟨by first | trivial | (simp; done), _, by first | rfl | (simp; rfl)⟩))))
        (first | refine SCall.then (mFix _ l[i].tag hok1) ?_ | refine SCall.thenA (mFix _ l[i].tag hok1) (by repeat (first | exact trivial | exact .inl (.inl rfl) | exact .inl (.inr ⟨_, rfl, rfl⟩) | exact .inl rfl | exact .inr ⟨_, rfl, rfl⟩ | refine .inr ⟨_, _, rfl, rfl, ?_⟩ | refine ⟨?_, ?_⟩)) ?_ | refine CallE.intro _ (mFix _ l[i].tag hok1) ?_ | refine CallE.introA (mFix _ l[i].tag hok1) (by repeat (first | exact trivial | exact .inl (.inl rfl) | exact .inl (.inr ⟨_, rfl, rfl⟩) | exact .inl rfl | exact .inr ⟨_, rfl, rfl⟩ | refine .inr ⟨_, _, rfl, rfl, ?_⟩ | refine ⟨?_, ?_⟩)) ?_ | refine CallE.intro _ (fun _ => mFix _ l[i].tag hok1) ?_ | refine CallE.intro _ (fun _ => SCall.arg (by repeat (first | exact trivial | exact .inl (.inl rfl) | exact .inl (.inr ⟨_, rfl, rfl⟩) | exact .inl rfl | exact .inr ⟨_, rfl, rfl⟩ | refine .inr ⟨_, _, rfl, rfl, ?_⟩ | refine ⟨?_, ?_⟩)) (mFix _ l[i].tag hok1)) ?_ | refine CallE2.intro _ _ (mFix _ l[i].tag hok1) ?_ | refine CallE2.intro _ _ (SCall.arg (by repeat (first | exact trivial | exact .inl (.inl rfl) | exact .inl (.inr ⟨_, rfl, rfl⟩) | exact .inl rfl | exact .inr ⟨_, rfl, rfl⟩ | refine .inr ⟨_, _, rfl, rfl, ?_⟩ | refine ⟨?_, ?_⟩)) (mFix _ l[i].tag hok1)) ?_)
        (repeat (first | simp -dsimp only [zrTree11, strV, RB, TB, keep23, tab23, xindexAddr, xindex, xslice, xconvert, xlen, ewOp, FreeW, StabW, SameW, ChangeW, AddW, BaseW, limBytes, simprocAttr, ne_eq] | ((with_reducible refine Need.intro ?_ ?_); (first | trivial | exact ⟨_, rfl⟩ | exact ⟨[], (List.append_nil _).symm⟩ | omega | (simp; done) | (simp; omega) | exact ⟨by first | trivial | (simp; done), _, by first | rfl | (simp; rfl)⟩))))
        (first | refine SCall.then (aOnce _ l[i].attrs hoka hokl) ?_ | refine SCall.thenA (aOnce _ l[i].attrs hoka hokl) (by repeat (first | exact trivial | exact .inl (.inl rfl) | exact .inl (.inr ⟨_, rfl, rfl⟩) | exact .inl rfl | exact .inr ⟨_, rfl, rfl⟩ | refine .inr ⟨_, _, rfl, rfl, ?_⟩ | refine ⟨?_, ?_⟩)) ?_ | refine CallE.intro _ (aOnce _ l[i].attrs hoka hokl) ?_ | refine CallE.introA (aOnce _ l[i].attrs hoka hokl) (by repeat (first | exact trivial | exact .inl (.inl rfl) | exact .inl (.inr ⟨_, rfl, rfl⟩) | exact .inl rfl | exact .inr ⟨_, rfl, rfl⟩ | refine .inr ⟨_, _, rfl, rfl, ?_⟩ | refine ⟨?_, ?_⟩)) ?_ | refine CallE.intro _ (fun _ => aOnce _ l[i].attrs hoka hokl) ?_ | refine CallE.intro _ (fun _ => SCall.arg (by repeat (first | exact trivial | exact .inl (.inl rfl) | exact .inl (.inr ⟨_, rfl, rfl⟩) | exact .inl rfl | exact .inr ⟨_, rfl, rfl⟩ | refine .inr ⟨_, _, rfl, rfl, ?_⟩ | refine ⟨?_, ?_⟩)) (aOnce _ l[i].attrs hoka hokl)) ?_ | refine CallE2.intro _ _ (aOnce _ l[i].attrs hoka hokl) ?_ | refine CallE2.intro _ _ (SCall.arg (by repeat (first | exact trivial | exact .inl (.inl rfl) | exact .inl (.inr ⟨_, rfl, rfl⟩) | exact .inl rfl | exact .inr ⟨_, rfl, rfl⟩ | refine .inr ⟨_, _, rfl, rfl, ?_⟩ | refine ⟨?_, ?_⟩)) (aOnce _ l[i].attrs hoka hokl)) ?_)
        (repeat (first | simp -dsimp only [zrTree11, strV, RB, TB, keep23, tab23, xindexAddr, xindex, xslice, xconvert, xlen, ewOp, FreeW, StabW, SameW, ChangeW, AddW, BaseW, limBytes, simprocAttr, ne_eq] | ((with_reducible refine Need.intro ?_ ?_); (first | trivial | exact ⟨_, rfl⟩ | exact ⟨[], (List.append_nil _).symm⟩ | omega | (simp; done) | (simp; omega) | exact ⟨by first | trivial | (simp; done), _, by first | rfl | (simp; rfl)⟩))))
        (first | refine SCall.then (ih l[i].kids hin (by omega) _) ?_ | refine SCall.thenA (ih l[i].kids hin (by omega) _) (by repeat (first | exact trivial | exact .inl (.inl rfl) | exact .inl (.inr ⟨_, rfl, rfl⟩) | exact .inl rfl | exact .inr ⟨_, rfl, rfl⟩ | refine .inr ⟨_, _, rfl, rfl, ?_⟩ | refine ⟨?_, ?_⟩)) ?_ | refine CallE.intro _ (ih l[i].kids hin (by omega) _) ?_ | refine CallE.introA (ih l[i].kids hin (by omega) _) (by repeat (first | exact trivial | exact .inl (.inl rfl) | exact .inl (.inr ⟨_, rfl, rfl⟩) | exact .inl rfl | exact .inr ⟨_, rfl, rfl⟩ | refine .inr ⟨_, _, rfl, rfl, ?_⟩ | refine ⟨?_, ?_⟩)) ?_ | refine CallE.intro _ (fun _ => ih l[i].kids hin (by omega) _) ?_ | refine CallE.intro _ (fun _ => SCall.arg (by repeat (first | exact trivial | exact .inl (.inl rfl) | exact .inl (.inr ⟨_, rfl, rfl⟩) | exact .inl rfl | exact .inr ⟨_, rfl, rfl⟩ | refine .inr ⟨_, _, rfl, rfl, ?_⟩ | refine ⟨?_, ?_⟩)) (ih l[i].kids hin (by omega) _)) ?_ | refine CallE2.intro _ _ (ih l[i].kids hin (by omega) _) ?_ | refine CallE2.intro _ _ (SCall.arg (by repeat (first | exact trivial | exact .inl (.inl rfl) | exact .inl (.inr ⟨_, rfl, rfl⟩) | exact .inl rfl | exact .inr ⟨_, rfl, rfl⟩ | refine .inr ⟨_, _, rfl, rfl, ?_⟩ | refine ⟨?_, ?_⟩)) (ih l[i].kids hin (by omega) _)) ?_)
        (repeat (first | simp -dsimp only [zrTree11, strV, RB, TB, keep23, tab23, xindexAddr, xindex, xslice, xconvert, xlen, ewOp, FreeW, StabW, SameW, ChangeW, AddW, BaseW, limBytes, simprocAttr, ne_eq] | ((with_reducible refine Need.intro ?_ ?_); (first | trivial | exact ⟨_, rfl⟩ | exact ⟨[], (List.append_nil _).symm⟩ | omega | (simp; done) | (simp; omega) | exact ⟨by first | trivial | (simp; done), _, by first | rfl | (simp; rfl)⟩))))
        rw [wrapI (by omega)]
        refine UpTo.step (Gho.weakLast (H.length) (l := acc.map treeV) (m := _) (m' := [.agg [.str (fixS l[i].tag).text, .slice ((fixS l[i].tag).runs.map runV), .slice ((onceA l[i].attrs []).map attrV), .slice ((mergeT l[i].kids).map treeV), .str [], .slice []]]) (by first | (rw [hget0]; rfl) | (rw [hget]; rfl) | rfl | (simp; done) | (simp; rfl)) (by repeat (first | exact trivial | refine ⟨.inl (.inl (.inl rfl)), ?_⟩ | refine ⟨.inr ⟨_, _, rfl, rfl, ?_⟩, ?_⟩ | refine ⟨.inl (.inl rfl), ?_⟩ | refine ⟨.inl (.inr ⟨_, rfl, rfl⟩), ?_⟩))) ?_
        (try simp only [RB, limBytes, simprocAttr, ne_eq])
        refine UpTo.here ⟨(i + 1, ver + 1), hlt, by simp only; omega, by simp only [hsucc]; simp [upd, eset], ⟨_, by simp only [hsucc]; simp [treeV_mk, zeroS]; rfl⟩⟩
      · rw [if_neg (by rw [he]; decide)] at hsucc
        (repeat (first | simp -dsimp only [zrTree11, he, RB, TB, keep23, tab23, xindexAddr, xindex, xslice, xconvert, xlen, ewOp, FreeW, StabW, SameW, ChangeW, AddW, BaseW, limBytes, simprocAttr, ne_eq] | ((with_reducible refine Need.intro ?_ ?_); (first | trivial | exact ⟨_, rfl⟩ | exact ⟨[], (List.append_nil _).symm⟩ | omega | (simp; done) | (simp; omega) | exact ⟨by first | trivial | (simp; done), _, by first | rfl | (simp; rfl)⟩))))
        refine IfW.intro (fun h0 => ?_) (fun h0 => ?_)
        · have h0' : l[i].text.text = [] := by simpa using h0
          rw [if_pos h0'] at hsucc
          (repeat (first | simp -dsimp only [zrTree11, h0, RB, TB, keep23, tab23, xindexAddr, xindex, xslice, xconvert, xlen, ewOp, FreeW, StabW, SameW, ChangeW, AddW, BaseW, limBytes, simprocAttr, ne_eq] | ((with_reducible refine Need.intro ?_ ?_); (first | trivial | exact ⟨_, rfl⟩ | exact ⟨[], (List.append_nil _).symm⟩ | omega | (simp; done) | (simp; omega) | exact ⟨by first | trivial | (simp; done), _, by first | rfl | (simp; rfl)⟩))))
          rw [wrapI (by omega)]
          refine UpTo.here ⟨(i + 1, ver), hlt, by simp only; omega, by simp only [hsucc]; simp [upd, eset], ⟨_, by simp only [hsucc]; simp; rfl⟩⟩
        · have h0' : l[i].text.text ≠ [] := by simpa using h0
          rw [if_neg h0'] at hsucc
          (repeat (first | simp -dsimp only [zrTree11, h0, RB, TB, keep23, tab23, xindexAddr, xindex, xslice, xconvert, xlen, ewOp, FreeW, StabW, SameW, ChangeW, AddW, BaseW, limBytes, simprocAttr, ne_eq] | ((with_reducible refine Need.intro ?_ ?_); (first | trivial | exact ⟨_, rfl⟩ | exact ⟨[], (List.append_nil _).symm⟩ | omega | (simp; done) | (simp; omega) | exact ⟨by first | trivial | (simp; done), _, by first | rfl | (simp; rfl)⟩))))
          rcases List.eq_nil_or_concat acc with ha0 | ⟨ys, u, ha0⟩
          · subst ha0
            simp only [List.getLast?_nil] at hsucc
            (repeat (first | simp -dsimp only [zrTree11, show decide ((([] : List Tree).length : Int) - 1 ≥ 0) = false from rfl, RB, TB, keep23, tab23, xindexAddr, xindex, xslice, xconvert, xlen, ewOp, FreeW, StabW, SameW, ChangeW, AddW, BaseW, limBytes, simprocAttr, ne_eq] | ((with_reducible refine Need.intro ?_ ?_); (first | trivial | exact ⟨_, rfl⟩ | exact ⟨[], (List.append_nil _).symm⟩ | omega | (simp; done) | (simp; omega) | exact ⟨by first | trivial | (simp; done), _, by first | rfl | (simp; rfl)⟩))))
            (first | refine SCall.then (mFix _ l[i].text hok2) ?_ | refine SCall.thenA (mFix _ l[i].text hok2) (by repeat (first | exact trivial | exact .inl (.inl rfl) | exact .inl (.inr ⟨_, rfl, rfl⟩) | exact .inl rfl | exact .inr ⟨_, rfl, rfl⟩ | refine .inr ⟨_, _, rfl, rfl, ?_⟩ | refine ⟨?_, ?_⟩)) ?_ | refine CallE.intro _ (mFix _ l[i].text hok2) ?_ | refine CallE.introA (mFix _ l[i].text hok2) (by repeat (first | exact trivial | exact .inl (.inl rfl) | exact .inl (.inr ⟨_, rfl, rfl⟩) | exact .inl rfl | exact .inr ⟨_, rfl, rfl⟩ | refine .inr ⟨_, _, rfl, rfl, ?_⟩ | refine ⟨?_, ?_⟩)) ?_ | refine CallE.intro _ (fun _ => mFix _ l[i].text hok2) ?_ | refine CallE.intro _ (fun _ => SCall.arg (by repeat (first | exact trivial | exact .inl (.inl rfl) | exact .inl (.inr ⟨_, rfl, rfl⟩) | exact .inl rfl | exact .inr ⟨_, rfl, rfl⟩ | refine .inr ⟨_, _, rfl, rfl, ?_⟩ | refine ⟨?_, ?_⟩)) (mFix _ l[i].text hok2)) ?_ | refine CallE2.intro _ _ (mFix _ l[i].text hok2) ?_ | refine CallE2.intro _ _ (SCall.arg (by repeat (first | exact trivial | exact .inl (.inl rfl) | exact .inl (.inr ⟨_, rfl, rfl⟩) | exact .inl rfl | exact .inr ⟨_, rfl, rfl⟩ | refine .inr ⟨_, _, rfl, rfl, ?_⟩ | refine ⟨?_, ?_⟩)) (mFix _ l[i].text hok2)) ?_)
            (repeat (first | simp -dsimp only [zrTree11, strV, RB, TB, keep23, tab23, xindexAddr, xindex, xslice, xconvert, xlen, ewOp, FreeW, StabW, SameW, ChangeW, AddW, BaseW, limBytes, simprocAttr, ne_eq] | ((with_reducible refine Need.intro ?_ ?_); (first | trivial | exact ⟨_, rfl⟩ | exact ⟨[], (List.append_nil _).symm⟩ | omega | (simp; done) | (simp; omega) | exact ⟨by first | trivial | (simp; done), _, by first | rfl | (simp; rfl)⟩))))
            rw [wrapI (by omega)]
            refine UpTo.step (Gho.weakLast (H.length) (l := []) (m := _) (m' := [.agg [.str [], .slice [], .slice [], .slice [], .str (fixS l[i].text).text, .slice ((fixS l[i].text).runs.map runV)]]) (by first | (rw [hget0]; rfl) | (rw [hget]; rfl) | rfl | (simp; done) | (simp; rfl)) (by repeat (first | exact trivial | refine ⟨.inl (.inl (.inl rfl)), ?_⟩ | refine ⟨.inr ⟨_, _, rfl, rfl, ?_⟩, ?_⟩ | refine ⟨.inl (.inl rfl), ?_⟩ | refine ⟨.inl (.inr ⟨_, rfl, rfl⟩), ?_⟩))) ?_
            (try simp only [RB, limBytes, simprocAttr, ne_eq])
            refine UpTo.here ⟨(i + 1, ver + 1), hlt, by simp only; omega, by simp only [hsucc]; simp [upd, eset], ⟨_, by simp only [hsucc]; simp [treeV_mk, zeroS]; rfl⟩⟩
          · rw [List.concat_eq_append] at ha0
            subst ha0
            simp only [List.getLast?_concat] at hsucc
            have hlast : (ys ++ [u]).length = ys.length + 1 := by simp
            have hat := at_map treeV (ys ++ [u]) ys.length (by simp)
            have hel : (ys ++ [u])[ys.length] = u := by simp
            have hue := treeV_eq u
            rw [hel, hue] at hat
            clear hel
            have hmu : u ∈ ys ++ [u] := by simp
            generalize hL : ys ++ [u] = L at *
            have hix : ((L.length : Int) - 1) = (ys.length : Int) := by omega
            have hk : decide ((ys.length : Int) ≥ 0) = true := by simp
            have hu1 := hinv.1 u hmu
            have hu2 := txtL_mem hmu
            have hu3 := hinv.2
            rw [hix]
            (repeat (first | simp -dsimp only [zrTree11, hk, hat, RB, TB, keep23, tab23, xindexAddr, xindex, xslice, xconvert, xlen, ewOp, FreeW, StabW, SameW, ChangeW, AddW, BaseW, limBytes, simprocAttr, ne_eq] | ((with_reducible refine Need.intro ?_ ?_); (first | trivial | exact ⟨_, rfl⟩ | exact ⟨[], (List.append_nil _).symm⟩ | omega | (simp; done) | (simp; omega) | exact ⟨by first | trivial | (simp; done), _, by first | rfl | (simp; rfl)⟩))))
            (first | refine SCall.then (tElem _ u) ?_ | refine SCall.thenA (tElem _ u) (by repeat (first | exact trivial | exact .inl (.inl rfl) | exact .inl (.inr ⟨_, rfl, rfl⟩) | exact .inl rfl | exact .inr ⟨_, rfl, rfl⟩ | refine .inr ⟨_, _, rfl, rfl, ?_⟩ | refine ⟨?_, ?_⟩)) ?_ | refine CallE.intro _ (tElem _ u) ?_ | refine CallE.introA (tElem _ u) (by repeat (first | exact trivial | exact .inl (.inl rfl) | exact .inl (.inr ⟨_, rfl, rfl⟩) | exact .inl rfl | exact .inr ⟨_, rfl, rfl⟩ | refine .inr ⟨_, _, rfl, rfl, ?_⟩ | refine ⟨?_, ?_⟩)) ?_ | refine CallE.intro _ (fun _ => tElem _ u) ?_ | refine CallE.intro _ (fun _ => SCall.arg (by repeat (first | exact trivial | exact .inl (.inl rfl) | exact .inl (.inr ⟨_, rfl, rfl⟩) | exact .inl rfl | exact .inr ⟨_, rfl, rfl⟩ | refine .inr ⟨_, _, rfl, rfl, ?_⟩ | refine ⟨?_, ?_⟩)) (tElem _ u)) ?_ | refine CallE2.intro _ _ (tElem _ u) ?_ | refine CallE2.intro _ _ (SCall.arg (by repeat (first | exact trivial | exact .inl (.inl rfl) | exact .inl (.inr ⟨_, rfl, rfl⟩) | exact .inl rfl | exact .inr ⟨_, rfl, rfl⟩ | refine .inr ⟨_, _, rfl, rfl, ?_⟩ | refine ⟨?_, ?_⟩)) (tElem _ u)) ?_)
            (repeat (first | simp -dsimp only [zrTree11, RB, TB, keep23, tab23, xindexAddr, xindex, xslice, xconvert, xlen, ewOp, FreeW, StabW, SameW, ChangeW, AddW, BaseW, limBytes, simprocAttr, ne_eq] | ((with_reducible refine Need.intro ?_ ?_); (first | trivial | exact ⟨_, rfl⟩ | exact ⟨[], (List.append_nil _).symm⟩ | omega | (simp; done) | (simp; omega) | exact ⟨by first | trivial | (simp; done), _, by first | rfl | (simp; rfl)⟩))))
            refine IfW.intro (fun hue2 => ?_) (fun hue2 => ?_)
            · rw [if_pos hue2] at hsucc
              (repeat (first | simp -dsimp only [zrTree11, hue2, RB, TB, keep23, tab23, xindexAddr, xindex, xslice, xconvert, xlen, ewOp, FreeW, StabW, SameW, ChangeW, AddW, BaseW, limBytes, simprocAttr, ne_eq] | ((with_reducible refine Need.intro ?_ ?_); (first | trivial | exact ⟨_, rfl⟩ | exact ⟨[], (List.append_nil _).symm⟩ | omega | (simp; done) | (simp; omega) | exact ⟨by first | trivial | (simp; done), _, by first | rfl | (simp; rfl)⟩))))
              (first | refine SCall.then (mFix _ l[i].text hok2) ?_ | refine SCall.thenA (mFix _ l[i].text hok2) (by repeat (first | exact trivial | exact .inl (.inl rfl) | exact .inl (.inr ⟨_, rfl, rfl⟩) | exact .inl rfl | exact .inr ⟨_, rfl, rfl⟩ | refine .inr ⟨_, _, rfl, rfl, ?_⟩ | refine ⟨?_, ?_⟩)) ?_ | refine CallE.intro _ (mFix _ l[i].text hok2) ?_ | refine CallE.introA (mFix _ l[i].text hok2) (by repeat (first | exact trivial | exact .inl (.inl rfl) | exact .inl (.inr ⟨_, rfl, rfl⟩) | exact .inl rfl | exact .inr ⟨_, rfl, rfl⟩ | refine .inr ⟨_, _, rfl, rfl, ?_⟩ | refine ⟨?_, ?_⟩)) ?_ | refine CallE.intro _ (fun _ => mFix _ l[i].text hok2) ?_ | refine CallE.intro _ (fun _ => SCall.arg (by repeat (first | exact trivial | exact .inl (.inl rfl) | exact .inl (.inr ⟨_, rfl, rfl⟩) | exact .inl rfl | exact .inr ⟨_, rfl, rfl⟩ | refine .inr ⟨_, _, rfl, rfl, ?_⟩ | refine ⟨?_, ?_⟩)) (mFix _ l[i].text hok2)) ?_ | refine CallE2.intro _ _ (mFix _ l[i].text hok2) ?_ | refine CallE2.intro _ _ (SCall.arg (by repeat (first | exact trivial | exact .inl (.inl rfl) | exact .inl (.inr ⟨_, rfl, rfl⟩) | exact .inl rfl | exact .inr ⟨_, rfl, rfl⟩ | refine .inr ⟨_, _, rfl, rfl, ?_⟩ | refine ⟨?_, ?_⟩)) (mFix _ l[i].text hok2)) ?_)
              (repeat (first | simp -dsimp only [zrTree11, strV, RB, TB, keep23, tab23, xindexAddr, xindex, xslice, xconvert, xlen, ewOp, FreeW, StabW, SameW, ChangeW, AddW, BaseW, limBytes, simprocAttr, ne_eq] | ((with_reducible refine Need.intro ?_ ?_); (first | trivial | exact ⟨_, rfl⟩ | exact ⟨[], (List.append_nil _).symm⟩ | omega | (simp; done) | (simp; omega) | exact ⟨by first | trivial | (simp; done), _, by first | rfl | (simp; rfl)⟩))))
              rw [wrapI (by omega)]
              refine UpTo.step (Gho.weakLast (H.length) (l := L.map treeV) (m := _) (m' := [.agg [.str [], .slice [], .slice [], .slice [], .str (fixS l[i].text).text, .slice ((fixS l[i].text).runs.map runV)]]) (by first | (rw [hget0]; rfl) | (rw [hget]; rfl) | rfl | (simp; done) | (simp; rfl)) (by repeat (first | exact trivial | refine ⟨.inl (.inl (.inl rfl)), ?_⟩ | refine ⟨.inr ⟨_, _, rfl, rfl, ?_⟩, ?_⟩ | refine ⟨.inl (.inl rfl), ?_⟩ | refine ⟨.inl (.inr ⟨_, rfl, rfl⟩), ?_⟩))) ?_
              (try simp only [RB, limBytes, simprocAttr, ne_eq])
              refine UpTo.here ⟨(i + 1, ver + 1), hlt, by simp only; omega, by simp only [hsucc]; simp [upd, eset], ⟨_, by simp only [hsucc]; simp [treeV_mk, zeroS]; rfl⟩⟩
            · rw [if_neg (by rw [hue2]; decide)] at hsucc
              have hut : okS u.text := ⟨by omega, by omega⟩
              have hct : (([u.text, l[i].text] : List Str).flatMap Str.text).length ≤ 1000000000 := by
                simp only [List.flatMap_cons, List.flatMap_nil, List.append_nil, List.length_append]
                unfold szS' at hsz
                omega
              (repeat (first | simp -dsimp only [zrTree11, hue2, hat, RB, TB, keep23, tab23, xindexAddr, xindex, xslice, xconvert, xlen, ewOp, FreeW, StabW, SameW, ChangeW, AddW, BaseW, limBytes, simprocAttr, ne_eq] | ((with_reducible refine Need.intro ?_ ?_); (first | trivial | exact ⟨_, rfl⟩ | exact ⟨[], (List.append_nil _).symm⟩ | omega | (simp; done) | (simp; omega) | exact ⟨by first | trivial | (simp; done), _, by first | rfl | (simp; rfl)⟩))))
              (first | refine SCall.then (mCat _ [u.text, l[i].text] (fun s hs => by rcases List.mem_cons.1 hs with rfl | hs; exact hut; rw [List.mem_singleton.1 hs]; exact hok2) hct (by simp)) ?_ | refine SCall.thenA (mCat _ [u.text, l[i].text] (fun s hs => by rcases List.mem_cons.1 hs with rfl | hs; exact hut; rw [List.mem_singleton.1 hs]; exact hok2) hct (by simp)) (by repeat (first | exact trivial | exact .inl (.inl rfl) | exact .inl (.inr ⟨_, rfl, rfl⟩) | exact .inl rfl | exact .inr ⟨_, rfl, rfl⟩ | refine .inr ⟨_, _, rfl, rfl, ?_⟩ | refine ⟨?_, ?_⟩)) ?_ | refine CallE.intro _ (mCat _ [u.text, l[i].text] (fun s hs => by rcases List.mem_cons.1 hs with rfl | hs; exact hut; rw [List.mem_singleton.1 hs]; exact hok2) hct (by simp)) ?_ | refine CallE.introA (mCat _ [u.text, l[i].text] (fun s hs => by rcases List.mem_cons.1 hs with rfl | hs; exact hut; rw [List.mem_singleton.1 hs]; exact hok2) hct (by simp)) (by repeat (first | exact trivial | exact .inl (.inl rfl) | exact .inl (.inr ⟨_, rfl, rfl⟩) | exact .inl rfl | exact .inr ⟨_, rfl, rfl⟩ | refine .inr ⟨_, _, rfl, rfl, ?_⟩ | refine ⟨?_, ?_⟩)) ?_ | refine CallE.intro _ (fun _ => mCat _ [u.text, l[i].text] (fun s hs => by rcases List.mem_cons.1 hs with rfl | hs; exact hut; rw [List.mem_singleton.1 hs]; exact hok2) hct (by simp)) ?_ | refine CallE.intro _ (fun _ => SCall.arg (by repeat (first | exact trivial | exact .inl (.inl rfl) | exact .inl (.inr ⟨_, rfl, rfl⟩) | exact .inl rfl | exact .inr ⟨_, rfl, rfl⟩ | refine .inr ⟨_, _, rfl, rfl, ?_⟩ | refine ⟨?_, ?_⟩)) (mCat _ [u.text, l[i].text] (fun s hs => by rcases List.mem_cons.1 hs with rfl | hs; exact hut; rw [List.mem_singleton.1 hs]; exact hok2) hct (by simp))) ?_ | refine CallE2.intro _ _ (mCat _ [u.text, l[i].text] (fun s hs => by rcases List.mem_cons.1 hs with rfl | hs; exact hut; rw [List.mem_singleton.1 hs]; exact hok2) hct (by simp)) ?_ | refine CallE2.intro _ _ (SCall.arg (by repeat (first | exact trivial | exact .inl (.inl rfl) | exact .inl (.inr ⟨_, rfl, rfl⟩) | exact .inl rfl | exact .inr ⟨_, rfl, rfl⟩ | refine .inr ⟨_, _, rfl, rfl, ?_⟩ | refine ⟨?_, ?_⟩)) (mCat _ [u.text, l[i].text] (fun s hs => by rcases List.mem_cons.1 hs with rfl | hs; exact hut; rw [List.mem_singleton.1 hs]; exact hok2) hct (by simp))) ?_)
              (repeat (first | simp -dsimp only [zrTree11, strV, hat, RB, TB, keep23, tab23, xindexAddr, xindex, xslice, xconvert, xlen, ewOp, FreeW, StabW, SameW, ChangeW, AddW, BaseW, limBytes, simprocAttr, ne_eq] | ((with_reducible refine Need.intro ?_ ?_); (first | trivial | exact ⟨_, rfl⟩ | exact ⟨[], (List.append_nil _).symm⟩ | omega | (simp; done) | (simp; omega) | exact ⟨by first | trivial | (simp; done), _, by first | rfl | (simp; rfl)⟩))))
              rw [wrapI (by omega)]
              have hset : (L.map treeV).set ys.length (V.agg [.str u.tag.text, .slice (u.tag.runs.map runV), .slice (u.attrs.map attrV), .slice (u.kids.map treeV), .str (catS [u.text, l[i].text]).text, .slice ((catS [u.text, l[i].text]).runs.map runV)]) = (L.dropLast ++ [Tree.mk u.tag u.attrs u.kids (catS [u.text, l[i].text])]).map treeV := by
                rw [← hL, List.dropLast_concat, List.map_append, List.set_append_right _ _ (by simp)]
                simp [treeV_mk]
              have hlen2 : (L.dropLast ++ [Tree.mk u.tag u.attrs u.kids (catS [u.text, l[i].text])]).length = L.length := by rw [← hL]; simp
              rw [hset]
              refine UpTo.here ⟨(i + 1, ver), hlt, by simp only; omega, by simp only [hsucc, hlen2]; simp [upd, eset], ⟨_, by simp only [hsucc]; simp; rfl⟩⟩
    · (repeat (first | simp -dsimp only [zrTree11, h, RB, TB, keep23, tab23, xindexAddr, xindex, xslice, xconvert, xlen, ewOp, FreeW, StabW, SameW, ChangeW, AddW, BaseW, limBytes, simprocAttr, ne_eq] | ((with_reducible refine Need.intro ?_ ?_); (first | trivial | exact ⟨_, rfl⟩ | exact ⟨[], (List.append_nil _).symm⟩ | omega | (simp; done) | (simp; omega) | exact ⟨by first | trivial | (simp; done), _, by first | rfl | (simp; rfl)⟩))))
      have hi2 : i = l.length := Nat.le_antisymm hi (ge_of h)
      subst hi2
      rw [List.take_length]
      refine RetW.auto0 false _ (by first | rfl | exact (List.append_nil _).symm) ?_ ?_
      · (simp (maxDischargeDepth := 6) [LTB, HLt_set, ltL_take, ltL_drop, ltL_rep, ltL_set, upd, eset, hH, hHk, zlTree11] <;> omega)
      (try simp only [wk, wk1, wk0, RB, limBytes, simprocAttr, ne_eq])
      (try (rw [List.take_of_length_le]; rotate_left 1; (· first | (simp; done) | (simp; omega) | omega)))
      rfl
theorem wds_of {α : Type} {f : α → V} (h : ∀ x, wdV (f x) = f x) (l : List α) : wdVs (l.map f) = l.map f := by
  rw [wdVs_map, List.map_map]
  exact List.map_congr_left fun x _ => h x
theorem wd_run (r : Int × Int) : wdV (runV r) = runV r := by simp only [runV, wdV, wdVs]
theorem wds_run (l : List (Int × Int)) : wdVs (l.map runV) = l.map runV := wds_of wd_run l
theorem wd_attr (a : Attr) : wdV (attrV a) = attrV a := by simp only [attrV, wdV, wdVs, wds_run]
theorem wds_attr (l : List Attr) : wdVs (l.map attrV) = l.map attrV := wds_of wd_attr l
mutual
theorem wd_tree : ∀ t : Tree, wdV (treeV t) = treeV t
  | .mk tag attrs kids text => by
    rw [treeV]
    simp only [wdV, wdVs, wds_run, wds_attr, wds_tree0 kids]
theorem wds_tree0 : ∀ l : List Tree, wdVs (treeVs l) = treeVs l
  | [] => by simp only [treeVs, wdVs]
  | t :: l => by simp only [treeVs, wdVs, wd_tree t, wds_tree0 l]
end
theorem wds_tree (l : List Tree) : wdVs (l.map treeV) = l.map treeV := wds_of wd_tree l
/-! what is merged is no longer -/
def mtS (t : Tree) : Nat := szS' t.tag + (t.attrs.map szA').sum + szTs t.kids + 2 * t.text.text.length + 2
def mtL (l : List Tree) : Nat := (l.map mtS).sum
theorem mtL_app (a b : List Tree) : mtL (a ++ b) = mtL a + mtL b := by simp [mtL]
theorem szS_fix (s : Str) : szS' (fixS s) ≤ 2 * szS' s := by
  have := fix_runs s
  have e : (fixS s).text = s.text := rfl
  unfold szS'
  rw [e]; omega
theorem szA_own (a : Attr) : szA' (ownA a) ≤ 2 * szA' a := by
  have h1 := szS_fix a.name
  have h2 := szS_fix a.value
  unfold szA' ownA
  simp only
  omega
theorem once_sz : ∀ (l acc : List Attr), ((onceA l acc).map szA').sum ≤ (acc.map szA').sum + 2 * (l.map szA').sum
  | [], acc => by simp [onceA]
  | a :: l, acc => by
    have h1 := szA_own a
    simp only [onceA, List.map_cons, List.sum_cons]
    split
    · have := once_sz l (acc ++ [ownA a])
      simp only [List.map_append, List.map_cons, List.map_nil, List.sum_append, List.sum_cons, List.sum_nil] at this
      omega
    · have := once_sz l acc
      omega
theorem step_sz (acc : List Tree) (t : Tree) (ks : List Tree) (hk : szTs ks ≤ 2 * szTs t.kids) : mtL (stepM acc t ks) ≤ mtL acc + 2 * szT t := by
  have hsz := szT_eq t
  have h1 := szS_fix t.tag
  have h2 := once_sz t.attrs []
  have h3 : 1 ≤ szS' t.tag := by unfold szS'; omega
  have h4 : t.text.text.length + 1 ≤ szS' t.text := by unfold szS'; omega
  have z : szS' zeroS = 1 := rfl
  simp only [List.map_nil, List.sum_nil, Nat.zero_add] at h2
  unfold stepM
  split
  · rw [mtL_app]
    have e : mtL [Tree.mk (fixS t.tag) (onceA t.attrs []) ks zeroS] = szS' (fixS t.tag) + ((onceA t.attrs []).map szA').sum + szTs ks + 2 * 0 + 2 := by simp [mtL, mtS, Tree.tag, Tree.attrs, Tree.kids, Tree.text, zeroS]
    omega
  · split
    · omega
    · have e : mtL [Tree.mk zeroS [] [] (fixS t.text)] = 1 + 2 * t.text.text.length + 2 := by simp [mtL, mtS, Tree.tag, Tree.attrs, Tree.kids, Tree.text, fixS, z, szTs]
      split
      · omega
      · rename_i u hl
        obtain ⟨ys, rfl⟩ := List.getLast?_eq_some_iff.1 hl
        split
        · rw [mtL_app]; omega
        · rw [List.dropLast_concat, mtL_app, mtL_app]
          have e1 : mtL [Tree.mk u.tag u.attrs u.kids (catS [u.text, t.text])] = mtL [u] + 2 * t.text.text.length := by simp [mtL, mtS, Tree.tag, Tree.attrs, Tree.kids, Tree.text, catS]; omega
          omega
theorem sz_mt : ∀ l : List Tree, (∀ u ∈ l, u.text.runs.length ≤ u.text.text.length) → szTs l ≤ mtL l
  | [], _ => by simp [szTs]
  | t :: l, h => by
    have h1 := sz_mt l fun u hu => h u (by simp [hu])
    have h2 := h t (by simp)
    have h3 := szT_eq t
    have h4 : szS' t.text = t.text.text.length + t.text.runs.length + 1 := rfl
    have h5 : mtL (t :: l) = mtS t + mtL l := by simp [mtL]
    have h6 : mtS t = szS' t.tag + (t.attrs.map szA').sum + szTs t.kids + 2 * t.text.text.length + 2 := rfl
    simp only [szTs]
    omega
theorem merge_inv (l : List Tree) : invM (szTs l) (mergeT l) ∧ (mergeT l).length ≤ l.length := by
  have := mergeF_inv l l.length (Nat.le_refl _)
  rw [List.take_length] at this
  exact this
mutual
theorem mergeK_sz : ∀ t : Tree, szTs (mergeK t) ≤ 2 * szTs t.kids
  | .mk tag attrs kids text => by
    have h1 := mergeF_sz kids []
    have h2 := merge_inv kids
    have h3 := sz_mt _ h2.1.1
    rw [mergeK]
    show szTs (mergeT kids) ≤ 2 * szTs kids
    have h4 : mtL (mergeF kids []) ≤ mtL [] + 2 * szTs kids := h1
    have h5 : mtL ([] : List Tree) = 0 := rfl
    have h6 : mtL (mergeT kids) = mtL (mergeF kids []) := rfl
    omega
theorem mergeF_sz : ∀ (l acc : List Tree), mtL (mergeF l acc) ≤ mtL acc + 2 * szTs l
  | [], acc => by simp only [mergeF, szTs]; omega
  | t :: l, acc => by
    have h1 := mergeF_sz l (stepM acc t (mergeK t))
    have h2 := step_sz acc t (mergeK t) (mergeK_sz t)
    simp only [mergeF, szTs]
    omega
end
theorem merge_sz (l : List Tree) : szTs (mergeT l) ≤ 2 * szTs l := by
  have h := mergeK_sz (.mk zeroS [] l zeroS)
  rw [mergeK_eq] at h
  exact h
end Go.Proofs.Ytjplgbalpnlanaa

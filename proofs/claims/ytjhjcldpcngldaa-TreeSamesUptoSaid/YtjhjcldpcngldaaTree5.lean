/- The walk of the law of trees: merge. -/
import Derived.Test.YtjhjcldpcngldaaTree4
set_option linter.unusedSimpArgs false
set_option linter.unusedVariables false
set_option maxRecDepth 100000
namespace Go.Proofs.Ytjhjcldpcngldaa
open Go Go.EL
/-! merged, as the law does it -/
def stepR (acc : List Tree) (t : Tree) (ks : List Tree) : List Tree :=
  if t.isE then acc ++ [.mk t.tag (onceA t.attrs []) ks zeroS]
  else if t.text.text = [] then acc
  else match acc.getLast? with
    | none => [.mk zeroS [] [] t.text]
    | some u => if u.isE then acc ++ [.mk zeroS [] [] t.text] else acc.dropLast ++ [.mk zeroS [] [] (catS [u.text, t.text])]
mutual
def mergeRK : Tree → List Tree
  | .mk _ _ kids _ => mergeRF kids []
def mergeRF : List Tree → List Tree → List Tree
  | [], acc => acc
  | t :: l, acc => mergeRF l (stepR acc t (mergeRK t))
end
def mergeR (l : List Tree) : List Tree := mergeRF l []
theorem mergeRK_eq (t : Tree) : mergeRK t = mergeR t.kids := by cases t; rw [mergeRK]; rfl
theorem mergeRF_append : ∀ (a b acc : List Tree), mergeRF (a ++ b) acc = mergeRF b (mergeRF a acc)
  | [], b, acc => by simp only [List.nil_append, mergeRF]
  | t :: a, b, acc => by simp only [List.cons_append, mergeRF]; exact mergeRF_append a b _
theorem mergeRF_succ {l : List Tree} {i : Nat} (h : i < l.length) (acc : List Tree) : mergeRF (l.take (i + 1)) acc = stepR (mergeRF (l.take i) acc) l[i] (mergeR l[i].kids) := by
  rw [List.take_succ_eq_append_getElem h, mergeRF_append, ← mergeRK_eq]
  simp only [mergeRF]
theorem mergeR_nil : mergeR [] = [] := by unfold mergeR; simp only [mergeRF]
def invR (N : Nat) (acc : List Tree) : Prop := (∀ u ∈ acc, u.text.runs.length ≤ N) ∧ txtL acc ≤ N
theorem stepR_inv {N : Nat} {acc : List Tree} (t : Tree) (ks : List Tree) (h : invR N acc) : invR (N + szT t) (stepR acc t ks) ∧ (stepR acc t ks).length ≤ acc.length + 1 := by
  obtain ⟨h1, h2⟩ := h
  have hsz := szT_eq t
  unfold szS' at hsz
  have h1' : ∀ u ∈ acc, u.text.runs.length ≤ N + szT t := fun u hu => Nat.le_trans (h1 u hu) (by omega)
  unfold stepR
  split
  · refine ⟨⟨fun u hu => ?_, ?_⟩, by simp⟩
    · rcases List.mem_append.1 hu with hu | hu
      · exact h1' u hu
      · rw [List.mem_singleton.1 hu]; exact Nat.zero_le _
    · rw [txtL_app]
      have e : txtL [Tree.mk t.tag (onceA t.attrs []) ks zeroS] = 0 := rfl
      omega
  · split
    · exact ⟨⟨h1', by omega⟩, by omega⟩
    · have e : txtL [Tree.mk zeroS [] [] t.text] = t.text.text.length := by simp [txtL, Tree.text]
      have hr : ∀ u ∈ [Tree.mk zeroS [] [] t.text], u.text.runs.length ≤ N + szT t := fun u hu => by
        rw [List.mem_singleton.1 hu]
        show t.text.runs.length ≤ _
        omega
      split
      · exact ⟨⟨hr, by omega⟩, by simp⟩
      · rename_i u hl
        obtain ⟨ys, rfl⟩ := List.getLast?_eq_some_iff.1 hl
        split
        · refine ⟨⟨fun v hv => ?_, ?_⟩, by simp⟩
          · rcases List.mem_append.1 hv with hv | hv
            · exact h1' v hv
            · exact hr v hv
          · rw [txtL_app]; omega
        · rw [List.dropLast_concat]
          rw [txtL_app] at h2
          have e1 : txtL [Tree.mk zeroS [] [] (catS [u.text, t.text])] = u.text.text.length + t.text.text.length := by simp [txtL, Tree.text, catS]
          have e2 : txtL [u] = u.text.text.length := by simp [txtL]
          refine ⟨⟨fun v hv => ?_, ?_⟩, by simp⟩
          · rcases List.mem_append.1 hv with hv | hv
            · exact h1' v (by simp [hv])
            · rw [List.mem_singleton.1 hv]
              have := cat_runs [u.text, t.text]
              have e3 : (catS [u.text, t.text]).text.length = u.text.text.length + t.text.text.length := by simp [catS]
              show (catS [u.text, t.text]).runs.length ≤ _
              omega
          · rw [txtL_app]; omega
theorem mergeRF_inv (l : List Tree) : ∀ i, i ≤ l.length → invR (szTs (l.take i)) (mergeRF (l.take i) []) ∧ (mergeRF (l.take i) []).length ≤ i
  | 0, _ => by simp only [List.take_zero, mergeRF]; exact ⟨⟨by simp, by simp [txtL]⟩, by simp⟩
  | i + 1, h => by
    obtain ⟨h1, h2⟩ := mergeRF_inv l i (by omega)
    obtain ⟨h3, h4⟩ := stepR_inv (l[i]'(by omega)) (mergeR (l[i]'(by omega)).kids) h1
    rw [mergeRF_succ (by omega), List.take_succ_eq_append_getElem (by omega), szTs_append]
    refine ⟨?_, by omega⟩
    simp only [szTs, Nat.add_zero]
    exact h3
theorem isE_beq (t : Tree) : (t.tag.text == []) = !t.isE := by unfold Tree.isE; simp
set_option maxHeartbeats 4000000 in
theorem mergeW : ∀ (n : Nat) (l : List Tree), szTs l ≤ n → szTs l ≤ 100000000 → ∀ H : List Ob, SCall Try.prog 37 [.slice (l.map treeV)] H (fun r H' => r = .slice ((mergeR l).map treeV) ∧ H' = H) := by
  intro n
  induction n with
  | zero =>
    intro l h _ H
    have h0 : l = [] := List.eq_nil_of_length_eq_zero (by have := sz_len l; omega)
    subst h0
    refine SCall.of_good fun hH => ?_
    have hHk := HLt.add hH
    refine SCall.of_code Tok Try.func37 rfl Try.call37 (n := 71) rfl (by simp) (rs := [.tmp 2]) rfl ?_
    refine EWn.to ?_
    refine EWn.of_c Tok mixed (own := false) keep37 tab37 (by kernel_rfl) ?_
    (repeat (first | simp -dsimp only [st_run, sz_run, st1_run, cl_run, st_Str, sz_Str, st1_Str, cl_Str, st_c, sz_c, st1_c, cl_c, st_attr, sz_attr, st1_attr, cl_attr, st_tree, sz_tree, st1_tree, cl_tree, RB, TB, keep37, tab37, ewOp, xop, xindexAddr, xindex, xslice, xconvert, xlen, drawStep, FreeW, StabW, isStab, SameW, ChangeW, limBytes, Nat.reduceBEq, Nat.reduceAdd, Nat.reduceEqDiff, Nat.reduceLT, Nat.reduceLeDiff, Nat.reduceMul, Nat.reduceSub, Int.reduceBEq, Int.reduceBNe, Int.reduceToNat, Int.reduceLT, Int.reduceLE, Int.reduceGT, Int.reduceGE, Int.reduceAdd, Int.reduceSub, Int.reduceNeg, Int.reduceEq, Int.toNat_zero, Int.toNat_one, reduceIte, reduceCtorEq, ne_eq, decide_true, decide_false] | ((with_reducible refine Need.intro ?_ ?_); (first | trivial | omega | (simp; done) | (simp; omega)))))
    refine EWn.rounds 1 ?_
    show EWn _ _ _ _ _ _ _
    refine EWn.of_c Tok mixed (own := false) keep37 tab37 (by kernel_rfl) ?_
    (repeat (first | simp -dsimp only [st_run, sz_run, st1_run, cl_run, st_Str, sz_Str, st1_Str, cl_Str, st_c, sz_c, st1_c, cl_c, st_attr, sz_attr, st1_attr, cl_attr, st_tree, sz_tree, st1_tree, cl_tree, RB, TB, keep37, tab37, ewOp, xop, xindexAddr, xindex, xslice, xconvert, xlen, drawStep, FreeW, StabW, isStab, SameW, ChangeW, limBytes, Nat.reduceBEq, Nat.reduceAdd, Nat.reduceEqDiff, Nat.reduceLT, Nat.reduceLeDiff, Nat.reduceMul, Nat.reduceSub, Int.reduceBEq, Int.reduceBNe, Int.reduceToNat, Int.reduceLT, Int.reduceLE, Int.reduceGT, Int.reduceGE, Int.reduceAdd, Int.reduceSub, Int.reduceNeg, Int.reduceEq, Int.toNat_zero, Int.toNat_one, reduceIte, reduceCtorEq, ne_eq, decide_true, decide_false] | ((with_reducible refine Need.intro ?_ ?_); (first | trivial | omega | (simp; done) | (simp; omega)))))
    refine RetW.auto0 false _ (by first | rfl | exact (List.append_nil _).symm) ?_ ?_
    · (simp (maxDischargeDepth := 6) [LTB, HLt_set, ltL_take, ltL_drop, ltL_rep, ltL_set, upd, eset, hH, hHk, lt_vi, lt_str, lt_vb, ltc_str, ltc_vi, lt_run, lt1_run, ltc_run, lt_Str, lt1_Str, ltc_Str, lt_c, lt1_c, ltc_c, lt_attr, lt1_attr, ltc_attr, lt_tree, lt1_tree, ltc_tree] <;> omega)
    (try simp only [wk, wk1, wk0, RB, limBytes, Nat.reduceBEq, Nat.reduceAdd, Nat.reduceEqDiff, Nat.reduceLT, Nat.reduceLeDiff, Nat.reduceMul, Nat.reduceSub, Int.reduceBEq, Int.reduceBNe, Int.reduceToNat, Int.reduceLT, Int.reduceLE, Int.reduceGT, Int.reduceGE, Int.reduceAdd, Int.reduceSub, Int.reduceNeg, Int.reduceEq, Int.toNat_zero, Int.toNat_one, reduceIte, reduceCtorEq, ne_eq, decide_true, decide_false])
    (try (rw [List.take_of_length_le]; rotate_left 1; (· first | (simp; done) | (simp; omega) | omega)))
    simp [mergeR_nil]
  | succ n ih =>
    intro l hn hb H
    have hll := sz_len l
    refine SCall.of_good fun hH => ?_
    have hHk := HLt.add hH
    refine SCall.of_code Tok Try.func37 rfl Try.call37 (n := 71) rfl (by simp) (rs := [.tmp 2]) rfl ?_
    refine EWn.to ?_
    refine EWn.of_c Tok mixed (own := false) keep37 tab37 (by kernel_rfl) ?_
    (repeat (first | simp -dsimp only [st_run, sz_run, st1_run, cl_run, st_Str, sz_Str, st1_Str, cl_Str, st_c, sz_c, st1_c, cl_c, st_attr, sz_attr, st1_attr, cl_attr, st_tree, sz_tree, st1_tree, cl_tree, RB, TB, keep37, tab37, ewOp, xop, xindexAddr, xindex, xslice, xconvert, xlen, drawStep, FreeW, StabW, isStab, SameW, ChangeW, limBytes, Nat.reduceBEq, Nat.reduceAdd, Nat.reduceEqDiff, Nat.reduceLT, Nat.reduceLeDiff, Nat.reduceMul, Nat.reduceSub, Int.reduceBEq, Int.reduceBNe, Int.reduceToNat, Int.reduceLT, Int.reduceLE, Int.reduceGT, Int.reduceGE, Int.reduceAdd, Int.reduceSub, Int.reduceNeg, Int.reduceEq, Int.toNat_zero, Int.toNat_one, reduceIte, reduceCtorEq, ne_eq, decide_true, decide_false] | ((with_reducible refine Need.intro ?_ ?_); (first | trivial | omega | (simp; done) | (simp; omega)))))
    refine EWn.ghost (Gho.adopt 3 6 rfl) ?_
    simp only [RB, limBytes, Nat.reduceBEq, Nat.reduceAdd, Nat.reduceEqDiff, Nat.reduceLT, Nat.reduceLeDiff, Nat.reduceMul, Nat.reduceSub, Int.reduceBEq, Int.reduceBNe, Int.reduceToNat, Int.reduceLT, Int.reduceLE, Int.reduceGT, Int.reduceGE, Int.reduceAdd, Int.reduceSub, Int.reduceNeg, Int.reduceEq, Int.toNat_zero, Int.toNat_one, reduceIte, reduceCtorEq, ne_eq, decide_true, decide_false]
    refine EWn.loopE (ι := (Nat) × (Nat)) (fun (x_ : (Nat) × (Nat)) => match x_ with | (i, ver) => i ≤ l.length) (fun (x_ : (Nat) × (Nat)) => match x_ with | (i, ver) => l.length - i) (fun (x_ : (Nat) × (Nat)) => match x_ with | (i, ver) => [(3, .vec H.length ver 0 (mergeRF (l.take i) []).length), (4, .int .i64 i)]) (fun (x_ : (Nat) × (Nat)) => match x_ with | (i, ver) => H ++ [.vec ver 6 ((mergeRF (l.take i) []).map treeV)]) (0, 1) ?_ ?_ ?_ ?_ ?_
    · first | rfl | (simp [upd, eset]; done) | (simp [upd, eset, mergeRF]; done)
    · simp [mergeRF]
    · rintro ⟨i, ver⟩ hok; exact ⟨by first | (simp; done) | (simp; omega), by (simp (maxDischargeDepth := 6) [LTB, HLt_set, ltL_take, ltL_drop, ltL_rep, ltL_set, upd, eset, hH, hHk, lt_vi, lt_str, lt_vb, ltc_str, ltc_vi, lt_run, lt1_run, ltc_run, lt_Str, lt1_Str, ltc_Str, lt_c, lt1_c, ltc_c, lt_attr, lt1_attr, ltc_attr, lt_tree, lt1_tree, ltc_tree] <;> omega), by (simp (maxDischargeDepth := 6) [LTB, HLt_set, ltL_take, ltL_drop, ltL_rep, ltL_set, upd, eset, hH, hHk, lt_vi, lt_str, lt_vb, ltc_str, ltc_vi, lt_run, lt1_run, ltc_run, lt_Str, lt1_Str, ltc_Str, lt_c, lt1_c, ltc_c, lt_attr, lt1_attr, ltc_attr, lt_tree, lt1_tree, ltc_tree] <;> omega)⟩
    · omega
    rintro ⟨i, ver⟩ hi
    obtain ⟨hinv, hal⟩ := mergeRF_inv l i hi
    have hbt := szTs_take l i
    refine EWn.of_c Tok mixed (own := false) keep37 tab37 (by kernel_rfl) ?_
    (repeat (first | simp -dsimp only [st_run, sz_run, st1_run, cl_run, st_Str, sz_Str, st1_Str, cl_Str, st_c, sz_c, st1_c, cl_c, st_attr, sz_attr, st1_attr, cl_attr, st_tree, sz_tree, st1_tree, cl_tree, RB, TB, keep37, tab37, ewOp, xop, xindexAddr, xindex, xslice, xconvert, xlen, drawStep, FreeW, StabW, isStab, SameW, ChangeW, limBytes, Nat.reduceBEq, Nat.reduceAdd, Nat.reduceEqDiff, Nat.reduceLT, Nat.reduceLeDiff, Nat.reduceMul, Nat.reduceSub, Int.reduceBEq, Int.reduceBNe, Int.reduceToNat, Int.reduceLT, Int.reduceLE, Int.reduceGT, Int.reduceGE, Int.reduceAdd, Int.reduceSub, Int.reduceNeg, Int.reduceEq, Int.toNat_zero, Int.toNat_one, reduceIte, reduceCtorEq, ne_eq, decide_true, decide_false] | ((with_reducible refine Need.intro ?_ ?_); (first | trivial | omega | (simp; done) | (simp; omega)))))
    refine IfW.intro (fun h => ?_) (fun h => ?_)
    · have hlt := lt_of h
      have hsucc := mergeRF_succ hlt []
      have hsz := szT_eq l[i]
      have hszl := szTs_mem (List.getElem_mem hlt)
      have hok1 : okS l[i].tag := okS_sz' (by omega)
      have hok2 : okS l[i].text := okS_sz' (by omega)
      obtain ⟨hoka, hokl⟩ := okA_sz' (l := l[i].attrs) (by omega)
      generalize mergeRF (l.take i) [] = acc at *
      have hte := treeV_eq l[i]
      (repeat (first | simp -dsimp only [st_run, sz_run, st1_run, cl_run, st_Str, sz_Str, st1_Str, cl_Str, st_c, sz_c, st1_c, cl_c, st_attr, sz_attr, st1_attr, cl_attr, st_tree, sz_tree, st1_tree, cl_tree, h, at_map treeV l i hlt, hte, RB, TB, keep37, tab37, ewOp, xop, xindexAddr, xindex, xslice, xconvert, xlen, drawStep, FreeW, StabW, isStab, SameW, ChangeW, limBytes, Nat.reduceBEq, Nat.reduceAdd, Nat.reduceEqDiff, Nat.reduceLT, Nat.reduceLeDiff, Nat.reduceMul, Nat.reduceSub, Int.reduceBEq, Int.reduceBNe, Int.reduceToNat, Int.reduceLT, Int.reduceLE, Int.reduceGT, Int.reduceGE, Int.reduceAdd, Int.reduceSub, Int.reduceNeg, Int.reduceEq, Int.toNat_zero, Int.toNat_one, reduceIte, reduceCtorEq, ne_eq, decide_true, decide_false] | ((with_reducible refine Need.intro ?_ ?_); (first | trivial | omega | (simp; done) | (simp; omega)))))
      have hin : szTs l[i].kids ≤ n := by omega
      unfold stepR at hsucc
      have hie := isE_beq l[i]
      refine IfW.intro (fun he => ?_) (fun he => ?_)
      · have hE : l[i].isE = false := by rw [he] at hie; simpa using hie.symm
        rw [if_neg (by rw [hE]; decide)] at hsucc
        (repeat (first | simp -dsimp only [st_run, sz_run, st1_run, cl_run, st_Str, sz_Str, st1_Str, cl_Str, st_c, sz_c, st1_c, cl_c, st_attr, sz_attr, st1_attr, cl_attr, st_tree, sz_tree, st1_tree, cl_tree, he, RB, TB, keep37, tab37, ewOp, xop, xindexAddr, xindex, xslice, xconvert, xlen, drawStep, FreeW, StabW, isStab, SameW, ChangeW, limBytes, Nat.reduceBEq, Nat.reduceAdd, Nat.reduceEqDiff, Nat.reduceLT, Nat.reduceLeDiff, Nat.reduceMul, Nat.reduceSub, Int.reduceBEq, Int.reduceBNe, Int.reduceToNat, Int.reduceLT, Int.reduceLE, Int.reduceGT, Int.reduceGE, Int.reduceAdd, Int.reduceSub, Int.reduceNeg, Int.reduceEq, Int.toNat_zero, Int.toNat_one, reduceIte, reduceCtorEq, ne_eq, decide_true, decide_false] | ((with_reducible refine Need.intro ?_ ?_); (first | trivial | omega | (simp; done) | (simp; omega)))))
        rw [wrapI (x := (acc.length : Int) - 1) (by omega)]
        refine IfW.intro (fun h0 => ?_) (fun h0 => ?_)
        · have h0' : l[i].text.text = [] := by simpa using h0
          rw [if_pos h0'] at hsucc
          (repeat (first | simp -dsimp only [st_run, sz_run, st1_run, cl_run, st_Str, sz_Str, st1_Str, cl_Str, st_c, sz_c, st1_c, cl_c, st_attr, sz_attr, st1_attr, cl_attr, st_tree, sz_tree, st1_tree, cl_tree, h0, RB, TB, keep37, tab37, ewOp, xop, xindexAddr, xindex, xslice, xconvert, xlen, drawStep, FreeW, StabW, isStab, SameW, ChangeW, limBytes, Nat.reduceBEq, Nat.reduceAdd, Nat.reduceEqDiff, Nat.reduceLT, Nat.reduceLeDiff, Nat.reduceMul, Nat.reduceSub, Int.reduceBEq, Int.reduceBNe, Int.reduceToNat, Int.reduceLT, Int.reduceLE, Int.reduceGT, Int.reduceGE, Int.reduceAdd, Int.reduceSub, Int.reduceNeg, Int.reduceEq, Int.toNat_zero, Int.toNat_one, reduceIte, reduceCtorEq, ne_eq, decide_true, decide_false] | ((with_reducible refine Need.intro ?_ ?_); (first | trivial | omega | (simp; done) | (simp; omega)))))
          rw [wrapI (by omega)]
          refine UpTo.here ⟨(i + 1, ver), hlt, by simp only; omega, by simp only [hsucc]; simp [upd, eset], ⟨_, by simp only [hsucc]; simp; rfl⟩⟩
        · have h0' : l[i].text.text ≠ [] := by simpa using h0
          rw [if_neg h0'] at hsucc
          (repeat (first | simp -dsimp only [st_run, sz_run, st1_run, cl_run, st_Str, sz_Str, st1_Str, cl_Str, st_c, sz_c, st1_c, cl_c, st_attr, sz_attr, st1_attr, cl_attr, st_tree, sz_tree, st1_tree, cl_tree, h0, RB, TB, keep37, tab37, ewOp, xop, xindexAddr, xindex, xslice, xconvert, xlen, drawStep, FreeW, StabW, isStab, SameW, ChangeW, limBytes, Nat.reduceBEq, Nat.reduceAdd, Nat.reduceEqDiff, Nat.reduceLT, Nat.reduceLeDiff, Nat.reduceMul, Nat.reduceSub, Int.reduceBEq, Int.reduceBNe, Int.reduceToNat, Int.reduceLT, Int.reduceLE, Int.reduceGT, Int.reduceGE, Int.reduceAdd, Int.reduceSub, Int.reduceNeg, Int.reduceEq, Int.toNat_zero, Int.toNat_one, reduceIte, reduceCtorEq, ne_eq, decide_true, decide_false] | ((with_reducible refine Need.intro ?_ ?_); (first | trivial | omega | (simp; done) | (simp; omega)))))
          rcases List.eq_nil_or_concat acc with ha0 | ⟨ys, u, ha0⟩
          · subst ha0
            simp only [List.getLast?_nil] at hsucc
            (repeat (first | simp -dsimp only [st_run, sz_run, st1_run, cl_run, st_Str, sz_Str, st1_Str, cl_Str, st_c, sz_c, st1_c, cl_c, st_attr, sz_attr, st1_attr, cl_attr, st_tree, sz_tree, st1_tree, cl_tree, show decide ((([] : List Tree).length : Int) - 1 ≥ 0) = false from rfl, RB, TB, keep37, tab37, ewOp, xop, xindexAddr, xindex, xslice, xconvert, xlen, drawStep, FreeW, StabW, isStab, SameW, ChangeW, limBytes, Nat.reduceBEq, Nat.reduceAdd, Nat.reduceEqDiff, Nat.reduceLT, Nat.reduceLeDiff, Nat.reduceMul, Nat.reduceSub, Int.reduceBEq, Int.reduceBNe, Int.reduceToNat, Int.reduceLT, Int.reduceLE, Int.reduceGT, Int.reduceGE, Int.reduceAdd, Int.reduceSub, Int.reduceNeg, Int.reduceEq, Int.toNat_zero, Int.toNat_one, reduceIte, reduceCtorEq, ne_eq, decide_true, decide_false] | ((with_reducible refine Need.intro ?_ ?_); (first | trivial | omega | (simp; done) | (simp; omega)))))
            rw [wrapI (by omega)]
            refine UpTo.step (Gho.weakLast (H.length) (l := []) (m := _) (m' := [.agg [.str [], .slice [], .slice [], .slice [], .str l[i].text.text, .slice (l[i].text.runs.map runV)]]) (by first | (rw [hget0]; rfl) | (rw [hget]; rfl) | rfl | (simp; done) | (simp; rfl)) (by repeat (first | exact trivial | refine ⟨.inl (.inl (.inl rfl)), ?_⟩ | refine ⟨.inr ⟨_, _, rfl, rfl, ?_⟩, ?_⟩ | refine ⟨.inl (.inl rfl), ?_⟩ | refine ⟨.inl (.inr ⟨_, rfl, rfl⟩), ?_⟩))) ?_
            (try simp only [RB, limBytes, Nat.reduceBEq, Nat.reduceAdd, Nat.reduceEqDiff, Nat.reduceLT, Nat.reduceLeDiff, Nat.reduceMul, Nat.reduceSub, Int.reduceBEq, Int.reduceBNe, Int.reduceToNat, Int.reduceLT, Int.reduceLE, Int.reduceGT, Int.reduceGE, Int.reduceAdd, Int.reduceSub, Int.reduceNeg, Int.reduceEq, Int.toNat_zero, Int.toNat_one, reduceIte, reduceCtorEq, ne_eq, decide_true, decide_false])
            refine UpTo.here ⟨(i + 1, ver + 1), hlt, by simp only; omega, by simp only [hsucc]; simp [upd, eset], ⟨_, by simp only [hsucc]; simp [treeV_mk, zeroS]; rfl⟩⟩
          · rw [List.concat_eq_append] at ha0
            subst ha0
            simp only [List.getLast?_concat] at hsucc
            have hlast : (ys ++ [u]).length = ys.length + 1 := by simp
            have hat := at_map treeV (ys ++ [u]) ys.length (by simp)
            have hel : (ys ++ [u])[ys.length] = u := by simp
            have hue := treeV_eq u
            rw [hel, hue] at hat
            clear hel
            have hmu : u ∈ ys ++ [u] := by simp
            have hiu := isE_beq u
            generalize hL : ys ++ [u] = L at *
            have hix : ((L.length : Int) - 1) = (ys.length : Int) := by omega
            have hk : decide ((ys.length : Int) ≥ 0) = true := by simp
            have hu1 := hinv.1 u hmu
            have hu2 := txtL_mem hmu
            have hu3 := hinv.2
            rw [hix]
            (repeat (first | simp -dsimp only [st_run, sz_run, st1_run, cl_run, st_Str, sz_Str, st1_Str, cl_Str, st_c, sz_c, st1_c, cl_c, st_attr, sz_attr, st1_attr, cl_attr, st_tree, sz_tree, st1_tree, cl_tree, hk, hat, RB, TB, keep37, tab37, ewOp, xop, xindexAddr, xindex, xslice, xconvert, xlen, drawStep, FreeW, StabW, isStab, SameW, ChangeW, limBytes, Nat.reduceBEq, Nat.reduceAdd, Nat.reduceEqDiff, Nat.reduceLT, Nat.reduceLeDiff, Nat.reduceMul, Nat.reduceSub, Int.reduceBEq, Int.reduceBNe, Int.reduceToNat, Int.reduceLT, Int.reduceLE, Int.reduceGT, Int.reduceGE, Int.reduceAdd, Int.reduceSub, Int.reduceNeg, Int.reduceEq, Int.toNat_zero, Int.toNat_one, reduceIte, reduceCtorEq, ne_eq, decide_true, decide_false] | ((with_reducible refine Need.intro ?_ ?_); (first | trivial | omega | (simp; done) | (simp; omega)))))
            refine IfW.intro (fun hue2 => ?_) (fun hue2 => ?_)
            · have hue3 : u.isE = false := by rw [hue2] at hiu; simpa using hiu.symm
              rw [if_neg (by rw [hue3]; decide)] at hsucc
              have hut : okS u.text := ⟨by omega, by omega⟩
              have hct : (([u.text, l[i].text] : List Str).flatMap Str.text).length ≤ 1000000000 := by
                simp only [List.flatMap_cons, List.flatMap_nil, List.append_nil, List.length_append]
                unfold szS' at hsz
                omega
              (repeat (first | simp -dsimp only [st_run, sz_run, st1_run, cl_run, st_Str, sz_Str, st1_Str, cl_Str, st_c, sz_c, st1_c, cl_c, st_attr, sz_attr, st1_attr, cl_attr, st_tree, sz_tree, st1_tree, cl_tree, hue2, hat, RB, TB, keep37, tab37, ewOp, xop, xindexAddr, xindex, xslice, xconvert, xlen, drawStep, FreeW, StabW, isStab, SameW, ChangeW, limBytes, Nat.reduceBEq, Nat.reduceAdd, Nat.reduceEqDiff, Nat.reduceLT, Nat.reduceLeDiff, Nat.reduceMul, Nat.reduceSub, Int.reduceBEq, Int.reduceBNe, Int.reduceToNat, Int.reduceLT, Int.reduceLE, Int.reduceGT, Int.reduceGE, Int.reduceAdd, Int.reduceSub, Int.reduceNeg, Int.reduceEq, Int.toNat_zero, Int.toNat_one, reduceIte, reduceCtorEq, ne_eq, decide_true, decide_false] | ((with_reducible refine Need.intro ?_ ?_); (first | trivial | omega | (simp; done) | (simp; omega)))))
              (first | refine SCall.then (mCat _ [u.text, l[i].text] (fun s hs => by rcases List.mem_cons.1 hs with rfl | hs; exact hut; rw [List.mem_singleton.1 hs]; exact hok2) hct (by simp)) ?_ | refine SCall.thenA (mCat _ [u.text, l[i].text] (fun s hs => by rcases List.mem_cons.1 hs with rfl | hs; exact hut; rw [List.mem_singleton.1 hs]; exact hok2) hct (by simp)) (by repeat (first | exact trivial | exact .inl (.inl rfl) | exact .inl (.inr ⟨_, rfl, rfl⟩) | exact .inl rfl | exact .inr ⟨_, rfl, rfl⟩ | refine .inr ⟨_, _, rfl, rfl, ?_⟩ | refine ⟨?_, ?_⟩)) ?_ | refine CallE.intro _ (mCat _ [u.text, l[i].text] (fun s hs => by rcases List.mem_cons.1 hs with rfl | hs; exact hut; rw [List.mem_singleton.1 hs]; exact hok2) hct (by simp)) ?_ | refine CallE.introA (mCat _ [u.text, l[i].text] (fun s hs => by rcases List.mem_cons.1 hs with rfl | hs; exact hut; rw [List.mem_singleton.1 hs]; exact hok2) hct (by simp)) (by repeat (first | exact trivial | exact .inl (.inl rfl) | exact .inl (.inr ⟨_, rfl, rfl⟩) | exact .inl rfl | exact .inr ⟨_, rfl, rfl⟩ | refine .inr ⟨_, _, rfl, rfl, ?_⟩ | refine ⟨?_, ?_⟩)) ?_ | refine CallE.intro _ (fun _ => mCat _ [u.text, l[i].text] (fun s hs => by rcases List.mem_cons.1 hs with rfl | hs; exact hut; rw [List.mem_singleton.1 hs]; exact hok2) hct (by simp)) ?_ | refine CallE.intro _ (fun _ => SCall.arg (by repeat (first | exact trivial | exact .inl (.inl rfl) | exact .inl (.inr ⟨_, rfl, rfl⟩) | exact .inl rfl | exact .inr ⟨_, rfl, rfl⟩ | refine .inr ⟨_, _, rfl, rfl, ?_⟩ | refine ⟨?_, ?_⟩)) (mCat _ [u.text, l[i].text] (fun s hs => by rcases List.mem_cons.1 hs with rfl | hs; exact hut; rw [List.mem_singleton.1 hs]; exact hok2) hct (by simp))) ?_ | refine CallE2.intro _ _ (mCat _ [u.text, l[i].text] (fun s hs => by rcases List.mem_cons.1 hs with rfl | hs; exact hut; rw [List.mem_singleton.1 hs]; exact hok2) hct (by simp)) ?_ | refine CallE2.intro _ _ (SCall.arg (by repeat (first | exact trivial | exact .inl (.inl rfl) | exact .inl (.inr ⟨_, rfl, rfl⟩) | exact .inl rfl | exact .inr ⟨_, rfl, rfl⟩ | refine .inr ⟨_, _, rfl, rfl, ?_⟩ | refine ⟨?_, ?_⟩)) (mCat _ [u.text, l[i].text] (fun s hs => by rcases List.mem_cons.1 hs with rfl | hs; exact hut; rw [List.mem_singleton.1 hs]; exact hok2) hct (by simp))) ?_)
              (repeat (first | simp -dsimp only [st_run, sz_run, st1_run, cl_run, st_Str, sz_Str, st1_Str, cl_Str, st_c, sz_c, st1_c, cl_c, st_attr, sz_attr, st1_attr, cl_attr, st_tree, sz_tree, st1_tree, cl_tree, strV, hat, RB, TB, keep37, tab37, ewOp, xop, xindexAddr, xindex, xslice, xconvert, xlen, drawStep, FreeW, StabW, isStab, SameW, ChangeW, limBytes, Nat.reduceBEq, Nat.reduceAdd, Nat.reduceEqDiff, Nat.reduceLT, Nat.reduceLeDiff, Nat.reduceMul, Nat.reduceSub, Int.reduceBEq, Int.reduceBNe, Int.reduceToNat, Int.reduceLT, Int.reduceLE, Int.reduceGT, Int.reduceGE, Int.reduceAdd, Int.reduceSub, Int.reduceNeg, Int.reduceEq, Int.toNat_zero, Int.toNat_one, reduceIte, reduceCtorEq, ne_eq, decide_true, decide_false] | ((with_reducible refine Need.intro ?_ ?_); (first | trivial | omega | (simp; done) | (simp; omega)))))
              rw [wrapI (by omega)]
              have hset : ∀ X, (L.map treeV).set ys.length X = ys.map treeV ++ [X] := fun X => by
                rw [← hL, List.map_append, List.set_append_right _ _ (by simp)]
                simp
              have hlen2 : (L.dropLast ++ [Tree.mk zeroS [] [] (catS [u.text, l[i].text])]).length = L.length := by rw [← hL]; simp
              have hdl : L.dropLast = ys := by rw [← hL, List.dropLast_concat]
              rw [hset]
              refine UpTo.step (Gho.weakLast (H.length) (l := ys.map treeV) (m := _) (m' := [.agg [.str [], .slice [], .slice [], .slice [], .str (catS [u.text, l[i].text]).text, .slice ((catS [u.text, l[i].text]).runs.map runV)]]) (by first | (rw [hget0]; rfl) | (rw [hget]; rfl) | rfl | (simp; done) | (simp; rfl)) (by repeat (first | exact trivial | refine ⟨.inl (.inl (.inl rfl)), ?_⟩ | refine ⟨.inr ⟨_, _, rfl, rfl, ?_⟩, ?_⟩ | refine ⟨.inl (.inl rfl), ?_⟩ | refine ⟨.inl (.inr ⟨_, rfl, rfl⟩), ?_⟩))) ?_
              (try simp only [RB, limBytes, Nat.reduceBEq, Nat.reduceAdd, Nat.reduceEqDiff, Nat.reduceLT, Nat.reduceLeDiff, Nat.reduceMul, Nat.reduceSub, Int.reduceBEq, Int.reduceBNe, Int.reduceToNat, Int.reduceLT, Int.reduceLE, Int.reduceGT, Int.reduceGE, Int.reduceAdd, Int.reduceSub, Int.reduceNeg, Int.reduceEq, Int.toNat_zero, Int.toNat_one, reduceIte, reduceCtorEq, ne_eq, decide_true, decide_false])
              refine UpTo.here ⟨(i + 1, ver), hlt, by simp only; omega, by simp only [hsucc, hlen2]; simp [upd, eset], ⟨_, by simp only [hsucc]; rw [hdl]; simp [treeV_mk, zeroS]; rfl⟩⟩
            · have hue3 : u.isE = true := by rw [hue2] at hiu; simpa using hiu.symm
              rw [if_pos hue3] at hsucc
              (repeat (first | simp -dsimp only [st_run, sz_run, st1_run, cl_run, st_Str, sz_Str, st1_Str, cl_Str, st_c, sz_c, st1_c, cl_c, st_attr, sz_attr, st1_attr, cl_attr, st_tree, sz_tree, st1_tree, cl_tree, hue2, RB, TB, keep37, tab37, ewOp, xop, xindexAddr, xindex, xslice, xconvert, xlen, drawStep, FreeW, StabW, isStab, SameW, ChangeW, limBytes, Nat.reduceBEq, Nat.reduceAdd, Nat.reduceEqDiff, Nat.reduceLT, Nat.reduceLeDiff, Nat.reduceMul, Nat.reduceSub, Int.reduceBEq, Int.reduceBNe, Int.reduceToNat, Int.reduceLT, Int.reduceLE, Int.reduceGT, Int.reduceGE, Int.reduceAdd, Int.reduceSub, Int.reduceNeg, Int.reduceEq, Int.toNat_zero, Int.toNat_one, reduceIte, reduceCtorEq, ne_eq, decide_true, decide_false] | ((with_reducible refine Need.intro ?_ ?_); (first | trivial | omega | (simp; done) | (simp; omega)))))
              rw [wrapI (by omega)]
              refine UpTo.step (Gho.weakLast (H.length) (l := L.map treeV) (m := _) (m' := [.agg [.str [], .slice [], .slice [], .slice [], .str l[i].text.text, .slice (l[i].text.runs.map runV)]]) (by first | (rw [hget0]; rfl) | (rw [hget]; rfl) | rfl | (simp; done) | (simp; rfl)) (by repeat (first | exact trivial | refine ⟨.inl (.inl (.inl rfl)), ?_⟩ | refine ⟨.inr ⟨_, _, rfl, rfl, ?_⟩, ?_⟩ | refine ⟨.inl (.inl rfl), ?_⟩ | refine ⟨.inl (.inr ⟨_, rfl, rfl⟩), ?_⟩))) ?_
              (try simp only [RB, limBytes, Nat.reduceBEq, Nat.reduceAdd, Nat.reduceEqDiff, Nat.reduceLT, Nat.reduceLeDiff, Nat.reduceMul, Nat.reduceSub, Int.reduceBEq, Int.reduceBNe, Int.reduceToNat, Int.reduceLT, Int.reduceLE, Int.reduceGT, Int.reduceGE, Int.reduceAdd, Int.reduceSub, Int.reduceNeg, Int.reduceEq, Int.toNat_zero, Int.toNat_one, reduceIte, reduceCtorEq, ne_eq, decide_true, decide_false])
              refine UpTo.here ⟨(i + 1, ver + 1), hlt, by simp only; omega, by simp only [hsucc]; simp [upd, eset], ⟨_, by simp only [hsucc]; simp [treeV_mk, zeroS]; rfl⟩⟩
      · have hE : l[i].isE = true := by rw [he] at hie; simpa using hie.symm
        rw [if_pos hE] at hsucc
        (repeat (first | simp -dsimp only [st_run, sz_run, st1_run, cl_run, st_Str, sz_Str, st1_Str, cl_Str, st_c, sz_c, st1_c, cl_c, st_attr, sz_attr, st1_attr, cl_attr, st_tree, sz_tree, st1_tree, cl_tree, he, RB, TB, keep37, tab37, ewOp, xop, xindexAddr, xindex, xslice, xconvert, xlen, drawStep, FreeW, StabW, isStab, SameW, ChangeW, limBytes, Nat.reduceBEq, Nat.reduceAdd, Nat.reduceEqDiff, Nat.reduceLT, Nat.reduceLeDiff, Nat.reduceMul, Nat.reduceSub, Int.reduceBEq, Int.reduceBNe, Int.reduceToNat, Int.reduceLT, Int.reduceLE, Int.reduceGT, Int.reduceGE, Int.reduceAdd, Int.reduceSub, Int.reduceNeg, Int.reduceEq, Int.toNat_zero, Int.toNat_one, reduceIte, reduceCtorEq, ne_eq, decide_true, decide_false] | ((with_reducible refine Need.intro ?_ ?_); (first | trivial | omega | (simp; done) | (simp; omega)))))
        (first | refine SCall.then (aOnce _ l[i].attrs hoka hokl) ?_ | refine SCall.thenA (aOnce _ l[i].attrs hoka hokl) (by repeat (first | exact trivial | exact .inl (.inl rfl) | exact .inl (.inr ⟨_, rfl, rfl⟩) | exact .inl rfl | exact .inr ⟨_, rfl, rfl⟩ | refine .inr ⟨_, _, rfl, rfl, ?_⟩ | refine ⟨?_, ?_⟩)) ?_ | refine CallE.intro _ (aOnce _ l[i].attrs hoka hokl) ?_ | refine CallE.introA (aOnce _ l[i].attrs hoka hokl) (by repeat (first | exact trivial | exact .inl (.inl rfl) | exact .inl (.inr ⟨_, rfl, rfl⟩) | exact .inl rfl | exact .inr ⟨_, rfl, rfl⟩ | refine .inr ⟨_, _, rfl, rfl, ?_⟩ | refine ⟨?_, ?_⟩)) ?_ | refine CallE.intro _ (fun _ => aOnce _ l[i].attrs hoka hokl) ?_ | refine CallE.intro _ (fun _ => SCall.arg (by repeat (first | exact trivial | exact .inl (.inl rfl) | exact .inl (.inr ⟨_, rfl, rfl⟩) | exact .inl rfl | exact .inr ⟨_, rfl, rfl⟩ | refine .inr ⟨_, _, rfl, rfl, ?_⟩ | refine ⟨?_, ?_⟩)) (aOnce _ l[i].attrs hoka hokl)) ?_ | refine CallE2.intro _ _ (aOnce _ l[i].attrs hoka hokl) ?_ | refine CallE2.intro _ _ (SCall.arg (by repeat (first | exact trivial | exact .inl (.inl rfl) | exact .inl (.inr ⟨_, rfl, rfl⟩) | exact .inl rfl | exact .inr ⟨_, rfl, rfl⟩ | refine .inr ⟨_, _, rfl, rfl, ?_⟩ | refine ⟨?_, ?_⟩)) (aOnce _ l[i].attrs hoka hokl)) ?_)
        (repeat (first | simp -dsimp only [st_run, sz_run, st1_run, cl_run, st_Str, sz_Str, st1_Str, cl_Str, st_c, sz_c, st1_c, cl_c, st_attr, sz_attr, st1_attr, cl_attr, st_tree, sz_tree, st1_tree, cl_tree, RB, TB, keep37, tab37, ewOp, xop, xindexAddr, xindex, xslice, xconvert, xlen, drawStep, FreeW, StabW, isStab, SameW, ChangeW, limBytes, Nat.reduceBEq, Nat.reduceAdd, Nat.reduceEqDiff, Nat.reduceLT, Nat.reduceLeDiff, Nat.reduceMul, Nat.reduceSub, Int.reduceBEq, Int.reduceBNe, Int.reduceToNat, Int.reduceLT, Int.reduceLE, Int.reduceGT, Int.reduceGE, Int.reduceAdd, Int.reduceSub, Int.reduceNeg, Int.reduceEq, Int.toNat_zero, Int.toNat_one, reduceIte, reduceCtorEq, ne_eq, decide_true, decide_false] | ((with_reducible refine Need.intro ?_ ?_); (first | trivial | omega | (simp; done) | (simp; omega)))))
        (first | refine SCall.then (ih l[i].kids hin (by omega) _) ?_ | refine SCall.thenA (ih l[i].kids hin (by omega) _) (by repeat (first | exact trivial | exact .inl (.inl rfl) | exact .inl (.inr ⟨_, rfl, rfl⟩) | exact .inl rfl | exact .inr ⟨_, rfl, rfl⟩ | refine .inr ⟨_, _, rfl, rfl, ?_⟩ | refine ⟨?_, ?_⟩)) ?_ | refine CallE.intro _ (ih l[i].kids hin (by omega) _) ?_ | refine CallE.introA (ih l[i].kids hin (by omega) _) (by repeat (first | exact trivial | exact .inl (.inl rfl) | exact .inl (.inr ⟨_, rfl, rfl⟩) | exact .inl rfl | exact .inr ⟨_, rfl, rfl⟩ | refine .inr ⟨_, _, rfl, rfl, ?_⟩ | refine ⟨?_, ?_⟩)) ?_ | refine CallE.intro _ (fun _ => ih l[i].kids hin (by omega) _) ?_ | refine CallE.intro _ (fun _ => SCall.arg (by repeat (first | exact trivial | exact .inl (.inl rfl) | exact .inl (.inr ⟨_, rfl, rfl⟩) | exact .inl rfl | exact .inr ⟨_, rfl, rfl⟩ | refine .inr ⟨_, _, rfl, rfl, ?_⟩ | refine ⟨?_, ?_⟩)) (ih l[i].kids hin (by omega) _)) ?_ | refine CallE2.intro _ _ (ih l[i].kids hin (by omega) _) ?_ | refine CallE2.intro _ _ (SCall.arg (by repeat (first | exact trivial | exact .inl (.inl rfl) | exact .inl (.inr ⟨_, rfl, rfl⟩) | exact .inl rfl | exact .inr ⟨_, rfl, rfl⟩ | refine .inr ⟨_, _, rfl, rfl, ?_⟩ | refine ⟨?_, ?_⟩)) (ih l[i].kids hin (by omega) _)) ?_)
        (repeat (first | simp -dsimp only [st_run, sz_run, st1_run, cl_run, st_Str, sz_Str, st1_Str, cl_Str, st_c, sz_c, st1_c, cl_c, st_attr, sz_attr, st1_attr, cl_attr, st_tree, sz_tree, st1_tree, cl_tree, RB, TB, keep37, tab37, ewOp, xop, xindexAddr, xindex, xslice, xconvert, xlen, drawStep, FreeW, StabW, isStab, SameW, ChangeW, limBytes, Nat.reduceBEq, Nat.reduceAdd, Nat.reduceEqDiff, Nat.reduceLT, Nat.reduceLeDiff, Nat.reduceMul, Nat.reduceSub, Int.reduceBEq, Int.reduceBNe, Int.reduceToNat, Int.reduceLT, Int.reduceLE, Int.reduceGT, Int.reduceGE, Int.reduceAdd, Int.reduceSub, Int.reduceNeg, Int.reduceEq, Int.toNat_zero, Int.toNat_one, reduceIte, reduceCtorEq, ne_eq, decide_true, decide_false] | ((with_reducible refine Need.intro ?_ ?_); (first | trivial | omega | (simp; done) | (simp; omega)))))
        rw [wrapI (by omega)]
        refine UpTo.step (Gho.weakLast (H.length) (l := acc.map treeV) (m := _) (m' := [.agg [.str l[i].tag.text, .slice (l[i].tag.runs.map runV), .slice ((onceA l[i].attrs []).map attrV), .slice ((mergeR l[i].kids).map treeV), .str [], .slice []]]) (by first | (rw [hget0]; rfl) | (rw [hget]; rfl) | rfl | (simp; done) | (simp; rfl)) (by repeat (first | exact trivial | refine ⟨.inl (.inl (.inl rfl)), ?_⟩ | refine ⟨.inr ⟨_, _, rfl, rfl, ?_⟩, ?_⟩ | refine ⟨.inl (.inl rfl), ?_⟩ | refine ⟨.inl (.inr ⟨_, rfl, rfl⟩), ?_⟩))) ?_
        (try simp only [RB, limBytes, Nat.reduceBEq, Nat.reduceAdd, Nat.reduceEqDiff, Nat.reduceLT, Nat.reduceLeDiff, Nat.reduceMul, Nat.reduceSub, Int.reduceBEq, Int.reduceBNe, Int.reduceToNat, Int.reduceLT, Int.reduceLE, Int.reduceGT, Int.reduceGE, Int.reduceAdd, Int.reduceSub, Int.reduceNeg, Int.reduceEq, Int.toNat_zero, Int.toNat_one, reduceIte, reduceCtorEq, ne_eq, decide_true, decide_false])
        refine UpTo.here ⟨(i + 1, ver + 1), hlt, by simp only; omega, by simp only [hsucc]; simp [upd, eset], ⟨_, by simp only [hsucc]; simp [treeV_mk, zeroS]; rfl⟩⟩
    · (repeat (first | simp -dsimp only [st_run, sz_run, st1_run, cl_run, st_Str, sz_Str, st1_Str, cl_Str, st_c, sz_c, st1_c, cl_c, st_attr, sz_attr, st1_attr, cl_attr, st_tree, sz_tree, st1_tree, cl_tree, h, RB, TB, keep37, tab37, ewOp, xop, xindexAddr, xindex, xslice, xconvert, xlen, drawStep, FreeW, StabW, isStab, SameW, ChangeW, limBytes, Nat.reduceBEq, Nat.reduceAdd, Nat.reduceEqDiff, Nat.reduceLT, Nat.reduceLeDiff, Nat.reduceMul, Nat.reduceSub, Int.reduceBEq, Int.reduceBNe, Int.reduceToNat, Int.reduceLT, Int.reduceLE, Int.reduceGT, Int.reduceGE, Int.reduceAdd, Int.reduceSub, Int.reduceNeg, Int.reduceEq, Int.toNat_zero, Int.toNat_one, reduceIte, reduceCtorEq, ne_eq, decide_true, decide_false] | ((with_reducible refine Need.intro ?_ ?_); (first | trivial | omega | (simp; done) | (simp; omega)))))
      have hi2 : i = l.length := Nat.le_antisymm hi (ge_of h)
      subst hi2
      rw [List.take_length]
      refine RetW.auto0 false _ (by first | rfl | exact (List.append_nil _).symm) ?_ ?_
      · (simp (maxDischargeDepth := 6) [LTB, HLt_set, ltL_take, ltL_drop, ltL_rep, ltL_set, upd, eset, hH, hHk, lt_vi, lt_str, lt_vb, ltc_str, ltc_vi, lt_run, lt1_run, ltc_run, lt_Str, lt1_Str, ltc_Str, lt_c, lt1_c, ltc_c, lt_attr, lt1_attr, ltc_attr, lt_tree, lt1_tree, ltc_tree] <;> omega)
      (try simp only [wk, wk1, wk0, RB, limBytes, Nat.reduceBEq, Nat.reduceAdd, Nat.reduceEqDiff, Nat.reduceLT, Nat.reduceLeDiff, Nat.reduceMul, Nat.reduceSub, Int.reduceBEq, Int.reduceBNe, Int.reduceToNat, Int.reduceLT, Int.reduceLE, Int.reduceGT, Int.reduceGE, Int.reduceAdd, Int.reduceSub, Int.reduceNeg, Int.reduceEq, Int.toNat_zero, Int.toNat_one, reduceIte, reduceCtorEq, ne_eq, decide_true, decide_false])
      (try (rw [List.take_of_length_le]; rotate_left 1; (· first | (simp; done) | (simp; omega) | omega)))
      rfl
end Go.Proofs.Ytjhjcldpcngldaa

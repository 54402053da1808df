/- LayoutWords, where what it reads is of bulk at most 1048576: the law returns true and the arguments read as they did. -/
import Derived.Test.YtadhjfdmfdgppaaLayout
import Derived.Test.YtadhjfdmfdgppaaRows
import Derived.ProofKit
import Derived.JoinedCond
set_option linter.unusedSimpArgs false
set_option linter.unusedVariables false
set_option maxRecDepth 100000
set_option maxHeartbeats 1000000
namespace Go.Proofs.Ytadhjfdmfdgppaa
open Go Go.EL

mutual
theorem bulk_eq {H : Type} : ∀ d : DataW H, bulk d = Rows.uptoBulk d
  | .lit l => by cases l <;> simp [bulk, Rows.uptoBulk]
  | .nil => by simp [bulk, Rows.uptoBulk]
  | .ptr d => by simp only [bulk, Rows.uptoBulk, bulk_eq d]
  | .slice a b => by simp only [bulk, Rows.uptoBulk, bulkAll_eq a, bulkAll_eq b]
  | .agg ps => by simp only [bulk, Rows.uptoBulk, bulkAll_eq ps]
  | .iface t d => by simp only [bulk, Rows.uptoBulk, bulk_eq d]
  | .map es => by simp only [bulk, Rows.uptoBulk, bulkEntries_eq es]
  | .held _ => by simp [bulk, Rows.uptoBulk]
theorem bulkAll_eq {H : Type} : ∀ l : List (DataW H), bulkAll l = Rows.uptoBulkAll l
  | [] => by simp [bulkAll, Rows.uptoBulkAll]
  | d :: r => by simp only [bulkAll, Rows.uptoBulkAll, bulk_eq d, bulkAll_eq r]
theorem bulkEntries_eq {H : Type} : ∀ l : List (Lit × DataW H), bulkEntries l = Rows.uptoBulkEntries l
  | [] => by simp [bulkEntries, Rows.uptoBulkEntries]
  | d :: r => by simp only [bulkEntries, Rows.uptoBulkEntries, bulkEntry_eq d, bulkEntries_eq r]
theorem bulkEntry_eq {H : Type} : ∀ x : Lit × DataW H, bulkEntry x = Rows.uptoBulkEntry x
  | (k, d) => by cases k <;> simp [bulkEntry, Rows.uptoBulkEntry, bulk_eq d]
end
theorem le_sum {α : Type} (g : α → Nat) : ∀ {l : List α} {x : α}, x ∈ l → g x ≤ (l.map g).sum
  | y :: l, x, h => by
    simp only [List.map_cons, List.sum_cons]
    rcases List.mem_cons.1 h with rfl | h
    · omega
    · have := le_sum g h; omega
theorem len_sum {α : Type} (g : α → Nat) (hg : ∀ x, 1 ≤ g x) : ∀ (l : List α), l.length ≤ (l.map g).sum
  | [] => by simp
  | y :: l => by
    have := len_sum g hg l
    have := hg y
    simp only [List.map_cons, List.sum_cons, List.length_cons]
    omega
theorem own_none : ownKnob Try.prog.godebug = none := by kernel_rfl
theorem laid_out : laidOutB Try.prog = true := by kernel_rfl

/-- fields, with what stands before each -/
def J (l : List (List UInt8)) : List UInt8 := l.flatMap fun x => 32 :: x
def joinS (l : List (List UInt8)) : List UInt8 := (J l).tail
theorem J_ne {l : List (List UInt8)} (h : l ≠ []) : J l ≠ [] := by cases l with | nil => exact absurd rfl h | cons x l => simp [J]
theorem join_add (l : List (List UInt8)) (x : List UInt8) : joinS (l ++ [x]) = if l = [] then x else joinS l ++ 32 :: x := by
  unfold joinS
  have e : J (l ++ [x]) = J l ++ 32 :: x := by simp [J]
  rw [e]
  by_cases h : l = []
  · subst h; simp [J]
  · rw [if_neg h, List.tail_append_of_ne_nil (J_ne h)]
def full (l : List (List UInt8)) : List (List UInt8) := l.filter fun s => !(s == [])
theorem full_succ (l : List (List UInt8)) (i : Nat) (h : i < l.length) : full (l.take (i + 1)) = full (l.take i) ++ (if l[i] == [] then [] else [l[i]]) := by
  unfold full
  rw [List.take_succ_eq_append_getElem h, List.filter_append]
  congr 1
  by_cases hb : l[i] = [] <;> simp [hb]
theorem full_len (l : List (List UInt8)) : (full l).length ≤ l.length := List.length_filter_le _ _
def sumS (l : List (List UInt8)) : Nat := (l.map fun s => s.length + 1).sum
theorem J_len : ∀ l : List (List UInt8), (J l).length = sumS l
  | [] => rfl
  | x :: l => by have := J_len l; simp only [J, sumS, List.flatMap_cons, List.length_append, List.length_cons, List.map_cons, List.sum_cons] at *; omega
theorem sum_full : ∀ l : List (List UInt8), sumS (full l) ≤ sumS l
  | [] => Nat.le_refl _
  | x :: l => by
    have := sum_full l
    unfold full at this ⊢
    rw [List.filter_cons]
    split <;> simp only [sumS, List.map_cons, List.sum_cons] at * <;> omega
theorem sum_take : ∀ (l : List (List UInt8)) (i : Nat), sumS (l.take i) ≤ sumS l
  | [], _ => by simp [sumS]
  | x :: l, 0 => by simp [sumS]
  | x :: l, i + 1 => by
    have := sum_take l i
    simp only [sumS, List.take_succ_cons, List.map_cons, List.sum_cons] at *; omega
theorem wrap_J (w : Int) : ∀ (l : List (List UInt8)) (line : List UInt8) (out : List (List UInt8)), (∀ f ∈ l, f ≠ []) → J (wrapG w l line out) = J out ++ (if line = [] then [] else 32 :: line) ++ J l
  | [], line, out, _ => by
    simp only [wrapG]
    split <;> simp [J]
  | f :: l, line, out, h => by
    have hf := h f (by simp)
    have hl : ∀ x ∈ l, x ≠ [] := fun x hx => h x (by simp [hx])
    simp only [wrapG]
    split
    · rename_i hb; rw [wrap_J w l f out hl, if_neg hf]; subst hb; simp [J]
    · split
      · rw [wrap_J w l _ out hl, if_neg (by simp)]; simp [J]
      · rw [wrap_J w l f _ hl, if_neg hf]; simp [J]
theorem wrap_le {w1 w2 : Int} (hw : w1 ≤ w2) : ∀ (l : List (List UInt8)) (a b : List UInt8) (out1 out2 : List (List UInt8)), (∀ f ∈ l, f ≠ []) → a ≠ [] → b ≠ [] → (out2.length < out1.length ∨ (out2.length = out1.length ∧ b.length ≤ a.length)) → (wrapG w2 l b out2).length ≤ (wrapG w1 l a out1).length
  | [], a, b, out1, out2, _, ha, hb, h => by simp only [wrapG, if_neg ha, if_neg hb, List.length_append, List.length_singleton]; omega
  | f :: l, a, b, out1, out2, hl, ha, hb, h => by
    have hf := hl f (by simp)
    have hl : ∀ x ∈ l, x ≠ [] := fun x hx => hl x (by simp [hx])
    simp only [wrapG, if_neg ha, if_neg hb]
    split <;> split
    · exact wrap_le hw l _ _ _ _ hl (by simp) (by simp) (by simp; omega)
    · exact wrap_le hw l _ _ _ _ hl hf (by simp) (by simp; omega)
    · refine wrap_le hw l _ _ _ _ hl (by simp) hf ?_
      simp only [List.length_append, List.length_cons, List.length_nil]; omega
    · exact wrap_le hw l _ _ _ _ hl hf hf (by simp; omega)
theorem wrap_mono {w1 w2 : Int} (hw : w1 ≤ w2) {l : List (List UInt8)} (hl : ∀ f ∈ l, f ≠ []) : (wrapG w2 l [] []).length ≤ (wrapG w1 l [] []).length := by
  cases l with
  | nil => simp [wrapG]
  | cons f l =>
    simp only [wrapG, if_true]
    have hf := hl f (by simp)
    exact wrap_le hw l f f [] [] (fun x hx => hl x (by simp [hx])) hf hf (.inr ⟨rfl, Nat.le_refl _⟩)
theorem tmod200 (n : Int) : ∃ k : Nat, k < 200 ∧ (IntKind.i64.wrap (n.tmod 200 + 200)).tmod 200 = (k : Int) := by
  have h1 := Int.tmod_lt_of_pos n (show (0 : Int) < 200 by omega)
  have h0 : -200 < n.tmod 200 := Int.lt_tmod_of_pos n (show (0 : Int) < 200 by omega)
  have e : IntKind.i64.wrap (n.tmod 200 + 200) = n.tmod 200 + 200 := wrapI (by omega)
  rw [e]
  have h2 := Int.tmod_lt_of_pos (n.tmod 200 + 200) (show (0 : Int) < 200 by omega)
  have h3 : 0 ≤ (n.tmod 200 + 200).tmod 200 := Int.tmod_nonneg _ (by omega)
  exact ⟨((n.tmod 200 + 200).tmod 200).toNat, by omega, by omega⟩
theorem layoutWords (H : List Ob) (l : List (List UInt8)) (w : Int) (hs : sumS l ≤ 1048576) : SCall Try.prog 6 [.slice (l.map V.str), .int .i64 w] H (fun r H' => r = .bool true) := by
  refine SCall.of_good fun hH => ?_
  have hHk := HLt.add hH
  refine SCall.of_code Tok Try.func6 rfl Try.call6 (n := 85) rfl (by simp) (rs := [.tmp 4]) rfl ?_
  refine EWn.to ?_
  refine EWn.cutE Tok mixed (own := false) (κ := (List (List UInt8))) keep6 tab6 [(), ()] (fun (m : (List (List UInt8))) => m.length ≤ 60 ∧ sumS m ≤ 1048576) (fun (m : (List (List UInt8))) => [(0, .slice (m.map V.str)), (1, .int .i64 w)]) (fun (m : (List (List UInt8))) => H) (by simp only [headC]; rfl) (by simp only [tailC]; rfl) (by kernel_rfl) (by kernel_rfl) ?_ ?_ ?_
  · rintro m hok; exact ⟨by first | (simp; done) | (simp; omega), by (simp (maxDischargeDepth := 6) [LTB, HLt_set, ltL_take, ltL_drop, ltL_rep, ltL_set, upd, eset, hH, hHk, lt_vi, lt_str, lt_vb, ltc_str, ltc_vi] <;> omega), by (simp (maxDischargeDepth := 6) [LTB, HLt_set, ltL_take, ltL_drop, ltL_rep, ltL_set, upd, eset, hH, hHk, lt_vi, lt_str, lt_vb, ltc_str, ltc_vi] <;> omega)⟩
  · (repeat (first | simp -dsimp only [RB, TB, keep6, tab6, ewOp, xop, xindexAddr, xindex, xslice, xconvert, xlen, drawStep, FreeW, SameW, ChangeW, limBytes, Nat.reduceBEq, Nat.reduceAdd, Nat.reduceEqDiff, Nat.reduceLT, Nat.reduceLeDiff, Nat.reduceMul, Nat.reduceSub, Int.reduceBEq, Int.reduceBNe, Int.reduceToNat, Int.reduceLT, Int.reduceLE, Int.reduceGT, Int.reduceGE, Int.reduceAdd, Int.reduceSub, Int.reduceNeg, Int.reduceEq, Int.toNat_zero, Int.toNat_one, reduceIte, reduceCtorEq, ne_eq, decide_true, decide_false] | ((with_reducible refine Need.intro ?_ ?_); (first | trivial | omega | (simp; done) | (simp; omega)))))
    (first | refine SCall.then (alive46 _) ?_ | refine SCall.thenA (alive46 _) (by repeat (first | exact trivial | exact .inl (.inl rfl) | exact .inl (.inr ⟨_, rfl, rfl⟩) | exact .inl rfl | exact .inr ⟨_, rfl, rfl⟩ | refine .inr ⟨_, _, rfl, rfl, ?_⟩ | refine ⟨?_, ?_⟩)) ?_ | refine CallE.intro _ (alive46 _) ?_ | refine CallE.introA (alive46 _) (by repeat (first | exact trivial | exact .inl (.inl rfl) | exact .inl (.inr ⟨_, rfl, rfl⟩) | exact .inl rfl | exact .inr ⟨_, rfl, rfl⟩ | refine .inr ⟨_, _, rfl, rfl, ?_⟩ | refine ⟨?_, ?_⟩)) ?_ | refine CallE.intro _ (fun _ => alive46 _) ?_ | refine CallE.intro _ (fun _ => SCall.arg (by repeat (first | exact trivial | exact .inl (.inl rfl) | exact .inl (.inr ⟨_, rfl, rfl⟩) | exact .inl rfl | exact .inr ⟨_, rfl, rfl⟩ | refine .inr ⟨_, _, rfl, rfl, ?_⟩ | refine ⟨?_, ?_⟩)) (alive46 _)) ?_ | refine CallE2.intro _ _ (alive46 _) ?_ | refine CallE2.intro _ _ (SCall.arg (by repeat (first | exact trivial | exact .inl (.inl rfl) | exact .inl (.inr ⟨_, rfl, rfl⟩) | exact .inl rfl | exact .inr ⟨_, rfl, rfl⟩ | refine .inr ⟨_, _, rfl, rfl, ?_⟩ | refine ⟨?_, ?_⟩)) (alive46 _)) ?_)
    (repeat (first | simp -dsimp only [RB, TB, keep6, tab6, ewOp, xop, xindexAddr, xindex, xslice, xconvert, xlen, drawStep, FreeW, SameW, ChangeW, limBytes, Nat.reduceBEq, Nat.reduceAdd, Nat.reduceEqDiff, Nat.reduceLT, Nat.reduceLeDiff, Nat.reduceMul, Nat.reduceSub, Int.reduceBEq, Int.reduceBNe, Int.reduceToNat, Int.reduceLT, Int.reduceLE, Int.reduceGT, Int.reduceGE, Int.reduceAdd, Int.reduceSub, Int.reduceNeg, Int.reduceEq, Int.toNat_zero, Int.toNat_one, reduceIte, reduceCtorEq, ne_eq, decide_true, decide_false] | ((with_reducible refine Need.intro ?_ ?_); (first | trivial | omega | (simp; done) | (simp; omega)))))
    refine IfW.intro (fun h => ?_) (fun h => ?_)
    · have hlen : (60 : Int) ≤ l.length := by have := of_decide_eq_true h; omega
      (repeat (first | simp -dsimp only [h, RB, TB, keep6, tab6, ewOp, xop, xindexAddr, xindex, xslice, xconvert, xlen, drawStep, FreeW, SameW, ChangeW, limBytes, Nat.reduceBEq, Nat.reduceAdd, Nat.reduceEqDiff, Nat.reduceLT, Nat.reduceLeDiff, Nat.reduceMul, Nat.reduceSub, Int.reduceBEq, Int.reduceBNe, Int.reduceToNat, Int.reduceLT, Int.reduceLE, Int.reduceGT, Int.reduceGE, Int.reduceAdd, Int.reduceSub, Int.reduceNeg, Int.reduceEq, Int.toNat_zero, Int.toNat_one, reduceIte, reduceCtorEq, ne_eq, decide_true, decide_false] | ((with_reducible refine Need.intro ?_ ?_); (first | trivial | omega | (simp; done) | (simp; omega)))))
      exact UpTo.here ⟨l.take 60, ⟨by simp; omega, Nat.le_trans (sum_take _ _) hs⟩, by simp [List.map_take], [], by simp⟩
    · have hlen : l.length ≤ 60 := by have := of_decide_eq_false h; omega
      (repeat (first | simp -dsimp only [h, RB, TB, keep6, tab6, ewOp, xop, xindexAddr, xindex, xslice, xconvert, xlen, drawStep, FreeW, SameW, ChangeW, limBytes, Nat.reduceBEq, Nat.reduceAdd, Nat.reduceEqDiff, Nat.reduceLT, Nat.reduceLeDiff, Nat.reduceMul, Nat.reduceSub, Int.reduceBEq, Int.reduceBNe, Int.reduceToNat, Int.reduceLT, Int.reduceLE, Int.reduceGT, Int.reduceGE, Int.reduceAdd, Int.reduceSub, Int.reduceNeg, Int.reduceEq, Int.toNat_zero, Int.toNat_one, reduceIte, reduceCtorEq, ne_eq, decide_true, decide_false] | ((with_reducible refine Need.intro ?_ ?_); (first | trivial | omega | (simp; done) | (simp; omega)))))
      exact UpTo.step (Gho.restr [0, 1]) (UpTo.here ⟨l, ⟨hlen, hs⟩, rfl, [], by simp⟩)
  rintro m ⟨hm, hms⟩
  refine EWn.of_c Tok mixed (own := false) keep6 tab6 (by kernel_rfl) ?_
  (repeat (first | simp -dsimp only [RB, TB, keep6, tab6, ewOp, xop, xindexAddr, xindex, xslice, xconvert, xlen, drawStep, FreeW, SameW, ChangeW, limBytes, Nat.reduceBEq, Nat.reduceAdd, Nat.reduceEqDiff, Nat.reduceLT, Nat.reduceLeDiff, Nat.reduceMul, Nat.reduceSub, Int.reduceBEq, Int.reduceBNe, Int.reduceToNat, Int.reduceLT, Int.reduceLE, Int.reduceGT, Int.reduceGE, Int.reduceAdd, Int.reduceSub, Int.reduceNeg, Int.reduceEq, Int.toNat_zero, Int.toNat_one, reduceIte, reduceCtorEq, ne_eq, decide_true, decide_false] | ((with_reducible refine Need.intro ?_ ?_); (first | trivial | omega | (simp; done) | (simp; omega)))))
  refine EWn.ghost (Gho.adopt 5 1 rfl) ?_
  refine EWn.loopF (ι := (Nat) × (Nat)) (κ := (Unit)) (fun (x_ : (Nat) × (Nat)) => match x_ with | (i, ver) => i ≤ m.length) (fun (x_ : (Nat) × (Nat)) => match x_ with | (i, ver) => m.length - i) (fun (x_ : (Nat) × (Nat)) => match x_ with | (i, ver) => [(5, .vec H.length ver 0 (full (m.take i)).length), (6, .str (joinS (full (m.take i)))), (7, .int .i64 i)]) (fun (x_ : (Nat) × (Nat)) => match x_ with | (i, ver) => H ++ [.vec ver 1 ((full (m.take i)).map V.str)]) (0, 1) (fun (_u : (Unit)) => True) (fun (_u : (Unit)) => [(1, .int .i64 w), (5, .slice ((full m).map V.str)), (6, .str (joinS (full m)))]) (fun (_u : (Unit)) => H ++ [.gone]) ?_ ?_ ?_ ?_ ?_ ?_ ?_
  · first | rfl | (simp [upd, eset]; done) | (simp [upd, eset, full, joinS, J]; done)
  · simp [full, joinS, J]
  · rintro ⟨i, ver⟩ hok; exact ⟨by first | (simp; done) | (simp; omega), by (simp (maxDischargeDepth := 6) [LTB, HLt_set, ltL_take, ltL_drop, ltL_rep, ltL_set, upd, eset, hH, hHk, lt_vi, lt_str, lt_vb, ltc_str, ltc_vi] <;> omega), by (simp (maxDischargeDepth := 6) [LTB, HLt_set, ltL_take, ltL_drop, ltL_rep, ltL_set, upd, eset, hH, hHk, lt_vi, lt_str, lt_vb, ltc_str, ltc_vi] <;> omega)⟩
  · rintro _u hok; exact ⟨by first | (simp; done) | (simp; omega), by (simp (maxDischargeDepth := 6) [LTB, HLt_set, ltL_take, ltL_drop, ltL_rep, ltL_set, upd, eset, hH, hHk, lt_vi, lt_str, lt_vb, ltc_str, ltc_vi] <;> omega), by (simp (maxDischargeDepth := 6) [LTB, HLt_set, ltL_take, ltL_drop, ltL_rep, ltL_set, upd, eset, hH, hHk, lt_vi, lt_str, lt_vb, ltc_str, ltc_vi] <;> omega)⟩
  · omega
  · rintro ⟨i, ver⟩ hi
    have hfs := full_len (m.take i)
    have hfl : (joinS (full (m.take i))).length ≤ 1048576 := by
      have h1 := J_len (full (m.take i))
      have h2 := sum_full (m.take i)
      have h3 := sum_take m i
      simp only [joinS, List.length_tail]; omega
    refine EWn.of_c Tok mixed (own := false) keep6 tab6 (by kernel_rfl) ?_
    (repeat (first | simp -dsimp only [RB, TB, keep6, tab6, ewOp, xop, xindexAddr, xindex, xslice, xconvert, xlen, drawStep, FreeW, SameW, ChangeW, limBytes, Nat.reduceBEq, Nat.reduceAdd, Nat.reduceEqDiff, Nat.reduceLT, Nat.reduceLeDiff, Nat.reduceMul, Nat.reduceSub, Int.reduceBEq, Int.reduceBNe, Int.reduceToNat, Int.reduceLT, Int.reduceLE, Int.reduceGT, Int.reduceGE, Int.reduceAdd, Int.reduceSub, Int.reduceNeg, Int.reduceEq, Int.toNat_zero, Int.toNat_one, reduceIte, reduceCtorEq, ne_eq, decide_true, decide_false] | ((with_reducible refine Need.intro ?_ ?_); (first | trivial | omega | (simp; done) | (simp; omega)))))
    refine IfW.intro (fun h => ?_) (fun h => ?_)
    · have hlt := lt_of h
      have hx : m[i].length ≤ 1048576 := by
        have := le_sum (fun s : List UInt8 => s.length + 1) (List.getElem_mem hlt)
        unfold sumS at hms; omega
      have hfs := full_succ m i hlt
      (repeat (first | simp -dsimp only [h, at_map V.str m i hlt, RB, TB, keep6, tab6, ewOp, xop, xindexAddr, xindex, xslice, xconvert, xlen, drawStep, FreeW, SameW, ChangeW, limBytes, Nat.reduceBEq, Nat.reduceAdd, Nat.reduceEqDiff, Nat.reduceLT, Nat.reduceLeDiff, Nat.reduceMul, Nat.reduceSub, Int.reduceBEq, Int.reduceBNe, Int.reduceToNat, Int.reduceLT, Int.reduceLE, Int.reduceGT, Int.reduceGE, Int.reduceAdd, Int.reduceSub, Int.reduceNeg, Int.reduceEq, Int.toNat_zero, Int.toNat_one, reduceIte, reduceCtorEq, ne_eq, decide_true, decide_false] | ((with_reducible refine Need.intro ?_ ?_); (first | trivial | omega | (simp; done) | (simp; omega)))))
      refine IfW.intro (fun hb => ?_) (fun hb => ?_)
      · rw [hb] at hfs
        (repeat (first | simp -dsimp only [hb, RB, TB, keep6, tab6, ewOp, xop, xindexAddr, xindex, xslice, xconvert, xlen, drawStep, FreeW, SameW, ChangeW, limBytes, Nat.reduceBEq, Nat.reduceAdd, Nat.reduceEqDiff, Nat.reduceLT, Nat.reduceLeDiff, Nat.reduceMul, Nat.reduceSub, Int.reduceBEq, Int.reduceBNe, Int.reduceToNat, Int.reduceLT, Int.reduceLE, Int.reduceGT, Int.reduceGE, Int.reduceAdd, Int.reduceSub, Int.reduceNeg, Int.reduceEq, Int.toNat_zero, Int.toNat_one, reduceIte, reduceCtorEq, ne_eq, decide_true, decide_false] | ((with_reducible refine Need.intro ?_ ?_); (first | trivial | omega | (simp; done) | (simp; omega)))))
        rw [wrapI (by omega)]
        refine UpTo.here ⟨(i + 1, ver), hlt, by simp only; omega, by simp only [hfs]; simp [upd, eset], ⟨_, by simp only [hfs]; simp; rfl⟩⟩
      · rw [hb] at hfs
        have hfs2 : full (m.take (i + 1)) = full (m.take i) ++ [m[i]] := by simpa using hfs
        have hj := join_add (full (m.take i)) m[i]
        rw [← hfs2] at hj
        have hle2 : (m.take i).length ≤ 60 := by simp; omega
        (repeat (first | simp -dsimp only [hb, RB, TB, keep6, tab6, ewOp, xop, xindexAddr, xindex, xslice, xconvert, xlen, drawStep, FreeW, SameW, ChangeW, limBytes, Nat.reduceBEq, Nat.reduceAdd, Nat.reduceEqDiff, Nat.reduceLT, Nat.reduceLeDiff, Nat.reduceMul, Nat.reduceSub, Int.reduceBEq, Int.reduceBNe, Int.reduceToNat, Int.reduceLT, Int.reduceLE, Int.reduceGT, Int.reduceGE, Int.reduceAdd, Int.reduceSub, Int.reduceNeg, Int.reduceEq, Int.toNat_zero, Int.toNat_one, reduceIte, reduceCtorEq, ne_eq, decide_true, decide_false] | ((with_reducible refine Need.intro ?_ ?_); (first | trivial | omega | (simp; done) | (simp; omega)))))
        refine IfW.intro (fun hc => ?_) (fun hc => ?_)
        · have hc1 := of_decide_eq_true hc
          rw [if_neg (by intro h0; rw [h0] at hc1; simp at hc1)] at hj
          (repeat (first | simp -dsimp only [hc, at_map V.str m i hlt, maxLen_eq, RB, TB, keep6, tab6, ewOp, xop, xindexAddr, xindex, xslice, xconvert, xlen, drawStep, FreeW, SameW, ChangeW, limBytes, Nat.reduceBEq, Nat.reduceAdd, Nat.reduceEqDiff, Nat.reduceLT, Nat.reduceLeDiff, Nat.reduceMul, Nat.reduceSub, Int.reduceBEq, Int.reduceBNe, Int.reduceToNat, Int.reduceLT, Int.reduceLE, Int.reduceGT, Int.reduceGE, Int.reduceAdd, Int.reduceSub, Int.reduceNeg, Int.reduceEq, Int.toNat_zero, Int.toNat_one, reduceIte, reduceCtorEq, ne_eq, decide_true, decide_false] | ((with_reducible refine Need.intro ?_ ?_); (first | trivial | omega | (simp; done) | (simp; omega)))))
          rw [wrapI (by omega)]
          refine UpTo.here ⟨(i + 1, ver + 1), hlt, by simp only; omega, by simp only [hj]; simp only [hfs2]; simp [upd, eset], ⟨_, by simp only [hfs2]; simp; rfl⟩⟩
        · have hc1 := of_decide_eq_false hc
          have h0 : full (m.take i) = [] := List.eq_nil_of_length_eq_zero (by omega)
          rw [if_pos h0] at hj
          (repeat (first | simp -dsimp only [hc, at_map V.str m i hlt, maxLen_eq, RB, TB, keep6, tab6, ewOp, xop, xindexAddr, xindex, xslice, xconvert, xlen, drawStep, FreeW, SameW, ChangeW, limBytes, Nat.reduceBEq, Nat.reduceAdd, Nat.reduceEqDiff, Nat.reduceLT, Nat.reduceLeDiff, Nat.reduceMul, Nat.reduceSub, Int.reduceBEq, Int.reduceBNe, Int.reduceToNat, Int.reduceLT, Int.reduceLE, Int.reduceGT, Int.reduceGE, Int.reduceAdd, Int.reduceSub, Int.reduceNeg, Int.reduceEq, Int.toNat_zero, Int.toNat_one, reduceIte, reduceCtorEq, ne_eq, decide_true, decide_false] | ((with_reducible refine Need.intro ?_ ?_); (first | trivial | omega | (simp; done) | (simp; omega)))))
          rw [wrapI (by omega)]
          refine UpTo.here ⟨(i + 1, ver + 1), hlt, by simp only; omega, by simp only [hj, hfs2]; simp [upd, eset, h0, joinS, J], ⟨_, by simp only [hfs2]; simp; rfl⟩⟩
    · have hi2 : i = m.length := Nat.le_antisymm hi (ge_of h)
      subst hi2
      rw [List.take_length]
      (repeat (first | simp -dsimp only [h, RB, TB, keep6, tab6, ewOp, xop, xindexAddr, xindex, xslice, xconvert, xlen, drawStep, FreeW, SameW, ChangeW, limBytes, Nat.reduceBEq, Nat.reduceAdd, Nat.reduceEqDiff, Nat.reduceLT, Nat.reduceLeDiff, Nat.reduceMul, Nat.reduceSub, Int.reduceBEq, Int.reduceBNe, Int.reduceToNat, Int.reduceLT, Int.reduceLE, Int.reduceGT, Int.reduceGE, Int.reduceAdd, Int.reduceSub, Int.reduceNeg, Int.reduceEq, Int.toNat_zero, Int.toNat_one, reduceIte, reduceCtorEq, ne_eq, decide_true, decide_false] | ((with_reducible refine Need.intro ?_ ?_); (first | trivial | omega | (simp; done) | (simp; omega)))))
      refine UpTo.step (Gho.restr [1, 5, 6]) (UpTo.step (Gho.freeze (l := (full m).map V.str) H.length (by simp; rfl) (env' := [(1, .int .i64 w), (5, .slice ((full m).map V.str)), (6, .str (joinS (full m)))]) ⟨⟨rfl, .inr (.inl rfl)⟩, ⟨rfl, .inr (.inr ⟨0, _, rfl, by simp, by rw [List.drop_zero]; exact congrArg V.slice (List.take_of_length_le (Nat.le_of_eq (List.length_map _))).symm⟩)⟩, ⟨rfl, .inr (.inl rfl)⟩, trivial⟩) (UpTo.here ⟨(), trivial, rfl, [], by simp⟩))
  rintro _ _
  refine UpTo.here ?_
  (repeat (first | simp -dsimp only [RB, TB, keep6, tab6, ewOp, xop, xindexAddr, xindex, xslice, xconvert, xlen, drawStep, FreeW, SameW, ChangeW, limBytes, Nat.reduceBEq, Nat.reduceAdd, Nat.reduceEqDiff, Nat.reduceLT, Nat.reduceLeDiff, Nat.reduceMul, Nat.reduceSub, Int.reduceBEq, Int.reduceBNe, Int.reduceToNat, Int.reduceLT, Int.reduceLE, Int.reduceGT, Int.reduceGE, Int.reduceAdd, Int.reduceSub, Int.reduceNeg, Int.reduceEq, Int.toNat_zero, Int.toNat_one, reduceIte, reduceCtorEq, ne_eq, decide_true, decide_false] | ((with_reducible refine Need.intro ?_ ?_); (first | trivial | omega | (simp; done) | (simp; omega)))))
  obtain ⟨k, hk, hkw⟩ := tmod200 w
  rw [hkw]
  have hle := full_len m
  have hf : ∀ f ∈ full m, f.length ≤ 1048576 := fun f hf => by
    have := le_sum (fun s : List UInt8 => s.length + 1) (List.mem_filter.1 hf).1
    unfold sumS at hms; omega
  have hne : ∀ f ∈ full m, f ≠ [] := fun f hf => by simpa using (List.mem_filter.1 hf).2
  have hJ : (joinS (full m)).length ≤ 1048576 := by
    have h1 := J_len (full m)
    have h2 := sum_full m
    simp only [joinS, List.length_tail]; omega
  generalize full m = F at *
  (first | refine SCall.then (wrap_spec _ F k (by omega) hf) ?_ | refine SCall.thenA (wrap_spec _ F k (by omega) hf) (by repeat (first | exact trivial | exact .inl (.inl rfl) | exact .inl (.inr ⟨_, rfl, rfl⟩) | exact .inl rfl | exact .inr ⟨_, rfl, rfl⟩ | refine .inr ⟨_, _, rfl, rfl, ?_⟩ | refine ⟨?_, ?_⟩)) ?_ | refine CallE.intro _ (wrap_spec _ F k (by omega) hf) ?_ | refine CallE.introA (wrap_spec _ F k (by omega) hf) (by repeat (first | exact trivial | exact .inl (.inl rfl) | exact .inl (.inr ⟨_, rfl, rfl⟩) | exact .inl rfl | exact .inr ⟨_, rfl, rfl⟩ | refine .inr ⟨_, _, rfl, rfl, ?_⟩ | refine ⟨?_, ?_⟩)) ?_ | refine CallE.intro _ (fun _ => wrap_spec _ F k (by omega) hf) ?_ | refine CallE.intro _ (fun _ => SCall.arg (by repeat (first | exact trivial | exact .inl (.inl rfl) | exact .inl (.inr ⟨_, rfl, rfl⟩) | exact .inl rfl | exact .inr ⟨_, rfl, rfl⟩ | refine .inr ⟨_, _, rfl, rfl, ?_⟩ | refine ⟨?_, ?_⟩)) (wrap_spec _ F k (by omega) hf)) ?_ | refine CallE2.intro _ _ (wrap_spec _ F k (by omega) hf) ?_ | refine CallE2.intro _ _ (SCall.arg (by repeat (first | exact trivial | exact .inl (.inl rfl) | exact .inl (.inr ⟨_, rfl, rfl⟩) | exact .inl rfl | exact .inr ⟨_, rfl, rfl⟩ | refine .inr ⟨_, _, rfl, rfl, ?_⟩ | refine ⟨?_, ?_⟩)) (wrap_spec _ F k (by omega) hf)) ?_)
  (repeat (first | simp -dsimp only [RB, TB, keep6, tab6, ewOp, xop, xindexAddr, xindex, xslice, xconvert, xlen, drawStep, FreeW, SameW, ChangeW, limBytes, Nat.reduceBEq, Nat.reduceAdd, Nat.reduceEqDiff, Nat.reduceLT, Nat.reduceLeDiff, Nat.reduceMul, Nat.reduceSub, Int.reduceBEq, Int.reduceBNe, Int.reduceToNat, Int.reduceLT, Int.reduceLE, Int.reduceGT, Int.reduceGE, Int.reduceAdd, Int.reduceSub, Int.reduceNeg, Int.reduceEq, Int.toNat_zero, Int.toNat_one, reduceIte, reduceCtorEq, ne_eq, decide_true, decide_false] | ((with_reducible refine Need.intro ?_ ?_); (first | trivial | omega | (simp; done) | (simp; omega)))))
  rw [wrapI (x := (k : Int) + 1) (by omega)]
  (first | refine SCall.then (wrap_spec _ F (k + 1) (by omega) hf) ?_ | refine SCall.thenA (wrap_spec _ F (k + 1) (by omega) hf) (by repeat (first | exact trivial | exact .inl (.inl rfl) | exact .inl (.inr ⟨_, rfl, rfl⟩) | exact .inl rfl | exact .inr ⟨_, rfl, rfl⟩ | refine .inr ⟨_, _, rfl, rfl, ?_⟩ | refine ⟨?_, ?_⟩)) ?_ | refine CallE.intro _ (wrap_spec _ F (k + 1) (by omega) hf) ?_ | refine CallE.introA (wrap_spec _ F (k + 1) (by omega) hf) (by repeat (first | exact trivial | exact .inl (.inl rfl) | exact .inl (.inr ⟨_, rfl, rfl⟩) | exact .inl rfl | exact .inr ⟨_, rfl, rfl⟩ | refine .inr ⟨_, _, rfl, rfl, ?_⟩ | refine ⟨?_, ?_⟩)) ?_ | refine CallE.intro _ (fun _ => wrap_spec _ F (k + 1) (by omega) hf) ?_ | refine CallE.intro _ (fun _ => SCall.arg (by repeat (first | exact trivial | exact .inl (.inl rfl) | exact .inl (.inr ⟨_, rfl, rfl⟩) | exact .inl rfl | exact .inr ⟨_, rfl, rfl⟩ | refine .inr ⟨_, _, rfl, rfl, ?_⟩ | refine ⟨?_, ?_⟩)) (wrap_spec _ F (k + 1) (by omega) hf)) ?_ | refine CallE2.intro _ _ (wrap_spec _ F (k + 1) (by omega) hf) ?_ | refine CallE2.intro _ _ (SCall.arg (by repeat (first | exact trivial | exact .inl (.inl rfl) | exact .inl (.inr ⟨_, rfl, rfl⟩) | exact .inl rfl | exact .inr ⟨_, rfl, rfl⟩ | refine .inr ⟨_, _, rfl, rfl, ?_⟩ | refine ⟨?_, ?_⟩)) (wrap_spec _ F (k + 1) (by omega) hf)) ?_)
  (repeat (first | simp -dsimp only [RB, TB, keep6, tab6, ewOp, xop, xindexAddr, xindex, xslice, xconvert, xlen, drawStep, FreeW, SameW, ChangeW, limBytes, Nat.reduceBEq, Nat.reduceAdd, Nat.reduceEqDiff, Nat.reduceLT, Nat.reduceLeDiff, Nat.reduceMul, Nat.reduceSub, Int.reduceBEq, Int.reduceBNe, Int.reduceToNat, Int.reduceLT, Int.reduceLE, Int.reduceGT, Int.reduceGE, Int.reduceAdd, Int.reduceSub, Int.reduceNeg, Int.reduceEq, Int.toNat_zero, Int.toNat_one, reduceIte, reduceCtorEq, ne_eq, decide_true, decide_false] | ((with_reducible refine Need.intro ?_ ?_); (first | trivial | omega | (simp; done) | (simp; omega)))))
  have hab : (wrapG (min (max ((k : Int) + 1) 1) 200) F [] []).length ≤ (wrapG (min (max (k : Int) 1) 200) F [] []).length := wrap_mono (by omega) hne
  have hja : joinS (wrapG (min (max (k : Int) 1) 200) F [] []) = joinS F := by
    unfold joinS
    rw [wrap_J _ F [] [] hne]
    simp [J]
  have hla := wrapG_len (min (max (k : Int) 1) 200) F [] []
  generalize wrapG (min (max ((k : Int) + 1) 1) 200) F [] [] = b at *
  generalize wrapG (min (max (k : Int) 1) 200) F [] [] = a at *
  simp only [List.length_nil] at hla
  have hpre : ∀ i, (joinS (a.take i)).length ≤ 1048576 := fun i => by
    have h1 : (J (a.take i)).length ≤ (J a).length := by rw [J_len, J_len]; exact sum_take _ _
    have h2 : (joinS a).length ≤ 1048576 := by rw [hja]; exact hJ
    simp only [joinS, List.length_tail] at h2 ⊢
    omega
  refine EWn.loopE (ι := (Nat)) (fun (i : (Nat)) => i ≤ a.length) (fun (i : (Nat)) => a.length - i) (fun (i : (Nat)) => [(10, .str (joinS (a.take i))), (11, .int .i64 i)]) (fun (i : (Nat)) => H ++ [.gone]) (0) ?_ ?_ ?_ ?_ ?_
  · first | rfl | (simp [upd, eset]; done) | (simp [upd, eset, joinS, J]; done)
  · simp [joinS, J]
  · rintro i hok; exact ⟨by first | (simp; done) | (simp; omega), by (simp (maxDischargeDepth := 6) [LTB, HLt_set, ltL_take, ltL_drop, ltL_rep, ltL_set, upd, eset, hH, hHk, lt_vi, lt_str, lt_vb, ltc_str, ltc_vi] <;> omega), by (simp (maxDischargeDepth := 6) [LTB, HLt_set, ltL_take, ltL_drop, ltL_rep, ltL_set, upd, eset, hH, hHk, lt_vi, lt_str, lt_vb, ltc_str, ltc_vi] <;> omega)⟩
  · omega
  rintro i hi
  have hp := hpre i
  have hp1 := hpre (i + 1)
  refine EWn.of_c Tok mixed (own := false) keep6 tab6 (by kernel_rfl) ?_
  (repeat (first | simp -dsimp only [RB, TB, keep6, tab6, ewOp, xop, xindexAddr, xindex, xslice, xconvert, xlen, drawStep, FreeW, SameW, ChangeW, limBytes, Nat.reduceBEq, Nat.reduceAdd, Nat.reduceEqDiff, Nat.reduceLT, Nat.reduceLeDiff, Nat.reduceMul, Nat.reduceSub, Int.reduceBEq, Int.reduceBNe, Int.reduceToNat, Int.reduceLT, Int.reduceLE, Int.reduceGT, Int.reduceGE, Int.reduceAdd, Int.reduceSub, Int.reduceNeg, Int.reduceEq, Int.toNat_zero, Int.toNat_one, reduceIte, reduceCtorEq, ne_eq, decide_true, decide_false] | ((with_reducible refine Need.intro ?_ ?_); (first | trivial | omega | (simp; done) | (simp; omega)))))
  refine IfW.intro (fun h => ?_) (fun h => ?_)
  · have hlt := lt_of h
    have hj := join_add (a.take i) a[i]
    rw [← List.take_succ_eq_append_getElem hlt] at hj
    have hal : a[i].length ≤ 1048576 := by
      rw [hj] at hp1
      split at hp1
      · exact hp1
      · simp at hp1; omega
    (repeat (first | simp -dsimp only [h, at_map V.str a i hlt, RB, TB, keep6, tab6, ewOp, xop, xindexAddr, xindex, xslice, xconvert, xlen, drawStep, FreeW, SameW, ChangeW, limBytes, Nat.reduceBEq, Nat.reduceAdd, Nat.reduceEqDiff, Nat.reduceLT, Nat.reduceLeDiff, Nat.reduceMul, Nat.reduceSub, Int.reduceBEq, Int.reduceBNe, Int.reduceToNat, Int.reduceLT, Int.reduceLE, Int.reduceGT, Int.reduceGE, Int.reduceAdd, Int.reduceSub, Int.reduceNeg, Int.reduceEq, Int.toNat_zero, Int.toNat_one, reduceIte, reduceCtorEq, ne_eq, decide_true, decide_false] | ((with_reducible refine Need.intro ?_ ?_); (first | trivial | omega | (simp; done) | (simp; omega)))))
    refine IfW.intro (fun hc => ?_) (fun hc => ?_)
    · have hc1 := of_decide_eq_true hc
      rw [if_neg (by intro h0; have : (a.take i).length = 0 := by rw [h0]; rfl
                     rw [List.length_take] at this; omega)] at hj
      (repeat (first | simp -dsimp only [hc, at_map V.str a i hlt, maxLen_eq, RB, TB, keep6, tab6, ewOp, xop, xindexAddr, xindex, xslice, xconvert, xlen, drawStep, FreeW, SameW, ChangeW, limBytes, Nat.reduceBEq, Nat.reduceAdd, Nat.reduceEqDiff, Nat.reduceLT, Nat.reduceLeDiff, Nat.reduceMul, Nat.reduceSub, Int.reduceBEq, Int.reduceBNe, Int.reduceToNat, Int.reduceLT, Int.reduceLE, Int.reduceGT, Int.reduceGE, Int.reduceAdd, Int.reduceSub, Int.reduceNeg, Int.reduceEq, Int.toNat_zero, Int.toNat_one, reduceIte, reduceCtorEq, ne_eq, decide_true, decide_false] | ((with_reducible refine Need.intro ?_ ?_); (first | trivial | omega | (simp; done) | (simp; omega)))))
      rw [wrapI (by omega)]
      refine UpTo.here ⟨i + 1, hlt, by simp only; omega, by simp only [hj]; simp [upd, eset], ⟨_, by simp; rfl⟩⟩
    · have hc1 := of_decide_eq_false hc
      have hi0 : i = 0 := by omega
      subst hi0
      rw [if_pos (by simp)] at hj
      have hfit : (joinS []).length + a[0].length ≤ 9223372036854775807 := by
        have : (joinS []).length = 0 := rfl
        omega
      (repeat (first | simp -dsimp only [hc, at_map V.str a 0 hlt, maxLen_eq, hfit, RB, TB, keep6, tab6, ewOp, xop, xindexAddr, xindex, xslice, xconvert, xlen, drawStep, FreeW, SameW, ChangeW, limBytes, Nat.reduceBEq, Nat.reduceAdd, Nat.reduceEqDiff, Nat.reduceLT, Nat.reduceLeDiff, Nat.reduceMul, Nat.reduceSub, Int.reduceBEq, Int.reduceBNe, Int.reduceToNat, Int.reduceLT, Int.reduceLE, Int.reduceGT, Int.reduceGE, Int.reduceAdd, Int.reduceSub, Int.reduceNeg, Int.reduceEq, Int.toNat_zero, Int.toNat_one, reduceIte, reduceCtorEq, ne_eq, decide_true, decide_false] | ((with_reducible refine Need.intro ?_ ?_); (first | trivial | omega | (simp; done) | (simp; omega)))))
      try rw [wrapI (by omega)]
      refine UpTo.here ⟨0 + 1, hlt, by simp only; omega, by simp only [hj]; simp [upd, eset, joinS, J], ⟨_, by simp; rfl⟩⟩
  · have hi2 : i = a.length := Nat.le_antisymm hi (ge_of h)
    subst hi2
    rw [List.take_length, hja]
    (repeat (first | simp -dsimp only [h, show (joinS F == joinS F) = true from by simp, show decide ((b.length : Int) ≤ a.length) = true from decide_eq_true (by omega), RB, TB, keep6, tab6, ewOp, xop, xindexAddr, xindex, xslice, xconvert, xlen, drawStep, FreeW, SameW, ChangeW, limBytes, Nat.reduceBEq, Nat.reduceAdd, Nat.reduceEqDiff, Nat.reduceLT, Nat.reduceLeDiff, Nat.reduceMul, Nat.reduceSub, Int.reduceBEq, Int.reduceBNe, Int.reduceToNat, Int.reduceLT, Int.reduceLE, Int.reduceGT, Int.reduceGE, Int.reduceAdd, Int.reduceSub, Int.reduceNeg, Int.reduceEq, Int.toNat_zero, Int.toNat_one, reduceIte, reduceCtorEq, ne_eq, decide_true, decide_false] | ((with_reducible refine Need.intro ?_ ?_); (first | trivial | omega | (simp; done) | (simp; omega)))))
    refine RetW.auto0 false _ (by first | rfl | exact (List.append_nil _).symm) ?_ ?_
    · (simp (maxDischargeDepth := 6) [LTB, HLt_set, ltL_take, ltL_drop, ltL_rep, ltL_set, upd, eset, hH, hHk, lt_vi, lt_str, lt_vb, ltc_str, ltc_vi] <;> omega)
    (try simp only [wk, wk1, wk0, RB, limBytes, Nat.reduceBEq, Nat.reduceAdd, Nat.reduceEqDiff, Nat.reduceLT, Nat.reduceLeDiff, Nat.reduceMul, Nat.reduceSub, Int.reduceBEq, Int.reduceBNe, Int.reduceToNat, Int.reduceLT, Int.reduceLE, Int.reduceGT, Int.reduceGE, Int.reduceAdd, Int.reduceSub, Int.reduceNeg, Int.reduceEq, Int.toNat_zero, Int.toNat_one, reduceIte, reduceCtorEq, ne_eq, decide_true, decide_false])
    (try (rw [List.take_of_length_le]; rotate_left 1; (· first | (simp; done) | (simp; omega) | omega)))
theorem dec_texts : Dec Try.prog 33 (fun l : List (List UInt8) => V.slice (l.map V.str)) (fun _ => True) (fun l => (l.map fun s => s.length + 1).sum + 1) :=
  Dec.of (Dec.slice Try.underlying33 (of_decide_eq_true (by kernel_rfl)) (Dec.str Try.underlying9)) id (fun x _ => ⟨rfl, trivial, Nat.le_refl _⟩)
open Go.ChangeShapes Go.WideShapes Go.ChangeAt Go.RowKit in
theorem layoutWords_lifted (os : Os) (started : os.Started) (H : Type) (enc : TypeId × Value → H) (F : Stop.Interp) :
    ReturnsInHanded {} Try.checked os 6 .any ((Rows.OpenSpec.upto Rows.layoutWordsSpec).pre6 enc Try.prog Try.f6 Rows.layoutWordsUptoRow.domain false) (((Rows.OpenSpec.upto Rows.layoutWordsSpec).at F).post enc Try.prog Try.f6 false true false false) := by
  refine returnsInHanded_of_cond (C := Try.checked) (s := Rows.OpenSpec.upto Rows.layoutWordsSpec) (k := Rows.uptoSmall) rfl own_none started (by kernel_rfl) Try.func6
    (OpenSpec.witness (enc := enc) (C := Try.checked) (s := Rows.OpenSpec.upto Rows.layoutWordsSpec) (k := Rows.uptoSmall) rfl false ⟨#[], #[.slice none 0 0, .int .i64 0], []⟩ 8 (by kernel_rfl) (by kernel_rfl) (by kernel_rfl)
      (x := ([.nil, .lit (.int .i64 0)], [], [])) (by kernel_rfl) rfl (by kernel_rfl)) ?_
  intro W base args ds gs before hval0 hW _ hk _
  have hval : ∀ (j : Nat) t v, Try.f6.params[j]? = some t → args[j]? = some v → Value.okWide Try.prog W .any base t v := hval0
  obtain ⟨p0_, q0_, hA, _⟩ := id hW
  have hA0 : DataW.TrodAll enc Try.prog W 0 (fun _ => true) true Try.f6.params.toList args.toList ds p0_ := hA
  rw [Try.params6] at hA0 hval
  obtain ⟨v0, v1, d0, d1, p0, p1, rfl, rfl, rfl, h0, h1⟩ := trodAll_two hA0
  obtain ⟨l, hp_l, hz_l, hv_l⟩ := dec_texts.value h0 (fun _ => okAgg_leaf (by simp) (ok_slice Try.underlying33 (hval 0 33 v0 rfl rfl)))
  obtain ⟨w, hp_w, hz_w, hv_w⟩ := (Dec.int Try.underlying3).value h1 (fun _ => okAgg_leaf (by simp) (ok_int Try.underlying3 (hval 1 3 v1 rfl rfl)))
  have hb : Rows.uptoBulkAll ([d0, d1] ++ gs) ≤ 1048576 := of_decide_eq_true hk
  rw [← bulkAll_eq] at hb
  simp only [List.cons_append, bulkAll] at hb
  exact row_contract (P := Try.prog) (s := Rows.layoutWordsSpec) (vs := [.slice (l.map V.str), .int .i64 w]) laid_out (by kernel_rfl) rfl Try.call6 rfl Try.underlying4 hW ⟨rfl, rfl, rfl⟩ ⟨hv_l, hv_w, trivial⟩ (layoutWords [] l w (by unfold sumS; omega))
theorem layoutWords_upto : Rows.LayoutWordsUptoSaid :=
  OpenClaim.holds_of_cond 6 Try.f6 rfl rfl rfl rfl rfl rfl rfl ⟨rfl, rfl, rfl, rfl, rfl⟩ rfl rfl rfl rfl rfl (by kernel_rfl) Try.func6 (by kernel_rfl)
    (of_decide_eq_true (by kernel_rfl)) (by unfold Func.isWrapper; first | (rw [if_neg (by decide +kernel)]; exact ⟨rfl, rfl⟩) | (rw [if_pos (by decide +kernel)]; kernel_rfl))
    (fun os started H enc _ F => layoutWords_lifted os started H enc F)
end Go.Proofs.Ytadhjfdmfdgppaa

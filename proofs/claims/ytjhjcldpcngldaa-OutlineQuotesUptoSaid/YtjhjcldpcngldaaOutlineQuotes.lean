/- OutlineQuotes, where what it reads is of bulk at most 1048576: the law returns true and the arguments read as they did. -/
import Derived.Test.YtjhjcldpcngldaaOutline3
import Derived.Test.YtjhjcldpcngldaaRows
import Derived.ProofKit
import Derived.JoinedCond
set_option linter.unusedSimpArgs false
set_option linter.unusedVariables false
set_option maxRecDepth 100000
set_option maxHeartbeats 1000000
namespace Go.Proofs.Ytjhjcldpcngldaa
open Go Go.EL

mutual
theorem bulk_eq {H : Type} : ∀ d : DataW H, bulk d = Rows.uptoBulk d
  | .lit l => by cases l <;> simp [bulk, Rows.uptoBulk]
  | .nil => by simp [bulk, Rows.uptoBulk]
  | .ptr d => by simp only [bulk, Rows.uptoBulk, bulk_eq d]
  | .slice a b => by simp only [bulk, Rows.uptoBulk, bulkAll_eq a, bulkAll_eq b]
  | .agg ps => by simp only [bulk, Rows.uptoBulk, bulkAll_eq ps]
  | .iface t d => by simp only [bulk, Rows.uptoBulk, bulk_eq d]
  | .map es => by simp only [bulk, Rows.uptoBulk, bulkEntries_eq es]
  | .held _ => by simp [bulk, Rows.uptoBulk]
theorem bulkAll_eq {H : Type} : ∀ l : List (DataW H), bulkAll l = Rows.uptoBulkAll l
  | [] => by simp [bulkAll, Rows.uptoBulkAll]
  | d :: r => by simp only [bulkAll, Rows.uptoBulkAll, bulk_eq d, bulkAll_eq r]
theorem bulkEntries_eq {H : Type} : ∀ l : List (Lit × DataW H), bulkEntries l = Rows.uptoBulkEntries l
  | [] => by simp [bulkEntries, Rows.uptoBulkEntries]
  | d :: r => by simp only [bulkEntries, Rows.uptoBulkEntries, bulkEntry_eq d, bulkEntries_eq r]
theorem bulkEntry_eq {H : Type} : ∀ x : Lit × DataW H, bulkEntry x = Rows.uptoBulkEntry x
  | (k, d) => by cases k <;> simp [bulkEntry, Rows.uptoBulkEntry, bulk_eq d]
end
theorem le_sum {α : Type} (g : α → Nat) : ∀ {l : List α} {x : α}, x ∈ l → g x ≤ (l.map g).sum
  | y :: l, x, h => by
    simp only [List.map_cons, List.sum_cons]
    rcases List.mem_cons.1 h with rfl | h
    · omega
    · have := le_sum g h; omega
theorem len_sum {α : Type} (g : α → Nat) (hg : ∀ x, 1 ≤ g x) : ∀ (l : List α), l.length ≤ (l.map g).sum
  | [] => by simp
  | y :: l => by
    have := len_sum g hg l
    have := hg y
    simp only [List.map_cons, List.sum_cons, List.length_cons]
    omega
theorem own_none : ownKnob Try.prog.godebug = none := by kernel_rfl
theorem laid_out : laidOutB Try.prog = true := by kernel_rfl

theorem hexD_inj : ∀ n, n < 16 → ∀ m, m < 16 → hexD n = hexD m → n = m := by decide +kernel
theorem hexD_ok : ∀ n, n < 16 → 32 ≤ (hexD n).toNat ∧ (hexD n).toNat ≤ 126 := by decide +kernel
theorem quoteB_cases (c : UInt8) : (quoteB c = [92, c] ∧ (c = 34 ∨ c = 92)) ∨ (quoteB c = [92, 120, hexD (c.toNat / 16), hexD (c.toNat % 16)]) ∨ (quoteB c = [c] ∧ c ≠ 92 ∧ 32 ≤ c.toNat ∧ c.toNat ≤ 126) := by
  unfold quoteB
  by_cases h : c = 34 ∨ c = 92
  · rw [if_pos h]; exact .inl ⟨rfl, h⟩
  · rw [if_neg h]
    by_cases h2 : c.toNat < 32 ∨ c.toNat > 126
    · rw [if_pos h2]; exact .inr (.inl rfl)
    · rw [if_neg h2]; exact .inr (.inr ⟨rfl, fun e => h (.inr e), by omega, by omega⟩)
theorem quoteB_inj {c d : UInt8} {r r' : List UInt8} (h : quoteB c ++ r = quoteB d ++ r') : c = d ∧ r = r' := by
  have hc := c.toNat_lt
  have hd := d.toNat_lt
  rcases quoteB_cases c with ⟨e1, h1⟩ | e1 | ⟨e1, h1, _⟩ <;> rcases quoteB_cases d with ⟨e2, h2⟩ | e2 | ⟨e2, h2, _⟩ <;> rw [e1, e2] at h <;> simp only [List.cons_append, List.nil_append, List.cons.injEq, true_and] at h
  · exact h
  · rcases h1 with rfl | rfl <;> exact absurd h.1 (by decide)
  · exact absurd h.1.symm h2
  · rcases h2 with rfl | rfl <;> exact absurd h.1 (by decide)
  · have a := hexD_inj _ (by omega) _ (by omega) h.1
    have b := hexD_inj _ (by omega) _ (by omega) h.2.1
    exact ⟨UInt8.toNat_inj.1 (by omega), h.2.2⟩
  · exact absurd h.1.symm h2
  · exact absurd h.1 h1
  · exact absurd h.1 h1
  · exact h
theorem flat_inj : ∀ (s t : List UInt8), s.flatMap quoteB = t.flatMap quoteB → s = t
  | [], [], _ => rfl
  | [], d :: t, h => by
    rw [List.flatMap_nil, List.flatMap_cons] at h
    rcases quoteB_cases d with ⟨e, _⟩ | e | ⟨e, _⟩ <;> rw [e] at h <;> cases h
  | c :: s, [], h => by
    rw [List.flatMap_nil, List.flatMap_cons] at h
    rcases quoteB_cases c with ⟨e, _⟩ | e | ⟨e, _⟩ <;> rw [e] at h <;> cases h
  | c :: s, d :: t, h => by
    rw [List.flatMap_cons, List.flatMap_cons] at h
    obtain ⟨rfl, h2⟩ := quoteB_inj h
    rw [flat_inj s t h2]
theorem quoteS_inj {s t : List UInt8} (h : quoteS s = quoteS t) : s = t := by
  unfold quoteS at h
  rw [List.cons_append, List.cons_append] at h
  injection h with _ h
  exact flat_inj _ _ (List.append_cancel_right h)
theorem quoteS_ok (s : List UInt8) : ∀ x ∈ quoteS s, 32 ≤ x.toNat ∧ x.toNat ≤ 126 := by
  intro x hx
  unfold quoteS at hx
  rw [List.cons_append] at hx
  rcases List.mem_cons.1 hx with rfl | hx
  · decide
  rcases List.mem_append.1 hx with hx | hx
  · obtain ⟨c, _, hx⟩ := List.mem_flatMap.1 hx
    have hc := c.toNat_lt
    rcases quoteB_cases c with ⟨e, h⟩ | e | ⟨e, h⟩ <;> rw [e] at hx
    · rcases h with rfl | rfl <;> simp at hx <;> rcases hx with rfl | rfl <;> decide
    · simp only [List.mem_cons, List.not_mem_nil, or_false] at hx
      rcases hx with rfl | rfl | rfl | rfl
      · decide
      · decide
      · exact hexD_ok _ (by omega)
      · exact hexD_ok _ (by omega)
    · rw [List.mem_singleton.1 hx]; exact h.2
  · rw [List.mem_singleton.1 hx]; decide
theorem outlineQuotes (H : List Ob) (s t : List UInt8) (hs : s.length ≤ 1048576) (ht : t.length ≤ 1048576) : SCall Try.prog 5 [.str s, .str t] H (fun r _ => r = .bool true) := by
  have hql := quoteS_len s
  have hqo := quoteS_ok s
  refine SCall.of_good fun hH => ?_
  have hHk := HLt.add hH
  refine SCall.of_code Tok Try.func5 rfl Try.call5 (n := 41) rfl (by simp) (rs := [.tmp 4]) rfl ?_
  refine EWn.to ?_
  refine EWn.of_c Tok mixed (own := false) keep5 tab5 (by kernel_rfl) ?_
  (repeat (first | simp -dsimp only [RB, TB, keep5, tab5, ewOp, xop, xindexAddr, xindex, xslice, xconvert, xlen, drawStep, FreeW, SameW, ChangeW, limBytes, Nat.reduceBEq, Nat.reduceAdd, Nat.reduceEqDiff, Nat.reduceLT, Nat.reduceLeDiff, Nat.reduceMul, Nat.reduceSub, Int.reduceBEq, Int.reduceBNe, Int.reduceToNat, Int.reduceLT, Int.reduceLE, Int.reduceGT, Int.reduceGE, Int.reduceAdd, Int.reduceSub, Int.reduceNeg, Int.reduceEq, Int.toNat_zero, Int.toNat_one, reduceIte, reduceCtorEq, ne_eq, decide_true, decide_false] | ((with_reducible refine Need.intro ?_ ?_); (first | trivial | omega | (simp; done) | (simp; omega)))))
  (first | refine SCall.then (alive36 _) ?_ | refine SCall.thenA (alive36 _) (by repeat (first | exact trivial | exact .inl (.inl rfl) | exact .inl (.inr ⟨_, rfl, rfl⟩) | exact .inl rfl | exact .inr ⟨_, rfl, rfl⟩ | refine .inr ⟨_, _, rfl, rfl, ?_⟩ | refine ⟨?_, ?_⟩)) ?_ | refine CallE.intro _ (alive36 _) ?_ | refine CallE.introA (alive36 _) (by repeat (first | exact trivial | exact .inl (.inl rfl) | exact .inl (.inr ⟨_, rfl, rfl⟩) | exact .inl rfl | exact .inr ⟨_, rfl, rfl⟩ | refine .inr ⟨_, _, rfl, rfl, ?_⟩ | refine ⟨?_, ?_⟩)) ?_ | refine CallE.intro _ (fun _ => alive36 _) ?_ | refine CallE.intro _ (fun _ => SCall.arg (by repeat (first | exact trivial | exact .inl (.inl rfl) | exact .inl (.inr ⟨_, rfl, rfl⟩) | exact .inl rfl | exact .inr ⟨_, rfl, rfl⟩ | refine .inr ⟨_, _, rfl, rfl, ?_⟩ | refine ⟨?_, ?_⟩)) (alive36 _)) ?_ | refine CallE2.intro _ _ (alive36 _) ?_ | refine CallE2.intro _ _ (SCall.arg (by repeat (first | exact trivial | exact .inl (.inl rfl) | exact .inl (.inr ⟨_, rfl, rfl⟩) | exact .inl rfl | exact .inr ⟨_, rfl, rfl⟩ | refine .inr ⟨_, _, rfl, rfl, ?_⟩ | refine ⟨?_, ?_⟩)) (alive36 _)) ?_)
  (repeat (first | simp -dsimp only [RB, TB, keep5, tab5, ewOp, xop, xindexAddr, xindex, xslice, xconvert, xlen, drawStep, FreeW, SameW, ChangeW, limBytes, Nat.reduceBEq, Nat.reduceAdd, Nat.reduceEqDiff, Nat.reduceLT, Nat.reduceLeDiff, Nat.reduceMul, Nat.reduceSub, Int.reduceBEq, Int.reduceBNe, Int.reduceToNat, Int.reduceLT, Int.reduceLE, Int.reduceGT, Int.reduceGE, Int.reduceAdd, Int.reduceSub, Int.reduceNeg, Int.reduceEq, Int.toNat_zero, Int.toNat_one, reduceIte, reduceCtorEq, ne_eq, decide_true, decide_false] | ((with_reducible refine Need.intro ?_ ?_); (first | trivial | omega | (simp; done) | (simp; omega)))))
  (first | refine SCall.then (oQuote _ s (by omega)) ?_ | refine SCall.thenA (oQuote _ s (by omega)) (by repeat (first | exact trivial | exact .inl (.inl rfl) | exact .inl (.inr ⟨_, rfl, rfl⟩) | exact .inl rfl | exact .inr ⟨_, rfl, rfl⟩ | refine .inr ⟨_, _, rfl, rfl, ?_⟩ | refine ⟨?_, ?_⟩)) ?_ | refine CallE.intro _ (oQuote _ s (by omega)) ?_ | refine CallE.introA (oQuote _ s (by omega)) (by repeat (first | exact trivial | exact .inl (.inl rfl) | exact .inl (.inr ⟨_, rfl, rfl⟩) | exact .inl rfl | exact .inr ⟨_, rfl, rfl⟩ | refine .inr ⟨_, _, rfl, rfl, ?_⟩ | refine ⟨?_, ?_⟩)) ?_ | refine CallE.intro _ (fun _ => oQuote _ s (by omega)) ?_ | refine CallE.intro _ (fun _ => SCall.arg (by repeat (first | exact trivial | exact .inl (.inl rfl) | exact .inl (.inr ⟨_, rfl, rfl⟩) | exact .inl rfl | exact .inr ⟨_, rfl, rfl⟩ | refine .inr ⟨_, _, rfl, rfl, ?_⟩ | refine ⟨?_, ?_⟩)) (oQuote _ s (by omega))) ?_ | refine CallE2.intro _ _ (oQuote _ s (by omega)) ?_ | refine CallE2.intro _ _ (SCall.arg (by repeat (first | exact trivial | exact .inl (.inl rfl) | exact .inl (.inr ⟨_, rfl, rfl⟩) | exact .inl rfl | exact .inr ⟨_, rfl, rfl⟩ | refine .inr ⟨_, _, rfl, rfl, ?_⟩ | refine ⟨?_, ?_⟩)) (oQuote _ s (by omega))) ?_)
  (repeat (first | simp -dsimp only [RB, TB, keep5, tab5, ewOp, xop, xindexAddr, xindex, xslice, xconvert, xlen, drawStep, FreeW, SameW, ChangeW, limBytes, Nat.reduceBEq, Nat.reduceAdd, Nat.reduceEqDiff, Nat.reduceLT, Nat.reduceLeDiff, Nat.reduceMul, Nat.reduceSub, Int.reduceBEq, Int.reduceBNe, Int.reduceToNat, Int.reduceLT, Int.reduceLE, Int.reduceGT, Int.reduceGE, Int.reduceAdd, Int.reduceSub, Int.reduceNeg, Int.reduceEq, Int.toNat_zero, Int.toNat_one, reduceIte, reduceCtorEq, ne_eq, decide_true, decide_false] | ((with_reducible refine Need.intro ?_ ?_); (first | trivial | omega | (simp; done) | (simp; omega)))))
  generalize hq : quoteS s = q at *
  refine EWn.loopE (ι := (Nat)) (fun (i : (Nat)) => i ≤ q.length) (fun (i : (Nat)) => q.length - i) (fun (i : (Nat)) => [(6, .int .i64 i)]) (fun (i : (Nat)) => H) (0) ?_ ?_ ?_ ?_ ?_
  · first | rfl | simp [upd, eset]
  · first | rfl | (simp; done) | exact (set_same (by assumption)).symm
  · rintro i hok; exact ⟨by first | (simp; done) | (simp; omega), by (simp (maxDischargeDepth := 6) [LTB, HLt_set, ltL_take, ltL_drop, ltL_rep, ltL_set, upd, eset, hH, hHk, lt_vi, lt_str, lt_vb, ltc_str, ltc_vi] <;> omega), by (simp (maxDischargeDepth := 6) [LTB, HLt_set, ltL_take, ltL_drop, ltL_rep, ltL_set, upd, eset, hH, hHk, lt_vi, lt_str, lt_vb, ltc_str, ltc_vi] <;> omega)⟩
  · omega
  rintro i hi
  refine EWn.of_c Tok mixed (own := false) keep5 tab5 (by kernel_rfl) ?_
  (repeat (first | simp -dsimp only [RB, TB, keep5, tab5, ewOp, xop, xindexAddr, xindex, xslice, xconvert, xlen, drawStep, FreeW, SameW, ChangeW, limBytes, Nat.reduceBEq, Nat.reduceAdd, Nat.reduceEqDiff, Nat.reduceLT, Nat.reduceLeDiff, Nat.reduceMul, Nat.reduceSub, Int.reduceBEq, Int.reduceBNe, Int.reduceToNat, Int.reduceLT, Int.reduceLE, Int.reduceGT, Int.reduceGE, Int.reduceAdd, Int.reduceSub, Int.reduceNeg, Int.reduceEq, Int.toNat_zero, Int.toNat_one, reduceIte, reduceCtorEq, ne_eq, decide_true, decide_false] | ((with_reducible refine Need.intro ?_ ?_); (first | trivial | omega | (simp; done) | (simp; omega)))))
  refine IfW.intro (fun h => ?_) (fun h => ?_)
  · have hlt := lt_of h
    have hg : q.getD i 0 = q[i] := by simp [hlt]
    obtain ⟨h1, h2⟩ := hqo q[i] (List.getElem_mem hlt)
    (repeat (first | simp -dsimp only [h, hg, show decide ((q[i].toNat : Int) < 32) = false from decide_eq_false (by omega), show decide ((q[i].toNat : Int) > 126) = false from decide_eq_false (by omega), RB, TB, keep5, tab5, ewOp, xop, xindexAddr, xindex, xslice, xconvert, xlen, drawStep, FreeW, SameW, ChangeW, limBytes, Nat.reduceBEq, Nat.reduceAdd, Nat.reduceEqDiff, Nat.reduceLT, Nat.reduceLeDiff, Nat.reduceMul, Nat.reduceSub, Int.reduceBEq, Int.reduceBNe, Int.reduceToNat, Int.reduceLT, Int.reduceLE, Int.reduceGT, Int.reduceGE, Int.reduceAdd, Int.reduceSub, Int.reduceNeg, Int.reduceEq, Int.toNat_zero, Int.toNat_one, reduceIte, reduceCtorEq, ne_eq, decide_true, decide_false] | ((with_reducible refine Need.intro ?_ ?_); (first | trivial | omega | (simp; done) | (simp; omega)))))
    rw [wrapI (by omega)]
    refine UpTo.here ⟨(i + 1), ?_, by first | omega | (simp only [List.length_append, List.length_cons, List.length_nil]; omega), by simp [upd, eset], ⟨_, by simp; try rfl⟩⟩
    exact hlt
  · (repeat (first | simp -dsimp only [h, RB, TB, keep5, tab5, ewOp, xop, xindexAddr, xindex, xslice, xconvert, xlen, drawStep, FreeW, SameW, ChangeW, limBytes, Nat.reduceBEq, Nat.reduceAdd, Nat.reduceEqDiff, Nat.reduceLT, Nat.reduceLeDiff, Nat.reduceMul, Nat.reduceSub, Int.reduceBEq, Int.reduceBNe, Int.reduceToNat, Int.reduceLT, Int.reduceLE, Int.reduceGT, Int.reduceGE, Int.reduceAdd, Int.reduceSub, Int.reduceNeg, Int.reduceEq, Int.toNat_zero, Int.toNat_one, reduceIte, reduceCtorEq, ne_eq, decide_true, decide_false] | ((with_reducible refine Need.intro ?_ ?_); (first | trivial | omega | (simp; done) | (simp; omega)))))
    (first | refine SCall.then (qQuote _ s (by omega)) ?_ | refine SCall.thenA (qQuote _ s (by omega)) (by repeat (first | exact trivial | exact .inl (.inl rfl) | exact .inl (.inr ⟨_, rfl, rfl⟩) | exact .inl rfl | exact .inr ⟨_, rfl, rfl⟩ | refine .inr ⟨_, _, rfl, rfl, ?_⟩ | refine ⟨?_, ?_⟩)) ?_ | refine CallE.intro _ (qQuote _ s (by omega)) ?_ | refine CallE.introA (qQuote _ s (by omega)) (by repeat (first | exact trivial | exact .inl (.inl rfl) | exact .inl (.inr ⟨_, rfl, rfl⟩) | exact .inl rfl | exact .inr ⟨_, rfl, rfl⟩ | refine .inr ⟨_, _, rfl, rfl, ?_⟩ | refine ⟨?_, ?_⟩)) ?_ | refine CallE.intro _ (fun _ => qQuote _ s (by omega)) ?_ | refine CallE.intro _ (fun _ => SCall.arg (by repeat (first | exact trivial | exact .inl (.inl rfl) | exact .inl (.inr ⟨_, rfl, rfl⟩) | exact .inl rfl | exact .inr ⟨_, rfl, rfl⟩ | refine .inr ⟨_, _, rfl, rfl, ?_⟩ | refine ⟨?_, ?_⟩)) (qQuote _ s (by omega))) ?_ | refine CallE2.intro _ _ (qQuote _ s (by omega)) ?_ | refine CallE2.intro _ _ (SCall.arg (by repeat (first | exact trivial | exact .inl (.inl rfl) | exact .inl (.inr ⟨_, rfl, rfl⟩) | exact .inl rfl | exact .inr ⟨_, rfl, rfl⟩ | refine .inr ⟨_, _, rfl, rfl, ?_⟩ | refine ⟨?_, ?_⟩)) (qQuote _ s (by omega))) ?_)
    (repeat (first | simp -dsimp only [hq, beq_self_eq_true, RB, TB, keep5, tab5, ewOp, xop, xindexAddr, xindex, xslice, xconvert, xlen, drawStep, FreeW, SameW, ChangeW, limBytes, Nat.reduceBEq, Nat.reduceAdd, Nat.reduceEqDiff, Nat.reduceLT, Nat.reduceLeDiff, Nat.reduceMul, Nat.reduceSub, Int.reduceBEq, Int.reduceBNe, Int.reduceToNat, Int.reduceLT, Int.reduceLE, Int.reduceGT, Int.reduceGE, Int.reduceAdd, Int.reduceSub, Int.reduceNeg, Int.reduceEq, Int.toNat_zero, Int.toNat_one, reduceIte, reduceCtorEq, ne_eq, decide_true, decide_false] | ((with_reducible refine Need.intro ?_ ?_); (first | trivial | omega | (simp; done) | (simp; omega)))))
    (first | refine SCall.then (oQuote _ t (by omega)) ?_ | refine SCall.thenA (oQuote _ t (by omega)) (by repeat (first | exact trivial | exact .inl (.inl rfl) | exact .inl (.inr ⟨_, rfl, rfl⟩) | exact .inl rfl | exact .inr ⟨_, rfl, rfl⟩ | refine .inr ⟨_, _, rfl, rfl, ?_⟩ | refine ⟨?_, ?_⟩)) ?_ | refine CallE.intro _ (oQuote _ t (by omega)) ?_ | refine CallE.introA (oQuote _ t (by omega)) (by repeat (first | exact trivial | exact .inl (.inl rfl) | exact .inl (.inr ⟨_, rfl, rfl⟩) | exact .inl rfl | exact .inr ⟨_, rfl, rfl⟩ | refine .inr ⟨_, _, rfl, rfl, ?_⟩ | refine ⟨?_, ?_⟩)) ?_ | refine CallE.intro _ (fun _ => oQuote _ t (by omega)) ?_ | refine CallE.intro _ (fun _ => SCall.arg (by repeat (first | exact trivial | exact .inl (.inl rfl) | exact .inl (.inr ⟨_, rfl, rfl⟩) | exact .inl rfl | exact .inr ⟨_, rfl, rfl⟩ | refine .inr ⟨_, _, rfl, rfl, ?_⟩ | refine ⟨?_, ?_⟩)) (oQuote _ t (by omega))) ?_ | refine CallE2.intro _ _ (oQuote _ t (by omega)) ?_ | refine CallE2.intro _ _ (SCall.arg (by repeat (first | exact trivial | exact .inl (.inl rfl) | exact .inl (.inr ⟨_, rfl, rfl⟩) | exact .inl rfl | exact .inr ⟨_, rfl, rfl⟩ | refine .inr ⟨_, _, rfl, rfl, ?_⟩ | refine ⟨?_, ?_⟩)) (oQuote _ t (by omega))) ?_)
    (repeat (first | simp -dsimp only [RB, TB, keep5, tab5, ewOp, xop, xindexAddr, xindex, xslice, xconvert, xlen, drawStep, FreeW, SameW, ChangeW, limBytes, Nat.reduceBEq, Nat.reduceAdd, Nat.reduceEqDiff, Nat.reduceLT, Nat.reduceLeDiff, Nat.reduceMul, Nat.reduceSub, Int.reduceBEq, Int.reduceBNe, Int.reduceToNat, Int.reduceLT, Int.reduceLE, Int.reduceGT, Int.reduceGE, Int.reduceAdd, Int.reduceSub, Int.reduceNeg, Int.reduceEq, Int.toNat_zero, Int.toNat_one, reduceIte, reduceCtorEq, ne_eq, decide_true, decide_false] | ((with_reducible refine Need.intro ?_ ?_); (first | trivial | omega | (simp; done) | (simp; omega)))))
    refine RetW.auto0 false _ (by first | rfl | exact (List.append_nil _).symm) ?_ ?_
    · (simp (maxDischargeDepth := 6) [LTB, HLt_set, ltL_take, ltL_drop, ltL_rep, ltL_set, upd, eset, hH, hHk, lt_vi, lt_str, lt_vb, ltc_str, ltc_vi] <;> omega)
    (try simp only [wk, wk1, wk0, RB, limBytes, Nat.reduceBEq, Nat.reduceAdd, Nat.reduceEqDiff, Nat.reduceLT, Nat.reduceLeDiff, Nat.reduceMul, Nat.reduceSub, Int.reduceBEq, Int.reduceBNe, Int.reduceToNat, Int.reduceLT, Int.reduceLE, Int.reduceGT, Int.reduceGE, Int.reduceAdd, Int.reduceSub, Int.reduceNeg, Int.reduceEq, Int.toNat_zero, Int.toNat_one, reduceIte, reduceCtorEq, ne_eq, decide_true, decide_false])
    (try (rw [List.take_of_length_le]; rotate_left 1; (· first | (simp; done) | (simp; omega) | omega)))
    congr 1
    by_cases e : s = t
    · subst e; simp [hq]
    · have : q ≠ quoteS t := fun h => e (quoteS_inj (hq.trans h))
      rw [beq_false_of_ne this, beq_false_of_ne e]
      rfl
open Go.ChangeShapes Go.WideShapes Go.ChangeAt Go.RowKit in
theorem outlineQuotes_lifted (os : Os) (started : os.Started) (H : Type) (enc : TypeId × Value → H) (F : Stop.Interp) :
    ReturnsInHanded {} Try.checked os 5 .any ((Rows.OpenSpec.upto Rows.outlineQuotesSpec).pre6 enc Try.prog Try.f5 Rows.outlineQuotesUptoRow.domain false) (((Rows.OpenSpec.upto Rows.outlineQuotesSpec).at F).post enc Try.prog Try.f5 false true false false) := by
  refine returnsInHanded_of_cond (C := Try.checked) (s := Rows.OpenSpec.upto Rows.outlineQuotesSpec) (k := Rows.uptoSmall) rfl own_none started (by kernel_rfl) Try.func5
    (OpenSpec.witness (enc := enc) (C := Try.checked) (s := Rows.OpenSpec.upto Rows.outlineQuotesSpec) (k := Rows.uptoSmall) rfl false ⟨#[], #[.string ⟨#[]⟩, .string ⟨#[]⟩], []⟩ 8 (by kernel_rfl) (by kernel_rfl) (by kernel_rfl)
      (x := ([.lit (.string []), .lit (.string [])], [], [])) (by kernel_rfl) rfl (by kernel_rfl)) ?_
  intro W base args ds gs before hval0 hW _ hk _
  have hval : ∀ (j : Nat) t v, Try.f5.params[j]? = some t → args[j]? = some v → Value.okWide Try.prog W .any base t v := hval0
  obtain ⟨p0_, q0_, hA, _⟩ := id hW
  have hA0 : DataW.TrodAll enc Try.prog W 0 (fun _ => true) true Try.f5.params.toList args.toList ds p0_ := hA
  rw [Try.params5] at hA0 hval
  obtain ⟨v0, v1, d0, d1, p0, p1, rfl, rfl, rfl, h0, h1⟩ := trodAll_two hA0
  obtain ⟨s, hp_s, hz_s, hv_s⟩ := (Dec.str Try.underlying9).value h0 (fun _ => okAgg_leaf (by simp) (ok_str Try.underlying9 (hval 0 9 v0 rfl rfl)))
  obtain ⟨t, hp_t, hz_t, hv_t⟩ := (Dec.str Try.underlying9).value h1 (fun _ => okAgg_leaf (by simp) (ok_str Try.underlying9 (hval 1 9 v1 rfl rfl)))
  have hb : Rows.uptoBulkAll ([d0, d1] ++ gs) ≤ 1048576 := of_decide_eq_true hk
  rw [← bulkAll_eq] at hb
  simp only [List.cons_append, bulkAll] at hb
  exact row_contract (P := Try.prog) (s := Rows.outlineQuotesSpec) (vs := [.str s, .str t]) laid_out (by kernel_rfl) rfl Try.call5 rfl Try.underlying4 hW ⟨rfl, rfl, rfl⟩ ⟨hv_s, hv_t, trivial⟩ (outlineQuotes [] s t (by omega) (by omega))
theorem outlineQuotes_upto : Rows.OutlineQuotesUptoSaid :=
  OpenClaim.holds_of_cond 5 Try.f5 rfl rfl rfl rfl rfl rfl rfl ⟨rfl, rfl, rfl, rfl, rfl⟩ rfl rfl rfl rfl rfl (by kernel_rfl) Try.func5 (by kernel_rfl)
    (of_decide_eq_true (by kernel_rfl)) (by unfold Func.isWrapper; first | (rw [if_neg (by decide +kernel)]; exact ⟨rfl, rfl⟩) | (rw [if_pos (by decide +kernel)]; kernel_rfl))
    (fun os started H enc _ F => outlineQuotes_lifted os started H enc F)
end Go.Proofs.Ytjhjcldpcngldaa

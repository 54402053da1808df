/- CodeChecks, where what it reads is of bulk at most 1048576: the law returns true and the arguments read as they did. -/
import Derived.Test.YtadhjfdmfdgppaaCodeLaw
import Derived.Test.YtadhjfdmfdgppaaRows
import Derived.ProofKit
import Derived.JoinedCond
set_option linter.unusedSimpArgs false
set_option linter.unusedVariables false
set_option maxRecDepth 100000
set_option maxHeartbeats 1000000
namespace Go.Proofs.Ytadhjfdmfdgppaa
open Go Go.EL

mutual
theorem bulk_eq {H : Type} : ∀ d : DataW H, bulk d = Rows.uptoBulk d
  | .lit l => by cases l <;> simp [bulk, Rows.uptoBulk]
  | .nil => by simp [bulk, Rows.uptoBulk]
  | .ptr d => by simp only [bulk, Rows.uptoBulk, bulk_eq d]
  | .slice a b => by simp only [bulk, Rows.uptoBulk, bulkAll_eq a, bulkAll_eq b]
  | .agg ps => by simp only [bulk, Rows.uptoBulk, bulkAll_eq ps]
  | .iface t d => by simp only [bulk, Rows.uptoBulk, bulk_eq d]
  | .map es => by simp only [bulk, Rows.uptoBulk, bulkEntries_eq es]
  | .held _ => by simp [bulk, Rows.uptoBulk]
theorem bulkAll_eq {H : Type} : ∀ l : List (DataW H), bulkAll l = Rows.uptoBulkAll l
  | [] => by simp [bulkAll, Rows.uptoBulkAll]
  | d :: r => by simp only [bulkAll, Rows.uptoBulkAll, bulk_eq d, bulkAll_eq r]
theorem bulkEntries_eq {H : Type} : ∀ l : List (Lit × DataW H), bulkEntries l = Rows.uptoBulkEntries l
  | [] => by simp [bulkEntries, Rows.uptoBulkEntries]
  | d :: r => by simp only [bulkEntries, Rows.uptoBulkEntries, bulkEntry_eq d, bulkEntries_eq r]
theorem bulkEntry_eq {H : Type} : ∀ x : Lit × DataW H, bulkEntry x = Rows.uptoBulkEntry x
  | (k, d) => by cases k <;> simp [bulkEntry, Rows.uptoBulkEntry, bulk_eq d]
end
theorem le_sum {α : Type} (g : α → Nat) : ∀ {l : List α} {x : α}, x ∈ l → g x ≤ (l.map g).sum
  | y :: l, x, h => by
    simp only [List.map_cons, List.sum_cons]
    rcases List.mem_cons.1 h with rfl | h
    · omega
    · have := le_sum g h; omega
theorem len_sum {α : Type} (g : α → Nat) (hg : ∀ x, 1 ≤ g x) : ∀ (l : List α), l.length ≤ (l.map g).sum
  | [] => by simp
  | y :: l => by
    have := len_sum g hg l
    have := hg y
    simp only [List.map_cons, List.sum_cons, List.length_cons]
    omega
theorem own_none : ownKnob Try.prog.godebug = none := by kernel_rfl
theorem laid_out : laidOutB Try.prog = true := by kernel_rfl

theorem dec_cmd : Dec Try.prog 58 cmdV (fun _ => True) (fun x => x.text.length + 1) := by
  refine Dec.of (Dec.struct Try.underlying58 (DecFs.cons rfl (next := 1) (by kernel_rfl) (Dec.int Try.underlying3) (DecFs.cons rfl (next := 2) (by kernel_rfl) (Dec.int Try.underlying3) (DecFs.cons rfl (next := 3) (by kernel_rfl) (Dec.int Try.underlying3)
    (DecFs.cons rfl (next := 4) (by kernel_rfl) (Dec.int Try.underlying3) (DecFs.cons rfl (next := 5) (by kernel_rfl) (Dec.str Try.underlying9) DecFs.nil)))))) (fun x => ⟨x.1, x.2.1, x.2.2.1, x.2.2.2.1, x.2.2.2.2.1⟩) (fun x _ => ⟨rfl, trivial, by simp only; omega⟩)
theorem dec_cmds : Dec Try.prog 37 (fun l : List Cmd => V.slice (l.map cmdV)) (fun _ => True) (fun l => l.length) :=
  Dec.of (Dec.slice Try.underlying37 (of_decide_eq_true (by kernel_rfl)) dec_cmd) id (fun x _ => ⟨rfl, trivial, by have := len_sum (fun x : Cmd => x.text.length + 1) (fun x => by omega) x; simp only [id]; omega⟩)
theorem dec_bytes : Dec Try.prog 38 (fun l : List UInt8 => V.slice (l.map vb)) (fun _ => True) (fun l => l.length) := by
  have h2 : Dec Try.prog 5 vb (fun _ => True) (fun _ => 1) := by
    refine Dec.of (Dec.int Try.underlying5) (fun n : Int => UInt8.ofNat n.toNat) (fun n hn => ⟨?_, trivial, Nat.le_refl _⟩)
    have hn : 0 ≤ n ∧ n ≤ 255 := by have := hn; simp [Lit.wf] at this; have e1 : IntKind.u8.min = 0 := rfl; have e2 : IntKind.u8.max = 255 := rfl; omega
    unfold vb
    congr 1
    have : (UInt8.ofNat n.toNat).toNat = n.toNat := by simp; omega
    omega
  exact Dec.of (Dec.slice Try.underlying38 (of_decide_eq_true (by kernel_rfl)) h2) id (fun x _ => ⟨rfl, trivial, by have := len_sum (fun x : UInt8 => 1) (fun x => by omega) x; simp only [id]; omega⟩)

theorem tmod3 (n : Int) : ∃ k : Nat, k ≤ 2 ∧ IntKind.i64.wrap (255 + (IntKind.i64.wrap (n.tmod 3 + 3)).tmod 3) = ((255 + k : Nat) : Int) := by
  have h1 := Int.tmod_lt_of_pos n (show (0 : Int) < 3 by omega)
  have h0 : -3 < n.tmod 3 := Int.lt_tmod_of_pos n (show (0 : Int) < 3 by omega)
  have e : IntKind.i64.wrap (n.tmod 3 + 3) = n.tmod 3 + 3 := wrapI (by omega)
  rw [e]
  have h2 := Int.tmod_lt_of_pos (n.tmod 3 + 3) (show (0 : Int) < 3 by omega)
  have h3 : 0 ≤ (n.tmod 3 + 3).tmod 3 := Int.tmod_nonneg _ (by omega)
  rw [wrapI (by omega)]
  exact ⟨((n.tmod 3 + 3).tmod 3).toNat, by omega, by omega⟩
theorem tmodL (n : Int) (L : Nat) (h0 : 0 < L) (h1 : L ≤ 1000000) : ∃ k : Nat, k < L ∧ (IntKind.i64.wrap (n.tmod L + L)).tmod L = (k : Int) := by
  have h2 := Int.tmod_lt_of_pos n (show (0 : Int) < L by omega)
  have h3 : -(L : Int) < n.tmod L := Int.lt_tmod_of_pos n (show (0 : Int) < L by omega)
  have e : IntKind.i64.wrap (n.tmod L + L) = n.tmod L + L := wrapI (by omega)
  rw [e]
  have h4 := Int.tmod_lt_of_pos (n.tmod L + L) (show (0 : Int) < L by omega)
  have h5 : 0 ≤ (n.tmod L + L).tmod L := Int.tmod_nonneg _ (by omega)
  exact ⟨((n.tmod L + L).tmod L).toNat, by omega, by omega⟩
theorem getD_take {b : List UInt8} {k i : Nat} (h : i < k) : (b.take k).getD i 0 = b.getD i 0 := by
  rw [List.getD_eq_getElem?_getD, List.getElem?_take_of_lt h, ← List.getD_eq_getElem?_getD]
theorem read_part {c : Cmd} (h : checkC c = 0) {k : Nat} (h0 : 0 < k) (hk : k < (octetsC c).length) : readC ((octetsC c).take k) = ([], 16) := by
  have hl : ((octetsC c).take k).length = k := by rw [List.length_take]; omega
  have hne : (octetsC c).take k ≠ [] := by intro h; rw [h] at hl; simp at hl; omega
  have hlen := octetsC_len c
  have hbad : (nextC ((octetsC c).take k)).2.2 = false := by
    unfold nextC
    by_cases h6 : k < 6
    · rw [if_pos (by omega)]
    · rw [if_neg (by omega)]
      have hn := next_octets h []
      rw [List.append_nil] at hn
      have hnum : numC ((octetsC c).take k) = numC (octetsC c) := by unfold numC; rw [getD_take (by omega), getD_take (by omega)]
      have hnum2 : numC (octetsC c) = c.text.length := by
        have e : (nextC (octetsC c)).2.1.length = 0 := by rw [hn]; rfl
        unfold nextC at e hn
        rw [if_neg (by omega)] at e hn
        split at hn
        · simp at hn
        · rename_i h7
          rw [if_neg h7] at e
          simp only [List.length_drop] at e
          omega
      rw [hnum, hnum2, if_pos (by omega)]
  unfold readC
  rw [readL_bad hne hbad]
theorem read_nil : readC [] = ([], 0) := by unfold readC; rw [readL_nil]; rfl
def nineC : Cmd := ⟨9, 0, 0, 0, []⟩
theorem put_one {c : Cmd} : putC [c] = (if checkC c = 0 then octetsC c else [], checkC c) := by
  unfold putC
  by_cases h : checkC c = 0 <;> simp [h]
theorem put_nines (n : Nat) : putC (List.replicate n nineC) = if n > 256 then ([], 3) else ((List.replicate n nineC).flatMap octetsC, 0) := by
  by_cases h : n > 256
  · simp [putC, h]
  · rw [if_neg h]
    exact putC_good (by simp; omega) (fun c hc => by rw [(List.mem_replicate.1 hc).2]; decide)
theorem nines_len : ∀ n, ((List.replicate n nineC).flatMap octetsC).length = 6 * n
  | 0 => rfl
  | n + 1 => by rw [List.replicate_succ, List.flatMap_cons, List.length_append, nines_len n]; have : (octetsC nineC).length = 6 := rfl; omega
theorem set_nines {n i : Nat} (h : i < n) : (List.replicate i nineC ++ List.replicate (n - i) zeroC).set i nineC = List.replicate (i + 1) nineC ++ List.replicate (n - (i + 1)) zeroC := by
  rw [List.set_append_right _ _ (by simp), List.length_replicate, Nat.sub_self, show n - i = (n - (i + 1)) + 1 by omega, List.replicate_succ, List.set_cons_zero, List.replicate_succ', List.append_assoc]
  rfl
theorem codeChecks (H : List Ob) (c : Cmd) (many at_ : Int) : SCall Try.prog 12 [cmdV c, .int .i64 many, .int .i64 at_] H (fun r H' => r = .bool true) := by
  refine SCall.of_good fun hH => ?_
  have hHk := HLt.add hH
  refine SCall.of_code Tok Try.func12 rfl Try.call12 (n := 156) rfl (by simp) (rs := [.tmp 6]) rfl ?_
  refine EWn.to ?_
  refine EWn.cutE Tok mixed (own := false) (κ := (Unit)) keep12 tab12 [(), (), ()] (fun (_u : (Unit)) => True) (fun (_u : (Unit)) => [(1, .int .i64 many), (2, .int .i64 at_), (3, .ref H.length 0), (7, .int .i64 (checkC c))]) (fun (_u : (Unit)) => H ++ [.var [.int .i64 c.op, .int .i64 c.a, .int .i64 c.b, .int .i64 c.c, .str c.text]]) (by simp only [headC]; rfl) (by simp only [tailC]; rfl) (by kernel_rfl) (by kernel_rfl) ?_ ?_ ?_
  · rintro _u hok; exact ⟨by first | (simp; done) | (simp; omega), by (simp (maxDischargeDepth := 6) [LTB, HLt_set, ltL_take, ltL_drop, ltL_rep, upd, eset, hH, hHk, lt_vi, lt_str, lt_vb, lt_cmd, lt1_cmd] <;> omega), by (simp (maxDischargeDepth := 6) [LTB, HLt_set, ltL_take, ltL_drop, ltL_rep, upd, eset, hH, hHk, lt_vi, lt_str, lt_vb, lt_cmd, lt1_cmd] <;> omega)⟩
  · unfold cmdV
    (repeat (first | simp -dsimp only [st_cmd, sz_cmd, RB, TB, keep12, tab12, ewOp, xop, xindexAddr, xindex, xslice, xconvert, xlen, drawStep, FreeW, SameW, ChangeW, limBytes, Nat.reduceBEq, Nat.reduceAdd, Nat.reduceEqDiff, Nat.reduceLT, Nat.reduceLeDiff, Nat.reduceMul, Nat.reduceSub, Int.reduceBEq, Int.reduceBNe, Int.reduceToNat, Int.reduceLT, Int.reduceLE, Int.reduceGT, Int.reduceGE, Int.reduceAdd, Int.reduceSub, Int.reduceNeg, Int.reduceEq, Int.toNat_zero, Int.toNat_one, reduceIte, reduceCtorEq, ne_eq, decide_true, decide_false] | ((with_reducible refine Need.intro ?_ ?_); (first | trivial | omega | (simp; done) | (simp; omega)))))
    (first | refine SCall.then (alive27 _) ?_ | refine SCall.thenA (alive27 _) (by repeat (first | exact trivial | exact .inl rfl | exact .inr ⟨_, rfl, rfl⟩ | refine ⟨?_, ?_⟩)) ?_ | refine CallE.intro _ (alive27 _) ?_ | refine CallE.introA (alive27 _) (by repeat (first | exact trivial | exact .inl rfl | exact .inr ⟨_, rfl, rfl⟩ | refine ⟨?_, ?_⟩)) ?_ | refine CallE.intro _ (fun _ => alive27 _) ?_ | refine CallE.intro _ (fun _ => SCall.arg (by repeat (first | exact trivial | exact .inl rfl | exact .inr ⟨_, rfl, rfl⟩ | refine ⟨?_, ?_⟩)) (alive27 _)) ?_)
    (repeat (first | simp -dsimp only [st_cmd, sz_cmd, RB, TB, keep12, tab12, ewOp, xop, xindexAddr, xindex, xslice, xconvert, xlen, drawStep, FreeW, SameW, ChangeW, limBytes, Nat.reduceBEq, Nat.reduceAdd, Nat.reduceEqDiff, Nat.reduceLT, Nat.reduceLeDiff, Nat.reduceMul, Nat.reduceSub, Int.reduceBEq, Int.reduceBNe, Int.reduceToNat, Int.reduceLT, Int.reduceLE, Int.reduceGT, Int.reduceGE, Int.reduceAdd, Int.reduceSub, Int.reduceNeg, Int.reduceEq, Int.toNat_zero, Int.toNat_one, reduceIte, reduceCtorEq, ne_eq, decide_true, decide_false] | ((with_reducible refine Need.intro ?_ ?_); (first | trivial | omega | (simp; done) | (simp; omega)))))
    repeat' (first | simp -dsimp only [st_cmd, sz_cmd, *, RB, TB, keep12, tab12, ewOp, xop, xindexAddr, xindex, xslice, xconvert, xlen, drawStep, FreeW, SameW, ChangeW, limBytes, Nat.reduceBEq, Nat.reduceAdd, Nat.reduceEqDiff, Nat.reduceLT, Nat.reduceLeDiff, Nat.reduceMul, Nat.reduceSub, Int.reduceBEq, Int.reduceBNe, Int.reduceToNat, Int.reduceLT, Int.reduceLE, Int.reduceGT, Int.reduceGE, Int.reduceAdd, Int.reduceSub, Int.reduceNeg, Int.reduceEq, Int.toNat_zero, Int.toNat_one, reduceIte, reduceCtorEq, ne_eq, decide_true, decide_false] | ((with_reducible refine Need.intro ?_ ?_); (first | trivial | omega | (simp; done) | (simp; omega))) | (with_reducible refine IfW.intro (fun h_ => ?_) (fun h_ => ?_)) | ((with_reducible refine RetW.auto0 false _ (by first | rfl | exact (List.append_nil _).symm) (by (simp (maxDischargeDepth := 6) [LTB, HLt_set, ltL_take, ltL_drop, ltL_rep, upd, eset, hH, hHk, lt_vi, lt_str, lt_vb, lt_cmd, lt1_cmd] <;> omega)) ?_); (try simp only [wk, wk1, wk0, RB, limBytes, Nat.reduceBEq, Nat.reduceAdd, Nat.reduceEqDiff, Nat.reduceLT, Nat.reduceLeDiff, Nat.reduceMul, Nat.reduceSub, Int.reduceBEq, Int.reduceBNe, Int.reduceToNat, Int.reduceLT, Int.reduceLE, Int.reduceGT, Int.reduceGE, Int.reduceAdd, Int.reduceSub, Int.reduceNeg, Int.reduceEq, Int.toNat_zero, Int.toNat_one, reduceIte, reduceCtorEq, ne_eq, decide_true, decide_false]); (try (rw [List.take_of_length_le]; rotate_left 1; (· first | (simp; done) | (simp; omega) | omega))); (try (skip)); done))
    all_goals refine UpTo.step (Gho.restr [1, 2, 3, 7]) (UpTo.here ⟨(), trivial, ?_, [], by simp⟩)
    all_goals simp [restr, eget]
    all_goals simp only [checkC, badB, Bool.or_eq_true, decide_eq_true_eq, decide_eq_false_iff_not] at *
    all_goals (repeat' split)
    all_goals omega
  rintro _ _
  refine EWn.of_c Tok mixed (own := false) keep12 tab12 (by kernel_rfl) ?_
  (repeat (first | simp -dsimp only [st_cmd, sz_cmd, RB, TB, keep12, tab12, ewOp, xop, xindexAddr, xindex, xslice, xconvert, xlen, drawStep, FreeW, SameW, ChangeW, limBytes, Nat.reduceBEq, Nat.reduceAdd, Nat.reduceEqDiff, Nat.reduceLT, Nat.reduceLeDiff, Nat.reduceMul, Nat.reduceSub, Int.reduceBEq, Int.reduceBNe, Int.reduceToNat, Int.reduceLT, Int.reduceLE, Int.reduceGT, Int.reduceGE, Int.reduceAdd, Int.reduceSub, Int.reduceNeg, Int.reduceEq, Int.toNat_zero, Int.toNat_one, reduceIte, reduceCtorEq, ne_eq, decide_true, decide_false] | ((with_reducible refine Need.intro ?_ ?_); (first | trivial | omega | (simp; done) | (simp; omega)))))
  refine SCall.thenA (put _ [c]) ⟨.inr ⟨_, rfl, rfl⟩, trivial⟩ ?_
  (repeat (first | simp -dsimp only [st_cmd, sz_cmd, put_one, RB, TB, keep12, tab12, ewOp, xop, xindexAddr, xindex, xslice, xconvert, xlen, drawStep, FreeW, SameW, ChangeW, limBytes, Nat.reduceBEq, Nat.reduceAdd, Nat.reduceEqDiff, Nat.reduceLT, Nat.reduceLeDiff, Nat.reduceMul, Nat.reduceSub, Int.reduceBEq, Int.reduceBNe, Int.reduceToNat, Int.reduceLT, Int.reduceLE, Int.reduceGT, Int.reduceGE, Int.reduceAdd, Int.reduceSub, Int.reduceNeg, Int.reduceEq, Int.toNat_zero, Int.toNat_one, reduceIte, reduceCtorEq, ne_eq, decide_true, decide_false] | ((with_reducible refine Need.intro ?_ ?_); (first | trivial | omega | (simp; done) | (simp; omega)))))
  (first | refine SCall.then (check _ c) ?_ | refine SCall.thenA (check _ c) (by repeat (first | exact trivial | exact .inl rfl | exact .inr ⟨_, rfl, rfl⟩ | refine ⟨?_, ?_⟩)) ?_ | refine CallE.intro _ (check _ c) ?_ | refine CallE.introA (check _ c) (by repeat (first | exact trivial | exact .inl rfl | exact .inr ⟨_, rfl, rfl⟩ | refine ⟨?_, ?_⟩)) ?_ | refine CallE.intro _ (fun _ => check _ c) ?_ | refine CallE.intro _ (fun _ => SCall.arg (by repeat (first | exact trivial | exact .inl rfl | exact .inr ⟨_, rfl, rfl⟩ | refine ⟨?_, ?_⟩)) (check _ c)) ?_)
  (repeat (first | simp -dsimp only [st_cmd, sz_cmd, RB, TB, keep12, tab12, ewOp, xop, xindexAddr, xindex, xslice, xconvert, xlen, drawStep, FreeW, SameW, ChangeW, limBytes, Nat.reduceBEq, Nat.reduceAdd, Nat.reduceEqDiff, Nat.reduceLT, Nat.reduceLeDiff, Nat.reduceMul, Nat.reduceSub, Int.reduceBEq, Int.reduceBNe, Int.reduceToNat, Int.reduceLT, Int.reduceLE, Int.reduceGT, Int.reduceGE, Int.reduceAdd, Int.reduceSub, Int.reduceNeg, Int.reduceEq, Int.toNat_zero, Int.toNat_one, reduceIte, reduceCtorEq, ne_eq, decide_true, decide_false] | ((with_reducible refine Need.intro ?_ ?_); (first | trivial | omega | (simp; done) | (simp; omega)))))
  (repeat (first | simp -dsimp only [st_cmd, sz_cmd, show (checkC c == checkC c) = true from by simp, RB, TB, keep12, tab12, ewOp, xop, xindexAddr, xindex, xslice, xconvert, xlen, drawStep, FreeW, SameW, ChangeW, limBytes, Nat.reduceBEq, Nat.reduceAdd, Nat.reduceEqDiff, Nat.reduceLT, Nat.reduceLeDiff, Nat.reduceMul, Nat.reduceSub, Int.reduceBEq, Int.reduceBNe, Int.reduceToNat, Int.reduceLT, Int.reduceLE, Int.reduceGT, Int.reduceGE, Int.reduceAdd, Int.reduceSub, Int.reduceNeg, Int.reduceEq, Int.toNat_zero, Int.toNat_one, reduceIte, reduceCtorEq, ne_eq, decide_true, decide_false] | ((with_reducible refine Need.intro ?_ ?_); (first | trivial | omega | (simp; done) | (simp; omega)))))
  obtain ⟨k, hk, hmany⟩ := tmod3 many
  (repeat (first | simp -dsimp only [st_cmd, sz_cmd, hmany, RB, TB, keep12, tab12, ewOp, xop, xindexAddr, xindex, xslice, xconvert, xlen, drawStep, FreeW, SameW, ChangeW, limBytes, Nat.reduceBEq, Nat.reduceAdd, Nat.reduceEqDiff, Nat.reduceLT, Nat.reduceLeDiff, Nat.reduceMul, Nat.reduceSub, Int.reduceBEq, Int.reduceBNe, Int.reduceToNat, Int.reduceLT, Int.reduceLE, Int.reduceGT, Int.reduceGE, Int.reduceAdd, Int.reduceSub, Int.reduceNeg, Int.reduceEq, Int.toNat_zero, Int.toNat_one, reduceIte, reduceCtorEq, ne_eq, decide_true, decide_false] | ((with_reducible refine Need.intro ?_ ?_); (first | trivial | omega | (simp; done) | (simp; omega)))))
  generalize hN : 255 + k = n
  refine EWn.loopE (ι := (Nat)) (fun (i : (Nat)) => i ≤ n) (fun (i : (Nat)) => n - i) (fun (i : (Nat)) => [(11, .int .i64 i)]) (fun (i : (Nat)) => H ++ [.var [.int .i64 c.op, .int .i64 c.a, .int .i64 c.b, .int .i64 c.c, .str c.text], .vec 1 5 ((List.replicate i nineC ++ List.replicate (n - i) zeroC).map cmdV)]) (0) ?_ ?_ ?_ ?_ ?_
  · first | rfl | simp [upd, eset]
  · simp [cmdV, zeroC]
  · rintro i hok; exact ⟨by first | (simp; done) | (simp; omega), by (simp (maxDischargeDepth := 6) [LTB, HLt_set, ltL_take, ltL_drop, ltL_rep, upd, eset, hH, hHk, lt_vi, lt_str, lt_vb, lt_cmd, lt1_cmd] <;> omega), by (simp (maxDischargeDepth := 6) [LTB, HLt_set, ltL_take, ltL_drop, ltL_rep, upd, eset, hH, hHk, lt_vi, lt_str, lt_vb, lt_cmd, lt1_cmd] <;> omega)⟩
  · omega
  rintro i hi
  refine EWn.of_c Tok mixed (own := false) keep12 tab12 (by kernel_rfl) ?_
  (repeat (first | simp -dsimp only [st_cmd, sz_cmd, RB, TB, keep12, tab12, ewOp, xop, xindexAddr, xindex, xslice, xconvert, xlen, drawStep, FreeW, SameW, ChangeW, limBytes, Nat.reduceBEq, Nat.reduceAdd, Nat.reduceEqDiff, Nat.reduceLT, Nat.reduceLeDiff, Nat.reduceMul, Nat.reduceSub, Int.reduceBEq, Int.reduceBNe, Int.reduceToNat, Int.reduceLT, Int.reduceLE, Int.reduceGT, Int.reduceGE, Int.reduceAdd, Int.reduceSub, Int.reduceNeg, Int.reduceEq, Int.toNat_zero, Int.toNat_one, reduceIte, reduceCtorEq, ne_eq, decide_true, decide_false] | ((with_reducible refine Need.intro ?_ ?_); (first | trivial | omega | (simp; done) | (simp; omega)))))
  refine IfW.intro (fun h => ?_) (fun h => ?_)
  · have hlt := lt_of h
    have hi' : i < (List.replicate i nineC ++ List.replicate (n - i) zeroC).length := by simp; omega
    have hz : (List.replicate i nineC ++ List.replicate (n - i) zeroC)[i] = zeroC := by rw [List.getElem_append_right (by simp)]; simp
    have hset := set_nines hlt
    have hLn : (List.replicate i nineC ++ List.replicate (n - i) zeroC).length = n := by simp; omega
    generalize hL : List.replicate i nineC ++ List.replicate (n - i) zeroC = L at *
    (repeat (first | simp -dsimp only [st_cmd, sz_cmd, h, at_map cmdV L i hi', hz, cmdV, zeroC, RB, TB, keep12, tab12, ewOp, xop, xindexAddr, xindex, xslice, xconvert, xlen, drawStep, FreeW, SameW, ChangeW, limBytes, Nat.reduceBEq, Nat.reduceAdd, Nat.reduceEqDiff, Nat.reduceLT, Nat.reduceLeDiff, Nat.reduceMul, Nat.reduceSub, Int.reduceBEq, Int.reduceBNe, Int.reduceToNat, Int.reduceLT, Int.reduceLE, Int.reduceGT, Int.reduceGE, Int.reduceAdd, Int.reduceSub, Int.reduceNeg, Int.reduceEq, Int.toNat_zero, Int.toNat_one, reduceIte, reduceCtorEq, ne_eq, decide_true, decide_false] | ((with_reducible refine Need.intro ?_ ?_); (first | trivial | omega | (simp; done) | (simp; omega)))))
    rw [wrapI (by omega)]
    refine UpTo.here ⟨i + 1, hlt, by simp only; omega, by simp [upd, eset], ⟨[], ?_⟩⟩
    simp only [List.append_nil]
    rw [← hset, List.map_set]
    rfl
  have hin : i = n := Nat.le_antisymm hi (ge_of h)
  subst hin
  (repeat (first | simp -dsimp only [st_cmd, sz_cmd, h, Nat.sub_self, List.replicate_zero, RB, TB, keep12, tab12, ewOp, xop, xindexAddr, xindex, xslice, xconvert, xlen, drawStep, FreeW, SameW, ChangeW, limBytes, Nat.reduceBEq, Nat.reduceAdd, Nat.reduceEqDiff, Nat.reduceLT, Nat.reduceLeDiff, Nat.reduceMul, Nat.reduceSub, Int.reduceBEq, Int.reduceBNe, Int.reduceToNat, Int.reduceLT, Int.reduceLE, Int.reduceGT, Int.reduceGE, Int.reduceAdd, Int.reduceSub, Int.reduceNeg, Int.reduceEq, Int.toNat_zero, Int.toNat_one, reduceIte, reduceCtorEq, ne_eq, decide_true, decide_false] | ((with_reducible refine Need.intro ?_ ?_); (first | trivial | omega | (simp; done) | (simp; omega)))))
  refine SCall.freeze 0 (l := (List.replicate i nineC).map cmdV) (by rfl) ?_ ?_ ?_
  · apply Exists.intro; (try simp only [RB, List.map_append, List.map_cons, List.map_nil, limBytes, Nat.reduceBEq, Nat.reduceAdd, Nat.reduceEqDiff, Nat.reduceLT, Nat.reduceLeDiff, Nat.reduceMul, Nat.reduceSub, Int.reduceBEq, Int.reduceBNe, Int.reduceToNat, Int.reduceLT, Int.reduceLE, Int.reduceGT, Int.reduceGE, Int.reduceAdd, Int.reduceSub, Int.reduceNeg, Int.reduceEq, Int.toNat_zero, Int.toNat_one, reduceIte, reduceCtorEq, ne_eq, decide_true, decide_false]); first | rfl | (simp; done) | (simp; rfl)
  · first | rfl | (simp; done) | (simp; omega)
  (try simp only [RB, limBytes, Nat.reduceBEq, Nat.reduceAdd, Nat.reduceEqDiff, Nat.reduceLT, Nat.reduceLeDiff, Nat.reduceMul, Nat.reduceSub, Int.reduceBEq, Int.reduceBNe, Int.reduceToNat, Int.reduceLT, Int.reduceLE, Int.reduceGT, Int.reduceGE, Int.reduceAdd, Int.reduceSub, Int.reduceNeg, Int.reduceEq, Int.toNat_zero, Int.toNat_one, reduceIte, reduceCtorEq, ne_eq, decide_true, decide_false])
  have hmul : IntKind.i64.wrap (6 * (i : Int)) = ((6 * i : Nat) : Int) := by rw [wrapI (by omega)]; omega
  have hnl := nines_len i
  have key : ∀ (Q : Prop), (∀ (x : List UInt8) (f : Int), putC (List.replicate i nineC) = (x, f) → ((f == 3) = decide ((i : Int) > 256)) → ((f == 0) = decide ((i : Int) ≤ 256)) → (f = 0 → x.length = 6 * i) → Q) → Q := by
    intro Q hq
    have hp := put_nines i
    by_cases h256 : i > 256
    · rw [if_pos h256] at hp
      have e1 : ((i : Int) > 256) := by omega
      have e2 : ¬ ((i : Int) ≤ 256) := by omega
      exact hq _ _ hp (by simp [e1]) (by simp [e2]) (by intro h; cases h)
    · rw [if_neg h256] at hp
      have e1 : ¬ ((i : Int) > 256) := by omega
      have e2 : ((i : Int) ≤ 256) := by omega
      exact hq _ _ hp (by simp [e1]) (by simp [e2]) (fun _ => hnl)
  refine key _ fun x f hp hf3 hf0 hx => ?_
  clear key
  (first | refine SCall.then (put _ (List.replicate i nineC)) ?_ | refine SCall.thenA (put _ (List.replicate i nineC)) (by repeat (first | exact trivial | exact .inl rfl | exact .inr ⟨_, rfl, rfl⟩ | refine ⟨?_, ?_⟩)) ?_ | refine CallE.intro _ (put _ (List.replicate i nineC)) ?_ | refine CallE.introA (put _ (List.replicate i nineC)) (by repeat (first | exact trivial | exact .inl rfl | exact .inr ⟨_, rfl, rfl⟩ | refine ⟨?_, ?_⟩)) ?_ | refine CallE.intro _ (fun _ => put _ (List.replicate i nineC)) ?_ | refine CallE.intro _ (fun _ => SCall.arg (by repeat (first | exact trivial | exact .inl rfl | exact .inr ⟨_, rfl, rfl⟩ | refine ⟨?_, ?_⟩)) (put _ (List.replicate i nineC))) ?_)
  (repeat (first | simp -dsimp only [st_cmd, sz_cmd, hp, hf3, hf0, RB, TB, keep12, tab12, ewOp, xop, xindexAddr, xindex, xslice, xconvert, xlen, drawStep, FreeW, SameW, ChangeW, limBytes, Nat.reduceBEq, Nat.reduceAdd, Nat.reduceEqDiff, Nat.reduceLT, Nat.reduceLeDiff, Nat.reduceMul, Nat.reduceSub, Int.reduceBEq, Int.reduceBNe, Int.reduceToNat, Int.reduceLT, Int.reduceLE, Int.reduceGT, Int.reduceGE, Int.reduceAdd, Int.reduceSub, Int.reduceNeg, Int.reduceEq, Int.toNat_zero, Int.toNat_one, reduceIte, reduceCtorEq, ne_eq, decide_true, decide_false] | ((with_reducible refine Need.intro ?_ ?_); (first | trivial | omega | (simp; done) | (simp; omega)))))
  refine IfW.intro (fun hle => ?_) (fun hle => ?_)
  · have hf : f = 0 := by have := of_decide_eq_true hle; simpa [this] using hf0
    have hx6 := hx hf
    (repeat (first | simp -dsimp only [st_cmd, sz_cmd, hle, hx6, hmul, RB, TB, keep12, tab12, ewOp, xop, xindexAddr, xindex, xslice, xconvert, xlen, drawStep, FreeW, SameW, ChangeW, limBytes, Nat.reduceBEq, Nat.reduceAdd, Nat.reduceEqDiff, Nat.reduceLT, Nat.reduceLeDiff, Nat.reduceMul, Nat.reduceSub, Int.reduceBEq, Int.reduceBNe, Int.reduceToNat, Int.reduceLT, Int.reduceLE, Int.reduceGT, Int.reduceGE, Int.reduceAdd, Int.reduceSub, Int.reduceNeg, Int.reduceEq, Int.toNat_zero, Int.toNat_one, reduceIte, reduceCtorEq, ne_eq, decide_true, decide_false] | ((with_reducible refine Need.intro ?_ ?_); (first | trivial | omega | (simp; done) | (simp; omega)))))
    refine IfW.intro (fun hc => ?_) (fun hc => ?_)
    · have hc0 : checkC c = 0 := by simpa using hc
      have hlen := octetsC_len c
      have ht := checkC_len hc0
      obtain ⟨j, hj, hje⟩ := tmodL at_ (octetsC c).length (by omega) (by omega)
      (repeat (first | simp -dsimp only [st_cmd, sz_cmd, hc, hc0, hje, RB, TB, keep12, tab12, ewOp, xop, xindexAddr, xindex, xslice, xconvert, xlen, drawStep, FreeW, SameW, ChangeW, limBytes, Nat.reduceBEq, Nat.reduceAdd, Nat.reduceEqDiff, Nat.reduceLT, Nat.reduceLeDiff, Nat.reduceMul, Nat.reduceSub, Int.reduceBEq, Int.reduceBNe, Int.reduceToNat, Int.reduceLT, Int.reduceLE, Int.reduceGT, Int.reduceGE, Int.reduceAdd, Int.reduceSub, Int.reduceNeg, Int.reduceEq, Int.toNat_zero, Int.toNat_one, reduceIte, reduceCtorEq, ne_eq, decide_true, decide_false] | ((with_reducible refine Need.intro ?_ ?_); (first | trivial | omega | (simp; done) | (simp; omega)))))
      by_cases hj0 : j = 0
      · subst hj0
        (repeat (first | simp -dsimp only [st_cmd, sz_cmd, RB, TB, keep12, tab12, ewOp, xop, xindexAddr, xindex, xslice, xconvert, xlen, drawStep, FreeW, SameW, ChangeW, limBytes, Nat.reduceBEq, Nat.reduceAdd, Nat.reduceEqDiff, Nat.reduceLT, Nat.reduceLeDiff, Nat.reduceMul, Nat.reduceSub, Int.reduceBEq, Int.reduceBNe, Int.reduceToNat, Int.reduceLT, Int.reduceLE, Int.reduceGT, Int.reduceGE, Int.reduceAdd, Int.reduceSub, Int.reduceNeg, Int.reduceEq, Int.toNat_zero, Int.toNat_one, reduceIte, reduceCtorEq, ne_eq, decide_true, decide_false] | ((with_reducible refine Need.intro ?_ ?_); (first | trivial | omega | (simp; done) | (simp; omega)))))
        (first | refine SCall.then (read _ [] (by simp)) ?_ | refine SCall.thenA (read _ [] (by simp)) (by repeat (first | exact trivial | exact .inl rfl | exact .inr ⟨_, rfl, rfl⟩ | refine ⟨?_, ?_⟩)) ?_ | refine CallE.intro _ (read _ [] (by simp)) ?_ | refine CallE.introA (read _ [] (by simp)) (by repeat (first | exact trivial | exact .inl rfl | exact .inr ⟨_, rfl, rfl⟩ | refine ⟨?_, ?_⟩)) ?_ | refine CallE.intro _ (fun _ => read _ [] (by simp)) ?_ | refine CallE.intro _ (fun _ => SCall.arg (by repeat (first | exact trivial | exact .inl rfl | exact .inr ⟨_, rfl, rfl⟩ | refine ⟨?_, ?_⟩)) (read _ [] (by simp))) ?_)
        (repeat (first | simp -dsimp only [st_cmd, sz_cmd, read_nil, RB, TB, keep12, tab12, ewOp, xop, xindexAddr, xindex, xslice, xconvert, xlen, drawStep, FreeW, SameW, ChangeW, limBytes, Nat.reduceBEq, Nat.reduceAdd, Nat.reduceEqDiff, Nat.reduceLT, Nat.reduceLeDiff, Nat.reduceMul, Nat.reduceSub, Int.reduceBEq, Int.reduceBNe, Int.reduceToNat, Int.reduceLT, Int.reduceLE, Int.reduceGT, Int.reduceGE, Int.reduceAdd, Int.reduceSub, Int.reduceNeg, Int.reduceEq, Int.toNat_zero, Int.toNat_one, reduceIte, reduceCtorEq, ne_eq, decide_true, decide_false] | ((with_reducible refine Need.intro ?_ ?_); (first | trivial | omega | (simp; done) | (simp; omega)))))
        have hw : IntKind.i64.wrap (6 + (c.text.length : Int)) = ((octetsC c).length : Int) := by rw [wrapI (by omega), hlen]; omega
        (repeat (first | simp -dsimp only [st_cmd, sz_cmd, hw, RB, TB, keep12, tab12, ewOp, xop, xindexAddr, xindex, xslice, xconvert, xlen, drawStep, FreeW, SameW, ChangeW, limBytes, Nat.reduceBEq, Nat.reduceAdd, Nat.reduceEqDiff, Nat.reduceLT, Nat.reduceLeDiff, Nat.reduceMul, Nat.reduceSub, Int.reduceBEq, Int.reduceBNe, Int.reduceToNat, Int.reduceLT, Int.reduceLE, Int.reduceGT, Int.reduceGE, Int.reduceAdd, Int.reduceSub, Int.reduceNeg, Int.reduceEq, Int.toNat_zero, Int.toNat_one, reduceIte, reduceCtorEq, ne_eq, decide_true, decide_false] | ((with_reducible refine Need.intro ?_ ?_); (first | trivial | omega | (simp; done) | (simp; omega)))))
        refine RetW.auto0 false _ (by first | rfl | exact (List.append_nil _).symm) ?_ ?_
        · (simp (maxDischargeDepth := 6) [LTB, HLt_set, ltL_take, ltL_drop, ltL_rep, upd, eset, hH, hHk, lt_vi, lt_str, lt_vb, lt_cmd, lt1_cmd] <;> omega)
        (try simp only [wk, wk1, wk0, RB, limBytes, Nat.reduceBEq, Nat.reduceAdd, Nat.reduceEqDiff, Nat.reduceLT, Nat.reduceLeDiff, Nat.reduceMul, Nat.reduceSub, Int.reduceBEq, Int.reduceBNe, Int.reduceToNat, Int.reduceLT, Int.reduceLE, Int.reduceGT, Int.reduceGE, Int.reduceAdd, Int.reduceSub, Int.reduceNeg, Int.reduceEq, Int.toNat_zero, Int.toNat_one, reduceIte, reduceCtorEq, ne_eq, decide_true, decide_false])
        (try (rw [List.take_of_length_le]; rotate_left 1; (· first | (simp; done) | (simp; omega) | omega)))
      · (repeat (first | simp -dsimp only [st_cmd, sz_cmd, RB, TB, keep12, tab12, ewOp, xop, xindexAddr, xindex, xslice, xconvert, xlen, drawStep, FreeW, SameW, ChangeW, limBytes, Nat.reduceBEq, Nat.reduceAdd, Nat.reduceEqDiff, Nat.reduceLT, Nat.reduceLeDiff, Nat.reduceMul, Nat.reduceSub, Int.reduceBEq, Int.reduceBNe, Int.reduceToNat, Int.reduceLT, Int.reduceLE, Int.reduceGT, Int.reduceGE, Int.reduceAdd, Int.reduceSub, Int.reduceNeg, Int.reduceEq, Int.toNat_zero, Int.toNat_one, reduceIte, reduceCtorEq, ne_eq, decide_true, decide_false] | ((with_reducible refine Need.intro ?_ ?_); (first | trivial | omega | (simp; done) | (simp; omega)))))
        (first | refine SCall.then (read _ ((octetsC c).take j) (by simp; omega)) ?_ | refine SCall.thenA (read _ ((octetsC c).take j) (by simp; omega)) (by repeat (first | exact trivial | exact .inl rfl | exact .inr ⟨_, rfl, rfl⟩ | refine ⟨?_, ?_⟩)) ?_ | refine CallE.intro _ (read _ ((octetsC c).take j) (by simp; omega)) ?_ | refine CallE.introA (read _ ((octetsC c).take j) (by simp; omega)) (by repeat (first | exact trivial | exact .inl rfl | exact .inr ⟨_, rfl, rfl⟩ | refine ⟨?_, ?_⟩)) ?_ | refine CallE.intro _ (fun _ => read _ ((octetsC c).take j) (by simp; omega)) ?_ | refine CallE.intro _ (fun _ => SCall.arg (by repeat (first | exact trivial | exact .inl rfl | exact .inr ⟨_, rfl, rfl⟩ | refine ⟨?_, ?_⟩)) (read _ ((octetsC c).take j) (by simp; omega))) ?_)
        (repeat (first | simp -dsimp only [st_cmd, sz_cmd, read_part hc0 (by omega) hj, RB, TB, keep12, tab12, ewOp, xop, xindexAddr, xindex, xslice, xconvert, xlen, drawStep, FreeW, SameW, ChangeW, limBytes, Nat.reduceBEq, Nat.reduceAdd, Nat.reduceEqDiff, Nat.reduceLT, Nat.reduceLeDiff, Nat.reduceMul, Nat.reduceSub, Int.reduceBEq, Int.reduceBNe, Int.reduceToNat, Int.reduceLT, Int.reduceLE, Int.reduceGT, Int.reduceGE, Int.reduceAdd, Int.reduceSub, Int.reduceNeg, Int.reduceEq, Int.toNat_zero, Int.toNat_one, reduceIte, reduceCtorEq, ne_eq, decide_true, decide_false] | ((with_reducible refine Need.intro ?_ ?_); (first | trivial | omega | (simp; done) | (simp; omega)))))
        have hw : IntKind.i64.wrap (6 + (c.text.length : Int)) = ((octetsC c).length : Int) := by rw [wrapI (by omega), hlen]; omega
        have hjz : ((j : Int) == 0) = false := by simpa using hj0
        (repeat (first | simp -dsimp only [st_cmd, sz_cmd, hw, hjz, RB, TB, keep12, tab12, ewOp, xop, xindexAddr, xindex, xslice, xconvert, xlen, drawStep, FreeW, SameW, ChangeW, limBytes, Nat.reduceBEq, Nat.reduceAdd, Nat.reduceEqDiff, Nat.reduceLT, Nat.reduceLeDiff, Nat.reduceMul, Nat.reduceSub, Int.reduceBEq, Int.reduceBNe, Int.reduceToNat, Int.reduceLT, Int.reduceLE, Int.reduceGT, Int.reduceGE, Int.reduceAdd, Int.reduceSub, Int.reduceNeg, Int.reduceEq, Int.toNat_zero, Int.toNat_one, reduceIte, reduceCtorEq, ne_eq, decide_true, decide_false] | ((with_reducible refine Need.intro ?_ ?_); (first | trivial | omega | (simp; done) | (simp; omega)))))
        refine RetW.auto0 false _ (by first | rfl | exact (List.append_nil _).symm) ?_ ?_
        · (simp (maxDischargeDepth := 6) [LTB, HLt_set, ltL_take, ltL_drop, ltL_rep, upd, eset, hH, hHk, lt_vi, lt_str, lt_vb, lt_cmd, lt1_cmd] <;> omega)
        (try simp only [wk, wk1, wk0, RB, limBytes, Nat.reduceBEq, Nat.reduceAdd, Nat.reduceEqDiff, Nat.reduceLT, Nat.reduceLeDiff, Nat.reduceMul, Nat.reduceSub, Int.reduceBEq, Int.reduceBNe, Int.reduceToNat, Int.reduceLT, Int.reduceLE, Int.reduceGT, Int.reduceGE, Int.reduceAdd, Int.reduceSub, Int.reduceNeg, Int.reduceEq, Int.toNat_zero, Int.toNat_one, reduceIte, reduceCtorEq, ne_eq, decide_true, decide_false])
        (try (rw [List.take_of_length_le]; rotate_left 1; (· first | (simp; done) | (simp; omega) | omega)))
    · have hc0 : checkC c ≠ 0 := by simpa using hc
      (repeat (first | simp -dsimp only [st_cmd, sz_cmd, hc, if_neg hc0, RB, TB, keep12, tab12, ewOp, xop, xindexAddr, xindex, xslice, xconvert, xlen, drawStep, FreeW, SameW, ChangeW, limBytes, Nat.reduceBEq, Nat.reduceAdd, Nat.reduceEqDiff, Nat.reduceLT, Nat.reduceLeDiff, Nat.reduceMul, Nat.reduceSub, Int.reduceBEq, Int.reduceBNe, Int.reduceToNat, Int.reduceLT, Int.reduceLE, Int.reduceGT, Int.reduceGE, Int.reduceAdd, Int.reduceSub, Int.reduceNeg, Int.reduceEq, Int.toNat_zero, Int.toNat_one, reduceIte, reduceCtorEq, ne_eq, decide_true, decide_false] | ((with_reducible refine Need.intro ?_ ?_); (first | trivial | omega | (simp; done) | (simp; omega)))))
      refine RetW.auto0 false _ (by first | rfl | exact (List.append_nil _).symm) ?_ ?_
      · (simp (maxDischargeDepth := 6) [LTB, HLt_set, ltL_take, ltL_drop, ltL_rep, upd, eset, hH, hHk, lt_vi, lt_str, lt_vb, lt_cmd, lt1_cmd] <;> omega)
      (try simp only [wk, wk1, wk0, RB, limBytes, Nat.reduceBEq, Nat.reduceAdd, Nat.reduceEqDiff, Nat.reduceLT, Nat.reduceLeDiff, Nat.reduceMul, Nat.reduceSub, Int.reduceBEq, Int.reduceBNe, Int.reduceToNat, Int.reduceLT, Int.reduceLE, Int.reduceGT, Int.reduceGE, Int.reduceAdd, Int.reduceSub, Int.reduceNeg, Int.reduceEq, Int.toNat_zero, Int.toNat_one, reduceIte, reduceCtorEq, ne_eq, decide_true, decide_false])
      (try (rw [List.take_of_length_le]; rotate_left 1; (· first | (simp; done) | (simp; omega) | omega)))
  · (repeat (first | simp -dsimp only [st_cmd, sz_cmd, hle, RB, TB, keep12, tab12, ewOp, xop, xindexAddr, xindex, xslice, xconvert, xlen, drawStep, FreeW, SameW, ChangeW, limBytes, Nat.reduceBEq, Nat.reduceAdd, Nat.reduceEqDiff, Nat.reduceLT, Nat.reduceLeDiff, Nat.reduceMul, Nat.reduceSub, Int.reduceBEq, Int.reduceBNe, Int.reduceToNat, Int.reduceLT, Int.reduceLE, Int.reduceGT, Int.reduceGE, Int.reduceAdd, Int.reduceSub, Int.reduceNeg, Int.reduceEq, Int.toNat_zero, Int.toNat_one, reduceIte, reduceCtorEq, ne_eq, decide_true, decide_false] | ((with_reducible refine Need.intro ?_ ?_); (first | trivial | omega | (simp; done) | (simp; omega)))))
    refine IfW.intro (fun hc => ?_) (fun hc => ?_)
    · have hc0 : checkC c = 0 := by simpa using hc
      have hlen := octetsC_len c
      have ht := checkC_len hc0
      obtain ⟨j, hj, hje⟩ := tmodL at_ (octetsC c).length (by omega) (by omega)
      (repeat (first | simp -dsimp only [st_cmd, sz_cmd, hc, hc0, hje, RB, TB, keep12, tab12, ewOp, xop, xindexAddr, xindex, xslice, xconvert, xlen, drawStep, FreeW, SameW, ChangeW, limBytes, Nat.reduceBEq, Nat.reduceAdd, Nat.reduceEqDiff, Nat.reduceLT, Nat.reduceLeDiff, Nat.reduceMul, Nat.reduceSub, Int.reduceBEq, Int.reduceBNe, Int.reduceToNat, Int.reduceLT, Int.reduceLE, Int.reduceGT, Int.reduceGE, Int.reduceAdd, Int.reduceSub, Int.reduceNeg, Int.reduceEq, Int.toNat_zero, Int.toNat_one, reduceIte, reduceCtorEq, ne_eq, decide_true, decide_false] | ((with_reducible refine Need.intro ?_ ?_); (first | trivial | omega | (simp; done) | (simp; omega)))))
      by_cases hj0 : j = 0
      · subst hj0
        (repeat (first | simp -dsimp only [st_cmd, sz_cmd, RB, TB, keep12, tab12, ewOp, xop, xindexAddr, xindex, xslice, xconvert, xlen, drawStep, FreeW, SameW, ChangeW, limBytes, Nat.reduceBEq, Nat.reduceAdd, Nat.reduceEqDiff, Nat.reduceLT, Nat.reduceLeDiff, Nat.reduceMul, Nat.reduceSub, Int.reduceBEq, Int.reduceBNe, Int.reduceToNat, Int.reduceLT, Int.reduceLE, Int.reduceGT, Int.reduceGE, Int.reduceAdd, Int.reduceSub, Int.reduceNeg, Int.reduceEq, Int.toNat_zero, Int.toNat_one, reduceIte, reduceCtorEq, ne_eq, decide_true, decide_false] | ((with_reducible refine Need.intro ?_ ?_); (first | trivial | omega | (simp; done) | (simp; omega)))))
        (first | refine SCall.then (read _ [] (by simp)) ?_ | refine SCall.thenA (read _ [] (by simp)) (by repeat (first | exact trivial | exact .inl rfl | exact .inr ⟨_, rfl, rfl⟩ | refine ⟨?_, ?_⟩)) ?_ | refine CallE.intro _ (read _ [] (by simp)) ?_ | refine CallE.introA (read _ [] (by simp)) (by repeat (first | exact trivial | exact .inl rfl | exact .inr ⟨_, rfl, rfl⟩ | refine ⟨?_, ?_⟩)) ?_ | refine CallE.intro _ (fun _ => read _ [] (by simp)) ?_ | refine CallE.intro _ (fun _ => SCall.arg (by repeat (first | exact trivial | exact .inl rfl | exact .inr ⟨_, rfl, rfl⟩ | refine ⟨?_, ?_⟩)) (read _ [] (by simp))) ?_)
        (repeat (first | simp -dsimp only [st_cmd, sz_cmd, read_nil, RB, TB, keep12, tab12, ewOp, xop, xindexAddr, xindex, xslice, xconvert, xlen, drawStep, FreeW, SameW, ChangeW, limBytes, Nat.reduceBEq, Nat.reduceAdd, Nat.reduceEqDiff, Nat.reduceLT, Nat.reduceLeDiff, Nat.reduceMul, Nat.reduceSub, Int.reduceBEq, Int.reduceBNe, Int.reduceToNat, Int.reduceLT, Int.reduceLE, Int.reduceGT, Int.reduceGE, Int.reduceAdd, Int.reduceSub, Int.reduceNeg, Int.reduceEq, Int.toNat_zero, Int.toNat_one, reduceIte, reduceCtorEq, ne_eq, decide_true, decide_false] | ((with_reducible refine Need.intro ?_ ?_); (first | trivial | omega | (simp; done) | (simp; omega)))))
        have hw : IntKind.i64.wrap (6 + (c.text.length : Int)) = ((octetsC c).length : Int) := by rw [wrapI (by omega), hlen]; omega
        (repeat (first | simp -dsimp only [st_cmd, sz_cmd, hw, RB, TB, keep12, tab12, ewOp, xop, xindexAddr, xindex, xslice, xconvert, xlen, drawStep, FreeW, SameW, ChangeW, limBytes, Nat.reduceBEq, Nat.reduceAdd, Nat.reduceEqDiff, Nat.reduceLT, Nat.reduceLeDiff, Nat.reduceMul, Nat.reduceSub, Int.reduceBEq, Int.reduceBNe, Int.reduceToNat, Int.reduceLT, Int.reduceLE, Int.reduceGT, Int.reduceGE, Int.reduceAdd, Int.reduceSub, Int.reduceNeg, Int.reduceEq, Int.toNat_zero, Int.toNat_one, reduceIte, reduceCtorEq, ne_eq, decide_true, decide_false] | ((with_reducible refine Need.intro ?_ ?_); (first | trivial | omega | (simp; done) | (simp; omega)))))
        refine RetW.auto0 false _ (by first | rfl | exact (List.append_nil _).symm) ?_ ?_
        · (simp (maxDischargeDepth := 6) [LTB, HLt_set, ltL_take, ltL_drop, ltL_rep, upd, eset, hH, hHk, lt_vi, lt_str, lt_vb, lt_cmd, lt1_cmd] <;> omega)
        (try simp only [wk, wk1, wk0, RB, limBytes, Nat.reduceBEq, Nat.reduceAdd, Nat.reduceEqDiff, Nat.reduceLT, Nat.reduceLeDiff, Nat.reduceMul, Nat.reduceSub, Int.reduceBEq, Int.reduceBNe, Int.reduceToNat, Int.reduceLT, Int.reduceLE, Int.reduceGT, Int.reduceGE, Int.reduceAdd, Int.reduceSub, Int.reduceNeg, Int.reduceEq, Int.toNat_zero, Int.toNat_one, reduceIte, reduceCtorEq, ne_eq, decide_true, decide_false])
        (try (rw [List.take_of_length_le]; rotate_left 1; (· first | (simp; done) | (simp; omega) | omega)))
      · (repeat (first | simp -dsimp only [st_cmd, sz_cmd, RB, TB, keep12, tab12, ewOp, xop, xindexAddr, xindex, xslice, xconvert, xlen, drawStep, FreeW, SameW, ChangeW, limBytes, Nat.reduceBEq, Nat.reduceAdd, Nat.reduceEqDiff, Nat.reduceLT, Nat.reduceLeDiff, Nat.reduceMul, Nat.reduceSub, Int.reduceBEq, Int.reduceBNe, Int.reduceToNat, Int.reduceLT, Int.reduceLE, Int.reduceGT, Int.reduceGE, Int.reduceAdd, Int.reduceSub, Int.reduceNeg, Int.reduceEq, Int.toNat_zero, Int.toNat_one, reduceIte, reduceCtorEq, ne_eq, decide_true, decide_false] | ((with_reducible refine Need.intro ?_ ?_); (first | trivial | omega | (simp; done) | (simp; omega)))))
        (first | refine SCall.then (read _ ((octetsC c).take j) (by simp; omega)) ?_ | refine SCall.thenA (read _ ((octetsC c).take j) (by simp; omega)) (by repeat (first | exact trivial | exact .inl rfl | exact .inr ⟨_, rfl, rfl⟩ | refine ⟨?_, ?_⟩)) ?_ | refine CallE.intro _ (read _ ((octetsC c).take j) (by simp; omega)) ?_ | refine CallE.introA (read _ ((octetsC c).take j) (by simp; omega)) (by repeat (first | exact trivial | exact .inl rfl | exact .inr ⟨_, rfl, rfl⟩ | refine ⟨?_, ?_⟩)) ?_ | refine CallE.intro _ (fun _ => read _ ((octetsC c).take j) (by simp; omega)) ?_ | refine CallE.intro _ (fun _ => SCall.arg (by repeat (first | exact trivial | exact .inl rfl | exact .inr ⟨_, rfl, rfl⟩ | refine ⟨?_, ?_⟩)) (read _ ((octetsC c).take j) (by simp; omega))) ?_)
        (repeat (first | simp -dsimp only [st_cmd, sz_cmd, read_part hc0 (by omega) hj, RB, TB, keep12, tab12, ewOp, xop, xindexAddr, xindex, xslice, xconvert, xlen, drawStep, FreeW, SameW, ChangeW, limBytes, Nat.reduceBEq, Nat.reduceAdd, Nat.reduceEqDiff, Nat.reduceLT, Nat.reduceLeDiff, Nat.reduceMul, Nat.reduceSub, Int.reduceBEq, Int.reduceBNe, Int.reduceToNat, Int.reduceLT, Int.reduceLE, Int.reduceGT, Int.reduceGE, Int.reduceAdd, Int.reduceSub, Int.reduceNeg, Int.reduceEq, Int.toNat_zero, Int.toNat_one, reduceIte, reduceCtorEq, ne_eq, decide_true, decide_false] | ((with_reducible refine Need.intro ?_ ?_); (first | trivial | omega | (simp; done) | (simp; omega)))))
        have hw : IntKind.i64.wrap (6 + (c.text.length : Int)) = ((octetsC c).length : Int) := by rw [wrapI (by omega), hlen]; omega
        have hjz : ((j : Int) == 0) = false := by simpa using hj0
        (repeat (first | simp -dsimp only [st_cmd, sz_cmd, hw, hjz, RB, TB, keep12, tab12, ewOp, xop, xindexAddr, xindex, xslice, xconvert, xlen, drawStep, FreeW, SameW, ChangeW, limBytes, Nat.reduceBEq, Nat.reduceAdd, Nat.reduceEqDiff, Nat.reduceLT, Nat.reduceLeDiff, Nat.reduceMul, Nat.reduceSub, Int.reduceBEq, Int.reduceBNe, Int.reduceToNat, Int.reduceLT, Int.reduceLE, Int.reduceGT, Int.reduceGE, Int.reduceAdd, Int.reduceSub, Int.reduceNeg, Int.reduceEq, Int.toNat_zero, Int.toNat_one, reduceIte, reduceCtorEq, ne_eq, decide_true, decide_false] | ((with_reducible refine Need.intro ?_ ?_); (first | trivial | omega | (simp; done) | (simp; omega)))))
        refine RetW.auto0 false _ (by first | rfl | exact (List.append_nil _).symm) ?_ ?_
        · (simp (maxDischargeDepth := 6) [LTB, HLt_set, ltL_take, ltL_drop, ltL_rep, upd, eset, hH, hHk, lt_vi, lt_str, lt_vb, lt_cmd, lt1_cmd] <;> omega)
        (try simp only [wk, wk1, wk0, RB, limBytes, Nat.reduceBEq, Nat.reduceAdd, Nat.reduceEqDiff, Nat.reduceLT, Nat.reduceLeDiff, Nat.reduceMul, Nat.reduceSub, Int.reduceBEq, Int.reduceBNe, Int.reduceToNat, Int.reduceLT, Int.reduceLE, Int.reduceGT, Int.reduceGE, Int.reduceAdd, Int.reduceSub, Int.reduceNeg, Int.reduceEq, Int.toNat_zero, Int.toNat_one, reduceIte, reduceCtorEq, ne_eq, decide_true, decide_false])
        (try (rw [List.take_of_length_le]; rotate_left 1; (· first | (simp; done) | (simp; omega) | omega)))
    · have hc0 : checkC c ≠ 0 := by simpa using hc
      (repeat (first | simp -dsimp only [st_cmd, sz_cmd, hc, if_neg hc0, RB, TB, keep12, tab12, ewOp, xop, xindexAddr, xindex, xslice, xconvert, xlen, drawStep, FreeW, SameW, ChangeW, limBytes, Nat.reduceBEq, Nat.reduceAdd, Nat.reduceEqDiff, Nat.reduceLT, Nat.reduceLeDiff, Nat.reduceMul, Nat.reduceSub, Int.reduceBEq, Int.reduceBNe, Int.reduceToNat, Int.reduceLT, Int.reduceLE, Int.reduceGT, Int.reduceGE, Int.reduceAdd, Int.reduceSub, Int.reduceNeg, Int.reduceEq, Int.toNat_zero, Int.toNat_one, reduceIte, reduceCtorEq, ne_eq, decide_true, decide_false] | ((with_reducible refine Need.intro ?_ ?_); (first | trivial | omega | (simp; done) | (simp; omega)))))
      refine RetW.auto0 false _ (by first | rfl | exact (List.append_nil _).symm) ?_ ?_
      · (simp (maxDischargeDepth := 6) [LTB, HLt_set, ltL_take, ltL_drop, ltL_rep, upd, eset, hH, hHk, lt_vi, lt_str, lt_vb, lt_cmd, lt1_cmd] <;> omega)
      (try simp only [wk, wk1, wk0, RB, limBytes, Nat.reduceBEq, Nat.reduceAdd, Nat.reduceEqDiff, Nat.reduceLT, Nat.reduceLeDiff, Nat.reduceMul, Nat.reduceSub, Int.reduceBEq, Int.reduceBNe, Int.reduceToNat, Int.reduceLT, Int.reduceLE, Int.reduceGT, Int.reduceGE, Int.reduceAdd, Int.reduceSub, Int.reduceNeg, Int.reduceEq, Int.toNat_zero, Int.toNat_one, reduceIte, reduceCtorEq, ne_eq, decide_true, decide_false])
      (try (rw [List.take_of_length_le]; rotate_left 1; (· first | (simp; done) | (simp; omega) | omega)))
open Go.ChangeShapes Go.WideShapes Go.ChangeAt Go.RowKit in
theorem codeChecks_lifted (os : Os) (started : os.Started) (H : Type) (enc : TypeId × Value → H) (F : Stop.Interp) :
    ReturnsInHanded {} Try.checked os 12 .any ((Rows.OpenSpec.upto Rows.codeChecksSpec).pre6 enc Try.prog Try.f12 Rows.codeChecksUptoRow.domain false) (((Rows.OpenSpec.upto Rows.codeChecksSpec).at F).post enc Try.prog Try.f12 false true false false) := by
  refine returnsInHanded_of_cond (C := Try.checked) (s := Rows.OpenSpec.upto Rows.codeChecksSpec) (k := Rows.uptoSmall) rfl own_none started (by kernel_rfl) Try.func12
    (OpenSpec.witness (enc := enc) (C := Try.checked) (s := Rows.OpenSpec.upto Rows.codeChecksSpec) (k := Rows.uptoSmall) rfl false ⟨#[], #[.agg #[.int .i64 0, .int .i64 0, .int .i64 0, .int .i64 0, .string ⟨#[]⟩], .int .i64 0, .int .i64 0], []⟩ 8 (by kernel_rfl) (by kernel_rfl) (by kernel_rfl)
      (x := ([.agg [.lit (.int .i64 0), .lit (.int .i64 0), .lit (.int .i64 0), .lit (.int .i64 0), .lit (.string [])], .lit (.int .i64 0), .lit (.int .i64 0)], [], [])) (by kernel_rfl) rfl (by kernel_rfl)) ?_
  intro W base args ds gs before hval0 hW _ hk _
  have hval : ∀ (j : Nat) t v, Try.f12.params[j]? = some t → args[j]? = some v → Value.okWide Try.prog W .any base t v := hval0
  obtain ⟨p0_, q0_, hA, _⟩ := id hW
  have hA0 : DataW.TrodAll enc Try.prog W 0 (fun _ => true) true Try.f12.params.toList args.toList ds p0_ := hA
  rw [Try.params12] at hA0 hval
  obtain ⟨v0, v1, v2, d0, d1, d2, p0, p1, p2, rfl, rfl, rfl, h0, h1, h2⟩ := trodAll_three hA0
  obtain ⟨c, hp_c, hz_c, hv_c⟩ := dec_cmd.value h0 (fun _ => okAgg_agg (ok_struct Try.underlying58 (hval 0 58 v0 rfl rfl)))
  obtain ⟨many, hp_many, hz_many, hv_many⟩ := (Dec.int Try.underlying3).value h1 (fun _ => okAgg_leaf (by simp) (ok_int Try.underlying3 (hval 1 3 v1 rfl rfl)))
  obtain ⟨at_, hp_at_, hz_at_, hv_at_⟩ := (Dec.int Try.underlying3).value h2 (fun _ => okAgg_leaf (by simp) (ok_int Try.underlying3 (hval 2 3 v2 rfl rfl)))
  have hb : Rows.uptoBulkAll ([d0, d1, d2] ++ gs) ≤ 1048576 := of_decide_eq_true hk
  rw [← bulkAll_eq] at hb
  simp only [List.cons_append, bulkAll] at hb
  exact row_contract (P := Try.prog) (s := Rows.codeChecksSpec) (vs := [cmdV c, .int .i64 many, .int .i64 at_]) laid_out (by kernel_rfl) rfl Try.call12 rfl Try.underlying4 hW ⟨rfl, rfl, rfl⟩ ⟨hv_c, hv_many, hv_at_, trivial⟩ (codeChecks [] c many at_)
theorem codeChecks_upto : Rows.CodeChecksUptoSaid :=
  OpenClaim.holds_of_cond 12 Try.f12 rfl rfl rfl rfl rfl rfl rfl ⟨rfl, rfl, rfl, rfl, rfl⟩ rfl rfl rfl rfl rfl (by kernel_rfl) Try.func12 (by kernel_rfl)
    (of_decide_eq_true (by kernel_rfl)) (by unfold Func.isWrapper; first | (rw [if_neg (by decide +kernel)]; exact ⟨rfl, rfl⟩) | (rw [if_pos (by decide +kernel)]; kernel_rfl))
    (fun os started H enc _ F => codeChecks_lifted os started H enc F)
end Go.Proofs.Ytadhjfdmfdgppaa

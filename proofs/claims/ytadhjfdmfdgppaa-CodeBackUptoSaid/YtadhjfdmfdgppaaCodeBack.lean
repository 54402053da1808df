/- CodeBack, where what it reads is of bulk at most 1048576: the law returns true and the arguments read as they did. -/
import Derived.Test.YtadhjfdmfdgppaaCode2
import Derived.Test.YtadhjfdmfdgppaaRows
import Derived.ProofKit
import Derived.JoinedCond
set_option linter.unusedSimpArgs false
set_option linter.unusedVariables false
set_option maxRecDepth 100000
set_option maxHeartbeats 1000000
namespace Go.Proofs.Ytadhjfdmfdgppaa
open Go Go.EL

mutual
theorem bulk_eq {H : Type} : ∀ d : DataW H, bulk d = Rows.uptoBulk d
  | .lit l => by cases l <;> simp [bulk, Rows.uptoBulk]
  | .nil => by simp [bulk, Rows.uptoBulk]
  | .ptr d => by simp only [bulk, Rows.uptoBulk, bulk_eq d]
  | .slice a b => by simp only [bulk, Rows.uptoBulk, bulkAll_eq a, bulkAll_eq b]
  | .agg ps => by simp only [bulk, Rows.uptoBulk, bulkAll_eq ps]
  | .iface t d => by simp only [bulk, Rows.uptoBulk, bulk_eq d]
  | .map es => by simp only [bulk, Rows.uptoBulk, bulkEntries_eq es]
  | .held _ => by simp [bulk, Rows.uptoBulk]
theorem bulkAll_eq {H : Type} : ∀ l : List (DataW H), bulkAll l = Rows.uptoBulkAll l
  | [] => by simp [bulkAll, Rows.uptoBulkAll]
  | d :: r => by simp only [bulkAll, Rows.uptoBulkAll, bulk_eq d, bulkAll_eq r]
theorem bulkEntries_eq {H : Type} : ∀ l : List (Lit × DataW H), bulkEntries l = Rows.uptoBulkEntries l
  | [] => by simp [bulkEntries, Rows.uptoBulkEntries]
  | d :: r => by simp only [bulkEntries, Rows.uptoBulkEntries, bulkEntry_eq d, bulkEntries_eq r]
theorem bulkEntry_eq {H : Type} : ∀ x : Lit × DataW H, bulkEntry x = Rows.uptoBulkEntry x
  | (k, d) => by cases k <;> simp [bulkEntry, Rows.uptoBulkEntry, bulk_eq d]
end
theorem le_sum {α : Type} (g : α → Nat) : ∀ {l : List α} {x : α}, x ∈ l → g x ≤ (l.map g).sum
  | y :: l, x, h => by
    simp only [List.map_cons, List.sum_cons]
    rcases List.mem_cons.1 h with rfl | h
    · omega
    · have := le_sum g h; omega
theorem len_sum {α : Type} (g : α → Nat) (hg : ∀ x, 1 ≤ g x) : ∀ (l : List α), l.length ≤ (l.map g).sum
  | [] => by simp
  | y :: l => by
    have := len_sum g hg l
    have := hg y
    simp only [List.map_cons, List.sum_cons, List.length_cons]
    omega
theorem own_none : ownKnob Try.prog.godebug = none := by kernel_rfl
theorem laid_out : laidOutB Try.prog = true := by kernel_rfl

theorem dec_cmd : Dec Try.prog 58 cmdV (fun _ => True) (fun x => x.text.length + 1) := by
  refine Dec.of (Dec.struct Try.underlying58 (DecFs.cons rfl (next := 1) (by kernel_rfl) (Dec.int Try.underlying3) (DecFs.cons rfl (next := 2) (by kernel_rfl) (Dec.int Try.underlying3) (DecFs.cons rfl (next := 3) (by kernel_rfl) (Dec.int Try.underlying3)
    (DecFs.cons rfl (next := 4) (by kernel_rfl) (Dec.int Try.underlying3) (DecFs.cons rfl (next := 5) (by kernel_rfl) (Dec.str Try.underlying9) DecFs.nil)))))) (fun x => ⟨x.1, x.2.1, x.2.2.1, x.2.2.2.1, x.2.2.2.2.1⟩) (fun x _ => ⟨rfl, trivial, by simp only; omega⟩)
theorem dec_cmds : Dec Try.prog 37 (fun l : List Cmd => V.slice (l.map cmdV)) (fun _ => True) (fun l => l.length) :=
  Dec.of (Dec.slice Try.underlying37 (of_decide_eq_true (by kernel_rfl)) dec_cmd) id (fun x _ => ⟨rfl, trivial, by have := len_sum (fun x : Cmd => x.text.length + 1) (fun x => by omega) x; simp only [id]; omega⟩)
theorem dec_bytes : Dec Try.prog 38 (fun l : List UInt8 => V.slice (l.map vb)) (fun _ => True) (fun l => l.length) := by
  have h2 : Dec Try.prog 5 vb (fun _ => True) (fun _ => 1) := by
    refine Dec.of (Dec.int Try.underlying5) (fun n : Int => UInt8.ofNat n.toNat) (fun n hn => ⟨?_, trivial, Nat.le_refl _⟩)
    have hn : 0 ≤ n ∧ n ≤ 255 := by have := hn; simp [Lit.wf] at this; have e1 : IntKind.u8.min = 0 := rfl; have e2 : IntKind.u8.max = 255 := rfl; omega
    unfold vb
    congr 1
    have : (UInt8.ofNat n.toNat).toNat = n.toNat := by simp; omega
    omega
  exact Dec.of (Dec.slice Try.underlying38 (of_decide_eq_true (by kernel_rfl)) h2) id (fun x _ => ⟨rfl, trivial, by have := len_sum (fun x : UInt8 => 1) (fun x => by omega) x; simp only [id]; omega⟩)

theorem byt_id {n : Int} (h : 0 ≤ n ∧ n ≤ 255) : ((byt n).toNat : Int) = n := by
  unfold byt
  have e : n % 256 = n := by omega
  rw [e]
  have : n.toNat < 256 := by omega
  simp
  omega
theorem byt_nat (k : Nat) (h : k < 256) : byt (k : Int) = UInt8.ofNat k := by
  unfold byt
  have e : ((k : Int) % 256).toNat = k := by omega
  rw [e]
theorem zero_all {l : List Cmd} (h : (putC l).2 = 0) : (putC l).1 = l.flatMap octetsC ∧ (∀ c ∈ l, checkC c = 0) ∧ l.length ≤ 256 := by
  unfold putC at h ⊢
  split at h
  · simp at h
  · rename_i hl
    rw [if_neg hl]
    split at h
    · rename_i x hx
      have := List.find?_some hx
      simp only at h
      simp [h] at this
    · rename_i hx
      refine ⟨rfl, fun c hc => ?_, by omega⟩
      have := List.find?_eq_none.1 hx c hc
      simpa using this
theorem nonzero {l : List Cmd} (h : (putC l).2 ≠ 0) : (putC l).1 = [] := by
  unfold putC at h ⊢
  split at h
  · rename_i hl; rw [if_pos hl]
  · rename_i hl
    rw [if_neg hl]
    split at h
    · rfl
    · simp at h
theorem checkC_zero {c : Cmd} : checkC c = 0 ↔ (1 ≤ c.op ∧ c.op ≤ 9) ∧ (0 ≤ c.a ∧ c.a ≤ 255) ∧ (0 ≤ c.b ∧ c.b ≤ 255) ∧ (0 ≤ c.c ∧ c.c ≤ 255) ∧ c.text.length ≤ 4096 := by
  unfold checkC badB
  by_cases h1 : c.op < 1 ∨ c.op > 9
  · rw [if_pos h1]; simp; omega
  · rw [if_neg h1]
    simp only [Bool.or_eq_true, decide_eq_true_eq]
    by_cases h2 : (c.a < 0 ∨ c.a > 255) ∨ (c.b < 0 ∨ c.b > 255) ∨ c.c < 0 ∨ c.c > 255
    · rw [if_pos h2]; simp; omega
    · rw [if_neg h2]
      by_cases h3 : (c.text.length : Int) > 4096
      · rw [if_pos h3]; simp; omega
      · rw [if_neg h3]; simp; omega
/-- the octets of one command, and what is behind them, come back -/
theorem next_octets {c : Cmd} (h : checkC c = 0) (rest : List UInt8) : nextC (octetsC c ++ rest) = (c, rest, true) := by
  obtain ⟨h1, h2, h3, h4, h5⟩ := checkC_zero.1 h
  have hlen : (octetsC c ++ rest).length = c.text.length + 6 + rest.length := by rw [List.length_append, octetsC_len]
  have hfd : Int.fdiv (c.text.length : Int) 256 = ((c.text.length / 256 : Nat) : Int) := by
    rw [Int.fdiv_eq_ediv_of_nonneg _ (by omega)]; rfl
  have hnum : numC (octetsC c ++ rest) = c.text.length := by
    simp only [numC, octetsC, List.cons_append, List.getD_cons_succ, List.getD_cons_zero]
    rw [hfd, byt_nat _ (by omega)]
    unfold byt
    have : ((c.text.length : Int) % 256).toNat = c.text.length % 256 := by omega
    rw [this]
    simp
    omega
  unfold nextC
  rw [if_neg (by omega), hnum, if_neg (by omega)]
  have ht : ((octetsC c ++ rest).take (6 + c.text.length)).drop 6 = c.text := by
    have e : 6 + c.text.length = (octetsC c).length := by rw [octetsC_len]; omega
    rw [e, List.take_left]
    simp [octetsC]
  have hd : (octetsC c ++ rest).drop (6 + c.text.length) = rest := by
    have e : 6 + c.text.length = (octetsC c).length := by rw [octetsC_len]; omega
    rw [e, List.drop_left]
  have hc : (⟨u8 (octetsC c ++ rest) 0, u8 (octetsC c ++ rest) 1, u8 (octetsC c ++ rest) 2, u8 (octetsC c ++ rest) 3, ((octetsC c ++ rest).take (6 + c.text.length)).drop 6⟩ : Cmd) = c := by
    rw [ht]
    have e0 : u8 (octetsC c ++ rest) 0 = c.op := byt_id (by omega)
    have e1 : u8 (octetsC c ++ rest) 1 = c.a := byt_id h2
    have e2 : u8 (octetsC c ++ rest) 2 = c.b := byt_id h3
    have e3 : u8 (octetsC c ++ rest) 3 = c.c := byt_id h4
    rw [e0, e1, e2, e3]
  simp only [hc, hd, h]
  rfl
theorem octets_ne (c : Cmd) (r : List UInt8) : octetsC c ++ r ≠ [] := by simp [octetsC]
theorem read_put : ∀ {l : List Cmd}, (∀ c ∈ l, checkC c = 0) → readL (l.flatMap octetsC) = some l
  | [], _ => readL_nil
  | c :: l, h => by
    have hn := next_octets (h c (by simp)) (l.flatMap octetsC)
    rw [List.flatMap_cons, readL_ok (octets_ne _ _) (by rw [hn]), hn, read_put fun c hc => h c (by simp [hc])]
    rfl
theorem u8_byte (b : List UInt8) (i : Nat) : byt (u8 b i) = b.getD i 0 := by
  unfold u8
  rw [byt_nat _ (UInt8.toNat_lt _)]
  simp
theorem six {b : List UInt8} (h : 6 ≤ b.length) : b = b.getD 0 0 :: b.getD 1 0 :: b.getD 2 0 :: b.getD 3 0 :: b.getD 4 0 :: b.getD 5 0 :: b.drop 6 := by
  match b, h with
  | a0 :: a1 :: a2 :: a3 :: a4 :: a5 :: r, _ => rfl
/-- what next tells is the octets' -/
theorem next_back {b : List UInt8} (h : (nextC b).2.2 = true) : checkC (nextC b).1 = 0 ∧ octetsC (nextC b).1 ++ (nextC b).2.1 = b := by
  have h6 : 6 ≤ b.length := by have := nextC_shrinks h; omega
  unfold nextC at h ⊢
  rw [if_neg (by omega)] at h ⊢
  split at h
  · simp at h
  rename_i h7
  rw [if_neg h7]
  simp only at h ⊢
  refine ⟨by simpa using h, ?_⟩
  have hl : ((b.take (6 + numC b)).drop 6).length = numC b := by simp; omega
  have b4 := (b.getD 4 0).toNat_lt
  have b5 := (b.getD 5 0).toNat_lt
  have e4 : byt (Int.fdiv (numC b : Int) 256) = b.getD 4 0 := by
    rw [Int.fdiv_eq_ediv_of_nonneg _ (by omega)]
    rw [show ((numC b : Int) / 256) = ((numC b / 256 : Nat) : Int) by omega, byt_nat _ (by unfold numC; omega)]
    rw [show numC b / 256 = (b.getD 4 0).toNat by unfold numC; omega]
    simp
  have e5 : byt (numC b : Int) = b.getD 5 0 := by
    unfold byt
    rw [show ((numC b : Int) % 256).toNat = (b.getD 5 0).toNat by unfold numC; omega]
    simp
  simp only [octetsC, hl, u8_byte, e4, e5]
  have hd : (b.take (6 + numC b)).drop 6 ++ b.drop (6 + numC b) = b.drop 6 := by
    have := List.take_append_drop (numC b) (b.drop 6)
    rw [List.drop_drop] at this
    rw [List.drop_take, show 6 + numC b - 6 = numC b by omega]
    exact this
  simp only [List.cons_append, List.nil_append, List.append_assoc]
  rw [hd]
  exact (six h6).symm
theorem put_read : ∀ (n : Nat) {b : List UInt8} {l : List Cmd}, b.length ≤ n → readL b = some l → l.flatMap octetsC = b ∧ ∀ c ∈ l, checkC c = 0
  | n, b, l, hn, h => by
    by_cases hb : b = []
    · subst hb
      rw [readL_nil] at h
      injection h with h
      subst h
      simp
    · cases h2 : (nextC b).2.2 with
      | false => rw [readL_bad hb h2] at h; cases h
      | true =>
        rw [readL_ok hb h2] at h
        obtain ⟨m, hm, rfl⟩ := Option.map_eq_some_iff.1 h
        have hs := nextC_shrinks h2
        obtain ⟨k1, k2⟩ := next_back h2
        match n, hn with
        | 0, hn => omega
        | n + 1, hn =>
          obtain ⟨i1, i2⟩ := put_read n (by omega) hm
          refine ⟨by rw [List.flatMap_cons, i1, k2], fun c hc => ?_⟩
          rcases List.mem_cons.1 hc with rfl | hc
          · exact k1
          · exact i2 c hc
theorem read_zero {b : List UInt8} (h : (readC b).2 = 0) : (putC (readC b).1).2 = 0 ∧ (putC (readC b).1).1 = b := by
  unfold readC at h ⊢
  split at h
  · simp at h
  · rename_i l hl
    split at h
    · simp at h
    · rename_i h256
      rw [if_neg h256]
      obtain ⟨k1, k2⟩ := put_read _ (Nat.le_refl _) hl
      have := putC_good (l := l) (by omega) k2
      rw [this]
      exact ⟨rfl, k1⟩
theorem read_nonzero {b : List UInt8} (h : (readC b).2 ≠ 0) : (readC b).1 = [] := by
  unfold readC at h ⊢
  split at h
  · rfl
  · split at h
    · rename_i h256; rw [if_pos h256]
    · simp at h
theorem put_zero {l : List Cmd} (h : (putC l).2 = 0) : readC (putC l).1 = (l, 0) := by
  obtain ⟨k1, k2, k3⟩ := zero_all h
  rw [k1]
  unfold readC
  rw [read_put k2]
  simp only
  rw [if_neg (by omega)]
theorem put_len {l : List Cmd} (h : (putC l).2 = 0) : (putC l).1.length ≤ 1050112 := by
  obtain ⟨k1, k2, k3⟩ := zero_all h
  have := flat_len k2
  rw [k1]
  omega
theorem codeBack (H : List Ob) (l : List Cmd) (b : List UInt8) (hb : b.length ≤ 1048576) : SCall Try.prog 11 [.slice (l.map cmdV), .slice (b.map vb)] H (fun r H' => r = .bool true) := by
  refine SCall.of_good fun hH => ?_
  have hHk := HLt.add hH
  refine SCall.of_code Tok Try.func11 rfl Try.call11 (n := 62) rfl (by simp) (rs := [.tmp 4]) rfl ?_
  refine EW.of_c Tok mixed (own := false) keep11 tab11 (by kernel_rfl) ?_
  (repeat (first | simp -dsimp only [st_cmd, sz_cmd, RB, TB, keep11, tab11, ewOp, xop, xindexAddr, xindex, xslice, xconvert, xlen, drawStep, FreeW, SameW, ChangeW, limBytes, Nat.reduceBEq, Nat.reduceAdd, Nat.reduceEqDiff, Nat.reduceLT, Nat.reduceLeDiff, Nat.reduceMul, Nat.reduceSub, Int.reduceBEq, Int.reduceBNe, Int.reduceToNat, Int.reduceLT, Int.reduceLE, Int.reduceGT, Int.reduceGE, Int.reduceAdd, Int.reduceSub, Int.reduceNeg, Int.reduceEq, Int.toNat_zero, Int.toNat_one, reduceIte, reduceCtorEq, ne_eq, decide_true, decide_false] | ((with_reducible refine Need.intro ?_ ?_); (first | trivial | omega | (simp; done) | (simp; omega)))))
  (first | refine SCall.then (alive27 _) ?_ | refine SCall.thenA (alive27 _) (by repeat (first | exact trivial | exact .inl rfl | exact .inr ⟨_, rfl, rfl⟩ | refine ⟨?_, ?_⟩)) ?_ | refine CallE.intro _ (alive27 _) ?_ | refine CallE.introA (alive27 _) (by repeat (first | exact trivial | exact .inl rfl | exact .inr ⟨_, rfl, rfl⟩ | refine ⟨?_, ?_⟩)) ?_ | refine CallE.intro _ (fun _ => alive27 _) ?_ | refine CallE.intro _ (fun _ => SCall.arg (by repeat (first | exact trivial | exact .inl rfl | exact .inr ⟨_, rfl, rfl⟩ | refine ⟨?_, ?_⟩)) (alive27 _)) ?_)
  (repeat (first | simp -dsimp only [st_cmd, sz_cmd, RB, TB, keep11, tab11, ewOp, xop, xindexAddr, xindex, xslice, xconvert, xlen, drawStep, FreeW, SameW, ChangeW, limBytes, Nat.reduceBEq, Nat.reduceAdd, Nat.reduceEqDiff, Nat.reduceLT, Nat.reduceLeDiff, Nat.reduceMul, Nat.reduceSub, Int.reduceBEq, Int.reduceBNe, Int.reduceToNat, Int.reduceLT, Int.reduceLE, Int.reduceGT, Int.reduceGE, Int.reduceAdd, Int.reduceSub, Int.reduceNeg, Int.reduceEq, Int.toNat_zero, Int.toNat_one, reduceIte, reduceCtorEq, ne_eq, decide_true, decide_false] | ((with_reducible refine Need.intro ?_ ?_); (first | trivial | omega | (simp; done) | (simp; omega)))))
  (first | refine SCall.then (put _ l) ?_ | refine SCall.thenA (put _ l) (by repeat (first | exact trivial | exact .inl rfl | exact .inr ⟨_, rfl, rfl⟩ | refine ⟨?_, ?_⟩)) ?_ | refine CallE.intro _ (put _ l) ?_ | refine CallE.introA (put _ l) (by repeat (first | exact trivial | exact .inl rfl | exact .inr ⟨_, rfl, rfl⟩ | refine ⟨?_, ?_⟩)) ?_ | refine CallE.intro _ (fun _ => put _ l) ?_ | refine CallE.intro _ (fun _ => SCall.arg (by repeat (first | exact trivial | exact .inl rfl | exact .inr ⟨_, rfl, rfl⟩ | refine ⟨?_, ?_⟩)) (put _ l)) ?_)
  (repeat (first | simp -dsimp only [st_cmd, sz_cmd, RB, TB, keep11, tab11, ewOp, xop, xindexAddr, xindex, xslice, xconvert, xlen, drawStep, FreeW, SameW, ChangeW, limBytes, Nat.reduceBEq, Nat.reduceAdd, Nat.reduceEqDiff, Nat.reduceLT, Nat.reduceLeDiff, Nat.reduceMul, Nat.reduceSub, Int.reduceBEq, Int.reduceBNe, Int.reduceToNat, Int.reduceLT, Int.reduceLE, Int.reduceGT, Int.reduceGE, Int.reduceAdd, Int.reduceSub, Int.reduceNeg, Int.reduceEq, Int.toNat_zero, Int.toNat_one, reduceIte, reduceCtorEq, ne_eq, decide_true, decide_false] | ((with_reducible refine Need.intro ?_ ?_); (first | trivial | omega | (simp; done) | (simp; omega)))))
  refine IfW.intro (fun h => ?_) (fun h => ?_)
  · have h0 : (putC l).2 = 0 := by simpa using h
    have hl := put_len h0
    (repeat (first | simp -dsimp only [st_cmd, sz_cmd, h, RB, TB, keep11, tab11, ewOp, xop, xindexAddr, xindex, xslice, xconvert, xlen, drawStep, FreeW, SameW, ChangeW, limBytes, Nat.reduceBEq, Nat.reduceAdd, Nat.reduceEqDiff, Nat.reduceLT, Nat.reduceLeDiff, Nat.reduceMul, Nat.reduceSub, Int.reduceBEq, Int.reduceBNe, Int.reduceToNat, Int.reduceLT, Int.reduceLE, Int.reduceGT, Int.reduceGE, Int.reduceAdd, Int.reduceSub, Int.reduceNeg, Int.reduceEq, Int.toNat_zero, Int.toNat_one, reduceIte, reduceCtorEq, ne_eq, decide_true, decide_false] | ((with_reducible refine Need.intro ?_ ?_); (first | trivial | omega | (simp; done) | (simp; omega)))))
    (first | refine SCall.then (read _ (putC l).1 (by omega)) ?_ | refine SCall.thenA (read _ (putC l).1 (by omega)) (by repeat (first | exact trivial | exact .inl rfl | exact .inr ⟨_, rfl, rfl⟩ | refine ⟨?_, ?_⟩)) ?_ | refine CallE.intro _ (read _ (putC l).1 (by omega)) ?_ | refine CallE.introA (read _ (putC l).1 (by omega)) (by repeat (first | exact trivial | exact .inl rfl | exact .inr ⟨_, rfl, rfl⟩ | refine ⟨?_, ?_⟩)) ?_ | refine CallE.intro _ (fun _ => read _ (putC l).1 (by omega)) ?_ | refine CallE.intro _ (fun _ => SCall.arg (by repeat (first | exact trivial | exact .inl rfl | exact .inr ⟨_, rfl, rfl⟩ | refine ⟨?_, ?_⟩)) (read _ (putC l).1 (by omega))) ?_)
    (repeat (first | simp -dsimp only [st_cmd, sz_cmd, put_zero h0, RB, TB, keep11, tab11, ewOp, xop, xindexAddr, xindex, xslice, xconvert, xlen, drawStep, FreeW, SameW, ChangeW, limBytes, Nat.reduceBEq, Nat.reduceAdd, Nat.reduceEqDiff, Nat.reduceLT, Nat.reduceLeDiff, Nat.reduceMul, Nat.reduceSub, Int.reduceBEq, Int.reduceBNe, Int.reduceToNat, Int.reduceLT, Int.reduceLE, Int.reduceGT, Int.reduceGE, Int.reduceAdd, Int.reduceSub, Int.reduceNeg, Int.reduceEq, Int.toNat_zero, Int.toNat_one, reduceIte, reduceCtorEq, ne_eq, decide_true, decide_false] | ((with_reducible refine Need.intro ?_ ?_); (first | trivial | omega | (simp; done) | (simp; omega)))))
    (first | refine SCall.then (same27 _ l l) ?_ | refine SCall.thenA (same27 _ l l) (by repeat (first | exact trivial | exact .inl rfl | exact .inr ⟨_, rfl, rfl⟩ | refine ⟨?_, ?_⟩)) ?_ | refine CallE.intro _ (same27 _ l l) ?_ | refine CallE.introA (same27 _ l l) (by repeat (first | exact trivial | exact .inl rfl | exact .inr ⟨_, rfl, rfl⟩ | refine ⟨?_, ?_⟩)) ?_ | refine CallE.intro _ (fun _ => same27 _ l l) ?_ | refine CallE.intro _ (fun _ => SCall.arg (by repeat (first | exact trivial | exact .inl rfl | exact .inr ⟨_, rfl, rfl⟩ | refine ⟨?_, ?_⟩)) (same27 _ l l)) ?_)
    (repeat (first | simp -dsimp only [st_cmd, sz_cmd, show decide (l = l) = true from decide_eq_true rfl, RB, TB, keep11, tab11, ewOp, xop, xindexAddr, xindex, xslice, xconvert, xlen, drawStep, FreeW, SameW, ChangeW, limBytes, Nat.reduceBEq, Nat.reduceAdd, Nat.reduceEqDiff, Nat.reduceLT, Nat.reduceLeDiff, Nat.reduceMul, Nat.reduceSub, Int.reduceBEq, Int.reduceBNe, Int.reduceToNat, Int.reduceLT, Int.reduceLE, Int.reduceGT, Int.reduceGE, Int.reduceAdd, Int.reduceSub, Int.reduceNeg, Int.reduceEq, Int.toNat_zero, Int.toNat_one, reduceIte, reduceCtorEq, ne_eq, decide_true, decide_false] | ((with_reducible refine Need.intro ?_ ?_); (first | trivial | omega | (simp; done) | (simp; omega)))))
    (first | refine SCall.then (read _ b (by omega)) ?_ | refine SCall.thenA (read _ b (by omega)) (by repeat (first | exact trivial | exact .inl rfl | exact .inr ⟨_, rfl, rfl⟩ | refine ⟨?_, ?_⟩)) ?_ | refine CallE.intro _ (read _ b (by omega)) ?_ | refine CallE.introA (read _ b (by omega)) (by repeat (first | exact trivial | exact .inl rfl | exact .inr ⟨_, rfl, rfl⟩ | refine ⟨?_, ?_⟩)) ?_ | refine CallE.intro _ (fun _ => read _ b (by omega)) ?_ | refine CallE.intro _ (fun _ => SCall.arg (by repeat (first | exact trivial | exact .inl rfl | exact .inr ⟨_, rfl, rfl⟩ | refine ⟨?_, ?_⟩)) (read _ b (by omega))) ?_)
    (repeat (first | simp -dsimp only [st_cmd, sz_cmd, RB, TB, keep11, tab11, ewOp, xop, xindexAddr, xindex, xslice, xconvert, xlen, drawStep, FreeW, SameW, ChangeW, limBytes, Nat.reduceBEq, Nat.reduceAdd, Nat.reduceEqDiff, Nat.reduceLT, Nat.reduceLeDiff, Nat.reduceMul, Nat.reduceSub, Int.reduceBEq, Int.reduceBNe, Int.reduceToNat, Int.reduceLT, Int.reduceLE, Int.reduceGT, Int.reduceGE, Int.reduceAdd, Int.reduceSub, Int.reduceNeg, Int.reduceEq, Int.toNat_zero, Int.toNat_one, reduceIte, reduceCtorEq, ne_eq, decide_true, decide_false] | ((with_reducible refine Need.intro ?_ ?_); (first | trivial | omega | (simp; done) | (simp; omega)))))
    refine IfW.intro (fun h2 => ?_) (fun h2 => ?_)
    · have h20 : (readC b).2 = 0 := by simpa using h2
      obtain ⟨k1, k2⟩ := read_zero h20
      (repeat (first | simp -dsimp only [st_cmd, sz_cmd, h2, RB, TB, keep11, tab11, ewOp, xop, xindexAddr, xindex, xslice, xconvert, xlen, drawStep, FreeW, SameW, ChangeW, limBytes, Nat.reduceBEq, Nat.reduceAdd, Nat.reduceEqDiff, Nat.reduceLT, Nat.reduceLeDiff, Nat.reduceMul, Nat.reduceSub, Int.reduceBEq, Int.reduceBNe, Int.reduceToNat, Int.reduceLT, Int.reduceLE, Int.reduceGT, Int.reduceGE, Int.reduceAdd, Int.reduceSub, Int.reduceNeg, Int.reduceEq, Int.toNat_zero, Int.toNat_one, reduceIte, reduceCtorEq, ne_eq, decide_true, decide_false] | ((with_reducible refine Need.intro ?_ ?_); (first | trivial | omega | (simp; done) | (simp; omega)))))
      (first | refine SCall.then (put _ (readC b).1) ?_ | refine SCall.thenA (put _ (readC b).1) (by repeat (first | exact trivial | exact .inl rfl | exact .inr ⟨_, rfl, rfl⟩ | refine ⟨?_, ?_⟩)) ?_ | refine CallE.intro _ (put _ (readC b).1) ?_ | refine CallE.introA (put _ (readC b).1) (by repeat (first | exact trivial | exact .inl rfl | exact .inr ⟨_, rfl, rfl⟩ | refine ⟨?_, ?_⟩)) ?_ | refine CallE.intro _ (fun _ => put _ (readC b).1) ?_ | refine CallE.intro _ (fun _ => SCall.arg (by repeat (first | exact trivial | exact .inl rfl | exact .inr ⟨_, rfl, rfl⟩ | refine ⟨?_, ?_⟩)) (put _ (readC b).1)) ?_)
      (repeat (first | simp -dsimp only [st_cmd, sz_cmd, k1, k2, RB, TB, keep11, tab11, ewOp, xop, xindexAddr, xindex, xslice, xconvert, xlen, drawStep, FreeW, SameW, ChangeW, limBytes, Nat.reduceBEq, Nat.reduceAdd, Nat.reduceEqDiff, Nat.reduceLT, Nat.reduceLeDiff, Nat.reduceMul, Nat.reduceSub, Int.reduceBEq, Int.reduceBNe, Int.reduceToNat, Int.reduceLT, Int.reduceLE, Int.reduceGT, Int.reduceGE, Int.reduceAdd, Int.reduceSub, Int.reduceNeg, Int.reduceEq, Int.toNat_zero, Int.toNat_one, reduceIte, reduceCtorEq, ne_eq, decide_true, decide_false] | ((with_reducible refine Need.intro ?_ ?_); (first | trivial | omega | (simp; done) | (simp; omega)))))
      have hbl : b.length ≤ 9223372036854775807 := by omega
      (repeat (first | simp -dsimp only [st_cmd, sz_cmd, hbl, RB, TB, keep11, tab11, ewOp, xop, xindexAddr, xindex, xslice, xconvert, xlen, drawStep, FreeW, SameW, ChangeW, limBytes, Nat.reduceBEq, Nat.reduceAdd, Nat.reduceEqDiff, Nat.reduceLT, Nat.reduceLeDiff, Nat.reduceMul, Nat.reduceSub, Int.reduceBEq, Int.reduceBNe, Int.reduceToNat, Int.reduceLT, Int.reduceLE, Int.reduceGT, Int.reduceGE, Int.reduceAdd, Int.reduceSub, Int.reduceNeg, Int.reduceEq, Int.toNat_zero, Int.toNat_one, reduceIte, reduceCtorEq, ne_eq, decide_true, decide_false] | ((with_reducible refine Need.intro ?_ ?_); (first | trivial | omega | (simp; done) | (simp; omega)))))
      refine RetW.auto0 false _ (by first | rfl | exact (List.append_nil _).symm) ?_ ?_
      · (simp (maxDischargeDepth := 6) [LTB, HLt_set, ltL_take, ltL_drop, ltL_rep, upd, eset, *, lt_vi, lt_str, lt_vb, lt_cmd, lt1_cmd] <;> omega)
      (try simp only [wk, wk1, wk0, RB, limBytes, Nat.reduceBEq, Nat.reduceAdd, Nat.reduceEqDiff, Nat.reduceLT, Nat.reduceLeDiff, Nat.reduceMul, Nat.reduceSub, Int.reduceBEq, Int.reduceBNe, Int.reduceToNat, Int.reduceLT, Int.reduceLE, Int.reduceGT, Int.reduceGE, Int.reduceAdd, Int.reduceSub, Int.reduceNeg, Int.reduceEq, Int.toNat_zero, Int.toNat_one, reduceIte, reduceCtorEq, ne_eq, decide_true, decide_false])
      (try (rw [List.take_of_length_le]; rotate_left 1; (· first | (simp; done) | (simp; omega) | omega)))
    · have h20 : (readC b).2 ≠ 0 := by simpa using h2
      have k := read_nonzero h20
      (repeat (first | simp -dsimp only [st_cmd, sz_cmd, h2, k, RB, TB, keep11, tab11, ewOp, xop, xindexAddr, xindex, xslice, xconvert, xlen, drawStep, FreeW, SameW, ChangeW, limBytes, Nat.reduceBEq, Nat.reduceAdd, Nat.reduceEqDiff, Nat.reduceLT, Nat.reduceLeDiff, Nat.reduceMul, Nat.reduceSub, Int.reduceBEq, Int.reduceBNe, Int.reduceToNat, Int.reduceLT, Int.reduceLE, Int.reduceGT, Int.reduceGE, Int.reduceAdd, Int.reduceSub, Int.reduceNeg, Int.reduceEq, Int.toNat_zero, Int.toNat_one, reduceIte, reduceCtorEq, ne_eq, decide_true, decide_false] | ((with_reducible refine Need.intro ?_ ?_); (first | trivial | omega | (simp; done) | (simp; omega)))))
      refine RetW.auto0 false _ (by first | rfl | exact (List.append_nil _).symm) ?_ ?_
      · (simp (maxDischargeDepth := 6) [LTB, HLt_set, ltL_take, ltL_drop, ltL_rep, upd, eset, *, lt_vi, lt_str, lt_vb, lt_cmd, lt1_cmd] <;> omega)
      (try simp only [wk, wk1, wk0, RB, limBytes, Nat.reduceBEq, Nat.reduceAdd, Nat.reduceEqDiff, Nat.reduceLT, Nat.reduceLeDiff, Nat.reduceMul, Nat.reduceSub, Int.reduceBEq, Int.reduceBNe, Int.reduceToNat, Int.reduceLT, Int.reduceLE, Int.reduceGT, Int.reduceGE, Int.reduceAdd, Int.reduceSub, Int.reduceNeg, Int.reduceEq, Int.toNat_zero, Int.toNat_one, reduceIte, reduceCtorEq, ne_eq, decide_true, decide_false])
      (try (rw [List.take_of_length_le]; rotate_left 1; (· first | (simp; done) | (simp; omega) | omega)))
  · have h0 : (putC l).2 ≠ 0 := by simpa using h
    have hn := nonzero h0
    (repeat (first | simp -dsimp only [st_cmd, sz_cmd, h, hn, RB, TB, keep11, tab11, ewOp, xop, xindexAddr, xindex, xslice, xconvert, xlen, drawStep, FreeW, SameW, ChangeW, limBytes, Nat.reduceBEq, Nat.reduceAdd, Nat.reduceEqDiff, Nat.reduceLT, Nat.reduceLeDiff, Nat.reduceMul, Nat.reduceSub, Int.reduceBEq, Int.reduceBNe, Int.reduceToNat, Int.reduceLT, Int.reduceLE, Int.reduceGT, Int.reduceGE, Int.reduceAdd, Int.reduceSub, Int.reduceNeg, Int.reduceEq, Int.toNat_zero, Int.toNat_one, reduceIte, reduceCtorEq, ne_eq, decide_true, decide_false] | ((with_reducible refine Need.intro ?_ ?_); (first | trivial | omega | (simp; done) | (simp; omega)))))
    (first | refine SCall.then (read _ b (by omega)) ?_ | refine SCall.thenA (read _ b (by omega)) (by repeat (first | exact trivial | exact .inl rfl | exact .inr ⟨_, rfl, rfl⟩ | refine ⟨?_, ?_⟩)) ?_ | refine CallE.intro _ (read _ b (by omega)) ?_ | refine CallE.introA (read _ b (by omega)) (by repeat (first | exact trivial | exact .inl rfl | exact .inr ⟨_, rfl, rfl⟩ | refine ⟨?_, ?_⟩)) ?_ | refine CallE.intro _ (fun _ => read _ b (by omega)) ?_ | refine CallE.intro _ (fun _ => SCall.arg (by repeat (first | exact trivial | exact .inl rfl | exact .inr ⟨_, rfl, rfl⟩ | refine ⟨?_, ?_⟩)) (read _ b (by omega))) ?_)
    (repeat (first | simp -dsimp only [st_cmd, sz_cmd, RB, TB, keep11, tab11, ewOp, xop, xindexAddr, xindex, xslice, xconvert, xlen, drawStep, FreeW, SameW, ChangeW, limBytes, Nat.reduceBEq, Nat.reduceAdd, Nat.reduceEqDiff, Nat.reduceLT, Nat.reduceLeDiff, Nat.reduceMul, Nat.reduceSub, Int.reduceBEq, Int.reduceBNe, Int.reduceToNat, Int.reduceLT, Int.reduceLE, Int.reduceGT, Int.reduceGE, Int.reduceAdd, Int.reduceSub, Int.reduceNeg, Int.reduceEq, Int.toNat_zero, Int.toNat_one, reduceIte, reduceCtorEq, ne_eq, decide_true, decide_false] | ((with_reducible refine Need.intro ?_ ?_); (first | trivial | omega | (simp; done) | (simp; omega)))))
    refine IfW.intro (fun h2 => ?_) (fun h2 => ?_)
    · have h20 : (readC b).2 = 0 := by simpa using h2
      obtain ⟨k1, k2⟩ := read_zero h20
      (repeat (first | simp -dsimp only [st_cmd, sz_cmd, h2, RB, TB, keep11, tab11, ewOp, xop, xindexAddr, xindex, xslice, xconvert, xlen, drawStep, FreeW, SameW, ChangeW, limBytes, Nat.reduceBEq, Nat.reduceAdd, Nat.reduceEqDiff, Nat.reduceLT, Nat.reduceLeDiff, Nat.reduceMul, Nat.reduceSub, Int.reduceBEq, Int.reduceBNe, Int.reduceToNat, Int.reduceLT, Int.reduceLE, Int.reduceGT, Int.reduceGE, Int.reduceAdd, Int.reduceSub, Int.reduceNeg, Int.reduceEq, Int.toNat_zero, Int.toNat_one, reduceIte, reduceCtorEq, ne_eq, decide_true, decide_false] | ((with_reducible refine Need.intro ?_ ?_); (first | trivial | omega | (simp; done) | (simp; omega)))))
      (first | refine SCall.then (put _ (readC b).1) ?_ | refine SCall.thenA (put _ (readC b).1) (by repeat (first | exact trivial | exact .inl rfl | exact .inr ⟨_, rfl, rfl⟩ | refine ⟨?_, ?_⟩)) ?_ | refine CallE.intro _ (put _ (readC b).1) ?_ | refine CallE.introA (put _ (readC b).1) (by repeat (first | exact trivial | exact .inl rfl | exact .inr ⟨_, rfl, rfl⟩ | refine ⟨?_, ?_⟩)) ?_ | refine CallE.intro _ (fun _ => put _ (readC b).1) ?_ | refine CallE.intro _ (fun _ => SCall.arg (by repeat (first | exact trivial | exact .inl rfl | exact .inr ⟨_, rfl, rfl⟩ | refine ⟨?_, ?_⟩)) (put _ (readC b).1)) ?_)
      (repeat (first | simp -dsimp only [st_cmd, sz_cmd, k1, k2, RB, TB, keep11, tab11, ewOp, xop, xindexAddr, xindex, xslice, xconvert, xlen, drawStep, FreeW, SameW, ChangeW, limBytes, Nat.reduceBEq, Nat.reduceAdd, Nat.reduceEqDiff, Nat.reduceLT, Nat.reduceLeDiff, Nat.reduceMul, Nat.reduceSub, Int.reduceBEq, Int.reduceBNe, Int.reduceToNat, Int.reduceLT, Int.reduceLE, Int.reduceGT, Int.reduceGE, Int.reduceAdd, Int.reduceSub, Int.reduceNeg, Int.reduceEq, Int.toNat_zero, Int.toNat_one, reduceIte, reduceCtorEq, ne_eq, decide_true, decide_false] | ((with_reducible refine Need.intro ?_ ?_); (first | trivial | omega | (simp; done) | (simp; omega)))))
      have hbl : b.length ≤ 9223372036854775807 := by omega
      (repeat (first | simp -dsimp only [st_cmd, sz_cmd, hbl, RB, TB, keep11, tab11, ewOp, xop, xindexAddr, xindex, xslice, xconvert, xlen, drawStep, FreeW, SameW, ChangeW, limBytes, Nat.reduceBEq, Nat.reduceAdd, Nat.reduceEqDiff, Nat.reduceLT, Nat.reduceLeDiff, Nat.reduceMul, Nat.reduceSub, Int.reduceBEq, Int.reduceBNe, Int.reduceToNat, Int.reduceLT, Int.reduceLE, Int.reduceGT, Int.reduceGE, Int.reduceAdd, Int.reduceSub, Int.reduceNeg, Int.reduceEq, Int.toNat_zero, Int.toNat_one, reduceIte, reduceCtorEq, ne_eq, decide_true, decide_false] | ((with_reducible refine Need.intro ?_ ?_); (first | trivial | omega | (simp; done) | (simp; omega)))))
      refine RetW.auto0 false _ (by first | rfl | exact (List.append_nil _).symm) ?_ ?_
      · (simp (maxDischargeDepth := 6) [LTB, HLt_set, ltL_take, ltL_drop, ltL_rep, upd, eset, *, lt_vi, lt_str, lt_vb, lt_cmd, lt1_cmd] <;> omega)
      (try simp only [wk, wk1, wk0, RB, limBytes, Nat.reduceBEq, Nat.reduceAdd, Nat.reduceEqDiff, Nat.reduceLT, Nat.reduceLeDiff, Nat.reduceMul, Nat.reduceSub, Int.reduceBEq, Int.reduceBNe, Int.reduceToNat, Int.reduceLT, Int.reduceLE, Int.reduceGT, Int.reduceGE, Int.reduceAdd, Int.reduceSub, Int.reduceNeg, Int.reduceEq, Int.toNat_zero, Int.toNat_one, reduceIte, reduceCtorEq, ne_eq, decide_true, decide_false])
      (try (rw [List.take_of_length_le]; rotate_left 1; (· first | (simp; done) | (simp; omega) | omega)))
    · have h20 : (readC b).2 ≠ 0 := by simpa using h2
      have k := read_nonzero h20
      (repeat (first | simp -dsimp only [st_cmd, sz_cmd, h2, k, RB, TB, keep11, tab11, ewOp, xop, xindexAddr, xindex, xslice, xconvert, xlen, drawStep, FreeW, SameW, ChangeW, limBytes, Nat.reduceBEq, Nat.reduceAdd, Nat.reduceEqDiff, Nat.reduceLT, Nat.reduceLeDiff, Nat.reduceMul, Nat.reduceSub, Int.reduceBEq, Int.reduceBNe, Int.reduceToNat, Int.reduceLT, Int.reduceLE, Int.reduceGT, Int.reduceGE, Int.reduceAdd, Int.reduceSub, Int.reduceNeg, Int.reduceEq, Int.toNat_zero, Int.toNat_one, reduceIte, reduceCtorEq, ne_eq, decide_true, decide_false] | ((with_reducible refine Need.intro ?_ ?_); (first | trivial | omega | (simp; done) | (simp; omega)))))
      refine RetW.auto0 false _ (by first | rfl | exact (List.append_nil _).symm) ?_ ?_
      · (simp (maxDischargeDepth := 6) [LTB, HLt_set, ltL_take, ltL_drop, ltL_rep, upd, eset, *, lt_vi, lt_str, lt_vb, lt_cmd, lt1_cmd] <;> omega)
      (try simp only [wk, wk1, wk0, RB, limBytes, Nat.reduceBEq, Nat.reduceAdd, Nat.reduceEqDiff, Nat.reduceLT, Nat.reduceLeDiff, Nat.reduceMul, Nat.reduceSub, Int.reduceBEq, Int.reduceBNe, Int.reduceToNat, Int.reduceLT, Int.reduceLE, Int.reduceGT, Int.reduceGE, Int.reduceAdd, Int.reduceSub, Int.reduceNeg, Int.reduceEq, Int.toNat_zero, Int.toNat_one, reduceIte, reduceCtorEq, ne_eq, decide_true, decide_false])
      (try (rw [List.take_of_length_le]; rotate_left 1; (· first | (simp; done) | (simp; omega) | omega)))
open Go.ChangeShapes Go.WideShapes Go.ChangeAt Go.RowKit in
theorem codeBack_lifted (os : Os) (started : os.Started) (H : Type) (enc : TypeId × Value → H) (F : Stop.Interp) :
    ReturnsInHanded {} Try.checked os 11 .any ((Rows.OpenSpec.upto Rows.codeBackSpec).pre6 enc Try.prog Try.f11 Rows.codeBackUptoRow.domain false) (((Rows.OpenSpec.upto Rows.codeBackSpec).at F).post enc Try.prog Try.f11 false true false false) := by
  refine returnsInHanded_of_cond (C := Try.checked) (s := Rows.OpenSpec.upto Rows.codeBackSpec) (k := Rows.uptoSmall) rfl own_none started (by kernel_rfl) Try.func11
    (OpenSpec.witness (enc := enc) (C := Try.checked) (s := Rows.OpenSpec.upto Rows.codeBackSpec) (k := Rows.uptoSmall) rfl false ⟨#[], #[.slice none 0 0, .slice none 0 0], []⟩ 8 (by kernel_rfl) (by kernel_rfl) (by kernel_rfl)
      (x := ([.nil, .nil], [], [])) (by kernel_rfl) rfl (by kernel_rfl)) ?_
  intro W base args ds gs before hval0 hW _ hk _
  have hval : ∀ (j : Nat) t v, Try.f11.params[j]? = some t → args[j]? = some v → Value.okWide Try.prog W .any base t v := hval0
  obtain ⟨p0_, q0_, hA, _⟩ := id hW
  have hA0 : DataW.TrodAll enc Try.prog W 0 (fun _ => true) true Try.f11.params.toList args.toList ds p0_ := hA
  rw [Try.params11] at hA0 hval
  obtain ⟨v0, v1, d0, d1, p0, p1, rfl, rfl, rfl, h0, h1⟩ := trodAll_two hA0
  obtain ⟨l, hp_l, hz_l, hv_l⟩ := dec_cmds.value h0 (fun _ => okAgg_leaf (by simp) (ok_slice Try.underlying37 (hval 0 37 v0 rfl rfl)))
  obtain ⟨b, hp_b, hz_b, hv_b⟩ := dec_bytes.value h1 (fun _ => okAgg_leaf (by simp) (ok_slice Try.underlying38 (hval 1 38 v1 rfl rfl)))
  have hb : Rows.uptoBulkAll ([d0, d1] ++ gs) ≤ 1048576 := of_decide_eq_true hk
  rw [← bulkAll_eq] at hb
  simp only [List.cons_append, bulkAll] at hb
  exact row_contract (P := Try.prog) (s := Rows.codeBackSpec) (vs := [.slice (l.map cmdV), .slice (b.map vb)]) laid_out (by kernel_rfl) rfl Try.call11 rfl Try.underlying4 hW ⟨rfl, rfl, rfl⟩ ⟨hv_l, hv_b, trivial⟩ (codeBack [] l b (by omega))
theorem codeBack_upto : Rows.CodeBackUptoSaid :=
  OpenClaim.holds_of_cond 11 Try.f11 rfl rfl rfl rfl rfl rfl rfl ⟨rfl, rfl, rfl, rfl, rfl⟩ rfl rfl rfl rfl rfl (by kernel_rfl) Try.func11 (by kernel_rfl)
    (of_decide_eq_true (by kernel_rfl)) (by unfold Func.isWrapper; first | (rw [if_neg (by decide +kernel)]; exact ⟨rfl, rfl⟩) | (rw [if_pos (by decide +kernel)]; kernel_rfl))
    (fun os started H enc _ F => codeBack_lifted os started H enc F)
end Go.Proofs.Ytadhjfdmfdgppaa

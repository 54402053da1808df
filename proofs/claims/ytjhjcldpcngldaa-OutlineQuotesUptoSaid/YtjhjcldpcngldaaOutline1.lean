/- The walks of package outline: Quote; and the law's own. -/
import Derived.Test.YtjhjcldpcngldaaTree1
import Derived.Test.YtjhjcldpcngldaaUtf2
set_option linter.unusedSimpArgs false
set_option linter.unusedVariables false
set_option maxRecDepth 100000
namespace Go.Proofs.Ytjhjcldpcngldaa
open Go Go.EL
def digL : List UInt8 := [48, 49, 50, 51, 52, 53, 54, 55, 56, 57, 97, 98, 99, 100, 101, 102]
def hexD (n : Nat) : UInt8 := digL.getD n 0
def quoteB (c : UInt8) : List UInt8 := if c = 34 ∨ c = 92 then [92, c] else if c.toNat < 32 ∨ c.toNat > 126 then [92, 120, hexD (c.toNat / 16), hexD (c.toNat % 16)] else [c]
def quoteS (s : List UInt8) : List UInt8 := 34 :: s.flatMap quoteB ++ [34]
theorem u8_eqI {c d : UInt8} (h : ((c.toNat : Int) == (d.toNat : Int)) = true) : c = d := UInt8.toNat_inj.1 (by have h1 : (c.toNat : Int) = d.toNat := (by simpa using h); omega)
theorem u8_neI {c d : UInt8} (h : ((c.toNat : Int) == (d.toNat : Int)) = false) : c ≠ d := by rintro rfl; simp at h
theorem quoteB_a {c : UInt8} (h : ((c.toNat : Int) == 34) = true ∨ ((c.toNat : Int) == 92) = true) : quoteB c = [92, c] := by
  unfold quoteB
  rw [if_pos]
  rcases h with h | h
  · exact .inl (u8_eqI (d := 34) h)
  · exact .inr (u8_eqI (d := 92) h)
theorem quoteB_b {c : UInt8} (h : ((c.toNat : Int) == 34) = false) (h2 : ((c.toNat : Int) == 92) = false) (h3 : decide ((c.toNat : Int) < 32) = true ∨ decide ((c.toNat : Int) > 126) = true) : quoteB c = [92, 120, hexD (c.toNat / 16), hexD (c.toNat % 16)] := by
  unfold quoteB
  rw [if_neg (fun e => e.elim (u8_neI (d := 34) h) (u8_neI (d := 92) h2)), if_pos]
  rcases h3 with h | h
  · left; have := of_decide_eq_true h; omega
  · right; have := of_decide_eq_true h; omega
theorem quoteB_c {c : UInt8} (h : ((c.toNat : Int) == 34) = false) (h2 : ((c.toNat : Int) == 92) = false) (h3 : decide ((c.toNat : Int) < 32) = false) (h4 : decide ((c.toNat : Int) > 126) = false) : quoteB c = [c] := by
  have h3 := of_decide_eq_false h3
  have h4 := of_decide_eq_false h4
  unfold quoteB
  rw [if_neg (fun e => e.elim (u8_neI (d := 34) h) (u8_neI (d := 92) h2)), if_neg (by omega)]
theorem u8w {n : Nat} (h : n < 256) : IntKind.u8.wrap (n : Int) = n := wrap8 h
theorem shr4 (c : UInt8) : (c.toNat : Int).fdiv (2 ^ min 4 IntKind.u8.bits) = ((c.toNat / 16 : Nat) : Int) := by
  rw [show min 4 IntKind.u8.bits = 4 from rfl, show ((2 : Int) ^ 4) = ((16 : Nat) : Int) from rfl, Int.fdiv_eq_ediv_of_nonneg _ (Int.natCast_nonneg _)]
  simp
theorem and15 (c : UInt8) : IntKind.u8.wrap ((BitVec.ofInt IntKind.u8.bits (c.toNat : Int) &&& BitVec.ofInt IntKind.u8.bits 15).toNat : Int) = ((c.toNat % 16 : Nat) : Int) := by
  have e : (BitVec.ofInt IntKind.u8.bits (c.toNat : Int) &&& BitVec.ofInt IntKind.u8.bits 15).toNat = c.toNat % 16 := by
    show (BitVec.ofInt 8 (c.toNat : Int) &&& BitVec.ofInt 8 ((15 : Nat) : Int)).toNat = _
    have := c.toNat_lt
    rw [BitVec.ofInt_natCast, BitVec.ofInt_natCast, BitVec.toNat_and, BitVec.toNat_ofNat, BitVec.toNat_ofNat, Nat.mod_eq_of_lt (by omega), Nat.mod_eq_of_lt (by omega), show (15 : Nat) = 2 ^ 4 - 1 from rfl, Nat.and_two_pow_sub_one_eq_mod]
  rw [e]
  exact u8w (by omega)
theorem u8div (c : UInt8) : IntKind.u8.wrap ((c.toNat : Int).tdiv 16) = ((c.toNat / 16 : Nat) : Int) := by
  have := c.toNat_lt
  rw [Int.tdiv_eq_ediv_of_nonneg (by omega), show (c.toNat : Int) / 16 = ((c.toNat / 16 : Nat) : Int) from rfl]
  exact u8w (by omega)
theorem u8mod (c : UInt8) : (c.toNat : Int).tmod 16 = ((c.toNat % 16 : Nat) : Int) := by
  rw [Int.tmod_eq_emod_of_nonneg (by omega)]; rfl
theorem dig_at (n : Nat) : (([48, 49, 50, 51, 52, 53, 54, 55, 56, 57, 97, 98, 99, 100, 101, 102] : List UInt8).getD n 0) = hexD n := rfl
theorem quoteB_len (c : UInt8) : (quoteB c).length ≤ 4 := by
  unfold quoteB
  repeat' split
  all_goals simp
def qpre (s : List UInt8) (i : Nat) : List UInt8 := 34 :: (s.take i).flatMap quoteB
theorem qpre_succ {s : List UInt8} {i : Nat} (h : i < s.length) : qpre s (i + 1) = qpre s i ++ quoteB s[i] := by
  unfold qpre
  rw [List.take_succ_eq_append_getElem h, List.flatMap_append, List.flatMap_cons, List.flatMap_nil, List.append_nil, List.cons_append]
theorem qpre_len (s : List UInt8) : ∀ i, i ≤ s.length → (qpre s i).length ≤ 4 * i + 1
  | 0, _ => by simp [qpre]
  | i + 1, h => by
    have := qpre_len s i (by omega)
    have h2 := quoteB_len (s[i]'(by omega))
    rw [qpre_succ (by omega), List.length_append]
    omega
theorem quoteS_pre (s : List UInt8) : quoteS s = qpre s s.length ++ [34] := by unfold quoteS qpre; rw [List.take_length]
theorem hexV (n : Nat) : V.int .u8 (hexD n).toNat = vb (hexD n) := rfl
def qsV (H : List Ob) (s : List UInt8) (i ver : Nat) : V := if i = 0 then .fslice [.int .u8 34] else .vec H.length ver 0 (qpre s i).length
def qsH (H : List Ob) (s : List UInt8) (i ver : Nat) : List Ob := if i = 0 then H else H ++ [.vec ver 1 ((qpre s i).map vb)]
set_option maxHeartbeats 2000000 in
theorem oQuote (H : List Ob) (s : List UInt8) (hs : s.length ≤ 1000000000) : SCall Try.prog 33 [.str s] H (fun r H' => r = .str (quoteS s) ∧ H' = H) := by
  refine SCall.of_good fun hH => ?_
  have hHk := HLt.add hH
  refine SCall.of_code Tok Try.func33 rfl Try.call33 (n := 51) rfl (by simp) (rs := [.tmp 2]) rfl ?_
  refine EWn.to ?_
  refine EWn.of_c Tok mixed (own := false) keep33 tab33 (by kernel_rfl) ?_
  (repeat (first | simp -dsimp only [st_run, sz_run, st1_run, cl_run, st_Str, sz_Str, st1_Str, cl_Str, st_c, sz_c, st1_c, cl_c, st_attr, sz_attr, st1_attr, cl_attr, st_tree, sz_tree, st1_tree, cl_tree, RB, TB, keep33, tab33, ewOp, xop, xindexAddr, xindex, xslice, xconvert, xlen, drawStep, FreeW, SameW, ChangeW, limBytes, Nat.reduceBEq, Nat.reduceAdd, Nat.reduceEqDiff, Nat.reduceLT, Nat.reduceLeDiff, Nat.reduceMul, Nat.reduceSub, Int.reduceBEq, Int.reduceBNe, Int.reduceToNat, Int.reduceLT, Int.reduceLE, Int.reduceGT, Int.reduceGE, Int.reduceAdd, Int.reduceSub, Int.reduceNeg, Int.reduceEq, Int.toNat_zero, Int.toNat_one, reduceIte, reduceCtorEq, ne_eq, decide_true, decide_false] | ((with_reducible refine Need.intro ?_ ?_); (first | trivial | omega | (simp; done) | (simp; omega)))))
  refine EWn.loopE (ι := (Nat) × (Nat)) (fun (x_ : (Nat) × (Nat)) => match x_ with | (i, ver) => i ≤ s.length) (fun (x_ : (Nat) × (Nat)) => match x_ with | (i, ver) => s.length - i) (fun (x_ : (Nat) × (Nat)) => match x_ with | (i, ver) => [(3, qsV H s i ver), (9, .int .i64 i)]) (fun (x_ : (Nat) × (Nat)) => match x_ with | (i, ver) => qsH H s i ver) (0, 0) ?_ ?_ ?_ ?_ ?_
  · first | rfl | simp [upd, eset]
  · first | rfl | (simp; done) | exact (set_same (by assumption)).symm
  · rintro ⟨i, ver⟩ hi
    by_cases h0 : i = 0
    · subst h0
      simp only [qsV, qsH, if_true]
      exact ⟨by simp, by (simp (maxDischargeDepth := 6) [LTB, HLt_set, ltL_take, ltL_drop, ltL_rep, ltL_set, upd, eset, hH, hHk, lt_vi, lt_str, lt_vb, ltc_str, ltc_vi, lt_run, lt1_run, ltc_run, lt_Str, lt1_Str, ltc_Str, lt_c, lt1_c, ltc_c, lt_attr, lt1_attr, ltc_attr, lt_tree, lt1_tree, ltc_tree] <;> omega), by (simp (maxDischargeDepth := 6) [LTB, HLt_set, ltL_take, ltL_drop, ltL_rep, ltL_set, upd, eset, hH, hHk, lt_vi, lt_str, lt_vb, ltc_str, ltc_vi, lt_run, lt1_run, ltc_run, lt_Str, lt1_Str, ltc_Str, lt_c, lt1_c, ltc_c, lt_attr, lt1_attr, ltc_attr, lt_tree, lt1_tree, ltc_tree] <;> omega)⟩
    · simp only [qsV, qsH, if_neg h0]
      exact ⟨by simp, by (simp (maxDischargeDepth := 6) [LTB, HLt_set, ltL_take, ltL_drop, ltL_rep, ltL_set, upd, eset, hH, hHk, lt_vi, lt_str, lt_vb, ltc_str, ltc_vi, lt_run, lt1_run, ltc_run, lt_Str, lt1_Str, ltc_Str, lt_c, lt1_c, ltc_c, lt_attr, lt1_attr, ltc_attr, lt_tree, lt1_tree, ltc_tree] <;> omega), by (simp (maxDischargeDepth := 6) [LTB, HLt_set, ltL_take, ltL_drop, ltL_rep, ltL_set, upd, eset, hH, hHk, lt_vi, lt_str, lt_vb, ltc_str, ltc_vi, lt_run, lt1_run, ltc_run, lt_Str, lt1_Str, ltc_Str, lt_c, lt1_c, ltc_c, lt_attr, lt1_attr, ltc_attr, lt_tree, lt1_tree, ltc_tree] <;> omega)⟩
  · omega
  rintro ⟨i, ver⟩ hi
  have hql := qpre_len s i hi
  refine EWn.of_c Tok mixed (own := false) keep33 tab33 (by kernel_rfl) ?_
  (repeat (first | simp -dsimp only [st_run, sz_run, st1_run, cl_run, st_Str, sz_Str, st1_Str, cl_Str, st_c, sz_c, st1_c, cl_c, st_attr, sz_attr, st1_attr, cl_attr, st_tree, sz_tree, st1_tree, cl_tree, RB, TB, keep33, tab33, ewOp, xop, xindexAddr, xindex, xslice, xconvert, xlen, drawStep, FreeW, SameW, ChangeW, limBytes, Nat.reduceBEq, Nat.reduceAdd, Nat.reduceEqDiff, Nat.reduceLT, Nat.reduceLeDiff, Nat.reduceMul, Nat.reduceSub, Int.reduceBEq, Int.reduceBNe, Int.reduceToNat, Int.reduceLT, Int.reduceLE, Int.reduceGT, Int.reduceGE, Int.reduceAdd, Int.reduceSub, Int.reduceNeg, Int.reduceEq, Int.toNat_zero, Int.toNat_one, reduceIte, reduceCtorEq, ne_eq, decide_true, decide_false] | ((with_reducible refine Need.intro ?_ ?_); (first | trivial | omega | (simp; done) | (simp; omega)))))
  refine IfW.intro (fun h => ?_) (fun h => ?_)
  · have hlt := lt_of h
    have hg : s.getD i 0 = s[i] := by simp [hlt]
    have hsucc := qpre_succ hlt
    obtain ⟨c, hc⟩ : ∃ c, c = s[i] := ⟨_, rfl⟩
    rw [← hc] at hg hsucc
    clear hc
    have hcl := c.toNat_lt
    by_cases h0 : i = 0
    · subst h0
      have e1 : qsV H s 0 ver = .fslice [.int .u8 34] := rfl
      have e2 : qsH H s 0 ver = H := rfl
      change qpre s 1 = [34] ++ _ at hsucc
      rw [e1, e2]
      cases h34 : ((c.toNat : Int) == 34)
      · cases h92 : ((c.toNat : Int) == 92)
        · cases h32 : decide ((c.toNat : Int) < 32)
          · cases h126 : decide ((c.toNat : Int) > 126)
            · have hq : quoteB c = [c] := quoteB_c h34 h92 h32 h126
              rw [hq] at hsucc
              (repeat (first | simp -dsimp only [st_run, sz_run, st1_run, cl_run, st_Str, sz_Str, st1_Str, cl_Str, st_c, sz_c, st1_c, cl_c, st_attr, sz_attr, st1_attr, cl_attr, st_tree, sz_tree, st1_tree, cl_tree, h34, h92, h32, h126, hg, h, RB, TB, keep33, tab33, ewOp, xop, xindexAddr, xindex, xslice, xconvert, xlen, drawStep, FreeW, SameW, ChangeW, limBytes, Nat.reduceBEq, Nat.reduceAdd, Nat.reduceEqDiff, Nat.reduceLT, Nat.reduceLeDiff, Nat.reduceMul, Nat.reduceSub, Int.reduceBEq, Int.reduceBNe, Int.reduceToNat, Int.reduceLT, Int.reduceLE, Int.reduceGT, Int.reduceGE, Int.reduceAdd, Int.reduceSub, Int.reduceNeg, Int.reduceEq, Int.toNat_zero, Int.toNat_one, reduceIte, reduceCtorEq, ne_eq, decide_true, decide_false] | ((with_reducible refine Need.intro ?_ ?_); (first | trivial | omega | (simp; done) | (simp; omega)))))
              (try rw [wrapI (by omega)])
              refine UpTo.here ⟨(1, 1), hlt, by simp only; omega, by simp [upd, eset, qsV, hsucc], ⟨[], by simp [qsH, hsucc, vb]⟩⟩
            · have hq : quoteB c = [92, 120, hexD (c.toNat / 16), hexD (c.toNat % 16)] := quoteB_b h34 h92 (.inr h126)
              rw [hq] at hsucc
              (repeat (first | simp -dsimp only [st_run, sz_run, st1_run, cl_run, st_Str, sz_Str, st1_Str, cl_Str, st_c, sz_c, st1_c, cl_c, st_attr, sz_attr, st1_attr, cl_attr, st_tree, sz_tree, st1_tree, cl_tree, h34, h92, h32, h126, hg, h, shr4, and15, u8div, u8mod, dig_at, RB, TB, keep33, tab33, ewOp, xop, xindexAddr, xindex, xslice, xconvert, xlen, drawStep, FreeW, SameW, ChangeW, limBytes, Nat.reduceBEq, Nat.reduceAdd, Nat.reduceEqDiff, Nat.reduceLT, Nat.reduceLeDiff, Nat.reduceMul, Nat.reduceSub, Int.reduceBEq, Int.reduceBNe, Int.reduceToNat, Int.reduceLT, Int.reduceLE, Int.reduceGT, Int.reduceGE, Int.reduceAdd, Int.reduceSub, Int.reduceNeg, Int.reduceEq, Int.toNat_zero, Int.toNat_one, reduceIte, reduceCtorEq, ne_eq, decide_true, decide_false] | ((with_reducible refine Need.intro ?_ ?_); (first | trivial | omega | (simp; done) | (simp; omega)))))
              (try rw [wrapI (by omega)])
              refine UpTo.here ⟨(1, 1), hlt, by simp only; omega, by simp [upd, eset, qsV, hsucc], ⟨[], by simp [qsH, hsucc, vb]⟩⟩
          · have hq : quoteB c = [92, 120, hexD (c.toNat / 16), hexD (c.toNat % 16)] := quoteB_b h34 h92 (.inl h32)
            rw [hq] at hsucc
            (repeat (first | simp -dsimp only [st_run, sz_run, st1_run, cl_run, st_Str, sz_Str, st1_Str, cl_Str, st_c, sz_c, st1_c, cl_c, st_attr, sz_attr, st1_attr, cl_attr, st_tree, sz_tree, st1_tree, cl_tree, h34, h92, h32, hg, h, shr4, and15, u8div, u8mod, dig_at, RB, TB, keep33, tab33, ewOp, xop, xindexAddr, xindex, xslice, xconvert, xlen, drawStep, FreeW, SameW, ChangeW, limBytes, Nat.reduceBEq, Nat.reduceAdd, Nat.reduceEqDiff, Nat.reduceLT, Nat.reduceLeDiff, Nat.reduceMul, Nat.reduceSub, Int.reduceBEq, Int.reduceBNe, Int.reduceToNat, Int.reduceLT, Int.reduceLE, Int.reduceGT, Int.reduceGE, Int.reduceAdd, Int.reduceSub, Int.reduceNeg, Int.reduceEq, Int.toNat_zero, Int.toNat_one, reduceIte, reduceCtorEq, ne_eq, decide_true, decide_false] | ((with_reducible refine Need.intro ?_ ?_); (first | trivial | omega | (simp; done) | (simp; omega)))))
            (try rw [wrapI (by omega)])
            refine UpTo.here ⟨(1, 1), hlt, by simp only; omega, by simp [upd, eset, qsV, hsucc], ⟨[], by simp [qsH, hsucc, vb]⟩⟩
        · have hq : quoteB c = [92, c] := quoteB_a (.inr h92)
          rw [hq] at hsucc
          (repeat (first | simp -dsimp only [st_run, sz_run, st1_run, cl_run, st_Str, sz_Str, st1_Str, cl_Str, st_c, sz_c, st1_c, cl_c, st_attr, sz_attr, st1_attr, cl_attr, st_tree, sz_tree, st1_tree, cl_tree, h34, h92, hg, h, RB, TB, keep33, tab33, ewOp, xop, xindexAddr, xindex, xslice, xconvert, xlen, drawStep, FreeW, SameW, ChangeW, limBytes, Nat.reduceBEq, Nat.reduceAdd, Nat.reduceEqDiff, Nat.reduceLT, Nat.reduceLeDiff, Nat.reduceMul, Nat.reduceSub, Int.reduceBEq, Int.reduceBNe, Int.reduceToNat, Int.reduceLT, Int.reduceLE, Int.reduceGT, Int.reduceGE, Int.reduceAdd, Int.reduceSub, Int.reduceNeg, Int.reduceEq, Int.toNat_zero, Int.toNat_one, reduceIte, reduceCtorEq, ne_eq, decide_true, decide_false] | ((with_reducible refine Need.intro ?_ ?_); (first | trivial | omega | (simp; done) | (simp; omega)))))
          (try rw [wrapI (by omega)])
          refine UpTo.here ⟨(1, 1), hlt, by simp only; omega, by simp [upd, eset, qsV, hsucc], ⟨[], by simp [qsH, hsucc, vb]⟩⟩
      · have hq : quoteB c = [92, c] := quoteB_a (.inl h34)
        rw [hq] at hsucc
        (repeat (first | simp -dsimp only [st_run, sz_run, st1_run, cl_run, st_Str, sz_Str, st1_Str, cl_Str, st_c, sz_c, st1_c, cl_c, st_attr, sz_attr, st1_attr, cl_attr, st_tree, sz_tree, st1_tree, cl_tree, h34, hg, h, RB, TB, keep33, tab33, ewOp, xop, xindexAddr, xindex, xslice, xconvert, xlen, drawStep, FreeW, SameW, ChangeW, limBytes, Nat.reduceBEq, Nat.reduceAdd, Nat.reduceEqDiff, Nat.reduceLT, Nat.reduceLeDiff, Nat.reduceMul, Nat.reduceSub, Int.reduceBEq, Int.reduceBNe, Int.reduceToNat, Int.reduceLT, Int.reduceLE, Int.reduceGT, Int.reduceGE, Int.reduceAdd, Int.reduceSub, Int.reduceNeg, Int.reduceEq, Int.toNat_zero, Int.toNat_one, reduceIte, reduceCtorEq, ne_eq, decide_true, decide_false] | ((with_reducible refine Need.intro ?_ ?_); (first | trivial | omega | (simp; done) | (simp; omega)))))
        (try rw [wrapI (by omega)])
        refine UpTo.here ⟨(1, 1), hlt, by simp only; omega, by simp [upd, eset, qsV, hsucc], ⟨[], by simp [qsH, hsucc, vb]⟩⟩

    · have e1 : qsV H s i ver = .vec H.length ver 0 (qpre s i).length := if_neg h0
      have e2 : qsH H s i ver = H ++ [.vec ver 1 ((qpre s i).map vb)] := if_neg h0
      rw [e1, e2]
      cases h34 : ((c.toNat : Int) == 34)
      · cases h92 : ((c.toNat : Int) == 92)
        · cases h32 : decide ((c.toNat : Int) < 32)
          · cases h126 : decide ((c.toNat : Int) > 126)
            · have hq : quoteB c = [c] := quoteB_c h34 h92 h32 h126
              rw [hq] at hsucc
              (repeat (first | simp -dsimp only [st_run, sz_run, st1_run, cl_run, st_Str, sz_Str, st1_Str, cl_Str, st_c, sz_c, st1_c, cl_c, st_attr, sz_attr, st1_attr, cl_attr, st_tree, sz_tree, st1_tree, cl_tree, h34, h92, h32, h126, hg, h, RB, TB, keep33, tab33, ewOp, xop, xindexAddr, xindex, xslice, xconvert, xlen, drawStep, FreeW, SameW, ChangeW, limBytes, Nat.reduceBEq, Nat.reduceAdd, Nat.reduceEqDiff, Nat.reduceLT, Nat.reduceLeDiff, Nat.reduceMul, Nat.reduceSub, Int.reduceBEq, Int.reduceBNe, Int.reduceToNat, Int.reduceLT, Int.reduceLE, Int.reduceGT, Int.reduceGE, Int.reduceAdd, Int.reduceSub, Int.reduceNeg, Int.reduceEq, Int.toNat_zero, Int.toNat_one, reduceIte, reduceCtorEq, ne_eq, decide_true, decide_false] | ((with_reducible refine Need.intro ?_ ?_); (first | trivial | omega | (simp; done) | (simp; omega)))))
              (try rw [wrapI (by omega)])
              refine UpTo.here ⟨(i + 1, ver + 1), hlt, by simp only; omega, by simp [upd, eset, qsV, hsucc], ⟨[], by simp [qsH, hsucc, vb]⟩⟩
            · have hq : quoteB c = [92, 120, hexD (c.toNat / 16), hexD (c.toNat % 16)] := quoteB_b h34 h92 (.inr h126)
              rw [hq] at hsucc
              (repeat (first | simp -dsimp only [st_run, sz_run, st1_run, cl_run, st_Str, sz_Str, st1_Str, cl_Str, st_c, sz_c, st1_c, cl_c, st_attr, sz_attr, st1_attr, cl_attr, st_tree, sz_tree, st1_tree, cl_tree, h34, h92, h32, h126, hg, h, shr4, and15, u8div, u8mod, dig_at, RB, TB, keep33, tab33, ewOp, xop, xindexAddr, xindex, xslice, xconvert, xlen, drawStep, FreeW, SameW, ChangeW, limBytes, Nat.reduceBEq, Nat.reduceAdd, Nat.reduceEqDiff, Nat.reduceLT, Nat.reduceLeDiff, Nat.reduceMul, Nat.reduceSub, Int.reduceBEq, Int.reduceBNe, Int.reduceToNat, Int.reduceLT, Int.reduceLE, Int.reduceGT, Int.reduceGE, Int.reduceAdd, Int.reduceSub, Int.reduceNeg, Int.reduceEq, Int.toNat_zero, Int.toNat_one, reduceIte, reduceCtorEq, ne_eq, decide_true, decide_false] | ((with_reducible refine Need.intro ?_ ?_); (first | trivial | omega | (simp; done) | (simp; omega)))))
              (try rw [wrapI (by omega)])
              refine UpTo.here ⟨(i + 1, ver + 1), hlt, by simp only; omega, by simp [upd, eset, qsV, hsucc], ⟨[], by simp [qsH, hsucc, vb]⟩⟩
          · have hq : quoteB c = [92, 120, hexD (c.toNat / 16), hexD (c.toNat % 16)] := quoteB_b h34 h92 (.inl h32)
            rw [hq] at hsucc
            (repeat (first | simp -dsimp only [st_run, sz_run, st1_run, cl_run, st_Str, sz_Str, st1_Str, cl_Str, st_c, sz_c, st1_c, cl_c, st_attr, sz_attr, st1_attr, cl_attr, st_tree, sz_tree, st1_tree, cl_tree, h34, h92, h32, hg, h, shr4, and15, u8div, u8mod, dig_at, RB, TB, keep33, tab33, ewOp, xop, xindexAddr, xindex, xslice, xconvert, xlen, drawStep, FreeW, SameW, ChangeW, limBytes, Nat.reduceBEq, Nat.reduceAdd, Nat.reduceEqDiff, Nat.reduceLT, Nat.reduceLeDiff, Nat.reduceMul, Nat.reduceSub, Int.reduceBEq, Int.reduceBNe, Int.reduceToNat, Int.reduceLT, Int.reduceLE, Int.reduceGT, Int.reduceGE, Int.reduceAdd, Int.reduceSub, Int.reduceNeg, Int.reduceEq, Int.toNat_zero, Int.toNat_one, reduceIte, reduceCtorEq, ne_eq, decide_true, decide_false] | ((with_reducible refine Need.intro ?_ ?_); (first | trivial | omega | (simp; done) | (simp; omega)))))
            (try rw [wrapI (by omega)])
            refine UpTo.here ⟨(i + 1, ver + 1), hlt, by simp only; omega, by simp [upd, eset, qsV, hsucc], ⟨[], by simp [qsH, hsucc, vb]⟩⟩
        · have hq : quoteB c = [92, c] := quoteB_a (.inr h92)
          rw [hq] at hsucc
          (repeat (first | simp -dsimp only [st_run, sz_run, st1_run, cl_run, st_Str, sz_Str, st1_Str, cl_Str, st_c, sz_c, st1_c, cl_c, st_attr, sz_attr, st1_attr, cl_attr, st_tree, sz_tree, st1_tree, cl_tree, h34, h92, hg, h, RB, TB, keep33, tab33, ewOp, xop, xindexAddr, xindex, xslice, xconvert, xlen, drawStep, FreeW, SameW, ChangeW, limBytes, Nat.reduceBEq, Nat.reduceAdd, Nat.reduceEqDiff, Nat.reduceLT, Nat.reduceLeDiff, Nat.reduceMul, Nat.reduceSub, Int.reduceBEq, Int.reduceBNe, Int.reduceToNat, Int.reduceLT, Int.reduceLE, Int.reduceGT, Int.reduceGE, Int.reduceAdd, Int.reduceSub, Int.reduceNeg, Int.reduceEq, Int.toNat_zero, Int.toNat_one, reduceIte, reduceCtorEq, ne_eq, decide_true, decide_false] | ((with_reducible refine Need.intro ?_ ?_); (first | trivial | omega | (simp; done) | (simp; omega)))))
          (try rw [wrapI (by omega)])
          refine UpTo.here ⟨(i + 1, ver + 1), hlt, by simp only; omega, by simp [upd, eset, qsV, hsucc], ⟨[], by simp [qsH, hsucc, vb]⟩⟩
      · have hq : quoteB c = [92, c] := quoteB_a (.inl h34)
        rw [hq] at hsucc
        (repeat (first | simp -dsimp only [st_run, sz_run, st1_run, cl_run, st_Str, sz_Str, st1_Str, cl_Str, st_c, sz_c, st1_c, cl_c, st_attr, sz_attr, st1_attr, cl_attr, st_tree, sz_tree, st1_tree, cl_tree, h34, hg, h, RB, TB, keep33, tab33, ewOp, xop, xindexAddr, xindex, xslice, xconvert, xlen, drawStep, FreeW, SameW, ChangeW, limBytes, Nat.reduceBEq, Nat.reduceAdd, Nat.reduceEqDiff, Nat.reduceLT, Nat.reduceLeDiff, Nat.reduceMul, Nat.reduceSub, Int.reduceBEq, Int.reduceBNe, Int.reduceToNat, Int.reduceLT, Int.reduceLE, Int.reduceGT, Int.reduceGE, Int.reduceAdd, Int.reduceSub, Int.reduceNeg, Int.reduceEq, Int.toNat_zero, Int.toNat_one, reduceIte, reduceCtorEq, ne_eq, decide_true, decide_false] | ((with_reducible refine Need.intro ?_ ?_); (first | trivial | omega | (simp; done) | (simp; omega)))))
        (try rw [wrapI (by omega)])
        refine UpTo.here ⟨(i + 1, ver + 1), hlt, by simp only; omega, by simp [upd, eset, qsV, hsucc], ⟨[], by simp [qsH, hsucc, vb]⟩⟩

  · have hi2 : i = s.length := Nat.le_antisymm hi (ge_of h)
    subst hi2
    by_cases h0 : s.length = 0
    · have e1 : qsV H s s.length ver = .fslice [.int .u8 34] := if_pos h0
      have e2 : qsH H s s.length ver = H := if_pos h0
      rw [e1, e2]
      have hsn : s = [] := List.eq_nil_of_length_eq_zero h0
      subst hsn
      (repeat (first | simp -dsimp only [st_run, sz_run, st1_run, cl_run, st_Str, sz_Str, st1_Str, cl_Str, st_c, sz_c, st1_c, cl_c, st_attr, sz_attr, st1_attr, cl_attr, st_tree, sz_tree, st1_tree, cl_tree, h, allb_cons, allb_nil, toByte_int, List.map_cons, List.map_nil, RB, TB, keep33, tab33, ewOp, xop, xindexAddr, xindex, xslice, xconvert, xlen, drawStep, FreeW, SameW, ChangeW, limBytes, Nat.reduceBEq, Nat.reduceAdd, Nat.reduceEqDiff, Nat.reduceLT, Nat.reduceLeDiff, Nat.reduceMul, Nat.reduceSub, Int.reduceBEq, Int.reduceBNe, Int.reduceToNat, Int.reduceLT, Int.reduceLE, Int.reduceGT, Int.reduceGE, Int.reduceAdd, Int.reduceSub, Int.reduceNeg, Int.reduceEq, Int.toNat_zero, Int.toNat_one, reduceIte, reduceCtorEq, ne_eq, decide_true, decide_false] | ((with_reducible refine Need.intro ?_ ?_); (first | trivial | omega | (simp; done) | (simp; omega)))))
      refine RetW.auto0 false _ (by first | rfl | exact (List.append_nil _).symm) ?_ ?_
      · (simp (maxDischargeDepth := 6) [LTB, HLt_set, ltL_take, ltL_drop, ltL_rep, ltL_set, upd, eset, hH, hHk, lt_vi, lt_str, lt_vb, ltc_str, ltc_vi, lt_run, lt1_run, ltc_run, lt_Str, lt1_Str, ltc_Str, lt_c, lt1_c, ltc_c, lt_attr, lt1_attr, ltc_attr, lt_tree, lt1_tree, ltc_tree] <;> omega)
      (try simp only [wk, wk1, wk0, RB, limBytes, Nat.reduceBEq, Nat.reduceAdd, Nat.reduceEqDiff, Nat.reduceLT, Nat.reduceLeDiff, Nat.reduceMul, Nat.reduceSub, Int.reduceBEq, Int.reduceBNe, Int.reduceToNat, Int.reduceLT, Int.reduceLE, Int.reduceGT, Int.reduceGE, Int.reduceAdd, Int.reduceSub, Int.reduceNeg, Int.reduceEq, Int.toNat_zero, Int.toNat_one, reduceIte, reduceCtorEq, ne_eq, decide_true, decide_false])
      (try (rw [List.take_of_length_le]; rotate_left 1; (· first | (simp; done) | (simp; omega) | omega)))
      rfl
    · have e1 : qsV H s s.length ver = .vec H.length ver 0 (qpre s s.length).length := if_neg h0
      have e2 : qsH H s s.length ver = H ++ [.vec ver 1 ((qpre s s.length).map vb)] := if_neg h0
      rw [e1, e2]
      have eV : (qpre s s.length).map vb ++ [.int .u8 34] = (qpre s s.length ++ [34]).map vb := by simp [vb]
      (repeat (first | simp -dsimp only [st_run, sz_run, st1_run, cl_run, st_Str, sz_Str, st1_Str, cl_Str, st_c, sz_c, st1_c, cl_c, st_attr, sz_attr, st1_attr, cl_attr, st_tree, sz_tree, st1_tree, cl_tree, h, eV, RB, TB, keep33, tab33, ewOp, xop, xindexAddr, xindex, xslice, xconvert, xlen, drawStep, FreeW, SameW, ChangeW, limBytes, Nat.reduceBEq, Nat.reduceAdd, Nat.reduceEqDiff, Nat.reduceLT, Nat.reduceLeDiff, Nat.reduceMul, Nat.reduceSub, Int.reduceBEq, Int.reduceBNe, Int.reduceToNat, Int.reduceLT, Int.reduceLE, Int.reduceGT, Int.reduceGE, Int.reduceAdd, Int.reduceSub, Int.reduceNeg, Int.reduceEq, Int.toNat_zero, Int.toNat_one, reduceIte, reduceCtorEq, ne_eq, decide_true, decide_false] | ((with_reducible refine Need.intro ?_ ?_); (first | trivial | omega | (simp; done) | (simp; omega)))))
      rw [List.take_of_length_le (by simp)]
      refine RetW.auto0 false _ (by first | rfl | exact (List.append_nil _).symm) ?_ ?_
      · (simp (maxDischargeDepth := 6) [LTB, HLt_set, ltL_take, ltL_drop, ltL_rep, ltL_set, upd, eset, hH, hHk, lt_vi, lt_str, lt_vb, ltc_str, ltc_vi, lt_run, lt1_run, ltc_run, lt_Str, lt1_Str, ltc_Str, lt_c, lt1_c, ltc_c, lt_attr, lt1_attr, ltc_attr, lt_tree, lt1_tree, ltc_tree] <;> omega)
      (try simp only [wk, wk1, wk0, RB, limBytes, Nat.reduceBEq, Nat.reduceAdd, Nat.reduceEqDiff, Nat.reduceLT, Nat.reduceLeDiff, Nat.reduceMul, Nat.reduceSub, Int.reduceBEq, Int.reduceBNe, Int.reduceToNat, Int.reduceLT, Int.reduceLE, Int.reduceGT, Int.reduceGE, Int.reduceAdd, Int.reduceSub, Int.reduceNeg, Int.reduceEq, Int.toNat_zero, Int.toNat_one, reduceIte, reduceCtorEq, ne_eq, decide_true, decide_false])
      (try (rw [List.take_of_length_le]; rotate_left 1; (· first | (simp; done) | (simp; omega) | omega)))
      rw [quoteS_pre]
theorem slice1 {s : List UInt8} {i : Nat} (h : i < s.length) : (s.take (i + 1)).drop i = [s[i]] := by
  rw [List.take_succ_eq_append_getElem h, List.drop_append_of_le_length (by simp; omega), List.drop_eq_nil_of_le (by simp; omega)]
  rfl
theorem digL_len : digL.length = 16 := rfl
theorem dig_slice (n : Nat) (h : n < 16) : (digL.take (n + 1)).drop n = [hexD n] := by
  rw [slice1 (by rw [digL_len]; exact h)]
  unfold hexD
  rw [List.getD_eq_getElem?_getD, List.getElem?_eq_getElem (by rw [digL_len]; exact h)]
  rfl
set_option maxHeartbeats 2000000 in
theorem qQuote (H : List Ob) (s : List UInt8) (hs : s.length ≤ 1000000000) : SCall Try.prog 34 [.str s] H (fun r H' => r = .str (quoteS s) ∧ H' = H) := by
  refine SCall.of_good fun hH => ?_
  have hHk := HLt.add hH
  refine SCall.of_code Tok Try.func34 rfl Try.call34 (n := 65) rfl (by simp) (rs := [.tmp 2]) rfl ?_
  refine EWn.to ?_
  refine EWn.of_c Tok mixed (own := false) keep34 tab34 (by kernel_rfl) ?_
  (repeat (first | simp -dsimp only [st_run, sz_run, st1_run, cl_run, st_Str, sz_Str, st1_Str, cl_Str, st_c, sz_c, st1_c, cl_c, st_attr, sz_attr, st1_attr, cl_attr, st_tree, sz_tree, st1_tree, cl_tree, RB, TB, keep34, tab34, ewOp, xop, xindexAddr, xindex, xslice, xconvert, xlen, drawStep, FreeW, SameW, ChangeW, limBytes, Nat.reduceBEq, Nat.reduceAdd, Nat.reduceEqDiff, Nat.reduceLT, Nat.reduceLeDiff, Nat.reduceMul, Nat.reduceSub, Int.reduceBEq, Int.reduceBNe, Int.reduceToNat, Int.reduceLT, Int.reduceLE, Int.reduceGT, Int.reduceGE, Int.reduceAdd, Int.reduceSub, Int.reduceNeg, Int.reduceEq, Int.toNat_zero, Int.toNat_one, reduceIte, reduceCtorEq, ne_eq, decide_true, decide_false] | ((with_reducible refine Need.intro ?_ ?_); (first | trivial | omega | (simp; done) | (simp; omega)))))
  refine EWn.loopE (ι := (Nat)) (fun (i : (Nat)) => i ≤ s.length) (fun (i : (Nat)) => s.length - i) (fun (i : (Nat)) => [(3, .str (qpre s i)), (5, .int .i64 i)]) (fun (i : (Nat)) => H) (0) ?_ ?_ ?_ ?_ ?_
  · first | rfl | simp [upd, eset]
  · first | rfl | (simp; done) | exact (set_same (by assumption)).symm
  · rintro i hok; exact ⟨by first | (simp; done) | (simp; omega), by (simp (maxDischargeDepth := 6) [LTB, HLt_set, ltL_take, ltL_drop, ltL_rep, ltL_set, upd, eset, hH, hHk, lt_vi, lt_str, lt_vb, ltc_str, ltc_vi, lt_run, lt1_run, ltc_run, lt_Str, lt1_Str, ltc_Str, lt_c, lt1_c, ltc_c, lt_attr, lt1_attr, ltc_attr, lt_tree, lt1_tree, ltc_tree] <;> omega), by (simp (maxDischargeDepth := 6) [LTB, HLt_set, ltL_take, ltL_drop, ltL_rep, ltL_set, upd, eset, hH, hHk, lt_vi, lt_str, lt_vb, ltc_str, ltc_vi, lt_run, lt1_run, ltc_run, lt_Str, lt1_Str, ltc_Str, lt_c, lt1_c, ltc_c, lt_attr, lt1_attr, ltc_attr, lt_tree, lt1_tree, ltc_tree] <;> omega)⟩
  · omega
  rintro i hi
  have hql := qpre_len s i hi
  refine EWn.of_c Tok mixed (own := false) keep34 tab34 (by kernel_rfl) ?_
  (repeat (first | simp -dsimp only [st_run, sz_run, st1_run, cl_run, st_Str, sz_Str, st1_Str, cl_Str, st_c, sz_c, st1_c, cl_c, st_attr, sz_attr, st1_attr, cl_attr, st_tree, sz_tree, st1_tree, cl_tree, RB, TB, keep34, tab34, ewOp, xop, xindexAddr, xindex, xslice, xconvert, xlen, drawStep, FreeW, SameW, ChangeW, limBytes, Nat.reduceBEq, Nat.reduceAdd, Nat.reduceEqDiff, Nat.reduceLT, Nat.reduceLeDiff, Nat.reduceMul, Nat.reduceSub, Int.reduceBEq, Int.reduceBNe, Int.reduceToNat, Int.reduceLT, Int.reduceLE, Int.reduceGT, Int.reduceGE, Int.reduceAdd, Int.reduceSub, Int.reduceNeg, Int.reduceEq, Int.toNat_zero, Int.toNat_one, reduceIte, reduceCtorEq, ne_eq, decide_true, decide_false] | ((with_reducible refine Need.intro ?_ ?_); (first | trivial | omega | (simp; done) | (simp; omega)))))
  refine IfW.intro (fun h => ?_) (fun h => ?_)
  · have hlt := lt_of h
    have hg : s.getD i 0 = s[i] := by simp [hlt]
    have hsl := slice1 hlt
    have hsucc := qpre_succ hlt
    have hw1 : IntKind.i64.wrap ((i : Int) + 1) = ((i + 1 : Nat) : Int) := by rw [wrapI (by omega)]; rfl
    have hcl := s[i].toNat_lt
    have hwd : IntKind.u8.wrap (((s[i].toNat / 16 : Nat) : Int) + 1) = ((s[i].toNat / 16 + 1 : Nat) : Int) := by rw [← u8w (n := s[i].toNat / 16 + 1) (by omega)]; rfl
    have hwm : IntKind.u8.wrap (((s[i].toNat % 16 : Nat) : Int) + 1) = ((s[i].toNat % 16 + 1 : Nat) : Int) := by rw [← u8w (n := s[i].toNat % 16 + 1) (by omega)]; rfl
    have dig_s1 : List.drop (s[i].toNat / 16) (48 :: List.take (s[i].toNat / 16) ([49, 50, 51, 52, 53, 54, 55, 56, 57, 97, 98, 99, 100, 101, 102] : List UInt8)) = [hexD (s[i].toNat / 16)] := dig_slice _ (by omega)
    have dig_s2 : List.drop (s[i].toNat % 16) (48 :: List.take (s[i].toNat % 16) ([49, 50, 51, 52, 53, 54, 55, 56, 57, 97, 98, 99, 100, 101, 102] : List UInt8)) = [hexD (s[i].toNat % 16)] := dig_slice _ (by omega)
    cases h34 : ((s[i].toNat : Int) == 34)
    · cases h92 : ((s[i].toNat : Int) == 92)
      · cases h32 : decide ((s[i].toNat : Int) < 32)
        · cases h126 : decide ((s[i].toNat : Int) > 126)
          · have hq : quoteB s[i] = [s[i]] := quoteB_c h34 h92 h32 h126
            rw [hq] at hsucc
            (repeat (first | simp -dsimp only [st_run, sz_run, st1_run, cl_run, st_Str, sz_Str, st1_Str, cl_Str, st_c, sz_c, st1_c, cl_c, st_attr, sz_attr, st1_attr, cl_attr, st_tree, sz_tree, st1_tree, cl_tree, h34, h92, h32, h126, hg, hsl, hw1, maxLen_eq, RB, TB, keep34, tab34, ewOp, xop, xindexAddr, xindex, xslice, xconvert, xlen, drawStep, FreeW, SameW, ChangeW, limBytes, Nat.reduceBEq, Nat.reduceAdd, Nat.reduceEqDiff, Nat.reduceLT, Nat.reduceLeDiff, Nat.reduceMul, Nat.reduceSub, Int.reduceBEq, Int.reduceBNe, Int.reduceToNat, Int.reduceLT, Int.reduceLE, Int.reduceGT, Int.reduceGE, Int.reduceAdd, Int.reduceSub, Int.reduceNeg, Int.reduceEq, Int.toNat_zero, Int.toNat_one, reduceIte, reduceCtorEq, ne_eq, decide_true, decide_false] | ((with_reducible refine Need.intro ?_ ?_); (first | trivial | omega | (simp; done) | (simp; omega)))))
            refine UpTo.here ⟨i + 1, hlt, by simp only; omega, by simp [upd, eset, hsucc, dig_s1, dig_s2], ⟨[], by simp⟩⟩
          · have hq : quoteB s[i] = [92, 120, hexD (s[i].toNat / 16), hexD (s[i].toNat % 16)] := quoteB_b h34 h92 (.inr h126)
            rw [hq] at hsucc
            (repeat (first | simp -dsimp only [st_run, sz_run, st1_run, cl_run, st_Str, sz_Str, st1_Str, cl_Str, st_c, sz_c, st1_c, cl_c, st_attr, sz_attr, st1_attr, cl_attr, st_tree, sz_tree, st1_tree, cl_tree, h34, h92, h32, h126, hg, u8div, u8mod, maxLen_eq, hwd, hwm, hw1, dig_s1, dig_s2, RB, TB, keep34, tab34, ewOp, xop, xindexAddr, xindex, xslice, xconvert, xlen, drawStep, FreeW, SameW, ChangeW, limBytes, Nat.reduceBEq, Nat.reduceAdd, Nat.reduceEqDiff, Nat.reduceLT, Nat.reduceLeDiff, Nat.reduceMul, Nat.reduceSub, Int.reduceBEq, Int.reduceBNe, Int.reduceToNat, Int.reduceLT, Int.reduceLE, Int.reduceGT, Int.reduceGE, Int.reduceAdd, Int.reduceSub, Int.reduceNeg, Int.reduceEq, Int.toNat_zero, Int.toNat_one, reduceIte, reduceCtorEq, ne_eq, decide_true, decide_false] | ((with_reducible refine Need.intro ?_ ?_); (first | trivial | omega | (simp; done) | (simp; omega)))))
            refine UpTo.here ⟨i + 1, hlt, by simp only; omega, by simp [upd, eset, hsucc, dig_s1, dig_s2], ⟨[], by simp⟩⟩
        · have hq : quoteB s[i] = [92, 120, hexD (s[i].toNat / 16), hexD (s[i].toNat % 16)] := quoteB_b h34 h92 (.inl h32)
          rw [hq] at hsucc
          (repeat (first | simp -dsimp only [st_run, sz_run, st1_run, cl_run, st_Str, sz_Str, st1_Str, cl_Str, st_c, sz_c, st1_c, cl_c, st_attr, sz_attr, st1_attr, cl_attr, st_tree, sz_tree, st1_tree, cl_tree, h34, h92, h32, hg, u8div, u8mod, maxLen_eq, hwd, hwm, hw1, dig_s1, dig_s2, RB, TB, keep34, tab34, ewOp, xop, xindexAddr, xindex, xslice, xconvert, xlen, drawStep, FreeW, SameW, ChangeW, limBytes, Nat.reduceBEq, Nat.reduceAdd, Nat.reduceEqDiff, Nat.reduceLT, Nat.reduceLeDiff, Nat.reduceMul, Nat.reduceSub, Int.reduceBEq, Int.reduceBNe, Int.reduceToNat, Int.reduceLT, Int.reduceLE, Int.reduceGT, Int.reduceGE, Int.reduceAdd, Int.reduceSub, Int.reduceNeg, Int.reduceEq, Int.toNat_zero, Int.toNat_one, reduceIte, reduceCtorEq, ne_eq, decide_true, decide_false] | ((with_reducible refine Need.intro ?_ ?_); (first | trivial | omega | (simp; done) | (simp; omega)))))
          refine UpTo.here ⟨i + 1, hlt, by simp only; omega, by simp [upd, eset, hsucc, dig_s1, dig_s2], ⟨[], by simp⟩⟩
      · have hq : quoteB s[i] = [92, s[i]] := quoteB_a (.inr h92)
        rw [hq] at hsucc
        (repeat (first | simp -dsimp only [st_run, sz_run, st1_run, cl_run, st_Str, sz_Str, st1_Str, cl_Str, st_c, sz_c, st1_c, cl_c, st_attr, sz_attr, st1_attr, cl_attr, st_tree, sz_tree, st1_tree, cl_tree, h34, h92, hg, hsl, hw1, maxLen_eq, RB, TB, keep34, tab34, ewOp, xop, xindexAddr, xindex, xslice, xconvert, xlen, drawStep, FreeW, SameW, ChangeW, limBytes, Nat.reduceBEq, Nat.reduceAdd, Nat.reduceEqDiff, Nat.reduceLT, Nat.reduceLeDiff, Nat.reduceMul, Nat.reduceSub, Int.reduceBEq, Int.reduceBNe, Int.reduceToNat, Int.reduceLT, Int.reduceLE, Int.reduceGT, Int.reduceGE, Int.reduceAdd, Int.reduceSub, Int.reduceNeg, Int.reduceEq, Int.toNat_zero, Int.toNat_one, reduceIte, reduceCtorEq, ne_eq, decide_true, decide_false] | ((with_reducible refine Need.intro ?_ ?_); (first | trivial | omega | (simp; done) | (simp; omega)))))
        refine UpTo.here ⟨i + 1, hlt, by simp only; omega, by simp [upd, eset, hsucc, dig_s1, dig_s2], ⟨[], by simp⟩⟩
    · have hq : quoteB s[i] = [92, s[i]] := quoteB_a (.inl h34)
      rw [hq] at hsucc
      (repeat (first | simp -dsimp only [st_run, sz_run, st1_run, cl_run, st_Str, sz_Str, st1_Str, cl_Str, st_c, sz_c, st1_c, cl_c, st_attr, sz_attr, st1_attr, cl_attr, st_tree, sz_tree, st1_tree, cl_tree, h34, hg, hsl, hw1, maxLen_eq, RB, TB, keep34, tab34, ewOp, xop, xindexAddr, xindex, xslice, xconvert, xlen, drawStep, FreeW, SameW, ChangeW, limBytes, Nat.reduceBEq, Nat.reduceAdd, Nat.reduceEqDiff, Nat.reduceLT, Nat.reduceLeDiff, Nat.reduceMul, Nat.reduceSub, Int.reduceBEq, Int.reduceBNe, Int.reduceToNat, Int.reduceLT, Int.reduceLE, Int.reduceGT, Int.reduceGE, Int.reduceAdd, Int.reduceSub, Int.reduceNeg, Int.reduceEq, Int.toNat_zero, Int.toNat_one, reduceIte, reduceCtorEq, ne_eq, decide_true, decide_false] | ((with_reducible refine Need.intro ?_ ?_); (first | trivial | omega | (simp; done) | (simp; omega)))))
      refine UpTo.here ⟨i + 1, hlt, by simp only; omega, by simp [upd, eset, hsucc, dig_s1, dig_s2], ⟨[], by simp⟩⟩

  · have hi2 : i = s.length := Nat.le_antisymm hi (ge_of h)
    subst hi2
    (repeat (first | simp -dsimp only [st_run, sz_run, st1_run, cl_run, st_Str, sz_Str, st1_Str, cl_Str, st_c, sz_c, st1_c, cl_c, st_attr, sz_attr, st1_attr, cl_attr, st_tree, sz_tree, st1_tree, cl_tree, h, maxLen_eq, RB, TB, keep34, tab34, ewOp, xop, xindexAddr, xindex, xslice, xconvert, xlen, drawStep, FreeW, SameW, ChangeW, limBytes, Nat.reduceBEq, Nat.reduceAdd, Nat.reduceEqDiff, Nat.reduceLT, Nat.reduceLeDiff, Nat.reduceMul, Nat.reduceSub, Int.reduceBEq, Int.reduceBNe, Int.reduceToNat, Int.reduceLT, Int.reduceLE, Int.reduceGT, Int.reduceGE, Int.reduceAdd, Int.reduceSub, Int.reduceNeg, Int.reduceEq, Int.toNat_zero, Int.toNat_one, reduceIte, reduceCtorEq, ne_eq, decide_true, decide_false] | ((with_reducible refine Need.intro ?_ ?_); (first | trivial | omega | (simp; done) | (simp; omega)))))
    refine RetW.auto0 false _ (by first | rfl | exact (List.append_nil _).symm) ?_ ?_
    · (simp (maxDischargeDepth := 6) [LTB, HLt_set, ltL_take, ltL_drop, ltL_rep, ltL_set, upd, eset, hH, hHk, lt_vi, lt_str, lt_vb, ltc_str, ltc_vi, lt_run, lt1_run, ltc_run, lt_Str, lt1_Str, ltc_Str, lt_c, lt1_c, ltc_c, lt_attr, lt1_attr, ltc_attr, lt_tree, lt1_tree, ltc_tree] <;> omega)
    (try simp only [wk, wk1, wk0, RB, limBytes, Nat.reduceBEq, Nat.reduceAdd, Nat.reduceEqDiff, Nat.reduceLT, Nat.reduceLeDiff, Nat.reduceMul, Nat.reduceSub, Int.reduceBEq, Int.reduceBNe, Int.reduceToNat, Int.reduceLT, Int.reduceLE, Int.reduceGT, Int.reduceGE, Int.reduceAdd, Int.reduceSub, Int.reduceNeg, Int.reduceEq, Int.toNat_zero, Int.toNat_one, reduceIte, reduceCtorEq, ne_eq, decide_true, decide_false])
    (try (rw [List.take_of_length_le]; rotate_left 1; (· first | (simp; done) | (simp; omega) | omega)))
    rw [quoteS_pre]
end Go.Proofs.Ytjhjcldpcngldaa

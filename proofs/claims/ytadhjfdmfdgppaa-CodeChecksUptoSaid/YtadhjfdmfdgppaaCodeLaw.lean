/- What the octets of commands, and the commands of octets, are to each other. -/
import Derived.Test.YtadhjfdmfdgppaaCode2
set_option linter.unusedSimpArgs false
set_option linter.unusedVariables false
set_option maxRecDepth 100000
namespace Go.Proofs.Ytadhjfdmfdgppaa
open Go Go.EL
theorem byt_id {n : Int} (h : 0 ≤ n ∧ n ≤ 255) : ((byt n).toNat : Int) = n := by
  unfold byt
  have e : n % 256 = n := by omega
  rw [e]
  have : n.toNat < 256 := by omega
  simp
  omega
theorem byt_nat (k : Nat) (h : k < 256) : byt (k : Int) = UInt8.ofNat k := by
  unfold byt
  have e : ((k : Int) % 256).toNat = k := by omega
  rw [e]
theorem zero_all {l : List Cmd} (h : (putC l).2 = 0) : (putC l).1 = l.flatMap octetsC ∧ (∀ c ∈ l, checkC c = 0) ∧ l.length ≤ 256 := by
  unfold putC at h ⊢
  split at h
  · simp at h
  · rename_i hl
    rw [if_neg hl]
    split at h
    · rename_i x hx
      have := List.find?_some hx
      simp only at h
      simp [h] at this
    · rename_i hx
      refine ⟨rfl, fun c hc => ?_, by omega⟩
      have := List.find?_eq_none.1 hx c hc
      simpa using this
theorem nonzero {l : List Cmd} (h : (putC l).2 ≠ 0) : (putC l).1 = [] := by
  unfold putC at h ⊢
  split at h
  · rename_i hl; rw [if_pos hl]
  · rename_i hl
    rw [if_neg hl]
    split at h
    · rfl
    · simp at h
theorem checkC_zero {c : Cmd} : checkC c = 0 ↔ (1 ≤ c.op ∧ c.op ≤ 9) ∧ (0 ≤ c.a ∧ c.a ≤ 255) ∧ (0 ≤ c.b ∧ c.b ≤ 255) ∧ (0 ≤ c.c ∧ c.c ≤ 255) ∧ c.text.length ≤ 4096 := by
  unfold checkC badB
  by_cases h1 : c.op < 1 ∨ c.op > 9
  · rw [if_pos h1]; simp; omega
  · rw [if_neg h1]
    simp only [Bool.or_eq_true, decide_eq_true_eq]
    by_cases h2 : (c.a < 0 ∨ c.a > 255) ∨ (c.b < 0 ∨ c.b > 255) ∨ c.c < 0 ∨ c.c > 255
    · rw [if_pos h2]; simp; omega
    · rw [if_neg h2]
      by_cases h3 : (c.text.length : Int) > 4096
      · rw [if_pos h3]; simp; omega
      · rw [if_neg h3]; simp; omega
/-- the octets of one command, and what is behind them, come back -/
theorem next_octets {c : Cmd} (h : checkC c = 0) (rest : List UInt8) : nextC (octetsC c ++ rest) = (c, rest, true) := by
  obtain ⟨h1, h2, h3, h4, h5⟩ := checkC_zero.1 h
  have hlen : (octetsC c ++ rest).length = c.text.length + 6 + rest.length := by rw [List.length_append, octetsC_len]
  have hfd : Int.fdiv (c.text.length : Int) 256 = ((c.text.length / 256 : Nat) : Int) := by
    rw [Int.fdiv_eq_ediv_of_nonneg _ (by omega)]; rfl
  have hnum : numC (octetsC c ++ rest) = c.text.length := by
    simp only [numC, octetsC, List.cons_append, List.getD_cons_succ, List.getD_cons_zero]
    rw [hfd, byt_nat _ (by omega)]
    unfold byt
    have : ((c.text.length : Int) % 256).toNat = c.text.length % 256 := by omega
    rw [this]
    simp
    omega
  unfold nextC
  rw [if_neg (by omega), hnum, if_neg (by omega)]
  have ht : ((octetsC c ++ rest).take (6 + c.text.length)).drop 6 = c.text := by
    have e : 6 + c.text.length = (octetsC c).length := by rw [octetsC_len]; omega
    rw [e, List.take_left]
    simp [octetsC]
  have hd : (octetsC c ++ rest).drop (6 + c.text.length) = rest := by
    have e : 6 + c.text.length = (octetsC c).length := by rw [octetsC_len]; omega
    rw [e, List.drop_left]
  have hc : (⟨u8 (octetsC c ++ rest) 0, u8 (octetsC c ++ rest) 1, u8 (octetsC c ++ rest) 2, u8 (octetsC c ++ rest) 3, ((octetsC c ++ rest).take (6 + c.text.length)).drop 6⟩ : Cmd) = c := by
    rw [ht]
    have e0 : u8 (octetsC c ++ rest) 0 = c.op := byt_id (by omega)
    have e1 : u8 (octetsC c ++ rest) 1 = c.a := byt_id h2
    have e2 : u8 (octetsC c ++ rest) 2 = c.b := byt_id h3
    have e3 : u8 (octetsC c ++ rest) 3 = c.c := byt_id h4
    rw [e0, e1, e2, e3]
  simp only [hc, hd, h]
  rfl
theorem octets_ne (c : Cmd) (r : List UInt8) : octetsC c ++ r ≠ [] := by simp [octetsC]
theorem read_put : ∀ {l : List Cmd}, (∀ c ∈ l, checkC c = 0) → readL (l.flatMap octetsC) = some l
  | [], _ => readL_nil
  | c :: l, h => by
    have hn := next_octets (h c (by simp)) (l.flatMap octetsC)
    rw [List.flatMap_cons, readL_ok (octets_ne _ _) (by rw [hn]), hn, read_put fun c hc => h c (by simp [hc])]
    rfl
theorem u8_byte (b : List UInt8) (i : Nat) : byt (u8 b i) = b.getD i 0 := by
  unfold u8
  rw [byt_nat _ (UInt8.toNat_lt _)]
  simp
theorem six {b : List UInt8} (h : 6 ≤ b.length) : b = b.getD 0 0 :: b.getD 1 0 :: b.getD 2 0 :: b.getD 3 0 :: b.getD 4 0 :: b.getD 5 0 :: b.drop 6 := by
  match b, h with
  | a0 :: a1 :: a2 :: a3 :: a4 :: a5 :: r, _ => rfl
/-- what next tells is the octets' -/
theorem next_back {b : List UInt8} (h : (nextC b).2.2 = true) : checkC (nextC b).1 = 0 ∧ octetsC (nextC b).1 ++ (nextC b).2.1 = b := by
  have h6 : 6 ≤ b.length := by have := nextC_shrinks h; omega
  unfold nextC at h ⊢
  rw [if_neg (by omega)] at h ⊢
  split at h
  · simp at h
  rename_i h7
  rw [if_neg h7]
  simp only at h ⊢
  refine ⟨by simpa using h, ?_⟩
  have hl : ((b.take (6 + numC b)).drop 6).length = numC b := by simp; omega
  have b4 := (b.getD 4 0).toNat_lt
  have b5 := (b.getD 5 0).toNat_lt
  have e4 : byt (Int.fdiv (numC b : Int) 256) = b.getD 4 0 := by
    rw [Int.fdiv_eq_ediv_of_nonneg _ (by omega)]
    rw [show ((numC b : Int) / 256) = ((numC b / 256 : Nat) : Int) by omega, byt_nat _ (by unfold numC; omega)]
    rw [show numC b / 256 = (b.getD 4 0).toNat by unfold numC; omega]
    simp
  have e5 : byt (numC b : Int) = b.getD 5 0 := by
    unfold byt
    rw [show ((numC b : Int) % 256).toNat = (b.getD 5 0).toNat by unfold numC; omega]
    simp
  simp only [octetsC, hl, u8_byte, e4, e5]
  have hd : (b.take (6 + numC b)).drop 6 ++ b.drop (6 + numC b) = b.drop 6 := by
    have := List.take_append_drop (numC b) (b.drop 6)
    rw [List.drop_drop] at this
    rw [List.drop_take, show 6 + numC b - 6 = numC b by omega]
    exact this
  simp only [List.cons_append, List.nil_append, List.append_assoc]
  rw [hd]
  exact (six h6).symm
theorem put_read : ∀ (n : Nat) {b : List UInt8} {l : List Cmd}, b.length ≤ n → readL b = some l → l.flatMap octetsC = b ∧ ∀ c ∈ l, checkC c = 0
  | n, b, l, hn, h => by
    by_cases hb : b = []
    · subst hb
      rw [readL_nil] at h
      injection h with h
      subst h
      simp
    · cases h2 : (nextC b).2.2 with
      | false => rw [readL_bad hb h2] at h; cases h
      | true =>
        rw [readL_ok hb h2] at h
        obtain ⟨m, hm, rfl⟩ := Option.map_eq_some_iff.1 h
        have hs := nextC_shrinks h2
        obtain ⟨k1, k2⟩ := next_back h2
        match n, hn with
        | 0, hn => omega
        | n + 1, hn =>
          obtain ⟨i1, i2⟩ := put_read n (by omega) hm
          refine ⟨by rw [List.flatMap_cons, i1, k2], fun c hc => ?_⟩
          rcases List.mem_cons.1 hc with rfl | hc
          · exact k1
          · exact i2 c hc
theorem read_zero {b : List UInt8} (h : (readC b).2 = 0) : (putC (readC b).1).2 = 0 ∧ (putC (readC b).1).1 = b := by
  unfold readC at h ⊢
  split at h
  · simp at h
  · rename_i l hl
    split at h
    · simp at h
    · rename_i h256
      rw [if_neg h256]
      obtain ⟨k1, k2⟩ := put_read _ (Nat.le_refl _) hl
      have := putC_good (l := l) (by omega) k2
      rw [this]
      exact ⟨rfl, k1⟩
theorem read_nonzero {b : List UInt8} (h : (readC b).2 ≠ 0) : (readC b).1 = [] := by
  unfold readC at h ⊢
  split at h
  · rfl
  · split at h
    · rename_i h256; rw [if_pos h256]
    · simp at h
theorem put_zero {l : List Cmd} (h : (putC l).2 = 0) : readC (putC l).1 = (l, 0) := by
  obtain ⟨k1, k2, k3⟩ := zero_all h
  rw [k1]
  unfold readC
  rw [read_put k2]
  simp only
  rw [if_neg (by omega)]
theorem put_len {l : List Cmd} (h : (putC l).2 = 0) : (putC l).1.length ≤ 1050112 := by
  obtain ⟨k1, k2, k3⟩ := zero_all h
  have := flat_len k2
  rw [k1]
  omega
end Go.Proofs.Ytadhjfdmfdgppaa

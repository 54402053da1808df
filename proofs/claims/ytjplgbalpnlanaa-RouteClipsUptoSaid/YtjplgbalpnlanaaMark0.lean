/- Labelled texts: their bytes' origins, and what is put together of them. -/
import Derived.Test.YtjplgbalpnlanaaET
set_option maxHeartbeats 600000
set_option linter.unusedSimpArgs false
set_option linter.unusedVariables false
set_option maxRecDepth 100000
namespace Go.Proofs.Ytjplgbalpnlanaa
open Go Go.EL
theorem lt_vi (n : Nat) (l : List Int) : ltL n (l.map vi) := ltL_map (f := vi) (fun _ => trivial) l
theorem lt_str (n : Nat) (l : List (List UInt8)) : ltL n (l.map V.str) := ltL_map (f := V.str) (fun _ => trivial) l
theorem lt_vb (n : Nat) (l : List UInt8) : ltL n (l.map vb) := ltL_map (f := vb) (fun _ => trivial) l
theorem ltc_str {α : Type} (n : Nat) (g : α → List UInt8) (l : List α) : ltL n (l.map (V.str ∘ g)) := ltL_map (f := V.str ∘ g) (fun _ => trivial) l
theorem ltc_vi {α : Type} (n : Nat) (g : α → Int) (l : List α) : ltL n (l.map (vi ∘ g)) := ltL_map (f := vi ∘ g) (fun _ => trivial) l
theorem wrapI {x : Int} (h : -9223372036854775808 ≤ x ∧ x ≤ 9223372036854775807) : IntKind.i64.wrap x = x := wrap64_id h
theorem ge_of {a b : Nat} (h : decide ((a : Int) < b) = false) : b ≤ a := by have := of_decide_eq_false h; omega
theorem lt_of {a b : Nat} (h : decide ((a : Int) < b) = true) : a < b := by have := of_decide_eq_true h; omega
/-- the place of the first one; -1: none -/
def ix {α : Type} (p : α → Bool) (l : List α) : Int := if l.findIdx p < l.length then (l.findIdx p : Nat) else -1
theorem ix_hit {α : Type} {p : α → Bool} {l : List α} {i : Nat} (h : i < l.length) (hp : p l[i] = true) (hn : ∀ x ∈ l.take i, p x = false) : ix p l = i := by
  have : l.findIdx p = i := by
    rw [List.findIdx_eq h]
    refine ⟨hp, fun j hj => ?_⟩
    exact hn _ (List.mem_take_iff_getElem.2 ⟨j, by omega, rfl⟩)
  rw [ix, this, if_pos h]
theorem ix_none {α : Type} {p : α → Bool} {l : List α} (hn : ∀ x ∈ l, p x = false) : ix p l = -1 := by
  rw [ix, if_neg]
  rw [List.findIdx_lt_length]
  rintro ⟨x, hx, h⟩
  rw [hn x hx] at h
  cases h
theorem ix_nonneg {α : Type} {p : α → Bool} {l : List α} : 0 ≤ ix p l ↔ ∃ x ∈ l, p x = true := by
  unfold ix
  by_cases h : l.findIdx p < l.length
  · rw [if_pos h]; exact ⟨fun _ => List.findIdx_lt_length.1 h, fun _ => by omega⟩
  · rw [if_neg h]; exact ⟨fun h => by omega, fun h' => absurd (List.findIdx_lt_length.2 h') h⟩
theorem ix_any {α : Type} {p : α → Bool} {l : List α} : decide (0 ≤ ix p l) = l.any p := by
  rw [Bool.eq_iff_iff, decide_eq_true_iff, ix_nonneg, List.any_eq_true]
theorem take_step {α : Type} {q : α → Prop} {l : List α} {i : Nat} (h : i < l.length) (hq : q l[i]) (hn : ∀ x ∈ l.take i, q x) : ∀ x ∈ l.take (i + 1), q x := by
  intro x hx
  rw [List.take_succ_eq_append_getElem h] at hx
  rcases List.mem_append.1 hx with hx | hx
  · exact hn x hx
  · rw [List.mem_singleton.1 hx]; exact hq
theorem take_all {α : Type} {q : α → Prop} {l : List α} {i : Nat} (h : l.length ≤ i) (hn : ∀ x ∈ l.take i, q x) : ∀ x ∈ l, q x := by
  rwa [List.take_of_length_le h] at hn
theorem isE {α : Type} {l : List α} (h : l ≠ []) : l.isEmpty = false := by cases l <;> simp_all

/-! labelled texts -/
structure Str where
  text : List UInt8
  runs : List (Int × Int)
  deriving DecidableEq
def runV (r : Int × Int) : V := .agg [.int .i64 r.1, .int .i64 r.2]
def strV (s : Str) : V := .agg [.str s.text, .slice (s.runs.map runV)]
theorem lt_run (n : Nat) (l : List (Int × Int)) : ltL n (l.map runV) := ltL_map (f := runV) (fun _ => by simp [runV, V.lt, ltL]) l
theorem lt1_run (n : Nat) (x : Int × Int) : V.lt n (runV x) := by simp [runV, V.lt, ltL]
theorem ltc_run {α : Type} (n : Nat) (g : α → Int × Int) (l : List α) : ltL n (l.map (runV ∘ g)) := ltL_map (f := runV ∘ g) (fun x => lt1_run n (g x)) l
theorem st_run (l : List (Int × Int)) : (∀ x, x ∈ l.map runV → x.storable) = True := eq_true (storable_map (f := runV) (fun _ => trivial) l)
theorem sz_run (l : List (Int × Int)) : Sized 2 (l.map runV) = True := eq_true (sizedMapV (f := runV) (fun _ => rfl) l)
theorem st1_run (x : Int × Int) : (runV x).storable = True := eq_true trivial
theorem cl_run (x : Int × Int) : (runV x).cells.length = 2 := rfl

theorem lt_Str (n : Nat) (l : List (Str)) : ltL n (l.map strV) := ltL_map (f := strV) (fun _ => by simp [strV, V.lt, ltL, lt_run]) l
theorem lt1_Str (n : Nat) (x : Str) : V.lt n (strV x) := by simp [strV, V.lt, ltL, lt_run]
theorem ltc_Str {α : Type} (n : Nat) (g : α → Str) (l : List α) : ltL n (l.map (strV ∘ g)) := ltL_map (f := strV ∘ g) (fun x => lt1_Str n (g x)) l
theorem st_Str (l : List (Str)) : (∀ x, x ∈ l.map strV → x.storable) = True := eq_true (storable_map (f := strV) (fun _ => trivial) l)
theorem sz_Str (l : List (Str)) : Sized 2 (l.map strV) = True := eq_true (sizedMapV (f := strV) (fun _ => rfl) l)
theorem st1_Str (x : Str) : (strV x).storable = True := eq_true trivial
theorem cl_Str (x : Str) : (strV x).cells.length = 2 := rfl

def near (o : Int) : Int := min (max o 0) 65536
theorem near_ge (o : Int) : 0 ≤ near o := by unfold near; omega
theorem near_le (o : Int) : near o ≤ 65536 := by unfold near; omega
theorem near_id {o : Int} (h : 0 ≤ o ∧ o ≤ 65536) : near o = o := by unfold near; omega
/-- so many bytes more, of an origin -/
def putR (l : List (Int × Int)) (n o : Int) : List (Int × Int) :=
  if n < 1 then l else match l.getLast? with
  | none => [(n, o)]
  | some (k, o') => if o' = o then l.dropLast ++ [(k + n, o)] else l ++ [(n, o)]
/-- origins in a row -/
def rle (l : List Int) : List (Int × Int) := l.foldl (fun acc o => putR acc 1 o) []
theorem putR_zero (l : List (Int × Int)) (n o : Int) (h : n < 1) : putR l n o = l := by unfold putR; rw [if_pos h]
theorem putR_last {l : List (Int × Int)} {n o : Int} (h : 1 ≤ n) : ∃ k, (putR l n o).getLast? = some (k, o) := by
  unfold putR
  rw [if_neg (by omega)]
  split
  · exact ⟨_, rfl⟩
  · split
    · exact ⟨_, by simp; rfl⟩
    · exact ⟨_, by simp; rfl⟩
theorem putR_put {l : List (Int × Int)} {n m o : Int} (hn : 1 ≤ n) (hm : 0 ≤ m) : putR (putR l n o) m o = putR l (n + m) o := by
  by_cases h0 : m < 1
  · rw [putR_zero _ _ _ h0, show m = 0 by omega, Int.add_zero]
  have h1 : ¬ n < 1 := by omega
  have h2 : ¬ n + m < 1 := by omega
  cases hl : l.getLast? with
  | none => simp [putR, h0, h1, h2, hl]
  | some p =>
    obtain ⟨k, o'⟩ := p
    by_cases ho : o' = o
    · simp [putR, h0, h1, h2, hl, ho, Int.add_assoc]
    · simp [putR, h0, h1, h2, hl, ho]
theorem rle_append (l : List Int) (o : Int) : ∀ n : Nat, rle (l ++ List.replicate n o) = putR (rle l) n o
  | 0 => by simp [putR]
  | n + 1 => by
    rw [List.replicate_succ', ← List.append_assoc]
    have : rle (l ++ List.replicate n o ++ [o]) = putR (rle (l ++ List.replicate n o)) 1 o := by simp [rle, List.foldl_append]
    rw [this, rle_append l o n]
    cases n with
    | zero => simp [putR_zero]
    | succ n => rw [putR_put (by omega) (by omega)]; rfl
theorem rle_nil : rle [] = [] := rfl
theorem rle_snoc (l : List Int) (o : Int) : rle (l ++ [o]) = putR (rle l) 1 o := by simp [rle, List.foldl_append]
theorem rle_rep (n : Nat) (o : Int) : rle (List.replicate n o) = if n = 0 then [] else [((n : Int), o)] := by
  have := rle_append [] o n
  rw [List.nil_append] at this
  rw [this]
  cases n with
  | zero => simp [putR, rle_nil]
  | succ n => simp [putR, rle_nil]; omega
/-- the origins of runs -/
def unrle (r : List (Int × Int)) : List Int := r.flatMap fun p => List.replicate p.1.toNat p.2
theorem unrle_put {r : List (Int × Int)} {n : Nat} {o : Int} (hr : ∀ p ∈ r, 1 ≤ p.1) : unrle (putR r n o) = unrle r ++ List.replicate n o ∧ ∀ p ∈ putR r n o, 1 ≤ p.1 := by
  unfold putR
  by_cases hn : (n : Int) < 1
  · rw [if_pos hn]
    have : n = 0 := by omega
    subst this
    exact ⟨by simp, hr⟩
  · rw [if_neg hn]
    have h1 : ∀ q : Int × Int, q.1 = n → 1 ≤ q.1 := fun q h => by omega
    cases hl : r.getLast? with
    | none =>
      rw [List.getLast?_eq_none_iff] at hl
      subst hl
      exact ⟨by simp [unrle], fun p hp => by simp at hp; subst hp; exact h1 _ rfl⟩
    | some q =>
      obtain ⟨k, o'⟩ := q
      obtain ⟨ys, rfl⟩ := List.getLast?_eq_some_iff.1 hl
      have hk := hr (k, o') (by simp)
      simp only
      by_cases ho : o' = o
      · subst ho
        rw [if_pos rfl, List.dropLast_concat]
        refine ⟨?_, fun p hp => ?_⟩
        · simp only [unrle, List.flatMap_append, List.flatMap_cons, List.flatMap_nil, List.append_nil, List.append_assoc]
          rw [List.replicate_append_replicate]
          congr 2
          simp only at hk
          omega
        · rcases List.mem_append.1 hp with hp | hp
          · exact hr p (by simp [hp])
          · simp at hp; subst hp; simp only at hk ⊢; omega
      · rw [if_neg ho]
        refine ⟨by simp [unrle], fun p hp => ?_⟩
        rcases List.mem_append.1 hp with hp | hp
        · exact hr p hp
        · simp at hp; subst hp; exact h1 _ rfl
theorem unrle_foldl : ∀ (l : List Int) (acc : List (Int × Int)), (∀ p ∈ acc, 1 ≤ p.1) → unrle (l.foldl (fun acc o => putR acc 1 o) acc) = unrle acc ++ l ∧ ∀ p ∈ l.foldl (fun acc o => putR acc 1 o) acc, 1 ≤ p.1
  | [], acc, h => ⟨by simp, h⟩
  | o :: l, acc, h => by
    obtain ⟨h1, h2⟩ := unrle_put (n := 1) (o := o) h
    obtain ⟨h3, h4⟩ := unrle_foldl l (putR acc 1 o) h2
    rw [List.foldl_cons]
    refine ⟨?_, h4⟩
    rw [h3, show putR acc 1 o = putR acc (1 : Nat) o from rfl, h1]
    simp
theorem unrle_rle_pos (l : List Int) : unrle (rle l) = l ∧ ∀ p ∈ rle l, 1 ≤ p.1 := by
  obtain ⟨h1, h2⟩ := unrle_foldl l [] (by simp)
  exact ⟨by rw [rle, h1]; rfl, h2⟩
theorem unrle_rle (l : List Int) : unrle (rle l) = l := (unrle_rle_pos l).1
theorem rle_inj {a b : List Int} : rle a = rle b ↔ a = b := ⟨fun h => by rw [← unrle_rle a, h, unrle_rle], fun h => by rw [h]⟩
/-- the bytes of runs, up to a number of bytes -/
def origF (n : Nat) : List (Int × Int) → List Int → List Int
  | [], acc => acc
  | r :: rs, acc => origF n rs (acc ++ List.replicate (min r.1.toNat (n - acc.length)) (near r.2))
theorem origF_append (n : Nat) : ∀ (a b : List (Int × Int)) (acc : List Int), origF n (a ++ b) acc = origF n b (origF n a acc)
  | [], _, _ => rfl
  | r :: a, b, acc => by simp only [List.cons_append, origF]; exact origF_append n a b _
theorem origF_len (n : Nat) : ∀ (rs : List (Int × Int)) (acc : List Int), acc.length ≤ n → (origF n rs acc).length ≤ n ∧ acc.length ≤ (origF n rs acc).length
  | [], acc, h => ⟨h, Nat.le_refl _⟩
  | r :: rs, acc, h => by
    have h2 : (acc ++ List.replicate (min r.1.toNat (n - acc.length)) (near r.2)).length ≤ n := by simp; omega
    have := origF_len n rs _ h2
    simp only [List.length_append, List.length_replicate] at this
    exact ⟨this.1, by simp only [origF]; omega⟩
/-- the origins of a labelled text's bytes -/
def orig (s : Str) : List Int := origF s.text.length s.runs [] ++ List.replicate (s.text.length - (origF s.text.length s.runs []).length) 65536
theorem orig_len (s : Str) : (orig s).length = s.text.length := by
  have := (origF_len s.text.length s.runs [] (Nat.zero_le _)).1
  simp [orig]; omega
theorem origF_near (n : Nat) : ∀ (rs : List (Int × Int)) (acc : List Int), (∀ o ∈ acc, 0 ≤ o ∧ o ≤ 65536) → ∀ o ∈ origF n rs acc, 0 ≤ o ∧ o ≤ 65536
  | [], acc, h => h
  | r :: rs, acc, h => by
    refine origF_near n rs _ fun o ho => ?_
    rcases List.mem_append.1 ho with ho | ho
    · exact h o ho
    · rw [(List.mem_replicate.1 ho).2]; exact ⟨near_ge _, near_le _⟩
theorem orig_near (s : Str) : ∀ o ∈ orig s, 0 ≤ o ∧ o ≤ 65536 := by
  intro o ho
  rcases List.mem_append.1 ho with ho | ho
  · exact origF_near _ _ _ (by simp) o ho
  · rw [(List.mem_replicate.1 ho).2]; omega
/-- as it is taken -/
def fixS (s : Str) : Str := ⟨s.text, rle (orig s)⟩
/-- of bytes' origins: what runs that are right tell -/
theorem origF_unrle (n : Nat) : ∀ (rs : List (Int × Int)) (acc : List Int), (∀ p ∈ rs, 0 ≤ p.2 ∧ p.2 ≤ 65536) → acc.length + (unrle rs).length ≤ n → origF n rs acc = acc ++ unrle rs
  | [], acc, _, _ => by simp [origF, unrle]
  | r :: rs, acc, h, hl => by
    have e : unrle (r :: rs) = List.replicate r.1.toNat r.2 ++ unrle rs := by simp [unrle]
    rw [e] at hl ⊢
    simp only [List.length_append, List.length_replicate] at hl
    simp only [origF]
    rw [near_id (h r (by simp)), Nat.min_eq_left (by omega), origF_unrle n rs _ (fun p hp => h p (by simp [hp])) (by simp; omega), List.append_assoc]
theorem rle_mem {l : List Int} {p : Int × Int} (h : p ∈ rle l) : p.2 ∈ l := by
  have h1 := (unrle_rle_pos l).2 p h
  have h2 := unrle_rle l
  rw [← h2]
  unfold unrle
  rw [List.mem_flatMap]
  exact ⟨p, h, List.mem_replicate.2 ⟨by omega, rfl⟩⟩
theorem orig_rle {t : List UInt8} {l : List Int} (hl : l.length = t.length) (hn : ∀ o ∈ l, 0 ≤ o ∧ o ≤ 65536) : orig ⟨t, rle l⟩ = l := by
  unfold orig
  have := origF_unrle t.length (rle l) [] (fun p hp => hn _ (rle_mem hp)) (by rw [unrle_rle]; simp; omega)
  simp only
  rw [this, unrle_rle]
  simp [hl]
theorem orig_fix (s : Str) : orig (fixS s) = orig s := orig_rle (orig_len s) (orig_near s)
theorem fix_fix (s : Str) : fixS (fixS s) = fixS s := by
  have := orig_fix s
  unfold fixS at this ⊢
  simp only [this]
/-- two that are alike -/
def Like (a b : Str) : Prop := a.text = b.text ∧ orig a = orig b
instance (a b : Str) : Decidable (Like a b) := inferInstanceAs (Decidable (_ ∧ _))
theorem Like_fix (a : Str) : Like (fixS a) a := ⟨rfl, orig_fix a⟩
/-- the bytes with their origins -/
def ofS (s : Str) : List (UInt8 × Int) := s.text.zip (orig s)
theorem ofS_len (s : Str) : (ofS s).length = s.text.length := by simp [ofS, orig_len]
theorem ofS_inj {a b : Str} : ofS a = ofS b ↔ Like a b := by
  unfold ofS Like
  constructor
  · intro h
    have h1 := congrArg (List.map Prod.fst) h
    have h2 := congrArg (List.map Prod.snd) h
    rw [List.map_fst_zip (by rw [orig_len]; exact Nat.le_refl _), List.map_fst_zip (by rw [orig_len]; exact Nat.le_refl _)] at h1
    rw [List.map_snd_zip (by rw [orig_len]; exact Nat.le_refl _), List.map_snd_zip (by rw [orig_len]; exact Nat.le_refl _)] at h2
    exact ⟨h1, h2⟩
  · rintro ⟨h1, h2⟩; rw [h1, h2]
theorem mem_le_sum {l : List (Int × Int)} {p : Int × Int} (h : p ∈ l) : p.1.toNat ≤ (unrle l).length := by
  induction l with
  | nil => cases h
  | cons q l ih =>
    have e : unrle (q :: l) = List.replicate q.1.toNat q.2 ++ unrle l := by simp [unrle]
    rw [e, List.length_append, List.length_replicate]
    rcases List.mem_cons.1 h with rfl | h
    · omega
    · have := ih h; omega
theorem rle_bound {l : List Int} {p : Int × Int} (h : p ∈ rle l) : 1 ≤ p.1 ∧ p.1 ≤ l.length := by
  have h1 := (unrle_rle_pos l).2 p h
  have h2 := mem_le_sum h
  rw [unrle_rle] at h2
  omega
theorem len_le_unrle {l : List (Int × Int)} (h : ∀ p ∈ l, 1 ≤ p.1) : l.length ≤ (unrle l).length := by
  induction l with
  | nil => simp
  | cons q l ih =>
    have e : unrle (q :: l) = List.replicate q.1.toNat q.2 ++ unrle l := by simp [unrle]
    rw [e, List.length_append, List.length_replicate, List.length_cons]
    have := ih fun p hp => h p (by simp [hp])
    have := h q (by simp)
    omega
theorem rle_len (l : List Int) : (rle l).length ≤ l.length := by
  have := len_le_unrle (unrle_rle_pos l).2
  rwa [unrle_rle] at this
/-- of a size that can be reckoned with -/
def okS (s : Str) : Prop := s.text.length ≤ 1000000000000 ∧ s.runs.length ≤ 1000000000000
theorem okS_fix {s : Str} (h : okS s) : okS (fixS s) := ⟨h.1, by have := rle_len (orig s); rw [orig_len] at this; exact Nat.le_trans this h.1⟩
def cV (c : UInt8 × Int) : V := .agg [vb c.1, .int .i64 c.2]
theorem lt_c (n : Nat) (l : List (UInt8 × Int)) : ltL n (l.map cV) := ltL_map (f := cV) (fun _ => by simp [cV, V.lt, ltL, vb]) l
theorem lt1_c (n : Nat) (x : UInt8 × Int) : V.lt n (cV x) := by simp [cV, V.lt, ltL, vb]
theorem ltc_c {α : Type} (n : Nat) (g : α → UInt8 × Int) (l : List α) : ltL n (l.map (cV ∘ g)) := ltL_map (f := cV ∘ g) (fun x => lt1_c n (g x)) l
theorem st_c (l : List (UInt8 × Int)) : (∀ x, x ∈ l.map cV → x.storable) = True := eq_true (storable_map (f := cV) (fun _ => trivial) l)
theorem sz_c (l : List (UInt8 × Int)) : Sized 2 (l.map cV) = True := eq_true (sizedMapV (f := cV) (fun _ => rfl) l)
theorem st1_c (x : UInt8 × Int) : (cV x).storable = True := eq_true trivial
theorem cl_c (x : UInt8 × Int) : (cV x).cells.length = 2 := rfl

theorem zip_snoc {t : List UInt8} {acc : List Int} (o : Int) (h : acc.length < t.length) : t.zip (acc ++ [o]) = t.zip acc ++ [(t[acc.length], o)] := by
  apply List.ext_getElem?
  intro i
  by_cases hi : i < acc.length
  · rw [List.getElem?_append_left (by simp; omega)]
    simp [List.getElem?_zip_eq_some, List.getElem?_append_left hi, hi, List.getElem?_eq_getElem (show i < t.length by omega), List.zip, List.getElem?_zipWith]
  · rw [List.getElem?_append_right (by simp; omega)]
    simp only [List.length_zip, Nat.min_eq_right (Nat.le_of_lt h)]
    by_cases he : i = acc.length
    · subst he
      simp [List.zip, List.getElem?_zipWith, List.getElem?_eq_getElem h]
    · rw [List.getElem?_eq_none (by simp; omega), List.getElem?_eq_none (by simp; omega)]
theorem zip_len {t : List UInt8} {acc : List Int} (h : acc.length ≤ t.length) : (t.zip acc).length = acc.length := by simp; omega
theorem like_iff {a b : Str} : Like a b ↔ fixS a = fixS b := by
  obtain ⟨ta, ra⟩ := a
  obtain ⟨tb, rb⟩ := b
  simp [Like, fixS, rle_inj]
theorem fix_text (s : Str) : (fixS s).text = s.text := rfl
/-- a name and its value -/
structure Attr where
  name : Str
  value : Str
  deriving DecidableEq
def attrV (a : Attr) : V := .agg [.str a.name.text, .slice (a.name.runs.map runV), .str a.value.text, .slice (a.value.runs.map runV)]
theorem lt_attr (n : Nat) (l : List (Attr)) : ltL n (l.map attrV) := ltL_map (f := attrV) (fun _ => by simp [attrV, V.lt, ltL, lt_run]) l
theorem lt1_attr (n : Nat) (x : Attr) : V.lt n (attrV x) := by simp [attrV, V.lt, ltL, lt_run]
theorem ltc_attr {α : Type} (n : Nat) (g : α → Attr) (l : List α) : ltL n (l.map (attrV ∘ g)) := ltL_map (f := attrV ∘ g) (fun x => lt1_attr n (g x)) l
theorem st_attr (l : List (Attr)) : (∀ x, x ∈ l.map attrV → x.storable) = True := eq_true (storable_map (f := attrV) (fun _ => trivial) l)
theorem sz_attr (l : List (Attr)) : Sized 4 (l.map attrV) = True := eq_true (sizedMapV (f := attrV) (fun _ => rfl) l)
theorem st1_attr (x : Attr) : (attrV x).storable = True := eq_true trivial
theorem cl_attr (x : Attr) : (attrV x).cells.length = 4 := rfl

def ownA (a : Attr) : Attr := ⟨fixS a.name, fixS a.value⟩
theorem own_own (a : Attr) : ownA (ownA a) = ownA a := by simp [ownA, fix_fix]
def okA (a : Attr) : Prop := okS a.name ∧ okS a.value
theorem okA_own {a : Attr} (h : okA a) : okA (ownA a) := ⟨okS_fix h.1, okS_fix h.2⟩
def zeroS : Str := ⟨[], []⟩

end Go.Proofs.Ytjplgbalpnlanaa

/- The value logic, part O: ghost steps, what a function answers. -/
import Derived.Test.YtjplgbalpnlanaaEN
set_option linter.unusedVariables false
set_option linter.unusedSimpArgs false
namespace Go.EL
open Go
variable {P : Program} {T : Nat → TD}

mutual
def V.lt (n : Nat) : V → Prop
  | .ref o _ => o < n
  | .eref o _ _ _ => o < n
  | .cref cs _ => ltL n cs
  | .slice l => ltL n l
  | .fslice l => ltL n l
  | .vec o _ _ _ => o < n
  | .agg cs => ltL n cs
  | .fn _ a b => ltL n a ∧ ltL n b
  | .mapr o => o < n
  | .iface _ v => v.lt n
  | .tuple vs => ltL n vs
  | _ => True
def ltL (n : Nat) : List V → Prop
  | [] => True
  | x :: xs => x.lt n ∧ ltL n xs
end

theorem ltL_iff {n : Nat} : ∀ {l : List V}, ltL n l ↔ ∀ x ∈ l, x.lt n
  | [] => by simp [ltL]
  | x :: xs => by simp only [ltL, List.mem_cons, forall_eq_or_imp, ltL_iff (l := xs)]
theorem ltL_append {n : Nat} {l m : List V} : ltL n (l ++ m) ↔ ltL n l ∧ ltL n m := by
  simp only [ltL_iff, List.mem_append]
  exact ⟨fun h => ⟨fun x hx => h x (.inl hx), fun x hx => h x (.inr hx)⟩, fun h x hx => hx.elim (h.1 x) (h.2 x)⟩
theorem ltL_map {α : Type} {n : Nat} {f : α → V} (h : ∀ x, (f x).lt n) (l : List α) : ltL n (l.map f) := by
  rw [ltL_iff]
  intro x hx
  obtain ⟨y, _, rfl⟩ := List.mem_map.1 hx
  exact h y
theorem ltL_take {n k : Nat} {l : List V} (h : ltL n l) : ltL n (l.take k) := by rw [ltL_iff] at *; exact fun x hx => h x (List.mem_of_mem_take hx)
theorem ltL_drop {n k : Nat} {l : List V} (h : ltL n l) : ltL n (l.drop k) := by rw [ltL_iff] at *; exact fun x hx => h x (List.mem_of_mem_drop hx)

mutual
theorem V.lt_le {m n : Nat} (h : m ≤ n) : ∀ (x : V), x.lt m → x.lt n
  | .ref o _, k => Nat.lt_of_lt_of_le k h
  | .eref o _ _ _, k => Nat.lt_of_lt_of_le k h
  | .cref cs _, k => ltL_le h cs k
  | .slice l, k => ltL_le h l k
  | .fslice l, k => ltL_le h l k
  | .vec o _ _ _, k => Nat.lt_of_lt_of_le k h
  | .agg cs, k => ltL_le h cs k
  | .fn _ a b, k => ⟨ltL_le h a k.1, ltL_le h b k.2⟩
  | .mapr o, k => Nat.lt_of_lt_of_le k h
  | .iface _ v, k => V.lt_le h v k
  | .tuple vs, k => ltL_le h vs k
  | .dead, _ | .int _ _, _ | .bool _, _ | .str _, _ | .nilp, _ | .nilf, _ | .nilm, _ | .nili, _ => trivial
theorem ltL_le {m n : Nat} (h : m ≤ n) : ∀ (l : List V), ltL m l → ltL n l
  | [], _ => trivial
  | x :: xs, k => ⟨V.lt_le h x k.1, ltL_le h xs k.2⟩
end

/-- a context of which a part is seen -/
structure Sub (c c' : Cx) (n : Nat) : Prop where
  imm : ∀ b, c.imm b → c'.imm b
  cell : c'.cell = c.cell
  key : ∀ o, o < n → c'.key o = c.key o ∨ c'.key o = none
  nobj : c'.nobj = n

theorem Sub.has {c c' : Cx} {n : Nat} (m : Sub c c' n) {o : Nat} (hl : o < n) (h : c.has o) : c'.has o := by
  refine ⟨by rw [m.nobj]; exact hl, fun e => ?_⟩
  rcases m.key o hl with k | k
  · exact h.2 (k ▸ e)
  · rw [k] at e; cases e
mutual
theorem RepC.sub {c c' : Cx} {n : Nat} (m : Sub c c' n) : ∀ (x : V) (vs : List Value), x.lt n → RepC c x vs → RepC c' x vs
  | .dead, vs, _, h => by simpa only [RepC] using h
  | .int k n, vs, _, h => by simpa only [RepC] using h
  | .bool b, vs, _, h => by simpa only [RepC] using h
  | .str l, vs, _, h => by simpa only [RepC] using h
  | .nilp, vs, _, h => by simpa only [RepC] using h
  | .ref o off, vs, hl, h => by
    simp only [RepC] at h ⊢
    simp only [V.lt] at hl
    obtain ⟨ho, v, hv, h1c, h⟩ := h
    refine ⟨m.has hl ho, v, hv, h1c, fun k b hk hk0 hb => ?_⟩
    rcases m.key o hl with e | e
    · rw [e] at hk; exact h k b hk hk0 hb
    · rw [e] at hk; cases hk
  | .eref o ver i j, vs, hl, h => by
    simp only [RepC] at h ⊢
    simp only [V.lt] at hl
    obtain ⟨ho, v, hv, h1c, h⟩ := h
    refine ⟨m.has hl ho, v, hv, h1c, fun k hk => ?_⟩
    rcases m.key o hl with e | e
    · rw [e] at hk; exact h k hk
    · rw [e] at hk; cases hk
  | .cref cs j, vs, hl, h => by
    simp only [RepC] at h ⊢
    simp only [V.lt] at hl
    obtain ⟨b, off, ws, hv, hi, hr, hc⟩ := h
    exact ⟨b, off, ws, hv, m.imm b hi, Reps.sub m cs ws hl hr, by rw [m.cell]; exact hc⟩
  | .slice l, vs, hl', h => by
    simp only [RepC] at h ⊢
    simp only [V.lt] at hl'
    obtain ⟨a, cap, es, hv, hl, hm, h⟩ := h
    refine ⟨a, cap, es, hv, hl, hm, ?_⟩
    rcases h with h | ⟨b, off, ha, hi, he⟩
    · exact .inl h
    · exact .inr ⟨b, off, ha, m.imm b hi, RepE.sub m es b off l hl' he⟩
  | .fslice l, vs, hl', h => by
    simp only [RepC] at h ⊢
    simp only [V.lt] at hl'
    obtain ⟨a, es, hv, hm, h⟩ := h
    refine ⟨a, es, hv, hm, ?_⟩
    rcases h with h | ⟨b, off, ha, hi, he⟩
    · exact .inl h
    · exact .inr ⟨b, off, ha, m.imm b hi, RepE.sub m es b off l hl' he⟩
  | .vec o ver off n, vs, hl, h => by
    simp only [RepC] at h ⊢
    simp only [V.lt] at hl
    obtain ⟨ho, v, hv, h1c, h⟩ := h
    refine ⟨m.has hl ho, v, hv, h1c, fun k hk => ?_⟩
    rcases m.key o hl with e | e
    · rw [e] at hk; exact h k hk
    · rw [e] at hk; cases hk
  | .agg cs, vs, hl, h => by
    simp only [RepC] at h ⊢
    simp only [V.lt] at hl
    exact Reps.sub m cs vs hl h
  | .fn f first cap, vs, hl, h => by
    simp only [RepC] at h ⊢
    simp only [V.lt] at hl
    obtain ⟨x, y, hv, h1, h2⟩ := h
    exact ⟨x, y, hv, RepVs.sub m first x hl.1 h1, RepVs.sub m cap y hl.2 h2⟩
  | .nilf, vs, _, h => by simpa only [RepC] using h
  | .mapr o, vs, hl, h => by
    simp only [RepC] at h ⊢
    simp only [V.lt] at hl
    obtain ⟨ho, v, hv, h1c, h⟩ := h
    refine ⟨m.has hl ho, v, hv, h1c, fun k b hk hk0 hb => ?_⟩
    rcases m.key o hl with e | e
    · rw [e] at hk; exact h k b hk hk0 hb
    · rw [e] at hk; cases hk
  | .nilm, vs, _, h => by simpa only [RepC] using h
  | .iface t x, vs, hl, h => by
    simp only [RepC] at h ⊢
    simp only [V.lt] at hl
    obtain ⟨v, hv, h1, h2⟩ := h
    exact ⟨v, hv, RepC.sub m x _ hl h1, h2⟩
  | .nili, vs, _, h => by simpa only [RepC] using h
  | .tuple xs, vs, hl, h => by
    simp only [RepC] at h ⊢
    simp only [V.lt] at hl
    obtain ⟨ws, hv, h1⟩ := h
    exact ⟨ws, hv, RepVs.sub m xs ws hl h1⟩
theorem Reps.sub {c c' : Cx} {n : Nat} (m : Sub c c' n) : ∀ (xs : List V) (vs : List Value), ltL n xs → Reps c xs vs → Reps c' xs vs
  | [], vs, _, h => by simpa only [Reps] using h
  | x :: xs, vs, hl, h => by
    simp only [Reps] at h ⊢
    simp only [ltL] at hl
    obtain ⟨v, vs', hv, h0, h1, h2⟩ := h
    exact ⟨v, vs', hv, h0, RepC.sub m x _ hl.1 h1, Reps.sub m xs vs' hl.2 h2⟩
theorem RepVs.sub {c c' : Cx} {n : Nat} (m : Sub c c' n) : ∀ (xs : List V) (vs : List Value), ltL n xs → RepVs c xs vs → RepVs c' xs vs
  | [], vs, _, h => by simpa only [RepVs] using h
  | x :: xs, vs, hl, h => by
    simp only [RepVs] at h ⊢
    simp only [ltL] at hl
    obtain ⟨v, vs', hv, h1, h2, h3⟩ := h
    exact ⟨v, vs', hv, RepC.sub m x _ hl.1 h1, h2, RepVs.sub m xs vs' hl.2 h3⟩
theorem RepE.sub {c c' : Cx} {n : Nat} (m : Sub c c' n) (es b : Nat) : ∀ (off : Nat) (xs : List V), ltL n xs → RepE c es b off xs → RepE c' es b off xs
  | off, [], _, h => by simp only [RepE]
  | off, x :: xs, hl, h => by
    simp only [RepE] at h ⊢
    simp only [ltL] at hl
    obtain ⟨vs, h1, h2, h3, h4⟩ := h
    exact ⟨vs, ⟨h1.1, RepC.sub m x vs hl.1 h1.2⟩, h2, by rw [m.cell]; exact h3, RepE.sub m es b (off + es) xs hl.2 h4⟩
end

theorem RepV.sub {c c' : Cx} {n : Nat} (m : Sub c c' n) {x : V} {v : Value} (hl : x.lt n) (h : RepV c x v) : RepV c' x v := by
  cases x <;> first | exact trivial | exact ⟨RepC.sub m _ _ hl h.1, h.2⟩

def Ob.lt (n : Nat) : Ob → Prop
  | .gone => True
  | .hole => True
  | .var cs => ltL n cs
  | .vec _ _ l => ltL n l
  | .raw _ _ vs _ => ltL n vs
  | .map l _ => ltL n (l.map (·.2.2))
  | .iter o _ _ _ => o < n

mutual
theorem RepC.lt {c : Cx} : ∀ (x : V) (vs : List Value), RepC c x vs → x.lt c.nobj
  | .dead, _, _ | .int _ _, _, _ | .bool _, _, _ | .str _, _, _ | .nilp, _, _ | .nilf, _, _ | .nilm, _, _ | .nili, _, _ => trivial
  | .ref o off, vs, h => by simp only [RepC] at h; exact h.1.1
  | .eref o ver i j, vs, h => by simp only [RepC] at h; exact h.1.1
  | .cref cs j, vs, h => by simp only [RepC] at h; obtain ⟨b, off, ws, hv, hi, hr, hc⟩ := h; exact Reps.lt cs ws hr
  | .slice l, vs, h => by
    simp only [RepC] at h
    obtain ⟨a, cap, es, hv, hl, hm, h⟩ := h
    rcases h with rfl | ⟨b, off, ha, hi, he⟩
    · exact trivial
    · exact RepE.lt es b off l he
  | .fslice l, vs, h => by
    simp only [RepC] at h
    obtain ⟨a, es, hv, hm, h⟩ := h
    rcases h with rfl | ⟨b, off, ha, hi, he⟩
    · exact trivial
    · exact RepE.lt es b off l he
  | .vec o ver off n, vs, h => by simp only [RepC] at h; exact h.1.1
  | .agg cs, vs, h => by simp only [RepC] at h; exact Reps.lt cs vs h
  | .fn f first cap, vs, h => by simp only [RepC] at h; obtain ⟨x, y, hv, h1, h2⟩ := h; exact ⟨RepVs.lt first x h1, RepVs.lt cap y h2⟩
  | .mapr o, vs, h => by simp only [RepC] at h; exact h.1.1
  | .iface t x, vs, h => by simp only [RepC] at h; obtain ⟨v, hv, h1, h2⟩ := h; exact RepC.lt x _ h1
  | .tuple xs, vs, h => by simp only [RepC] at h; obtain ⟨ws, hv, h1⟩ := h; exact RepVs.lt xs ws h1
theorem Reps.lt {c : Cx} : ∀ (xs : List V) (vs : List Value), Reps c xs vs → ltL c.nobj xs
  | [], vs, _ => trivial
  | x :: xs, vs, h => by
    simp only [Reps] at h
    obtain ⟨v, vs', hv, h0, h1, h2⟩ := h
    exact ⟨RepC.lt x _ h1, Reps.lt xs vs' h2⟩
theorem RepVs.lt {c : Cx} : ∀ (xs : List V) (vs : List Value), RepVs c xs vs → ltL c.nobj xs
  | [], vs, _ => trivial
  | x :: xs, vs, h => by
    simp only [RepVs] at h
    obtain ⟨v, vs', hv, h1, h2, h3⟩ := h
    exact ⟨RepC.lt x _ h1, RepVs.lt xs vs' h3⟩
theorem RepE.lt {c : Cx} (es b : Nat) : ∀ (off : Nat) (xs : List V), RepE c es b off xs → ltL c.nobj xs
  | off, [], _ => trivial
  | off, x :: xs, h => by
    simp only [RepE] at h
    obtain ⟨vs, h1, h2, h3, h4⟩ := h
    exact ⟨RepC.lt x vs h1.2, RepE.lt es b (off + es) xs h4⟩
end
theorem RepV.lt {c : Cx} {x : V} {v : Value} (h : RepV c x v) : x.lt c.nobj := by
  cases x <;> first | exact trivial | exact RepC.lt _ _ h.1

theorem RepL.lt {c : Cx} : ∀ {xs : List V} {vs : List Value}, RepL c xs vs → ltL c.nobj xs
  | [], [], _ => trivial
  | x :: xs, v :: vs, h => ⟨h.1.lt, RepL.lt h.2⟩
  | [], _ :: _, h => h.elim
  | _ :: _, [], h => h.elim
theorem RepL.sub {c c' : Cx} {n : Nat} (m : Sub c c' n) : ∀ {xs : List V} {vs : List Value}, ltL n xs → RepL c xs vs → RepL c' xs vs
  | [], [], _, _ => trivial
  | x :: xs, v :: vs, hl, h => ⟨h.1.sub m hl.1, RepL.sub m hl.2 h.2⟩
  | [], _ :: _, _, h => h.elim
  | _ :: _, [], _, h => h.elim
theorem RepM.lt {c : Cx} : ∀ {l : List (Int × Nat × V)} {es : List MapEntry}, RepM c l es → ltL c.nobj (l.map (·.2.2))
  | [], [], _ => trivial
  | p :: l, e :: es, h => ⟨RepC.lt _ _ h.1.2.2.2.1, RepM.lt h.2⟩
  | [], _ :: _, h => h.elim
  | _ :: _, [], h => h.elim
theorem RepM.sub {c c' : Cx} {n : Nat} (m : Sub c c' n) : ∀ {l : List (Int × Nat × V)} {es : List MapEntry}, ltL n (l.map (·.2.2)) → RepM c l es → RepM c' l es
  | [], [], _, _ => trivial
  | p :: l, e :: es, hl, h => ⟨⟨h.1.1, h.1.2.1, h.1.2.2.1, RepC.sub m _ _ hl.1 h.1.2.2.2.1, h.1.2.2.2.2⟩, RepM.sub m hl.2 h.2⟩
  | [], _ :: _, _, h => h.elim
  | _ :: _, [], _, h => h.elim
theorem Good.lt {g H w} (h : Good g H w) {o : Nat} {x : Ob} (hx : H[o]? = some x) : x.lt H.length := by
  have := h.ob o
  rw [hx] at this
  cases x with
  | gone => trivial
  | hole => trivial
  | var cs => obtain ⟨b, cur, et, fr, _, _, hr, _⟩ := this; exact Reps.lt _ _ hr
  | raw b x vs cs =>
    obtain ⟨_, hr⟩ := this
    exact RepL.lt hr
  | map l ck => obtain ⟨b, es, _, _, hr⟩ := this; exact RepM.lt hr
  | iter o' since seen last => obtain ⟨b, mb, _, _, hr⟩ := this; exact RepC.lt _ _ hr
  | vec ver es l =>
    obtain ⟨q, _, _, _, _, _, h5, h6⟩ := this
    rcases h6 with ⟨h6, h7⟩ | ⟨b, cur, et, fr, _, _, _, hr, _⟩
    · have : l = [] := List.eq_nil_of_length_eq_zero (by omega)
      subst this; trivial
    · exact RepE.lt _ _ _ _ hr

/-- the objects from n on are given up -/
def cutKey (g : Nat → Option Key) (n : Nat) : Nat → Option Key := fun o => if o < n then g o else none

theorem cut_sub {g : Nat → Option Key} {n m : Nat} {w : World} : Sub (cxOf g n w) (cxOf (cutKey g m) m w) m :=
  ⟨fun b hb => ⟨hb.1, fun o k hk => by unfold cutKey at hk; split at hk; exact hb.2 o k hk; cases hk⟩, rfl,
    fun o ho => .inl (by show cutKey g m o = g o; simp [cutKey, ho]), rfl⟩

theorem ObOK.sub {c c' : Cx} {n : Nat} (m : Sub c c' n) {heap : Array Obj} {k : Option Key} {x : Option Ob} (hl : ∀ y, x = some y → y.lt n) (h : ObOK c heap k x) : ObOK c' heap k x := by
  cases x with
  | none => exact h
  | some x =>
    have hl := hl x rfl
    cases x with
    | gone => exact h
    | hole => exact h
    | raw b x vs cs => exact ⟨h.1, RepL.sub m hl h.2⟩
    | map l ck => obtain ⟨b, es, h1, h2, h3⟩ := h; exact ⟨b, es, h1, h2, RepM.sub m hl h3⟩
    | iter o' since seen last => obtain ⟨b, mb, h1, h2, h3⟩ := h; exact ⟨b, mb, h1, h2, RepC.sub m (.mapr o') _ hl h3⟩
    | var cs =>
      obtain ⟨b, cur, et, fr, h1, h2, h3, h4⟩ := h
      exact ⟨b, cur, et, fr, h1, h2, Reps.sub m _ _ hl h3, h4⟩
    | vec ver es l =>
      obtain ⟨q, h1, h2, h2', h3, h4, h5, h6⟩ := h
      refine ⟨q, h1, h2, h2', h3, h4, h5, ?_⟩
      rcases h6 with h6 | ⟨b, cur, et, fr, h7, h8, h9, h10, h11⟩
      · exact .inl h6
      · exact .inr ⟨b, cur, et, fr, h7, h8, h9, RepE.sub m _ _ _ _ hl h10, h11⟩

theorem Good.cut {g H w} (hG : Good g H w) (m : Nat) (hm : m ≤ H.length) (hl : ∀ o x, o < m → H[o]? = some x → x.lt m) : Good (cutKey g m) (H.take m) w := by
  refine ⟨fun o => ?_, fun o o' k k' b hk hk' hb hb' => ?_⟩
  · rw [List.length_take, Nat.min_eq_left hm]
    by_cases ho : o < m
    · rw [List.getElem?_take, if_pos ho]
      have e : cutKey g m o = g o := by simp [cutKey, ho]
      rw [e]
      exact ObOK.sub cut_sub (fun y hy => hl o y ho hy) (hG.ob o)
    · rw [List.getElem?_eq_none (by simp; omega)]
      show cutKey g m o = none
      simp [cutKey, ho]
  · unfold cutKey at hk hk'
    split at hk
    · split at hk'
      · exact hG.inj _ _ _ _ _ hk hk' hb hb'
      · cases hk'
    · cases hk

/-- given up, seen from the beginning -/
theorem Ext.cut {g0 n0 w0 g n w} (h : Ext g0 n0 w0 g n w) (m : Nat) (hm : n0 ≤ m) : Ext g0 n0 w0 (cutKey g m) m w := by
  refine ⟨h.os, h.output, h.tape, h.size, fun b hb => ⟨(h.frame b hb).1, cut_sub.imm b (h.frame b hb).2⟩, fun o ho k' hk' => ?_, hm⟩
  unfold cutKey at hk'
  split at hk'
  · exact h.key o ho k' hk'
  · cases hk'
end Go.EL

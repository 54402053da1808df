/- The value logic, part D: what the operations do in a world is what they come to on abstract values. -/
import Derived.Test.YtjplgbalpnlanaaEC
set_option linter.unusedSimpArgs false
set_option linter.unusedVariables false
namespace Go.EL
open Go
variable {P : Program} {T : Nat → TD} {g : Nat → Option Key} {H : List Ob} {w : World}

def Done (P : Program) (g : Nat → Option Key) (H : List Ob) (w : World) (s : Sem Next) (v : V) (H' : List Ob) : Prop :=
  ∃ w' g' cv nx, s.run P w = .ok nx w' ∧ (nx = .value cv ∨ (nx = .skip ∧ cv = undef)) ∧ Good g' H' w' ∧ Ext g H.length w g' H'.length w' ∧ RepV (cxOf g' H'.length w') v cv

def DoneV (P : Program) (g : Nat → Option Key) (H : List Ob) (w : World) (s : Sem Value) (v : V) (H' : List Ob) : Prop :=
  ∃ w' g' cv, s.run P w = .ok cv w' ∧ Good g' H' w' ∧ Ext g H.length w g' H'.length w' ∧ RepV (cxOf g' H'.length w') v cv

theorem DoneV.done {s : Sem Value} {v H'} (h : DoneV P g H w s v H') : Done P g H w (do pure (Next.value (← s))) v H' := by
  obtain ⟨w', g', cv, h1, h2⟩ := h
  exact ⟨w', g', cv, _, by simp [h1], .inl rfl, h2⟩

theorem DoneV.pure_ {s : Sem Value} {v : V} {cv : Value} (hG : Good g H w) (hr : s.run P w = .ok cv w) (hv : RepV (cxOf g H.length w) v cv) : DoneV P g H w s v H :=
  ⟨w, g, cv, hr, hG, Ext.refl _ _ _, hv⟩

/-! Inversions -/
section
variable {c : Cx} {cv : Value}
theorem cells_leaf {v : Value} (h : ∀ cs, v ≠ .agg cs) : v.cells.toList = [v] := by cases v <;> first | rfl | exact absurd rfl (h _)
theorem RepV.leaf {x : V} (h : RepV c x cv) (hx : ∀ cs, x ≠ .agg cs) (hd : x ≠ .dead) : RepC c x [cv] := by
  have hne : ∀ cs, cv ≠ .agg cs := by
    intro cs e
    subst e
    cases x <;> first | exact absurd rfl hd | exact absurd rfl (hx _) | exact h.2
  have := cells_leaf hne
  cases x <;> first | exact absurd rfl hd | exact absurd rfl (hx _) | (have h1 := h.1; rwa [this] at h1)
theorem RepV.agg {cs : List V} (h : RepV c (.agg cs) cv) : ∃ arr, cv = .agg arr ∧ Reps c cs arr.toList := by
  obtain ⟨h1, h2⟩ := h
  cases cv <;> first | exact h2.elim | exact ⟨_, rfl, by simp only [RepC] at h1; exact h1⟩
theorem RepV.mk_leaf {x : V} (h : RepC c x [cv]) (hx : ∀ cs, x ≠ .agg cs) (hv : ∀ cs, cv ≠ .agg cs) : RepV c x cv := by
  have := cells_leaf hv
  cases x <;> first
    | trivial
    | exact absurd rfl (hx _)
    | exact ⟨by rw [this]; exact h, by cases cv <;> first | trivial | exact absurd rfl (hv _)⟩
theorem RepV.mk_agg {cs : List V} {arr : Array Value} (h : Reps c cs arr.toList) : RepV c (.agg cs) (.agg arr) := ⟨by simp only [RepC]; exact h, trivial⟩
theorem RepV.int {k n} (h : RepV c (.int k n) cv) : cv = .int k n := by have := h.leaf (by simp) (by simp); simpa [RepC] using this
theorem RepV.bool {b} (h : RepV c (.bool b) cv) : cv = .bool b := by have := h.leaf (by simp) (by simp); simpa [RepC] using this
theorem RepV.str {l} (h : RepV c (.str l) cv) : cv = .string ⟨l.toArray⟩ ∧ True := ⟨by have := h.leaf (by simp) (by simp); simpa [RepC] using this, trivial⟩
theorem RepV.mk_int {k n} : RepV c (.int k n) (.int k n) := ⟨by simp [RepC, Value.cells], trivial⟩
theorem RepV.mk_bool {b} : RepV c (.bool b) (.bool b) := ⟨by simp [RepC, Value.cells], trivial⟩
theorem RepV.mk_str {l : List UInt8} : RepV c (.str l) (.string ⟨l.toArray⟩) := ⟨by simp [RepC, Value.cells], trivial⟩
theorem RepV.mk_str' {s : ByteArray} : RepV c (.str s.data.toList) (.string s) := RepV.mk_str
theorem RepV.tuple {xs} (h : RepV c (.tuple xs) cv) : ∃ ws, cv = .tuple ws.toArray ∧ RepVs c xs ws := by
  have := h.leaf (by simp) (by simp); simpa [RepC] using this
theorem RepVs.get {c : Cx} : ∀ {xs : List V} {vs : List Value}, RepVs c xs vs → ∀ {i : Nat} {x : V}, xs[i]? = some x → ∃ v, vs[i]? = some v ∧ RepC c x v.cells.toList ∧ okAgg x v
  | [], _, _, i, x, hx => by simp at hx
  | y :: xs, _, h, i, x, hx => by
    simp only [RepVs] at h
    obtain ⟨u, vs', rfl, h1, h2, h⟩ := h
    cases i with
    | zero => simp at hx; subst hx; exact ⟨u, rfl, h1, h2⟩
    | succ i => simp at hx ⊢; exact RepVs.get h hx
theorem RepVs.length {c : Cx} : ∀ {xs : List V} {vs : List Value}, RepVs c xs vs → vs.length = xs.length
  | [], _, h => by simp only [RepVs] at h; simp [h]
  | x :: xs, _, h => by
    simp only [RepVs] at h
    obtain ⟨v, vs', rfl, _, _, h⟩ := h
    simp [RepVs.length h]
theorem RepV.of_parts {x : V} {v : Value} (h1 : RepC c x v.cells.toList) (h2 : okAgg x v) : RepV c x v := by
  cases x <;> first | trivial | exact ⟨h1, h2⟩
end


/-- cells of a value that may be stored -/
theorem cells_of {c : Cx} {x : V} {cv : Value} (h : RepV c x cv) (hs : x.storable) : Reps c x.cells cv.cells.toList := by
  cases x with
  | agg cs =>
    obtain ⟨arr, e, h'⟩ := h.agg
    subst e
    exact h'
  | dead => exact hs.elim
  | tuple vs => exact hs.elim
  | _ =>
    have hl := h.leaf (by simp) (by simp)
    have hne : ∀ cs, cv ≠ .agg cs := by intro cs e; subst e; exact h.2
    rw [cells_leaf hne]
    simp only [V.cells, Reps]
    exact ⟨cv, [], rfl, hs, hl, rfl⟩

theorem RepC.of_cells {c : Cx} {x : V} {vs : List Value} (h : Reps c x.cells vs) (hs : x.storable) : RepC c x vs := by
  cases x with
  | agg cs => simp only [RepC]; exact h
  | dead => exact hs.elim
  | tuple vs => exact hs.elim
  | _ =>
    simp only [V.cells, Reps] at h
    obtain ⟨v, vs', rfl, _, h, rfl⟩ := h
    exact h

theorem RepC.to_cells {c : Cx} {x : V} {vs : List Value} (h : RepC c x vs) (hs : x.storable) : Reps c x.cells vs := by
  cases x with
  | agg cs => simp only [RepC] at h; exact h
  | dead => exact hs.elim
  | tuple vs => exact hs.elim
  | _ =>
    obtain ⟨v, rfl⟩ : ∃ v, vs = [v] := by
      simp only [RepC] at h
      first
        | exact ⟨_, h⟩
        | exact ⟨_, h.1⟩
        | (obtain ⟨_, u, rfl, _⟩ := h; exact ⟨_, rfl⟩)
        | (obtain ⟨_, _, _, rfl, _⟩ := h; exact ⟨_, rfl⟩)
        | (obtain ⟨_, _, rfl, _⟩ := h; exact ⟨_, rfl⟩)
        | (obtain ⟨_, rfl, _⟩ := h; exact ⟨_, rfl⟩)
    simp only [V.cells, Reps]
    exact ⟨v, [], rfl, hs, h, rfl⟩

theorem RepC.length {c : Cx} {x : V} {vs : List Value} (h : RepC c x vs) : vs.length = x.cells.length := by
  cases x <;> simp only [RepC] at h
  case dead => obtain ⟨_, rfl⟩ := h; rfl
  case tuple => obtain ⟨_, rfl, _⟩ := h; rfl
  case agg => exact h.length
  case int => subst h; rfl
  case bool => subst h; rfl
  case str => subst h; rfl
  case nilp => subst h; rfl
  case ref => obtain ⟨_, u, rfl, _⟩ := h; rfl
  case eref => obtain ⟨_, u, rfl, _⟩ := h; rfl
  case cref => obtain ⟨_, _, _, rfl, _⟩ := h; rfl
  case slice => obtain ⟨_, _, _, rfl, _⟩ := h; rfl
  case fslice => obtain ⟨_, _, rfl, _⟩ := h; rfl
  case vec => obtain ⟨_, u, rfl, _⟩ := h; rfl
  case fn => obtain ⟨_, _, rfl, _⟩ := h; rfl
  case nilf => subst h; rfl
  case mapr => obtain ⟨_, u, rfl, _⟩ := h; rfl
  case nilm => subst h; rfl
  case iface => obtain ⟨_, rfl, _⟩ := h; rfl
  case nili => subst h; rfl

theorem RepE.get {c : Cx} {es b : Nat} : ∀ {xs : List V} {off : Nat}, RepE c es b off xs → ∀ {i : Nat} {x : V}, xs[i]? = some x →
    ∃ vs, (x.storable ∧ RepC c x vs) ∧ vs.length = es ∧ ∀ j v, vs[j]? = some v → c.cell ⟨b, off + i * es + j, none⟩ = some v
  | [], off, _, i, x, hx => by simp at hx
  | y :: xs, off, h, i, x, hx => by
    simp only [RepE] at h
    obtain ⟨vs, h1, h2, h3, h4⟩ := h
    cases i with
    | zero => simp at hx; subst hx; exact ⟨vs, h1, h2, by simpa using h3⟩
    | succ i =>
      simp at hx
      obtain ⟨us, g1, g2, g3⟩ := RepE.get h4 hx
      exact ⟨us, g1, g2, fun j v hj => by rw [← g3 j v hj, show off + (i + 1) * es + j = off + es + i * es + j by rw [Nat.add_mul]; omega]⟩

theorem RepE.drop {c : Cx} {es b : Nat} : ∀ {xs : List V} {off : Nat} (n : Nat), RepE c es b off xs → RepE c es b (off + n * es) (xs.drop n)
  | [], off, n, _ => by simp [RepE]
  | x :: xs, off, 0, h => by simpa using h
  | x :: xs, off, n + 1, h => by
    simp only [RepE] at h
    obtain ⟨vs, h1, h2, h3, h4⟩ := h
    have := RepE.drop n h4
    rw [show off + (n + 1) * es = off + es + n * es by rw [Nat.add_mul]; omega]
    simpa using this
theorem RepE.take {c : Cx} {es b : Nat} : ∀ {xs : List V} {off : Nat} (n : Nat), RepE c es b off xs → RepE c es b off (xs.take n)
  | [], off, n, _ => by simp [RepE]
  | x :: xs, off, 0, h => by simp [RepE]
  | x :: xs, off, n + 1, h => by
    simp only [RepE] at h
    obtain ⟨vs, h1, h2, h3, h4⟩ := h
    simp only [List.take_succ_cons, RepE]
    exact ⟨vs, h1, h2, h3, RepE.take n h4⟩

end Go.EL

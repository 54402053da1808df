/- The value logic, part I: what is built, and boxes. -/
import Derived.Test.YtjplgbalpnlanaaEG
set_option linter.unusedVariables false
set_option linter.unusedSimpArgs false
namespace Go.EL
open Go
variable {P : Program} {T : Nat → TD} {g : Nat → Option Key} {H : List Ob} {w : World}

theorem zEqs_reps {c : Cx} : ∀ {vs : List Value} {xs : List V}, zEqs vs xs = true → Reps c xs vs
  | [], [], _ => by simp [Reps]
  | v :: vs, [], h => by simp [zEqs] at h
  | [], x :: xs, h => by simp [zEqs] at h
  | v :: vs, x :: xs, h => by
    simp only [zEqs, Bool.and_eq_true] at h
    simp only [Reps]
    refine ⟨v, vs, rfl, ?_, ?_, zEqs_reps h.2⟩
    · have := h.1
      unfold zEq at this
      split at this <;> first | trivial | cases this
    · have := h.1
      unfold zEq at this
      split at this
      · simp only [Bool.and_eq_true, decide_eq_true_eq] at this
        obtain ⟨rfl, rfl⟩ := this
        simp [RepC]
      · have e := eq_of_beq this
        subst e
        simp [RepC]
      · rename_i s
        have e : s.data.toList = [] := eq_of_beq this
        simp only [RepC]
        congr 2
        exact ByteArray.ext (Array.toList_inj.1 (by simpa using e))
      · simp [RepC]
      · simp only [RepC]
        exact ⟨none, 0, rfl, by simp [maxLen], by simp⟩
      · simp [RepC]
      · simp [RepC]
      · simp [RepC]
      · cases this

theorem foldl_set (off : Nat) : ∀ (vs : List Value) (k : Nat) (cells : Array Value), off + k + vs.length ≤ cells.size →
    ((vs.zipIdx k).foldl (fun (cs : Array Value) (p : Value × Nat) => cs.setIfInBounds (off + p.2) p.1) cells).toList = cells.toList.take (off + k) ++ vs ++ cells.toList.drop (off + k + vs.length)
  | [], k, cells, _ => by simp
  | v :: vs, k, cells, h => by
    simp only [List.length_cons] at h
    rw [List.zipIdx_cons, List.foldl_cons, foldl_set off vs (k + 1) _ (by simp; omega), Array.toList_setIfInBounds]
    have := list_set_splice cells.toList (off + k) v vs (by simp; omega)
    rw [← Nat.add_assoc]
    exact this

theorem fill_reps {c : Cx} {place : Nat → Option (Nat × Nat)} {placeV : Nat → Option Nat} {ρ : Operand → V} {ρc : Operand → Value} : ∀ (ps : List (Nat × Operand)) (xs : List V) (cells : Array Value),
    Reps c xs cells.toList →
    (∀ p ∈ ps, ∃ off, placeV p.1 = some off ∧ place p.1 = some (off, (ρ p.2).cells.length) ∧ off + (ρ p.2).cells.length ≤ xs.length ∧ Reps c (ρ p.2).cells (ρc p.2).cells.toList) →
    ∃ cells', Instr.fill place cells (ps.map fun p => (p.1, ρc p.2)) = some cells' ∧ Reps c (fillV placeV xs (ps.map fun p => (p.1, ρ p.2))) cells'.toList
  | [], xs, cells, hr, _ => ⟨cells, rfl, hr⟩
  | p :: ps, xs, cells, hr, h => by
    obtain ⟨off, h1, h2, h3, h4⟩ := h p (by simp)
    have hlen := h4.length
    have hrl := hr.length
    simp only [Array.length_toList] at hlen hrl
    have hsz : (ρc p.2).cells.size = (ρ p.2).cells.length := by omega
    simp only [List.map_cons]
    unfold Instr.fill fillV
    simp only [h1, h2]
    rw [if_neg (by simp only [Bool.or_eq_true, decide_eq_true_eq, not_or]; exact ⟨by simpa using hsz, by omega⟩)]
    have key : Reps c (splice xs off (ρ p.2).cells) ((ρc p.2).cells.zipIdx.foldl (fun cs (c, j) => cs.setIfInBounds (off + j) c) cells).toList := by
      have hf := foldl_set off (ρc p.2).cells.toList 0 cells (by simp; omega)
      rw [← Array.foldl_toList, Array.toList_zipIdx]
      have e := splice_reps off hr h4
      simp only [Nat.add_zero] at hf
      rw [← hf] at e
      exact e
    refine fill_reps ps _ _ key (fun q hq => ?_)
    have hl : (splice xs off (ρ p.2).cells).length = xs.length := by unfold splice; simp; omega
    rw [hl]
    exact h q (by simp [hq])

theorem mem_map_toList {α β : Type} {a : Array α} {f : α → β} : (a.map f).toList = a.toList.map f := by simp

/-- the fields of a struct type, as the model's places -/
theorem places_of (hTO : TyOK P T) : ∀ (l : List Field), (∀ f ∈ l, (T f.type).kind ≠ .other) →
    l.mapM (fun f => (P.info? f.type).map fun i => (f.offset, i.size)) = some (l.map fun f => (f.offset, (T f.type).size))
  | [], _ => rfl
  | f :: l, h => by
    obtain ⟨i, z, h1, h2, _⟩ := (hTO.at (h f (by simp))).info
    have ih := places_of hTO l (fun f hf => h f (by simp [hf]))
    simp [List.mapM_cons, h1, ih, h2]

theorem build_struct_sound (hTO : TyOK P T) {t : TypeId} {fs : List (Nat × Nat)} (hk : (T t).kind = .struct fs) {ρ : Operand → V} {ρc : Operand → Value} (hρ : ∀ x, RepV (cxOf g H.length w) (ρ x) (ρc x)) (hG : Good g H w)
    {ps : Array (Nat × Operand)} (h0 : ∀ f ∈ fs, (T f.1).kind ≠ .other)
    (hp : ∀ p ∈ ps.toList, (ρ p.2).storable ∧ ∃ f, fs[p.1]? = some f ∧ (T f.1).kind ≠ .other ∧ (ρ p.2).cells.length = (T f.1).size ∧ f.2 + (T f.1).size ≤ (T t).zero.length) :
    DoneV P g H w (Instr.build t (ps.map fun (i, x) => (i, ρc x))) (.agg (fillV (fun i => (fs[i]?).map (·.2)) (T t).zero (ps.toList.map fun p => (p.1, ρ p.2)))) H := by
  have hT := hTO.at (t := t) (by rw [hk]; simp)
  obtain ⟨td, g1, g2, g3⟩ := hT.run_und w
  obtain ⟨l, rfl, hl⟩ := kind_struct g1 hk
  obtain ⟨i, z, i1, i2, i3, i4, i5⟩ := hT.info
  have hz : Reps (cxOf g H.length w) (T t).zero z.cells.toList := zEqs_reps i5
  have hpl := places_of (P := P) hTO l.toList (fun f hf => h0 (f.type, f.offset) (by rw [← hl]; exact List.mem_map.2 ⟨f, hf, rfl⟩))
  obtain ⟨cells, c1, c2⟩ := fill_reps (place := fun i => (l.toList.map fun f => (f.offset, (T f.type).size))[i]?) (placeV := fun i => (fs[i]?).map (·.2)) (ρ := ρ) (ρc := ρc) ps.toList (T t).zero z.cells hz (fun p hp' => by
    obtain ⟨hs, f, f1, f2, f3, f4⟩ := hp p hp'
    refine ⟨f.2, by simp [f1], ?_, by omega, cells_of (hρ p.2) hs⟩
    rw [← hl, List.getElem?_map] at f1
    cases hx : l.toList[p.1]? with
    | none => rw [hx] at f1; cases f1
    | some y =>
      rw [hx] at f1
      simp only [Option.map_some, Option.some.injEq] at f1
      subst f1
      simp [List.getElem?_map, hx, f3])
  refine DoneV.pure_ hG (cv := .agg cells) (run_build w t _ cells ?_) (RepV.mk_agg c2)
  unfold Program.built
  simp only [i1, g3, i4, hpl]
  rw [← c1]
  congr 1
  · funext i; simp
  · simp

theorem build_array_sound (hTO : TyOK P T) {t n e : Nat} (hk : (T t).kind = .array n e) (he : (T e).kind ≠ .other) {ρ : Operand → V} {ρc : Operand → Value} (hρ : ∀ x, RepV (cxOf g H.length w) (ρ x) (ρc x)) (hG : Good g H w)
    {ps : Array (Nat × Operand)}
    (hp : ∀ p ∈ ps.toList, (ρ p.2).storable ∧ (ρ p.2).cells.length = (T e).size ∧ p.1 * (T e).size + (T e).size ≤ (T t).zero.length) :
    DoneV P g H w (Instr.build t (ps.map fun (i, x) => (i, ρc x))) (.agg (fillV (fun i => some (i * (T e).size)) (T t).zero (ps.toList.map fun p => (p.1, ρ p.2)))) H := by
  have hT := hTO.at (t := t) (by rw [hk]; simp)
  obtain ⟨td, g1, g2, g3⟩ := hT.run_und w
  have := kind_array g1 hk
  subst this
  obtain ⟨i, z, i1, i2, i3, i4, i5⟩ := hT.info
  obtain ⟨ie, ze, j1, j2, _⟩ := (hTO.at he).info
  have hz : Reps (cxOf g H.length w) (T t).zero z.cells.toList := zEqs_reps i5
  obtain ⟨cells, c1, c2⟩ := fill_reps (place := fun i => some (i * (T e).size, (T e).size)) (placeV := fun i => some (i * (T e).size)) (ρ := ρ) (ρc := ρc) ps.toList (T t).zero z.cells hz (fun p hp' => by
    obtain ⟨hs, f3, f4⟩ := hp p hp'
    exact ⟨_, rfl, by rw [f3], by omega, cells_of (hρ p.2) hs⟩)
  refine DoneV.pure_ hG (cv := .agg cells) (run_build w t _ cells ?_) (RepV.mk_agg c2)
  unfold Program.built
  simp only [i1, g3, i4, j1, j2]
  rw [← c1]
  congr 1
  simp

theorem new_var_sound (hG : Good g H w) {cs : List V} {vs : Array Value} (hr : Reps (cxOf g H.length w) cs vs.toList) (t : TypeId) :
    ∃ g', Good g' (H ++ [.var cs]) (pushW w (.cells vs t)) ∧ Ext g H.length w g' (H ++ [Ob.var cs]).length (pushW w (.cells vs t)) ∧ RepV (cxOf g' (H ++ [Ob.var cs]).length (pushW w (.cells vs t))) (.ref H.length 0) (.pointer (some ⟨w.heap.size, 0, none⟩)) := by
  have := step_new hG (.var cs) (.cells vs t) ⟨0, some w.heap.size, 0, 0⟩ rfl (fun g' hg' m => ⟨w.heap.size, vs, t, (0, 0), rfl, heap_pushW_new _ _, Reps.mono m _ _ hr, fun j hj => by simp⟩)
  rw [List.length_append]
  refine ⟨_, this.1, this.2, RepV.mk_leaf ?_ (by simp) (by simp)⟩
  simp only [RepC]
  refine ⟨has_set (Nat.lt_succ_self _) (.inl (by simp)), _, rfl, rfl, fun k b hk _ hb => ?_⟩
  have hk : setKey g H.length (some ⟨0, some w.heap.size, 0, 0⟩) H.length = some k := hk
  rw [setKey_same] at hk
  injection hk with hk
  subst hk
  injection hb with hb
  subst hb
  rfl

theorem alloc_sound (hTO : TyOK P T) {t : TypeId} (hk : (T t).kind ≠ .other) (hG : Good g H w) :
    DoneV P g H w (Instr.alloc t true (.tuple #[])) (.ref H.length 0) (H ++ [.var (T t).zero]) := by
  obtain ⟨z, h1, h2⟩ := (hTO.at hk).run_zeroValue w
  obtain ⟨g', a, b, c⟩ := new_var_sound hG (zEqs_reps (c := cxOf g H.length w) h2) t
  refine ⟨_, g', _, ?_, a, b, c⟩
  simp [Instr.alloc, h1, newVar, newRow, pushW]

theorem box_sound {t : TypeId} {x : V} {cx : Value} (hx : RepV (cxOf g H.length w) x cx) (hs : x.storable) (hG : Good g H w) :
    DoneV P g H w (Instr.box t cx) (.ref H.length 0) (H ++ [.var x.cells]) := by
  obtain ⟨g', a, b, c⟩ := new_var_sound hG (cells_of hx hs) t
  refine ⟨_, g', _, ?_, a, b, c⟩
  simp [Instr.box, newVar, newRow, pushW]
end Go.EL

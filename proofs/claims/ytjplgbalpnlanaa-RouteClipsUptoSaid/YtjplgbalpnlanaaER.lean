/- The value logic, part R: small rules for the walk. -/
import Derived.Test.YtjplgbalpnlanaaEQ
set_option linter.unusedVariables false
set_option linter.unusedSimpArgs false
namespace Go.EL
open Go

theorem hget {H L : List Ob} {k : Nat} : (H ++ L)[H.length + k]? = L[k]? := by
  rw [List.getElem?_append_right (by omega), Nat.add_sub_cancel_left]
theorem hget0 {H L : List Ob} : (H ++ L)[H.length]? = L[0]? := by
  rw [List.getElem?_append_right (by omega), Nat.sub_self]
theorem hset {H L : List Ob} {k : Nat} {x : Ob} : (H ++ L).set (H.length + k) x = H ++ L.set k x := by
  rw [List.set_append_right _ _ (by omega), Nat.add_sub_cancel_left]
theorem hset0 {H L : List Ob} {x : Ob} : (H ++ L).set H.length x = H ++ L.set 0 x := by
  rw [List.set_append_right _ _ (by omega), Nat.sub_self]
theorem wrap64_id {x : Int} (h : -9223372036854775808 ≤ x ∧ x ≤ 9223372036854775807) : IntKind.i64.wrap x = x := by
  unfold IntKind.wrap
  simp only [IntKind.bits, IntKind.signed]
  simp
  split <;> omega
theorem wrap8_id {x : Int} (h : 0 ≤ x ∧ x ≤ 255) : IntKind.u8.wrap x = x := by
  unfold IntKind.wrap
  simp only [IntKind.bits, IntKind.signed]
  simp
  omega
theorem at_map {α : Type} (f : α → V) (l : List α) (i : Nat) (h : i < l.length) : (l.map f).getD i .dead = f l[i] := by
  simp [List.getD_eq_getElem?_getD, h]
theorem at_mapV {α : Type} (f : α → V) (l : List α) (i : Nat) (h : i < l.length) : V.at (l.map f) i = f l[i] := by
  unfold V.at
  rw [List.getD_eq_getElem?_getD, List.getElem?_map, List.getElem?_eq_getElem h]
  rfl
theorem sizedMapV {α : Type} {n : Nat} {f : α → V} (h : ∀ x, (f x).cells.length = n) (l : List α) : Sized n (l.map f) := by
  intro y hy
  obtain ⟨x, _, rfl⟩ := List.mem_map.1 hy
  exact h x
theorem storable_map {α : Type} {f : α → V} (h : ∀ x, (f x).storable) (l : List α) : ∀ y ∈ l.map f, y.storable := by
  intro y hy
  obtain ⟨x, _, rfl⟩ := List.mem_map.1 hy
  exact h x

/-- A pure answer: nothing of the heap is other than it was. -/
theorem RetW.pure {H0 H : List Ob} {R : V → List Ob → Prop} {r r' : V} (L : List Ob) (hH : H = H0 ++ L) (hw : Wk H H0.length r r') (hR : R r' H0) : RetW H0.length H0 R r H := by
  subst hH
  refine ⟨H0.length, r', Nat.le_refl _, by simp, hw, fun o x ho hx => ?_, ?_⟩
  · left; rw [List.getElem?_append_left ho] at hx; exact hx
  · rw [List.take_left]; exact hR
theorem RetW.pure0 {H0 : List Ob} {R : V → List Ob → Prop} {r r' : V} (hw : Wk H0 H0.length r r') (hR : R r' H0) : RetW H0.length H0 R r H0 :=
  RetW.pure [] (by simp) hw hR
end Go.EL

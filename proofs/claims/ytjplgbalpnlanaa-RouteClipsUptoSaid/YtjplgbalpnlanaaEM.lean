/- The value logic, part M: every operation. -/
import Derived.Test.YtjplgbalpnlanaaELM
set_option linter.unusedVariables false
set_option linter.unusedSimpArgs false
namespace Go.EL
open Go
variable {P : Program} {T : Nat → TD} {g : Nat → Option Key} {H : List Ob} {w : World}

def RepVals (c : Cx) : List V → List Value → Prop
  | [], [] => True
  | x :: xs, v :: vs => RepV c x v ∧ RepVals c xs vs
  | _, _ => False

theorem RepVals.append {c : Cx} : ∀ {xs ys : List V} {vs us : List Value}, RepVals c xs vs → RepVals c ys us → RepVals c (xs ++ ys) (vs ++ us)
  | [], ys, [], us, _, g => g
  | x :: xs, ys, v :: vs, us, h, g => ⟨h.1, h.2.append g⟩
  | [], _, _ :: _, _, h, _ => h.elim
  | _ :: _, _, [], _, h, _ => h.elim
theorem RepVs.vals {c : Cx} : ∀ {xs : List V} {vs : List Value}, RepVs c xs vs → RepVals c xs vs
  | [], _, h => by simp only [RepVs] at h; subst h; trivial
  | x :: xs, _, h => by
    simp only [RepVs] at h
    obtain ⟨v, vs', rfl, h1, h2, h3⟩ := h
    exact ⟨RepV.of_parts h1 h2, h3.vals⟩
theorem RepVals.map {c : Cx} {ρ : Operand → V} {ρc : Operand → Value} (hρ : ∀ x, RepV c (ρ x) (ρc x)) : ∀ (l : List Operand), RepVals c (l.map ρ) (l.map ρc)
  | [] => trivial
  | x :: xs => ⟨hρ x, RepVals.map hρ xs⟩
theorem RepVals.length {c : Cx} : ∀ {xs : List V} {vs : List Value}, RepVals c xs vs → vs.length = xs.length
  | [], [], _ => rfl
  | x :: xs, v :: vs, h => by simp [h.2.length]
  | [], _ :: _, h => h.elim
  | _ :: _, [], h => h.elim
theorem RepVs.of_vals {c : Cx} {ρ : Operand → V} {ρc : Operand → Value} (hρ : ∀ x, RepV c (ρ x) (ρc x)) : ∀ (l : List Operand), (∀ x ∈ l, (ρ x).storable) → RepVs c (l.map ρ) (l.map ρc)
  | [], _ => by simp [RepVs]
  | x :: xs, h => by
    simp only [List.map_cons, RepVs]
    have hx := hρ x
    have hs := h x (by simp)
    refine ⟨_, _, rfl, ?_, ?_, RepVs.of_vals hρ xs (fun y hy => h y (by simp [hy]))⟩
    · cases hq : ρ x <;> rw [hq] at hx hs <;> first | exact hs.elim | exact hx.1
    · cases hq : ρ x <;> rw [hq] at hx hs <;> first | exact hs.elim | exact hx.2

theorem ofLeaf_rep {c : Cx} (v : Value) : RepV c (ofLeaf v) v := by
  unfold ofLeaf
  split
  · exact RepV.mk_int
  · exact RepV.mk_bool
  · exact RepV.mk_str'
  · exact RepV.mk_leaf (by simp [RepC]) (by simp) (by simp)
  · refine RepV.mk_leaf ?_ (by simp) (by simp)
    simp only [RepC]
    exact ⟨none, 0, rfl, by simp, by simp⟩
  · exact RepV.mk_leaf (by simp [RepC]) (by simp) (by simp)
  · exact RepV.mk_leaf (by simp [RepC]) (by simp) (by simp)
  · exact RepV.mk_leaf (by simp [RepC]) (by simp) (by simp)
  · trivial

theorem ofLeaf_leaf {v : Value} (h : (ofLeaf v).isDead = false) : (ofLeaf v).leaf := by
  unfold ofLeaf at *
  split <;> first | trivial | (simp [V.isDead] at h; done) | (split at h <;> first | trivial | (simp [V.isDead] at h; done))

theorem ofLeaf_notagg (v : Value) : ∀ cs, ofLeaf v ≠ .agg cs := by
  intro cs
  unfold ofLeaf
  split <;> simp

theorem ofLeaf_reps {c : Cx} : ∀ (vs : List Value), (vs.map ofLeaf).any V.isDead = false → Reps c (vs.map ofLeaf) vs
  | [], _ => by simp [Reps]
  | v :: vs, h => by
    simp only [List.map_cons, List.any_cons, Bool.or_eq_false_iff] at h
    simp only [List.map_cons, Reps]
    have h1 := ofLeaf_rep (c := c) v
    have hd : ofLeaf v ≠ .dead := by intro e; rw [e] at h; simp [V.isDead] at h
    exact ⟨v, vs, rfl, ofLeaf_leaf h.1, h1.leaf (ofLeaf_notagg v) hd, ofLeaf_reps vs h.2⟩

theorem ofValue_rep {c : Cx} (v : Value) : RepV c (ofValue v) v := by
  unfold ofValue
  split
  · rename_i cs
    split
    · trivial
    · rename_i h
      exact RepV.mk_agg (ofLeaf_reps cs.toList (by simpa using h))
  · exact ofLeaf_rep v

def EnvRep (c : Cx) (env : Env) (a : Act) : Prop := ∀ t, RepV c (eget env t) (a.tmps.getD t undef)

theorem EnvRep.ev {c : Cx} {env : Env} {a : Act} (h : EnvRep c env a) : ∀ x, RepV c (evl env x) (a.eval x)
  | .tmp t => h t
  | .const v => ofValue_rep v
  | .global _ => trivial
  | .func f => by
    refine RepV.mk_leaf ?_ (by simp [evl]) (by simp [Act.eval])
    simp only [evl, RepC, Act.eval, RepVs]
    exact ⟨[], [], rfl, rfl, rfl⟩

theorem get_set (e : Env) (t : Nat) (v : V) (t' : Nat) : eget (eset e t v) t' = if t = t' then v else eget e t' := by
  induction e with
  | nil => simp [eset, eget]
  | cons p e ih =>
    obtain ⟨s, u⟩ := p
    simp only [eset]
    by_cases h : s = t
    · subst h
      simp only [if_true, eget]
      by_cases h' : s = t' <;> simp [h']
    · rw [if_neg h]
      simp only [eget, ih]
      by_cases h' : s = t'
      · subst h'; simp [Ne.symm h]
      · simp [h']

theorem EnvRep.put {c : Cx} {env : Env} {a : Act} (h : EnvRep c env a) {d : Option Tmp} (hd : ∀ t, d = some t → t < a.tmps.size) {v : V} {cv : Value} (hv : RepV c v cv) : EnvRep c (eput env d v) (a.put d cv) := by
  cases d with
  | none => exact h
  | some d =>
    intro t
    have := hd d rfl
    simp only [eput, Act.put, get_set]
    by_cases e : d = t
    · subst e
      simp [this, hv]
    · rw [if_neg e]
      have h0 := h t
      simpa [Array.getElem?_setIfInBounds_ne e] using h0
theorem EnvRep.mono {c c' : Cx} (m : Mono c c') {env : Env} {a : Act} (h : EnvRep c env a) : EnvRep c' env a := fun t => RepV.mono m (h t)

theorem xmin_sound {b : Bool} {x y : V} {cx cy : Value} {ts : Array TypeId} {ty : TypeId} (hG : Good g H w) (hx : RepV (cxOf g H.length w) x cx) (hy : RepV (cxOf g H.length w) y cy) {pre : Prop} {v : V} {H' : List Ob}
    (h : xmin b H x y = .val pre v H') (hp : pre) : DoneV P g H w (if b then Builtin.min_ ts ty #[cx, cy] else Builtin.max_ ts ty #[cx, cy]) v H' := by
  unfold xmin at h
  split at h
  · injection h with e1 e2 e3
    subst e1 e2 e3
    have := hx.int
    subst this
    have := hy.int
    subst this
    subst hp
    cases b with
    | true =>
      refine ⟨w, g, _, ?_, hG, Ext.refl _ _ _, RepV.mk_int⟩
      simp only [if_true, Builtin.min_, List.foldlM_cons, List.foldlM_nil, Builtin.min2]
      simp
      omega
    | false =>
      refine ⟨w, g, _, ?_, hG, Ext.refl _ _ _, RepV.mk_int⟩
      simp only [Bool.false_eq_true, if_false, Builtin.max_, List.foldlM_cons, List.foldlM_nil, Builtin.max2]
      simp
      omega
  · cases h

theorem xlen_sound (hTO : TyOK P T) {t ty : TypeId} {x : V} {cx : Value} (hG : Good g H w) (hx : RepV (cxOf g H.length w) x cx) {pre : Prop} {v : V} {H' : List Ob}
    (h : xlen (T t) H x = .val pre v H') (hp : pre) : DoneV P g H w (Builtin.len_ #[t] ty #[cx]) v H' := by
  unfold xlen at h
  split at h
  · rename_i l hk
    injection h with e1 e2 e3
    subst e1 e2 e3
    obtain ⟨td, g1, g2, g3⟩ := (hTO.at (t := t) (by rw [hk]; simp)).run_und w
    have := kind_str g1 hk
    subst this
    obtain ⟨rfl, _⟩ := hx.str
    have hsz : (ByteArray.mk l.toArray).size = l.length := by simp [ByteArray.size]
    exact DoneV.pure_ hG (cv := .int .i64 l.length) (by simp [Builtin.len_, g2, goInt, hsz]) RepV.mk_int
  · rename_i e l hk
    injection h with e1 e2 e3
    subst e1 e2 e3
    obtain ⟨td, g1, g2, g3⟩ := (hTO.at (t := t) (by rw [hk]; simp)).run_und w
    have := kind_slice g1 hk
    subst this
    have hl := hx.leaf (by simp) (by simp)
    simp only [RepC] at hl
    obtain ⟨a, cap, es, hu, _⟩ := hl
    injection hu with hu
    subst hu
    exact DoneV.pure_ hG (cv := .int .i64 l.length) (by simp [Builtin.len_, g2, goInt]) RepV.mk_int
  · rename_i e l hk
    injection h with e1 e2 e3
    subst e1 e2 e3
    obtain ⟨td, g1, g2, g3⟩ := (hTO.at (t := t) (by rw [hk]; simp)).run_und w
    have := kind_slice g1 hk
    subst this
    have hl := hx.leaf (by simp) (by simp)
    simp only [RepC] at hl
    obtain ⟨a, es, hu, _⟩ := hl
    injection hu with hu
    subst hu
    exact DoneV.pure_ hG (cv := .int .i64 l.length) (by simp [Builtin.len_, g2, goInt]) RepV.mk_int
  · rename_i e o ver off n hk
    split at h
    · rename_i ver' es l ho
      injection h with e1 e2 e3
      subst e1 e2 e3
      obtain ⟨td, g1, g2, g3⟩ := (hTO.at (t := t) (by rw [hk]; simp)).run_und w
      have := kind_slice g1 hk
      subst this
      obtain ⟨q, hq, hver, _⟩ := hG.vec ho
      have hl := hx.leaf (by simp) (by simp)
      simp only [RepC] at hl
      obtain ⟨k1, u, hu, k2, k3⟩ := hl
      injection hu with hu
      subst hu
      obtain ⟨k6, a, rfl, k7⟩ := (k3 q hq).2 (by omega)
      exact DoneV.pure_ hG (cv := .int .i64 n) (by simp [Builtin.len_, g2, goInt]) RepV.mk_int
    · cases h
  · cases h


/-! ### a literal slice -/
theorem fill_seq (size : Nat) : ∀ (vs : List Value) (k : Nat) (cells : Array Value), (∀ v ∈ vs, v.cells.size = size) → (k + vs.length) * size ≤ cells.size →
    ∃ cells', Instr.fill (fun i => some (i * size, size)) cells ((vs.zipIdx k).map fun p => (p.2, p.1)) = some cells' ∧
      cells'.toList = cells.toList.take (k * size) ++ vs.flatMap (fun v => v.cells.toList) ++ cells.toList.drop ((k + vs.length) * size)
  | [], k, cells, _, h => ⟨cells, rfl, by simp⟩
  | v :: vs, k, cells, hs, h => by
    have hv := hs v (by simp)
    have hlen : (k + 1) * size ≤ (k + (vs.length + 1)) * size := Nat.mul_le_mul_right _ (by omega)
    simp only [List.length_cons] at h
    rw [Nat.add_mul k 1, Nat.one_mul] at hlen
    simp only [List.zipIdx_cons, List.map_cons, Instr.fill]
    rw [if_neg (by simp only [Bool.or_eq_true, decide_eq_true_eq, not_or]; exact ⟨by simpa using hv, by omega⟩)]
    have hf := foldl_set (k * size) v.cells.toList 0 cells (by simp; omega)
    have hfold : (v.cells.zipIdx.foldl (fun cs (c, j) => cs.setIfInBounds (k * size + j) c) cells).toList = cells.toList.take (k * size) ++ v.cells.toList ++ cells.toList.drop (k * size + size) := by
      rw [← Array.foldl_toList, Array.toList_zipIdx]
      simp only [Nat.add_zero, Array.length_toList, hv] at hf
      exact hf
    obtain ⟨cells', c1, c2⟩ := fill_seq size vs (k + 1) (v.cells.zipIdx.foldl (fun cs (c, j) => cs.setIfInBounds (k * size + j) c) cells) (fun u hu => hs u (by simp [hu])) (by
      have := congrArg List.length hfold
      simp only [Array.length_toList, List.length_append, List.length_take, List.length_drop, hv] at this
      rw [this]
      rw [show k + 1 + vs.length = k + (vs.length + 1) by omega]
      omega)
    refine ⟨cells', c1, ?_⟩
    rw [c2, hfold]
    have l1 : (cells.toList.take (k * size)).length = k * size := by rw [List.length_take]; simp; omega
    have e1 : (k + 1) * size = k * size + size := by rw [Nat.add_mul, Nat.one_mul]
    rw [List.take_append_of_le_length (by simp [hv]; omega), List.take_of_length_le (by simp [hv]; omega)]
    rw [List.drop_append, List.drop_of_length_le (by simp [hv]; rw [show k + 1 + vs.length = k + (vs.length + 1) by omega]; omega)]
    simp only [List.nil_append, List.drop_drop, List.flatMap_cons, List.append_assoc, List.length_append, l1, Array.length_toList, hv, List.length_cons]
    congr 4
    rw [show k + 1 + vs.length = k + (vs.length + 1) by omega]
    omega

theorem cells_repF {c : Cx} {ρ : Operand → V} {ρc : Operand → Value} {size : Nat} (hρ : ∀ x, RepV c (ρ x) (ρc x)) : ∀ (l : List Operand), (∀ x ∈ l, (ρ x).storable ∧ (ρ x).cells.length = size) →
    RepF c size (l.map ρ) ((l.map ρc).flatMap fun v => v.cells.toList)
  | [], _ => rfl
  | x :: l, h => by
    have hx := h x (by simp)
    have hc := cells_of (hρ x) hx.1
    exact ⟨_, _, rfl, ⟨hx.1, RepC.of_cells hc hx.1⟩, by rw [hc.length, hx.2], cells_repF hρ l (fun y hy => h y (by simp [hy]))⟩

theorem zip_parts {α : Type} : ∀ (l : List (Nat × α)) (k : Nat), l.map (·.1) = List.range' k l.length → l = ((l.map (·.2)).zipIdx k).map fun p => (p.2, p.1)
  | [], _, _ => rfl
  | (i, x) :: l, k, h => by
    simp only [List.map_cons, List.length_cons, List.range'_succ, List.cons.injEq] at h
    simp only [List.map_cons, List.zipIdx_cons]
    rw [← h.1]
    congr 1
    rw [h.1]
    exact zip_parts l (k + 1) h.2

theorem buildSlice_sound (hTO : TyOK P T) {t e n : Nat} (hk : (T t).kind = .slice e) (he : (T e).kind ≠ .other) {ρ : Operand → V} {ρc : Operand → Value} (hρ : ∀ x, RepV (cxOf g H.length w) (ρ x) (ρc x)) (hG : Good g H w)
    {ps : Array (Nat × Operand)} (hn0 : n ≤ 16777216) (h0 : n * (T e).size ≤ 16777216) (hix : ps.toList.map (·.1) = List.range n) (hp : ∀ p ∈ ps.toList, (ρ p.2).storable ∧ (ρ p.2).cells.length = (T e).size) :
    DoneV P g H w (Instr.buildSlice t n (ps.map fun (i, x) => (i, ρc x))) (.fslice (ps.toList.map fun p => ρ p.2)) H := by
  have hT := hTO.at (t := t) (by rw [hk]; simp)
  obtain ⟨td, g1, g2, g3⟩ := hT.run_und w
  have := kind_slice g1 hk
  subst this
  have hE := hTO.at he
  obtain ⟨z, z1, z2⟩ := hE.run_zeroValue w
  have hlen : ps.toList.length = n := by have := congrArg List.length hix; simpa using this
  have hF := cells_repF hρ (ps.toList.map (·.2)) (size := (T e).size) (fun x hx => by
    obtain ⟨p, hp1, rfl⟩ := List.mem_map.1 hx
    exact hp p hp1)
  rw [List.map_map, List.map_map] at hF
  have hparts : (ps.map fun (i, x) => (i, ρc x)).toList = ((((ps.toList.map (·.2)).map ρc)).zipIdx 0).map fun p => (p.2, p.1) := by
    have h1 : (ps.map fun (i, x) => (i, ρc x)).toList = ps.toList.map fun p => (p.1, ρc p.2) := by simp
    rw [h1]
    have := zip_parts (ps.toList.map fun p => (p.1, ρc p.2)) 0 (by rw [List.map_map, List.length_map, hlen, ← List.range_eq_range', ← hix]; rfl)
    rw [this, List.map_map, List.map_map]
    rfl
  have hsz : ∀ v ∈ (ps.toList.map (·.2)).map ρc, v.cells.size = (T e).size := by
    intro v hv
    rw [List.map_map] at hv
    obtain ⟨p, hp1, rfl⟩ := List.mem_map.1 hv
    have := hp p hp1
    have := (cells_of (hρ p.2) this.1).length
    simp only [Array.length_toList] at this
    simp only [Function.comp_apply]
    omega
  generalize hz0 : (if n * (T e).size = 0 then (#[] : Array Value) else z.cells) = zc
  obtain ⟨cells, c1, c2⟩ := fill_seq (T e).size ((ps.toList.map (·.2)).map ρc) 0 ((Array.range (n * (T e).size)).map fun i => zc[i % zc.size]!) hsz (by simp [hlen])
  have hcells : cells.toList = ((ps.toList.map (·.2)).map ρc).flatMap fun v => v.cells.toList := by
    rw [c2]
    simp [hlen]
  rw [List.map_map] at hcells
  have hst := step_push hG (.cells cells e)
  refine ⟨_, _, .slice (some ⟨w.heap.size, 0, none⟩) n n, ?_, hst.1, hst.2.1, RepV.mk_leaf ?_ (by simp) (by simp)⟩
  · have hn : ¬ 16777216 < n * (T e).size := by omega
    unfold Instr.buildSlice
    rw [Sem.run_bind, g2]
    simp only [Result.andThen_ok, Sem.run_bind, hE.run_sizeOf, gt_iff_lt, Nat.reducePow]
    rw [if_neg hn]
    by_cases h00 : n * (T e).size = 0
    · simp only [h00, if_true] at hz0 ⊢
      subst hz0
      rw [h00] at c1
      simp only [Sem.run_bind, Sem.run_pure, Result.andThen_ok, hparts, c1, newRow, run_newObj]
      rfl
    · simp only [h00, if_false] at hz0 ⊢
      subst hz0
      simp only [Sem.run_bind, Sem.run_pure, Result.andThen_ok, hparts, c1, newRow, run_newObj, z1]
      rfl
  · simp only [RepC]
    refine ⟨_, (T e).size, by simp [hlen], by simp [hlen, maxLen_val]; omega, .inr ⟨_, 0, rfl, hst.2.2, (hF.mono hst.2.1.mono).repE (fun j v hj => ?_)⟩⟩
    show (pushW _ _).cell? _ = some v
    rw [cell?_row (heap_pushW_new _ _), hcells]
    simpa using hj

theorem buildSlice_own (hTO : TyOK P T) {t e n : Nat} (hk : (T t).kind = .slice e) (he : (T e).kind ≠ .other) {ρ : Operand → V} {ρc : Operand → Value} (hρ : ∀ x, RepV (cxOf g H.length w) (ρ x) (ρc x)) (hG : Good g H w)
    {ps : Array (Nat × Operand)} (hn0 : n ≤ 16777216) (h0 : n * (T e).size ≤ 16777216) (hix : ps.toList.map (·.1) = List.range n) (hp : ∀ p ∈ ps.toList, (ρ p.2).storable ∧ (ρ p.2).cells.length = (T e).size) :
    DoneV P g H w (Instr.buildSlice t n (ps.map fun (i, x) => (i, ρc x))) (.vec H.length 1 0 (ps.toList.map fun p => ρ p.2).length) (H ++ [.vec 1 (T e).size (ps.toList.map fun p => ρ p.2)]) := by
  have hT := hTO.at (t := t) (by rw [hk]; simp)
  obtain ⟨td, g1, g2, g3⟩ := hT.run_und w
  have := kind_slice g1 hk
  subst this
  have hE := hTO.at he
  obtain ⟨z, z1, z2⟩ := hE.run_zeroValue w
  have hlen : ps.toList.length = n := by have := congrArg List.length hix; simpa using this
  have hF := cells_repF hρ (ps.toList.map (·.2)) (size := (T e).size) (fun x hx => by
    obtain ⟨p, hp1, rfl⟩ := List.mem_map.1 hx
    exact hp p hp1)
  rw [List.map_map, List.map_map] at hF
  have hparts : (ps.map fun (i, x) => (i, ρc x)).toList = ((((ps.toList.map (·.2)).map ρc)).zipIdx 0).map fun p => (p.2, p.1) := by
    have h1 : (ps.map fun (i, x) => (i, ρc x)).toList = ps.toList.map fun p => (p.1, ρc p.2) := by simp
    rw [h1]
    have := zip_parts (ps.toList.map fun p => (p.1, ρc p.2)) 0 (by rw [List.map_map, List.length_map, hlen, ← List.range_eq_range', ← hix]; rfl)
    rw [this, List.map_map, List.map_map]
    rfl
  have hsz : ∀ v ∈ (ps.toList.map (·.2)).map ρc, v.cells.size = (T e).size := by
    intro v hv
    rw [List.map_map] at hv
    obtain ⟨p, hp1, rfl⟩ := List.mem_map.1 hv
    have := hp p hp1
    have := (cells_of (hρ p.2) this.1).length
    simp only [Array.length_toList] at this
    simp only [Function.comp_apply]
    omega
  generalize hz0 : (if n * (T e).size = 0 then (#[] : Array Value) else z.cells) = zc
  obtain ⟨cells, c1, c2⟩ := fill_seq (T e).size ((ps.toList.map (·.2)).map ρc) 0 ((Array.range (n * (T e).size)).map fun i => zc[i % zc.size]!) hsz (by simp [hlen])
  have hcells : cells.toList = ((ps.toList.map (·.2)).map ρc).flatMap fun v => v.cells.toList := by
    rw [c2]
    simp [hlen]
  rw [List.map_map] at hcells
  have hF2 := hF
  rw [← List.map_map (f := Prod.snd)] at hF2
  have hfl := hF2.length
  have hst := step_vec_new hG (o := H.length) 1 (T e).size (ps.toList.map fun p => ρ p.2) (Nat.le_refl _) (.inl rfl) (cl := cells.toList) (rest := #[]) (cap := n) e (0, 0) (fun j _ h => by omega) (by rw [hcells]; exact hF) (by simp [hlen]) (by rw [maxLen_val]; omega)
    (by rw [hcells, hF.length]; simp [hlen]) (fun v hv => by simp at hv) (H ++ [.vec 1 (T e).size (ps.toList.map fun p => ρ p.2)]) (.inl ⟨rfl, rfl⟩)
  have hce : cells.toList.toArray ++ #[] = cells := by simp
  rw [hce] at hst
  have hl2 : (ps.toList.map fun p => ρ p.2).length = n := by rw [List.length_map, hlen]
  refine ⟨_, _, .slice (some ⟨w.heap.size, 0, none⟩) n n, ?_, hst.1, hst.2.1, by have := hst.2.2; rw [hl2] at this ⊢; exact this⟩
  have hn : ¬ 16777216 < n * (T e).size := by omega
  unfold Instr.buildSlice
  rw [Sem.run_bind, g2]
  simp only [Result.andThen_ok, Sem.run_bind, hE.run_sizeOf, gt_iff_lt, Nat.reducePow]
  rw [if_neg hn]
  by_cases h00 : n * (T e).size = 0
  · simp only [h00, if_true] at hz0 ⊢
    subst hz0
    rw [h00] at c1
    simp only [Sem.run_bind, Sem.run_pure, Result.andThen_ok, hparts, c1, newRow, run_newObj]
    rfl
  · simp only [h00, if_false] at hz0 ⊢
    subst hz0
    simp only [Sem.run_bind, Sem.run_pure, Result.andThen_ok, hparts, c1, newRow, run_newObj, z1]
    rfl

theorem Done.of_eq {s s' : Sem Next} {v : V} {H' : List Ob} (h : Done P g H w s v H') (e : s' = s) : Done P g H w s' v H' := e ▸ h

theorem xbuiltin_sound (hTO : TyOK P T) {b : Builtin} {ts : Array TypeId} {ty : TypeId} {cb : Array Bool} {xs : List V} {cs : Array Value} (hG : Good g H w) (hx : RepVals (cxOf g H.length w) xs cs.toList) {pre : Prop} {v : V} {H' : List Ob}
    (h : xbuiltin T H b ts.toList xs = .val pre v H') (hp : pre) : Done P g H w (builtin b ts ty cb cs) v H' := by
  unfold xbuiltin at h
  split at h
  · rename_i _ t x ht
    obtain ⟨c, rfl, hc⟩ : ∃ c, cs = #[c] ∧ RepV (cxOf g H.length w) x c := by
      rcases cs with ⟨l⟩
      match l, hx with
      | [c], hx => exact ⟨c, rfl, hx.1⟩
    have : ts = #[t] := by rcases ts with ⟨l⟩; simp at ht; subst ht; rfl
    subst this
    split at h
    · rename_i k e hk
      exact (xmapLen_sound (ty := ty) hTO hk hG hc h hp).done
    · exact (xlen_sound (ty := ty) hTO hG hc h hp).done
  · rename_i _ t u s x ht
    obtain ⟨c, d, rfl, hc, hd⟩ : ∃ c d, cs = #[c, d] ∧ RepV (cxOf g H.length w) s c ∧ RepV (cxOf g H.length w) x d := by
      rcases cs with ⟨l⟩
      match l, hx with
      | [c, d], hx => exact ⟨c, d, rfl, hx.1, hx.2.1⟩
    have : ts = #[t, u] := by rcases ts with ⟨l⟩; simp at ht; subst ht; rfl
    subst this
    split at h
    · rename_i e e' hk hu
      split at h
      · rename_i he
        exact (xappend_sound (ty := ty) hTO hk he (by rw [hu]; simp) (by rw [hu]; simp) hG hc hd h hp).done
      · cases h
    · rename_i e hk hu
      split at h
      · rename_i he
        exact (xappend_sound (ty := ty) hTO hk he (by rw [hu]; simp) (by rw [hu]; simp) hG hc hd h hp).done
      · cases h
    · cases h
  · rename_i x y
    obtain ⟨c, d, rfl, hc, hd⟩ : ∃ c d, cs = #[c, d] ∧ RepV (cxOf g H.length w) x c ∧ RepV (cxOf g H.length w) y d := by
      rcases cs with ⟨l⟩
      match l, hx with
      | [c, d], hx => exact ⟨c, d, rfl, hx.1, hx.2.1⟩
    have := xmin_sound (P := P) (ts := ts) (ty := ty) hG hc hd h hp
    rw [if_pos rfl] at this
    exact this.done
  · rename_i x y
    obtain ⟨c, d, rfl, hc, hd⟩ : ∃ c d, cs = #[c, d] ∧ RepV (cxOf g H.length w) x c ∧ RepV (cxOf g H.length w) y d := by
      rcases cs with ⟨l⟩
      match l, hx with
      | [c, d], hx => exact ⟨c, d, rfl, hx.1, hx.2.1⟩
    have := xmin_sound (P := P) (ts := ts) (ty := ty) hG hc hd h hp
    rw [if_neg (by simp)] at this
    exact this.done
  · rename_i _ t rest x y ht
    obtain ⟨c, d, rfl, hc, hd⟩ : ∃ c d, cs = #[c, d] ∧ RepV (cxOf g H.length w) x c ∧ RepV (cxOf g H.length w) y d := by
      rcases cs with ⟨l⟩
      match l, hx with
      | [c, d], hx => exact ⟨c, d, rfl, hx.1, hx.2.1⟩
    have : ts[0]? = some t := by rw [← Array.getElem?_toList, ht]; rfl
    exact (xdelete_sound (ty := ty) hTO this hG hc hd h hp).done
  · rename_i _ t x ht
    obtain ⟨c, rfl, hc⟩ : ∃ c, cs = #[c] ∧ RepV (cxOf g H.length w) x c := by
      rcases cs with ⟨l⟩
      match l, hx with
      | [c], hx => exact ⟨c, rfl, hx.1⟩
    have : ts = #[t] := by rcases ts with ⟨l⟩; simp at ht; subst ht; rfl
    subst this
    split at h
    · rename_i e hk
      split at h
      · rename_i he
        exact (xclear_sound (ty := ty) hTO hk he hG hc h hp).done
      · cases h
    · cases h
  · cases h

theorem repO_map {c : Cx} {ρ : Operand → V} {ρc : Operand → Value} (hρ : ∀ x, RepV c (ρ x) (ρc x)) (o : Option Operand) : RepO c (o.map ρ) (o.map ρc) := by
  cases o with
  | none => trivial
  | some x => exact hρ x

/-- EVERY OPERATION THAT IS NO CALL OF A FUNCTION. -/
theorem xop_sound (hTO : TyOK P T) {own : Bool} {o : Oper} {ρ : Operand → V} {ρc : Operand → Value} (hρ : ∀ x, RepV (cxOf g H.length w) (ρ x) (ρc x)) (hG : Good g H w) {pre : Prop} {v : V} {H' : List Ob}
    (h : xop T own ρ H o.op = .val pre v H') (hp : pre) : Done P g H w (execOp ρc o) v H' := by
  obtain ⟨dst, op, type, pos, after, guard⟩ := o
  simp only at h
  have one : ∀ {v : V} {cv : Value}, RepV (cxOf g H.length w) v cv → Done P g H w (pure (.value cv)) v H :=
    fun hv => ⟨w, g, _, _, rfl, .inl rfl, hG, Ext.refl _ _ _, hv⟩
  unfold xop at h
  split at h
  case h_1 x =>
    injection h with e1 e2 e3
    subst e1 e2 e3
    exact one (hρ x)
  case h_2 x =>
    injection h with e1 e2 e3
    subst e1 e2 e3
    exact one (hρ x)
  case h_3 c a b =>
    have hc := hρ c
    split at h
    · rename_i q hq
      injection h with e1 e2 e3
      subst e1 e2 e3
      rw [hq] at hc
      have := hc.bool
      refine ⟨w, g, if q then ρc a else ρc b, _, ?_, .inl rfl, hG, Ext.refl _ _ _, ?_⟩
      · simp [execOp, this, asBool]
      · cases q <;> exact hρ _
    · cases h
  case h_4 e =>
    injection h with e1 e2 e3
    subst e1 e2 e3
    exact (alloc_sound hTO hp hG).done
  case h_5 e x =>
    injection h with e1 e2 e3
    subst e1 e2 e3
    exact (box_sound (hρ x) hp hG).done
  case h_6 t ps =>
    split at h
    · rename_i fs hk
      injection h with e1 e2 e3
      subst e1 e2 e3
      exact (build_struct_sound hTO hk hρ hG hp.1 hp.2).done
    · rename_i n e hk
      injection h with e1 e2 e3
      subst e1 e2 e3
      exact (build_array_sound hTO hk hp.1 hρ hG hp.2).done
    · cases h
  case h_7 t n ps =>
    split at h
    · rename_i e hk
      injection h with e1 e2 e3
      subst e1 e2 e3
      cases own with
      | false => exact (buildSlice_sound hTO hk hp.1 hρ hG hp.2.1 hp.2.2.1 hp.2.2.2.1 hp.2.2.2.2).done
      | true => exact (buildSlice_own hTO hk hp.1 hρ hG hp.2.1 hp.2.2.1 hp.2.2.2.1 hp.2.2.2.2).done
    · cases h
  case h_8 t a =>
    split at h
    · cases h
    · rename_i hk
      exact (xload_sound (hTO.at hk) hG (hρ a) h hp).done
  case h_9 t a x =>
    split at h
    · cases h
    · rename_i hk
      unfold xstore at h
      split at h
      · rename_i o off hq
        split at h
        · rename_i cs ho
          injection h with e1 e2 e3
          subst e1 e2 e3
          have ha := hρ a
          rw [hq] at ha
          obtain ⟨w', r1, r2, r3⟩ := xstore_var_sound (hTO.at hk) hG ha (hρ x) ho hp.1 hp.2.1 hp.2.2
          exact ⟨w', g, undef, .skip, by simp [execOp, r1], .inr ⟨rfl, rfl⟩, r2, r3, trivial⟩
        · cases h
      · rename_i o ver i c hq
        split at h
        · rename_i ver' es l ho
          injection h with e1 e2 e3
          subst e1 e2 e3
          obtain ⟨rfl, p1, p2, p3, p4⟩ := hp
          have ha := hρ a
          rw [hq] at ha
          obtain ⟨w', r1, r2, r3⟩ := xstore_vec_sound (hTO.at hk) hG ha (hρ x) ho p1 p2 p3 p4
          exact ⟨w', g, undef, .skip, by simp [execOp, r1], .inr ⟨rfl, rfl⟩, r2, r3, trivial⟩
        · cases h
      · cases h
  case h_10 t a f => exact (xfieldAddr_sound hTO hG (hρ a) h hp).done
  case h_11 t x i => exact (xindexAddr_sound hTO hG (hρ x) (hρ i) h hp).done
  case h_12 t x i => exact (xindex_sound hTO hG (hρ x) (hρ i) h hp).done
  case h_13 t x lo hi mx =>
    split at h
    · exact (xslice_sound hTO hG (hρ x) (repO_map hρ lo) (repO_map hρ hi) h hp).done
    · rename_i m
      exact (xslice3_sound hTO hG (hρ x) (repO_map hρ lo) (repO_map hρ hi) (hρ m) h hp).done
  case h_14 x =>
    have hx := hρ x
    split at h
    · rename_i o c hq
      injection h with e1 e2 e3
      subst e1 e2 e3
      rw [hq] at hx
      obtain ⟨b, off, hc, hn⟩ := live_addr hG hx hp
      refine ⟨w, g, ρc x, _, ?_, .inl rfl, hG, Ext.refl _ _ _, hx⟩
      simp only [execOp, hc]
      rfl
    · rename_i cs c hq
      injection h with e1 e2 e3
      subst e1 e2 e3
      rw [hq] at hx
      obtain ⟨b, off, hc, hn⟩ := live_addr hG hx trivial
      refine ⟨w, g, ρc x, _, ?_, .inl rfl, hG, Ext.refl _ _ _, hx⟩
      simp only [execOp, hc]
      rfl
    · rename_i o ver i c hq
      injection h with e1 e2 e3
      subst e1 e2 e3
      rw [hq] at hx
      obtain ⟨b, off, hc, hn⟩ := live_addr hG hx hp
      refine ⟨w, g, ρc x, _, ?_, .inl rfl, hG, Ext.refl _ _ _, hx⟩
      simp only [execOp, hc]
      rfl
    · cases h
  case h_15 op t x y yt =>
    split at h
    · exact absurd h xnils_val
    · split at h
      · rename_i hq
        exact (xnilm_sound (ox := x) (oy := y) hTO hG (hρ x) (hq ▸ hρ y) h hp).done
      · exact (xbin_sound hTO hG (hρ x) (hρ y) h hp).done
  case h_16 t x =>
    have hx := hρ x
    split at h
    · rename_i b hq
      injection h with e1 e2 e3
      subst e1 e2 e3
      rw [hq] at hx
      have := hx.bool
      refine ⟨w, g, .bool (!b), _, ?_, .inl rfl, hG, Ext.refl _ _ _, RepV.mk_bool⟩
      simp [execOp, this, Op.unary]
    · cases h
  case h_17 t x =>
    have hx := hρ x
    split at h
    · rename_i k n hq
      injection h with e1 e2 e3
      subst e1 e2 e3
      rw [hq] at hx
      have := hx.int
      refine ⟨w, g, .int k (k.wrap (0 - n)), _, ?_, .inl rfl, hG, Ext.refl _ _ _, RepV.mk_int⟩
      simp [execOp, this, Op.unary, Op.intArith]
    · cases h
  case h_18 s d x =>
    split at h
    · rename_i e hs hd
      split at h
      · rename_i he
        exact (xtoStr_sound hTO hG (hρ x) hs he hd h hp).done
      · cases h
    · cases h
    · rename_i e hs hd hne
      exact (xconvert_sound hTO (own := own) hG (hρ x) (by intro e; exact absurd e (by assumption)) (fun e' he' => by rw [hd] at he'; injection he' with he'; rw [he']) h hp).done
    · rename_i hs1 hs2 hs3 hs4
      exact (xconvert_sound hTO (own := own) hG (hρ x) (by intro e; first | exact hs2 e | exact hs3 e | exact hs4 e | exact hs1 e) (fun e' he' => by first | exact absurd he' (hs4 e') | exact absurd he' (hs3 e') | exact absurd he' (hs2 e')) h hp).done
  case h_19 f first cap =>
    injection h with e1 e2 e3
    subst e1 e2 e3
    refine ⟨w, g, .func f (first.map ρc) (cap.map ρc), _, by simp [execOp, Instr.makeFunc], .inl rfl, hG, Ext.refl _ _ _, RepV.mk_leaf ?_ (by simp) (by simp)⟩
    simp only [RepC]
    exact ⟨first.toList.map ρc, cap.toList.map ρc, by rw [← Array.toList_map, ← Array.toList_map], RepVs.of_vals hρ _ (fun x hx => hp x (by simp only [List.mem_append]; exact .inl hx)), RepVs.of_vals hρ _ (fun x hx => hp x (by simp only [List.mem_append]; exact .inr hx))⟩
  case h_20 t i =>
    have ht := hρ t
    split at h
    · rename_i vs hq
      injection h with e1 e2 e3
      subst e1 e2 e3
      rw [hq] at ht
      obtain ⟨ws, hws, hr⟩ := ht.tuple
      obtain ⟨v, h1, h2, h3⟩ := hr.get (at_get hp)
      refine ⟨w, g, v, _, ?_, .inl rfl, hG, Ext.refl _ _ _, RepV.of_parts h2 h3⟩
      simp [execOp, hws, Instr.extract, h1]
    · cases h
  case h_21 c =>
    split at h
    · split at h <;> cases h
    · rename_i b hb
      refine (xbuiltin_sound hTO (ty := type) (cb := c.args.map fun | .const _ => true | _ => false) hG (by rw [Array.toList_map]; exact RepVals.map hρ c.args.toList) h hp).of_eq ?_
      simp [execOp, resolve, hb, invoke]
      rfl
    · cases h
  case h_22 t n c =>
    split at h
    · rename_i e hk
      split at h
      · rename_i he
        exact (xmake_sound hTO hk he hG (hρ n) (hρ c) h hp).done
      · cases h
    · cases h
  case h_23 t x f =>
    split at h
    · rename_i fs hk
      split at h
      · rename_i ft off hf
        exact (xpart_sound hTO hk hf hG (hρ x) h hp).done
      · cases h
    · cases h
  case h_24 t r =>
    split at h
    · cases h
    · rename_i hr
      unfold xmakeMap at h
      split at h
      · injection h with e1 e2 e3
        subst e1 e2 e3
        cases r with
        | some _ => exact absurd rfl hr
        | none => exact (makeMap_sound hG).done
      · cases h
  case h_25 t x i ok => exact (xlookup_sound hTO hG (hρ x) (hρ i) h hp).done
  case h_26 t m k x =>
    obtain ⟨rfl, w', g', h1, h2, h3⟩ := xmapUpdate_sound hTO hG (hρ m) (hρ k) (hρ x) h hp
    exact ⟨w', g', undef, .skip, by simp [execOp, h1], .inr ⟨rfl, rfl⟩, h2, h3, trivial⟩
  case h_27 t x => exact (xrange_sound hTO hG (hρ x) h hp).done
  case h_28 x => exact (xentry_sound hG (hρ x) h hp).done
  case h_29 t x =>
    injection h with e1 e2 e3
    subst e1 e2 e3
    exact (makeInterface_sound hTO hG (hρ x) hp.1 hp.2.1 hp.2.2).done
  case h_30 x xt t ok =>
    have hx := hρ x
    split at h
    · rename_i t' v' hq
      split at h
      · cases h
      · rename_i hok
        injection h with e1 e2 e3
        subst e1 e2 e3
        obtain ⟨rfl, h1, h2⟩ := hp
        rw [hq] at hx
        have : ok = false := by simpa using hok
        subst this
        exact (typeAssert_sound hTO hG hx h1 h2).done
    · cases h
  case h_31 x s => split at h <;> cases h
  case h_32 => cases h

/-- the step of an iterator -/
theorem xop_steps {own : Bool} {op : Op} {ρ : Operand → V} {it : V} (h : xop T own ρ H op = .steps it) : ∃ x, op = .next x false ∧ it = ρ x := by
  cases op
  case next x s =>
    simp only [xop] at h
    split at h
    · cases h
    · rename_i hs
      injection h with h
      exact ⟨x, by rw [show s = false by simpa using hs], h.symm⟩
  all_goals exfalso
  case unOp op t x => cases op <;> simp only [xop] at h <;> first | (cases h; done) | (split at h <;> cases h)
  case binOp op t x y yt =>
    simp only [xop] at h
    split at h
    · unfold xnils xmaybe at h; (repeat' split at h) <;> cases h
    · split at h
      · unfold xnilm at h; (repeat' split at h) <;> cases h
      · unfold xbin xnil at h; (repeat' split at h) <;> cases h
  all_goals
    simp only [xop] at h
    first
    | (cases h; done)
    | (unfold xfieldAddr at h; (repeat' split at h) <;> cases h; done)
    | (unfold xindexAddr at h; (repeat' split at h) <;> cases h; done)
    | (unfold xindex at h; (repeat' split at h) <;> cases h; done)
    | (unfold xload at h; (repeat' split at h) <;> cases h; done)
    | (unfold xstore at h; (repeat' split at h) <;> cases h; done)
    | (unfold xslice3 xslice xsliceA at h; (repeat' split at h) <;> cases h; done)
    | (split at h <;> first | (unfold xslice xsliceA at h; (repeat' split at h) <;> cases h; done) | (unfold xslice3 at h; (repeat' split at h) <;> cases h; done))
    | (unfold xconvert xtoStr at h; (repeat' split at h) <;> cases h; done)
    | (unfold xmake at h; (repeat' split at h) <;> cases h; done)
    | (unfold xpart at h; (repeat' split at h) <;> cases h; done)
    | (unfold xlookup at h; (repeat' split at h) <;> cases h; done)
    | (unfold xmapUpdate at h; (repeat' split at h) <;> cases h; done)
    | (unfold xrange at h; (repeat' split at h) <;> cases h; done)
    | (unfold xmakeMap at h; (repeat' split at h) <;> cases h; done)
    | (unfold xentry at h; (repeat' split at h) <;> cases h; done)
    | (unfold xbuiltin xlen xmapLen xappend xmin xclear xdelete at h; (repeat' split at h) <;> cases h; done)
    | ((repeat' split at h) <;> cases h; done)

/-- an operation of two outcomes -/
theorem xop_maybe (hTO : TyOK P T) {own : Bool} {o : Oper} {ρ : Operand → V} {ρc : Operand → Value} (hρ : ∀ x, RepV (cxOf g H.length w) (ρ x) (ρc x)) (hc : ∀ v, ρc (.const v) = v) (hG : Good g H w) {pre p : Prop} {f : Bool → V} {H' : List Ob}
    (h : xop T own ρ H o.op = .maybe pre p f H') (hp : pre) : ∃ b, (p → b = false) ∧ Done P g H w (execOp ρc o) (f b) H' := by
  obtain ⟨dst, op, type, pos, after, guard⟩ := o
  simp only at h
  cases op
  case binOp op t x y yt =>
    simp only [xop] at h
    split at h
    · rename_i hy
      have : ∃ n c, y = .const (.slice none n c) := by
        unfold isNilS at hy
        split at hy
        · exact ⟨_, _, rfl⟩
        · cases hy
      obtain ⟨n, c, rfl⟩ := this
      obtain ⟨b, h1, h2⟩ := xnils_sound (P := P) (ox := x) (oy := .const (.slice none n c)) (n' := n) (c' := c) hTO hG (hρ x) h hp
      refine ⟨b, h1, ?_⟩
      rw [show execOp ρc ⟨dst, .binOp op t x (.const (.slice none n c)) yt, type, pos, after, guard⟩ = (do pure (Next.value (← (do eqGuard op t x (.const (.slice none n c)) (ρc x) (.slice none n c); binOp op t (ρc x) (.slice none n c))))) by simp [execOp, hc]]
      exact h2.done
    · exfalso
      split at h
      · unfold xnilm at h; (repeat' split at h) <;> cases h
      · unfold xbin xnil at h; (repeat' split at h) <;> cases h
  all_goals exfalso
  case unOp op t x => cases op <;> simp only [xop] at h <;> first | (cases h; done) | (split at h <;> cases h)
  all_goals
    simp only [xop] at h
    first
    | (cases h; done)
    | (unfold xfieldAddr at h; (repeat' split at h) <;> cases h; done)
    | (unfold xindexAddr at h; (repeat' split at h) <;> cases h; done)
    | (unfold xindex at h; (repeat' split at h) <;> cases h; done)
    | (unfold xload at h; (repeat' split at h) <;> cases h; done)
    | (unfold xstore at h; (repeat' split at h) <;> cases h; done)
    | (unfold xslice3 xslice xsliceA at h; (repeat' split at h) <;> cases h; done)
    | (split at h <;> first | (unfold xslice xsliceA at h; (repeat' split at h) <;> cases h; done) | (unfold xslice3 at h; (repeat' split at h) <;> cases h; done))
    | (unfold xconvert xtoStr at h; (repeat' split at h) <;> cases h; done)
    | (unfold xmake at h; (repeat' split at h) <;> cases h; done)
    | (unfold xpart at h; (repeat' split at h) <;> cases h; done)
    | (unfold xlookup at h; (repeat' split at h) <;> cases h; done)
    | (unfold xmapUpdate at h; (repeat' split at h) <;> cases h; done)
    | (unfold xrange at h; (repeat' split at h) <;> cases h; done)
    | (unfold xmakeMap at h; (repeat' split at h) <;> cases h; done)
    | (unfold xentry at h; (repeat' split at h) <;> cases h; done)
    | (unfold xbuiltin xlen xmapLen xappend xmin xclear xdelete at h; (repeat' split at h) <;> cases h; done)
    | ((repeat' split at h) <;> cases h; done)
end Go.EL

import Derived.Test.YtjplgbalpnlanaaG1
/- The value logic, part M: every operation. -/
set_option linter.unusedVariables false
set_option linter.unusedSimpArgs false
namespace Go.EL
open Go
variable {P : Program} {T : Nat → TD} {g : Nat → Option Key} {H : List Ob} {w : World}

def RepVals (c : Cx) : List V → List Value → Prop
  | [], [] => True
  | x :: xs, v :: vs => RepV c x v ∧ RepVals c xs vs
  | _, _ => False

theorem RepVals.append {c : Cx} : ∀ {xs ys : List V} {vs us : List Value}, RepVals c xs vs → RepVals c ys us → RepVals c (xs ++ ys) (vs ++ us)
  | [], ys, [], us, _, g => g
  | x :: xs, ys, v :: vs, us, h, g => ⟨h.1, h.2.append g⟩
  | [], _, _ :: _, _, h, _ => h.elim
  | _ :: _, _, [], _, h, _ => h.elim
theorem RepVs.vals {c : Cx} : ∀ {xs : List V} {vs : List Value}, RepVs c xs vs → RepVals c xs vs
  | [], _, h => by simp only [RepVs] at h; subst h; trivial
  | x :: xs, _, h => by
    simp only [RepVs] at h
    obtain ⟨v, vs', rfl, h1, h2, h3⟩ := h
    exact ⟨RepV.of_parts h1 h2, h3.vals⟩
theorem RepVals.map {c : Cx} {ρ : Operand → V} {ρc : Operand → Value} (hρ : ∀ x, RepV c (ρ x) (ρc x)) : ∀ (l : List Operand), RepVals c (l.map ρ) (l.map ρc)
  | [] => trivial
  | x :: xs => ⟨hρ x, RepVals.map hρ xs⟩
theorem RepVals.length {c : Cx} : ∀ {xs : List V} {vs : List Value}, RepVals c xs vs → vs.length = xs.length
  | [], [], _ => rfl
  | x :: xs, v :: vs, h => by simp [h.2.length]
  | [], _ :: _, h => h.elim
  | _ :: _, [], h => h.elim
theorem RepVs.of_vals {c : Cx} {ρ : Operand → V} {ρc : Operand → Value} (hρ : ∀ x, RepV c (ρ x) (ρc x)) : ∀ (l : List Operand), (∀ x ∈ l, (ρ x).storable) → RepVs c (l.map ρ) (l.map ρc)
  | [], _ => by simp [RepVs]
  | x :: xs, h => by
    simp only [List.map_cons, RepVs]
    have hx := hρ x
    have hs := h x (by simp)
    refine ⟨_, _, rfl, ?_, ?_, RepVs.of_vals hρ xs (fun y hy => h y (by simp [hy]))⟩
    · cases hq : ρ x <;> rw [hq] at hx hs <;> first | exact hs.elim | exact hx.1
    · cases hq : ρ x <;> rw [hq] at hx hs <;> first | exact hs.elim | exact hx.2

theorem ofLeaf_rep {c : Cx} (v : Value) : RepV c (ofLeaf v) v := by
  unfold ofLeaf
  split
  · exact RepV.mk_int
  · exact RepV.mk_bool
  · exact RepV.mk_str'
  · exact RepV.mk_leaf (by simp [RepC]) (by simp) (by simp)
  · refine RepV.mk_leaf ?_ (by simp) (by simp)
    simp only [RepC]
    exact ⟨none, 0, rfl, by simp, by simp⟩
  · exact RepV.mk_leaf (by simp [RepC]) (by simp) (by simp)
  · exact RepV.mk_leaf (by simp [RepC]) (by simp) (by simp)
  · exact RepV.mk_leaf (by simp [RepC]) (by simp) (by simp)
  · trivial

theorem ofLeaf_leaf {v : Value} (h : (ofLeaf v).isDead = false) : (ofLeaf v).leaf := by
  unfold ofLeaf at *
  split <;> first | trivial | (simp [V.isDead] at h; done) | (split at h <;> first | trivial | (simp [V.isDead] at h; done))

theorem ofLeaf_notagg (v : Value) : ∀ cs, ofLeaf v ≠ .agg cs := by
  intro cs
  unfold ofLeaf
  split <;> simp

theorem ofLeaf_reps {c : Cx} : ∀ (vs : List Value), (vs.map ofLeaf).any V.isDead = false → Reps c (vs.map ofLeaf) vs
  | [], _ => by simp [Reps]
  | v :: vs, h => by
    simp only [List.map_cons, List.any_cons, Bool.or_eq_false_iff] at h
    simp only [List.map_cons, Reps]
    have h1 := ofLeaf_rep (c := c) v
    have hd : ofLeaf v ≠ .dead := by intro e; rw [e] at h; simp [V.isDead] at h
    exact ⟨v, vs, rfl, ofLeaf_leaf h.1, h1.leaf (ofLeaf_notagg v) hd, ofLeaf_reps vs h.2⟩

theorem ofValue_rep {c : Cx} (v : Value) : RepV c (ofValue v) v := by
  unfold ofValue
  split
  · rename_i cs
    split
    · trivial
    · rename_i h
      exact RepV.mk_agg (ofLeaf_reps cs.toList (by simpa using h))
  · exact ofLeaf_rep v

def EnvRep (c : Cx) (env : Env) (a : Act) : Prop := ∀ t, RepV c (eget env t) (a.tmps.getD t undef)

theorem EnvRep.ev {c : Cx} {env : Env} {a : Act} (h : EnvRep c env a) : ∀ x, RepV c (evl env x) (a.eval x)
  | .tmp t => h t
  | .const v => ofValue_rep v
  | .global _ => trivial
  | .func f => by
    refine RepV.mk_leaf ?_ (by simp [evl]) (by simp [Act.eval])
    simp only [evl, RepC, Act.eval, RepVs]
    exact ⟨[], [], rfl, rfl, rfl⟩

theorem get_set (e : Env) (t : Nat) (v : V) (t' : Nat) : eget (eset e t v) t' = if t = t' then v else eget e t' := by
  induction e with
  | nil => simp [eset, eget]
  | cons p e ih =>
    obtain ⟨s, u⟩ := p
    simp only [eset]
    by_cases h : s = t
    · subst h
      simp only [if_true, eget]
      by_cases h' : s = t' <;> simp [h']
    · rw [if_neg h]
      simp only [eget, ih]
      by_cases h' : s = t'
      · subst h'; simp [Ne.symm h]
      · simp [h']

theorem EnvRep.put {c : Cx} {env : Env} {a : Act} (h : EnvRep c env a) {d : Option Tmp} (hd : ∀ t, d = some t → t < a.tmps.size) {v : V} {cv : Value} (hv : RepV c v cv) : EnvRep c (eput env d v) (a.put d cv) := by
  cases d with
  | none => exact h
  | some d =>
    intro t
    have := hd d rfl
    simp only [eput, Act.put, get_set]
    by_cases e : d = t
    · subst e
      simp [this, hv]
    · rw [if_neg e]
      have h0 := h t
      simpa [Array.getElem?_setIfInBounds_ne e] using h0
theorem EnvRep.mono {c c' : Cx} (m : Mono c c') {env : Env} {a : Act} (h : EnvRep c env a) : EnvRep c' env a := fun t => RepV.mono m (h t)

theorem xmin_sound {b : Bool} {x y : V} {cx cy : Value} {ts : Array TypeId} {ty : TypeId} (hG : Good g H w) (hx : RepV (cxOf g H.length w) x cx) (hy : RepV (cxOf g H.length w) y cy) {pre : Prop} {v : V} {H' : List Ob}
    (h : xmin b H x y = .val pre v H') (hp : pre) : DoneV P g H w (if b then Builtin.min_ ts ty #[cx, cy] else Builtin.max_ ts ty #[cx, cy]) v H' := by
  unfold xmin at h
  split at h
  · injection h with e1 e2 e3
    subst e1 e2 e3
    have := hx.int
    subst this
    have := hy.int
    subst this
    subst hp
    cases b with
    | true =>
      refine ⟨w, g, _, ?_, hG, Ext.refl _ _ _, RepV.mk_int⟩
      simp only [if_true, Builtin.min_, List.foldlM_cons, List.foldlM_nil, Builtin.min2]
      simp
      omega
    | false =>
      refine ⟨w, g, _, ?_, hG, Ext.refl _ _ _, RepV.mk_int⟩
      simp only [Bool.false_eq_true, if_false, Builtin.max_, List.foldlM_cons, List.foldlM_nil, Builtin.max2]
      simp
      omega
  · cases h

theorem xlen_sound (hTO : TyOK P T) {t ty : TypeId} {x : V} {cx : Value} (hG : Good g H w) (hx : RepV (cxOf g H.length w) x cx) {pre : Prop} {v : V} {H' : List Ob}
    (h : xlen (T t) H x = .val pre v H') (hp : pre) : DoneV P g H w (Builtin.len_ #[t] ty #[cx]) v H' := by
  unfold xlen at h
  split at h
  · rename_i l hk
    injection h with e1 e2 e3
    subst e1 e2 e3
    obtain ⟨td, g1, g2, g3⟩ := (hTO.at (t := t) (by rw [hk]; simp)).run_und w
    have := kind_str g1 hk
    subst this
    obtain ⟨rfl, _⟩ := hx.str
    have hsz : (ByteArray.mk l.toArray).size = l.length := by simp [ByteArray.size]
    exact DoneV.pure_ hG (cv := .int .i64 l.length) (by simp [Builtin.len_, g2, goInt, hsz]) RepV.mk_int
  · rename_i e l hk
    injection h with e1 e2 e3
    subst e1 e2 e3
    obtain ⟨td, g1, g2, g3⟩ := (hTO.at (t := t) (by rw [hk]; simp)).run_und w
    have := kind_slice g1 hk
    subst this
    have hl := hx.leaf (by simp) (by simp)
    simp only [RepC] at hl
    obtain ⟨a, cap, es, hu, _⟩ := hl
    injection hu with hu
    subst hu
    exact DoneV.pure_ hG (cv := .int .i64 l.length) (by simp [Builtin.len_, g2, goInt]) RepV.mk_int
  · rename_i e l hk
    injection h with e1 e2 e3
    subst e1 e2 e3
    obtain ⟨td, g1, g2, g3⟩ := (hTO.at (t := t) (by rw [hk]; simp)).run_und w
    have := kind_slice g1 hk
    subst this
    have hl := hx.leaf (by simp) (by simp)
    simp only [RepC] at hl
    obtain ⟨a, es, hu, _⟩ := hl
    injection hu with hu
    subst hu
    exact DoneV.pure_ hG (cv := .int .i64 l.length) (by simp [Builtin.len_, g2, goInt]) RepV.mk_int
  · rename_i e o ver off n hk
    split at h
    · rename_i ver' es l ho
      injection h with e1 e2 e3
      subst e1 e2 e3
      obtain ⟨td, g1, g2, g3⟩ := (hTO.at (t := t) (by rw [hk]; simp)).run_und w
      have := kind_slice g1 hk
      subst this
      obtain ⟨q, hq, hver, _⟩ := hG.vec ho
      have hl := hx.leaf (by simp) (by simp)
      simp only [RepC] at hl
      obtain ⟨k1, u, hu, k2, k3⟩ := hl
      injection hu with hu
      subst hu
      obtain ⟨k6, a, rfl, k7⟩ := (k3 q hq).2 (by omega)
      exact DoneV.pure_ hG (cv := .int .i64 n) (by simp [Builtin.len_, g2, goInt]) RepV.mk_int
    · cases h
  · cases h


/-! ### a literal slice -/
theorem fill_seq (size : Nat) : ∀ (vs : List Value) (k : Nat) (cells : Array Value), (∀ v ∈ vs, v.cells.size = size) → (k + vs.length) * size ≤ cells.size →
    ∃ cells', Instr.fill (fun i => some (i * size, size)) cells ((vs.zipIdx k).map fun p => (p.2, p.1)) = some cells' ∧
      cells'.toList = cells.toList.take (k * size) ++ vs.flatMap (fun v => v.cells.toList) ++ cells.toList.drop ((k + vs.length) * size)
  | [], k, cells, _, h => ⟨cells, rfl, by simp⟩
  | v :: vs, k, cells, hs, h => by
    have hv := hs v (by simp)
    have hlen : (k + 1) * size ≤ (k + (vs.length + 1)) * size := Nat.mul_le_mul_right _ (by omega)
    simp only [List.length_cons] at h
    rw [Nat.add_mul k 1, Nat.one_mul] at hlen
    simp only [List.zipIdx_cons, List.map_cons, Instr.fill]
    rw [if_neg (by simp only [Bool.or_eq_true, decide_eq_true_eq, not_or]; exact ⟨by simpa using hv, by omega⟩)]
    have hf := foldl_set (k * size) v.cells.toList 0 cells (by simp; omega)
    have hfold : (v.cells.zipIdx.foldl (fun cs (c, j) => cs.setIfInBounds (k * size + j) c) cells).toList = cells.toList.take (k * size) ++ v.cells.toList ++ cells.toList.drop (k * size + size) := by
      rw [← Array.foldl_toList, Array.toList_zipIdx]
      simp only [Nat.add_zero, Array.length_toList, hv] at hf
      exact hf
    obtain ⟨cells', c1, c2⟩ := fill_seq size vs (k + 1) (v.cells.zipIdx.foldl (fun cs (c, j) => cs.setIfInBounds (k * size + j) c) cells) (fun u hu => hs u (by simp [hu])) (by
      have := congrArg List.length hfold
      simp only [Array.length_toList, List.length_append, List.length_take, List.length_drop, hv] at this
      rw [this]
      rw [show k + 1 + vs.length = k + (vs.length + 1) by omega]
      omega)
    refine ⟨cells', c1, ?_⟩
    rw [c2, hfold]
    have l1 : (cells.toList.take (k * size)).length = k * size := by rw [List.length_take]; simp; omega
    have e1 : (k + 1) * size = k * size + size := by rw [Nat.add_mul, Nat.one_mul]
    rw [List.take_append_of_le_length (by simp [hv]; omega), List.take_of_length_le (by simp [hv]; omega)]
    rw [List.drop_append, List.drop_of_length_le (by simp [hv]; rw [show k + 1 + vs.length = k + (vs.length + 1) by omega]; omega)]
    simp only [List.nil_append, List.drop_drop, List.flatMap_cons, List.append_assoc, List.length_append, l1, Array.length_toList, hv, List.length_cons]
    congr 4
    rw [show k + 1 + vs.length = k + (vs.length + 1) by omega]
    omega

theorem cells_repF {c : Cx} {ρ : Operand → V} {ρc : Operand → Value} {size : Nat} (hρ : ∀ x, RepV c (ρ x) (ρc x)) : ∀ (l : List Operand), (∀ x ∈ l, (ρ x).storable ∧ (ρ x).cells.length = size) →
    RepF c size (l.map ρ) ((l.map ρc).flatMap fun v => v.cells.toList)
  | [], _ => rfl
  | x :: l, h => by
    have hx := h x (by simp)
    have hc := cells_of (hρ x) hx.1
    exact ⟨_, _, rfl, ⟨hx.1, RepC.of_cells hc hx.1⟩, by rw [hc.length, hx.2], cells_repF hρ l (fun y hy => h y (by simp [hy]))⟩

theorem zip_parts {α : Type} : ∀ (l : List (Nat × α)) (k : Nat), l.map (·.1) = List.range' k l.length → l = ((l.map (·.2)).zipIdx k).map fun p => (p.2, p.1)
  | [], _, _ => rfl
  | (i, x) :: l, k, h => by
    simp only [List.map_cons, List.length_cons, List.range'_succ, List.cons.injEq] at h
    simp only [List.map_cons, List.zipIdx_cons]
    rw [← h.1]
    congr 1
    rw [h.1]
    exact zip_parts l (k + 1) h.2

theorem buildSlice_sound (hTO : TyOK P T) {t e n : Nat} (hk : (T t).kind = .slice e) (he : (T e).kind ≠ .other) {ρ : Operand → V} {ρc : Operand → Value} (hρ : ∀ x, RepV (cxOf g H.length w) (ρ x) (ρc x)) (hG : Good g H w)
    {ps : Array (Nat × Operand)} (hn0 : n ≤ 16777216) (h0 : n * (T e).size ≤ 16777216) (hix : ps.toList.map (·.1) = List.range n) (hp : ∀ p ∈ ps.toList, (ρ p.2).storable ∧ (ρ p.2).cells.length = (T e).size) :
    DoneV P g H w (Instr.buildSlice t n (ps.map fun (i, x) => (i, ρc x))) (.fslice (ps.toList.map fun p => ρ p.2)) H := by
  have hT := hTO.at (t := t) (by rw [hk]; simp)
  obtain ⟨td, g1, g2, g3⟩ := hT.run_und w
  have := kind_slice g1 hk
  subst this
  have hE := hTO.at he
  obtain ⟨z, z1, z2⟩ := hE.run_zeroValue w
  have hlen : ps.toList.length = n := by have := congrArg List.length hix; simpa using this
  have hF := cells_repF hρ (ps.toList.map (·.2)) (size := (T e).size) (fun x hx => by
    obtain ⟨p, hp1, rfl⟩ := List.mem_map.1 hx
    exact hp p hp1)
  rw [List.map_map, List.map_map] at hF
  have hparts : (ps.map fun (i, x) => (i, ρc x)).toList = ((((ps.toList.map (·.2)).map ρc)).zipIdx 0).map fun p => (p.2, p.1) := by
    have h1 : (ps.map fun (i, x) => (i, ρc x)).toList = ps.toList.map fun p => (p.1, ρc p.2) := by simp
    rw [h1]
    have := zip_parts (ps.toList.map fun p => (p.1, ρc p.2)) 0 (by rw [List.map_map, List.length_map, hlen, ← List.range_eq_range', ← hix]; rfl)
    rw [this, List.map_map, List.map_map]
    rfl
  have hsz : ∀ v ∈ (ps.toList.map (·.2)).map ρc, v.cells.size = (T e).size := by
    intro v hv
    rw [List.map_map] at hv
    obtain ⟨p, hp1, rfl⟩ := List.mem_map.1 hv
    have := hp p hp1
    have := (cells_of (hρ p.2) this.1).length
    simp only [Array.length_toList] at this
    simp only [Function.comp_apply]
    omega
  generalize hz0 : (if n * (T e).size = 0 then (#[] : Array Value) else z.cells) = zc
  obtain ⟨cells, c1, c2⟩ := fill_seq (T e).size ((ps.toList.map (·.2)).map ρc) 0 ((Array.range (n * (T e).size)).map fun i => zc[i % zc.size]!) hsz (by simp [hlen])
  have hcells : cells.toList = ((ps.toList.map (·.2)).map ρc).flatMap fun v => v.cells.toList := by
    rw [c2]
    simp [hlen]
  rw [List.map_map] at hcells
  have hst := step_push hG (.cells cells e)
  refine ⟨_, _, .slice (some ⟨w.heap.size, 0, none⟩) n n, ?_, hst.1, hst.2.1, RepV.mk_leaf ?_ (by simp) (by simp)⟩
  · have hn : ¬ 16777216 < n * (T e).size := by omega
    unfold Instr.buildSlice
    rw [Sem.run_bind, g2]
    simp only [Result.andThen_ok, Sem.run_bind, hE.run_sizeOf, gt_iff_lt, Nat.reducePow]
    rw [if_neg hn]
    by_cases h00 : n * (T e).size = 0
    · simp only [h00, if_true] at hz0 ⊢
      subst hz0
      rw [h00] at c1
      simp only [Sem.run_bind, Sem.run_pure, Result.andThen_ok, hparts, c1, newRow, run_newObj]
      rfl
    · simp only [h00, if_false] at hz0 ⊢
      subst hz0
      simp only [Sem.run_bind, Sem.run_pure, Result.andThen_ok, hparts, c1, newRow, run_newObj, z1]
      rfl
  · simp only [RepC]
    refine ⟨_, (T e).size, by simp [hlen], by simp [hlen, maxLen_val]; omega, .inr ⟨_, 0, rfl, hst.2.2, (hF.mono hst.2.1.mono).repE (fun j v hj => ?_)⟩⟩
    show (pushW _ _).cell? _ = some v
    rw [cell?_row (heap_pushW_new _ _), hcells]
    simpa using hj

theorem buildSlice_own (hTO : TyOK P T) {t e n : Nat} (hk : (T t).kind = .slice e) (he : (T e).kind ≠ .other) {ρ : Operand → V} {ρc : Operand → Value} (hρ : ∀ x, RepV (cxOf g H.length w) (ρ x) (ρc x)) (hG : Good g H w)
    {ps : Array (Nat × Operand)} (hn0 : n ≤ 16777216) (h0 : n * (T e).size ≤ 16777216) (hix : ps.toList.map (·.1) = List.range n) (hp : ∀ p ∈ ps.toList, (ρ p.2).storable ∧ (ρ p.2).cells.length = (T e).size) :
    DoneV P g H w (Instr.buildSlice t n (ps.map fun (i, x) => (i, ρc x))) (.vec H.length 1 0 (ps.toList.map fun p => ρ p.2).length) (H ++ [.vec 1 (T e).size (ps.toList.map fun p => ρ p.2)]) := by
  have hT := hTO.at (t := t) (by rw [hk]; simp)
  obtain ⟨td, g1, g2, g3⟩ := hT.run_und w
  have := kind_slice g1 hk
  subst this
  have hE := hTO.at he
  obtain ⟨z, z1, z2⟩ := hE.run_zeroValue w
  have hlen : ps.toList.length = n := by have := congrArg List.length hix; simpa using this
  have hF := cells_repF hρ (ps.toList.map (·.2)) (size := (T e).size) (fun x hx => by
    obtain ⟨p, hp1, rfl⟩ := List.mem_map.1 hx
    exact hp p hp1)
  rw [List.map_map, List.map_map] at hF
  have hparts : (ps.map fun (i, x) => (i, ρc x)).toList = ((((ps.toList.map (·.2)).map ρc)).zipIdx 0).map fun p => (p.2, p.1) := by
    have h1 : (ps.map fun (i, x) => (i, ρc x)).toList = ps.toList.map fun p => (p.1, ρc p.2) := by simp
    rw [h1]
    have := zip_parts (ps.toList.map fun p => (p.1, ρc p.2)) 0 (by rw [List.map_map, List.length_map, hlen, ← List.range_eq_range', ← hix]; rfl)
    rw [this, List.map_map, List.map_map]
    rfl
  have hsz : ∀ v ∈ (ps.toList.map (·.2)).map ρc, v.cells.size = (T e).size := by
    intro v hv
    rw [List.map_map] at hv
    obtain ⟨p, hp1, rfl⟩ := List.mem_map.1 hv
    have := hp p hp1
    have := (cells_of (hρ p.2) this.1).length
    simp only [Array.length_toList] at this
    simp only [Function.comp_apply]
    omega
  generalize hz0 : (if n * (T e).size = 0 then (#[] : Array Value) else z.cells) = zc
  obtain ⟨cells, c1, c2⟩ := fill_seq (T e).size ((ps.toList.map (·.2)).map ρc) 0 ((Array.range (n * (T e).size)).map fun i => zc[i % zc.size]!) hsz (by simp [hlen])
  have hcells : cells.toList = ((ps.toList.map (·.2)).map ρc).flatMap fun v => v.cells.toList := by
    rw [c2]
    simp [hlen]
  rw [List.map_map] at hcells
  have hF2 := hF
  rw [← List.map_map (f := Prod.snd)] at hF2
  have hfl := hF2.length
  have hst := step_vec_new hG (o := H.length) 1 (T e).size (ps.toList.map fun p => ρ p.2) (Nat.le_refl _) (.inl rfl) (cl := cells.toList) (rest := #[]) (cap := n) e (0, 0) (fun j _ h => by omega) (by rw [hcells]; exact hF) (by simp [hlen]) (by rw [maxLen_val]; omega)
    (by rw [hcells, hF.length]; simp [hlen]) (fun v hv => by simp at hv) (H ++ [.vec 1 (T e).size (ps.toList.map fun p => ρ p.2)]) (.inl ⟨rfl, rfl⟩)
  have hce : cells.toList.toArray ++ #[] = cells := by simp
  rw [hce] at hst
  have hl2 : (ps.toList.map fun p => ρ p.2).length = n := by rw [List.length_map, hlen]
  refine ⟨_, _, .slice (some ⟨w.heap.size, 0, none⟩) n n, ?_, hst.1, hst.2.1, by have := hst.2.2; rw [hl2] at this ⊢; exact this⟩
  have hn : ¬ 16777216 < n * (T e).size := by omega
  unfold Instr.buildSlice
  rw [Sem.run_bind, g2]
  simp only [Result.andThen_ok, Sem.run_bind, hE.run_sizeOf, gt_iff_lt, Nat.reducePow]
  rw [if_neg hn]
  by_cases h00 : n * (T e).size = 0
  · simp only [h00, if_true] at hz0 ⊢
    subst hz0
    rw [h00] at c1
    simp only [Sem.run_bind, Sem.run_pure, Result.andThen_ok, hparts, c1, newRow, run_newObj]
    rfl
  · simp only [h00, if_false] at hz0 ⊢
    subst hz0
    simp only [Sem.run_bind, Sem.run_pure, Result.andThen_ok, hparts, c1, newRow, run_newObj, z1]
    rfl

theorem Done.of_eq {s s' : Sem Next} {v : V} {H' : List Ob} (h : Done P g H w s v H') (e : s' = s) : Done P g H w s' v H' := e ▸ h

theorem xbuiltin_sound (hTO : TyOK P T) {b : Builtin} {ts : Array TypeId} {ty : TypeId} {cb : Array Bool} {xs : List V} {cs : Array Value} (hG : Good g H w) (hx : RepVals (cxOf g H.length w) xs cs.toList) {pre : Prop} {v : V} {H' : List Ob}
    (h : xbuiltin T H b ts.toList xs = .val pre v H') (hp : pre) : Done P g H w (builtin b ts ty cb cs) v H' := by
  unfold xbuiltin at h
  split at h
  · rename_i _ t x ht
    obtain ⟨c, rfl, hc⟩ : ∃ c, cs = #[c] ∧ RepV (cxOf g H.length w) x c := by
      rcases cs with ⟨l⟩
      match l, hx with
      | [c], hx => exact ⟨c, rfl, hx.1⟩
    have : ts = #[t] := by rcases ts with ⟨l⟩; simp at ht; subst ht; rfl
    subst this
    split at h
    · rename_i k e hk
      exact (xmapLen_sound (ty := ty) hTO hk hG hc h hp).done
    · exact (xlen_sound (ty := ty) hTO hG hc h hp).done
  · rename_i _ t u s x ht
    obtain ⟨c, d, rfl, hc, hd⟩ : ∃ c d, cs = #[c, d] ∧ RepV (cxOf g H.length w) s c ∧ RepV (cxOf g H.length w) x d := by
      rcases cs with ⟨l⟩
      match l, hx with
      | [c, d], hx => exact ⟨c, d, rfl, hx.1, hx.2.1⟩
    have : ts = #[t, u] := by rcases ts with ⟨l⟩; simp at ht; subst ht; rfl
    subst this
    split at h
    · rename_i e e' hk hu
      split at h
      · rename_i he
        exact (xappend_sound (ty := ty) hTO hk he (by rw [hu]; simp) (by rw [hu]; simp) hG hc hd h hp).done
      · cases h
    · rename_i e hk hu
      split at h
      · rename_i he
        exact (xappend_sound (ty := ty) hTO hk he (by rw [hu]; simp) (by rw [hu]; simp) hG hc hd h hp).done
      · cases h
    · cases h
  · rename_i x y
    obtain ⟨c, d, rfl, hc, hd⟩ : ∃ c d, cs = #[c, d] ∧ RepV (cxOf g H.length w) x c ∧ RepV (cxOf g H.length w) y d := by
      rcases cs with ⟨l⟩
      match l, hx with
      | [c, d], hx => exact ⟨c, d, rfl, hx.1, hx.2.1⟩
    have := xmin_sound (P := P) (ts := ts) (ty := ty) hG hc hd h hp
    rw [if_pos rfl] at this
    exact this.done
  · rename_i x y
    obtain ⟨c, d, rfl, hc, hd⟩ : ∃ c d, cs = #[c, d] ∧ RepV (cxOf g H.length w) x c ∧ RepV (cxOf g H.length w) y d := by
      rcases cs with ⟨l⟩
      match l, hx with
      | [c, d], hx => exact ⟨c, d, rfl, hx.1, hx.2.1⟩
    have := xmin_sound (P := P) (ts := ts) (ty := ty) hG hc hd h hp
    rw [if_neg (by simp)] at this
    exact this.done
  · rename_i _ t rest x y ht
    obtain ⟨c, d, rfl, hc, hd⟩ : ∃ c d, cs = #[c, d] ∧ RepV (cxOf g H.length w) x c ∧ RepV (cxOf g H.length w) y d := by
      rcases cs with ⟨l⟩
      match l, hx with
      | [c, d], hx => exact ⟨c, d, rfl, hx.1, hx.2.1⟩
    have : ts[0]? = some t := by rw [← Array.getElem?_toList, ht]; rfl
    exact (xdelete_sound (ty := ty) hTO this hG hc hd h hp).done
  · rename_i _ t x ht
    obtain ⟨c, rfl, hc⟩ : ∃ c, cs = #[c] ∧ RepV (cxOf g H.length w) x c := by
      rcases cs with ⟨l⟩
      match l, hx with
      | [c], hx => exact ⟨c, rfl, hx.1⟩
    have : ts = #[t] := by rcases ts with ⟨l⟩; simp at ht; subst ht; rfl
    subst this
    split at h
    · rename_i e hk
      split at h
      · rename_i he
        exact (xclear_sound (ty := ty) hTO hk he hG hc h hp).done
      · cases h
    · cases h
  · cases h

theorem repO_map {c : Cx} {ρ : Operand → V} {ρc : Operand → Value} (hρ : ∀ x, RepV c (ρ x) (ρc x)) (o : Option Operand) : RepO c (o.map ρ) (o.map ρc) := by
  cases o with
  | none => trivial
  | some x => exact hρ x

/-- EVERY OPERATION THAT IS NO CALL OF A FUNCTION. -/
theorem xop_sound (hTO : TyOK P T) {own : Bool} {o : Oper} {ρ : Operand → V} {ρc : Operand → Value} (hρ : ∀ x, RepV (cxOf g H.length w) (ρ x) (ρc x)) (hG : Good g H w) {pre : Prop} {v : V} {H' : List Ob}
    (h : xop T own ρ H o.op = .val pre v H') (hp : pre) : Done P g H w (execOp ρc o) v H' := by
  obtain ⟨dst, op, type, pos, after, guard⟩ := o
  simp only at h
  have one : ∀ {v : V} {cv : Value}, RepV (cxOf g H.length w) v cv → Done P g H w (pure (.value cv)) v H :=
    fun hv => ⟨w, g, _, _, rfl, .inl rfl, hG, Ext.refl _ _ _, hv⟩
  unfold xop at h
  split at h
  case h_1 x =>
    injection h with e1 e2 e3
    subst e1 e2 e3
    exact one (hρ x)
  case h_2 x =>
    injection h with e1 e2 e3
    subst e1 e2 e3
    exact one (hρ x)
  case h_3 c a b =>
    have hc := hρ c
    split at h
    · rename_i q hq
      injection h with e1 e2 e3
      subst e1 e2 e3
      rw [hq] at hc
      have := hc.bool
      refine ⟨w, g, if q then ρc a else ρc b, _, ?_, .inl rfl, hG, Ext.refl _ _ _, ?_⟩
      · simp [execOp, this, asBool]
      · cases q <;> exact hρ _
    · cases h
  case h_4 e =>
    injection h with e1 e2 e3
    subst e1 e2 e3
    exact (alloc_sound hTO hp hG).done
  case h_5 e x =>
    injection h with e1 e2 e3
    subst e1 e2 e3
    exact (box_sound (hρ x) hp hG).done
  case h_6 t ps =>
    split at h
    · rename_i fs hk
      injection h with e1 e2 e3
      subst e1 e2 e3
      exact (build_struct_sound hTO hk hρ hG hp.1 hp.2).done
    · rename_i n e hk
      injection h with e1 e2 e3
      subst e1 e2 e3
      exact (build_array_sound hTO hk hp.1 hρ hG hp.2).done
    · cases h
  case h_7 t n ps =>
    split at h
    · rename_i e hk
      injection h with e1 e2 e3
      subst e1 e2 e3
      cases own with
      | false => exact (buildSlice_sound hTO hk hp.1 hρ hG hp.2.1 hp.2.2.1 hp.2.2.2.1 hp.2.2.2.2).done
      | true => exact (buildSlice_own hTO hk hp.1 hρ hG hp.2.1 hp.2.2.1 hp.2.2.2.1 hp.2.2.2.2).done
    · cases h
  case h_8 t a =>
    split at h
    · cases h
    · rename_i hk
      exact (xload_sound (hTO.at hk) hG (hρ a) h hp).done
  case h_9 t a x =>
    split at h
    · cases h
    · rename_i hk
      unfold xstore at h
      split at h
      · rename_i o off hq
        split at h
        · rename_i cs ho
          injection h with e1 e2 e3
          subst e1 e2 e3
          have ha := hρ a
          rw [hq] at ha
          obtain ⟨w', r1, r2, r3⟩ := xstore_var_sound (hTO.at hk) hG ha (hρ x) ho hp.1 hp.2.1 hp.2.2
          exact ⟨w', g, undef, .skip, by simp [execOp, r1], .inr ⟨rfl, rfl⟩, r2, r3, trivial⟩
        · cases h
      · rename_i o ver i c hq
        split at h
        · rename_i ver' es l ho
          injection h with e1 e2 e3
          subst e1 e2 e3
          obtain ⟨rfl, p1, p2, p3, p4⟩ := hp
          have ha := hρ a
          rw [hq] at ha
          obtain ⟨w', r1, r2, r3⟩ := xstore_vec_sound (hTO.at hk) hG ha (hρ x) ho p1 p2 p3 p4
          exact ⟨w', g, undef, .skip, by simp [execOp, r1], .inr ⟨rfl, rfl⟩, r2, r3, trivial⟩
        · cases h
      · cases h
  case h_10 t a f => exact (xfieldAddr_sound hTO hG (hρ a) h hp).done
  case h_11 t x i => exact (xindexAddr_sound hTO hG (hρ x) (hρ i) h hp).done
  case h_12 t x i => exact (xindex_sound hTO hG (hρ x) (hρ i) h hp).done
  case h_13 t x lo hi mx =>
    split at h
    · exact (xslice_sound hTO hG (hρ x) (repO_map hρ lo) (repO_map hρ hi) h hp).done
    · rename_i m
      exact (xslice3_sound hTO hG (hρ x) (repO_map hρ lo) (repO_map hρ hi) (hρ m) h hp).done
  case h_14 x =>
    have hx := hρ x
    split at h
    · rename_i o c hq
      injection h with e1 e2 e3
      subst e1 e2 e3
      rw [hq] at hx
      obtain ⟨b, off, hc, hn⟩ := live_addr hG hx hp
      refine ⟨w, g, ρc x, _, ?_, .inl rfl, hG, Ext.refl _ _ _, hx⟩
      simp only [execOp, hc]
      rfl
    · rename_i cs c hq
      injection h with e1 e2 e3
      subst e1 e2 e3
      rw [hq] at hx
      obtain ⟨b, off, hc, hn⟩ := live_addr hG hx trivial
      refine ⟨w, g, ρc x, _, ?_, .inl rfl, hG, Ext.refl _ _ _, hx⟩
      simp only [execOp, hc]
      rfl
    · rename_i o ver i c hq
      injection h with e1 e2 e3
      subst e1 e2 e3
      rw [hq] at hx
      obtain ⟨b, off, hc, hn⟩ := live_addr hG hx hp
      refine ⟨w, g, ρc x, _, ?_, .inl rfl, hG, Ext.refl _ _ _, hx⟩
      simp only [execOp, hc]
      rfl
    · cases h
  case h_15 op t x y yt =>
    split at h
    · exact absurd h xnils_val
    · split at h
      · rename_i hq
        exact (xnilm_sound (ox := x) (oy := y) hTO hG (hρ x) (hq ▸ hρ y) h hp).done
      · exact (xbin_sound hTO hG (hρ x) (hρ y) h hp).done
  case h_16 t x =>
    have hx := hρ x
    split at h
    · rename_i b hq
      injection h with e1 e2 e3
      subst e1 e2 e3
      rw [hq] at hx
      have := hx.bool
      refine ⟨w, g, .bool (!b), _, ?_, .inl rfl, hG, Ext.refl _ _ _, RepV.mk_bool⟩
      simp [execOp, this, Op.unary]
    · cases h
  case h_17 t x =>
    have hx := hρ x
    split at h
    · rename_i k n hq
      injection h with e1 e2 e3
      subst e1 e2 e3
      rw [hq] at hx
      have := hx.int
      refine ⟨w, g, .int k (k.wrap (0 - n)), _, ?_, .inl rfl, hG, Ext.refl _ _ _, RepV.mk_int⟩
      simp [execOp, this, Op.unary, Op.intArith]
    · cases h
  case h_18 s d x =>
    split at h
    · rename_i e hs hd
      split at h
      · rename_i he
        exact (xtoStr_sound hTO hG (hρ x) hs he hd h hp).done
      · cases h
    · cases h
    · rename_i e hs hd hne
      exact (xconvert_sound hTO (own := own) hG (hρ x) (by intro e; exact absurd e (by assumption)) (fun e' he' => by rw [hd] at he'; injection he' with he'; rw [he']) h hp).done
    · rename_i hs1 hs2 hs3 hs4
      exact (xconvert_sound hTO (own := own) hG (hρ x) (by intro e; first | exact hs2 e | exact hs3 e | exact hs4 e | exact hs1 e) (fun e' he' => by first | exact absurd he' (hs4 e') | exact absurd he' (hs3 e') | exact absurd he' (hs2 e')) h hp).done
  case h_19 f first cap =>
    injection h with e1 e2 e3
    subst e1 e2 e3
    refine ⟨w, g, .func f (first.map ρc) (cap.map ρc), _, by simp [execOp, Instr.makeFunc], .inl rfl, hG, Ext.refl _ _ _, RepV.mk_leaf ?_ (by simp) (by simp)⟩
    simp only [RepC]
    exact ⟨first.toList.map ρc, cap.toList.map ρc, by rw [← Array.toList_map, ← Array.toList_map], RepVs.of_vals hρ _ (fun x hx => hp x (by simp only [List.mem_append]; exact .inl hx)), RepVs.of_vals hρ _ (fun x hx => hp x (by simp only [List.mem_append]; exact .inr hx))⟩
  case h_20 t i =>
    have ht := hρ t
    split at h
    · rename_i vs hq
      injection h with e1 e2 e3
      subst e1 e2 e3
      rw [hq] at ht
      obtain ⟨ws, hws, hr⟩ := ht.tuple
      obtain ⟨v, h1, h2, h3⟩ := hr.get (at_get hp)
      refine ⟨w, g, v, _, ?_, .inl rfl, hG, Ext.refl _ _ _, RepV.of_parts h2 h3⟩
      simp [execOp, hws, Instr.extract, h1]
    · cases h
  case h_21 c =>
    split at h
    · split at h <;> cases h
    · rename_i b hb
      refine (xbuiltin_sound hTO (ty := type) (cb := c.args.map fun | .const _ => true | _ => false) hG (by rw [Array.toList_map]; exact RepVals.map hρ c.args.toList) h hp).of_eq ?_
      simp [execOp, resolve, hb, invoke]
      rfl
    · cases h
  case h_22 t n c =>
    split at h
    · rename_i e hk
      split at h
      · rename_i he
        exact (xmake_sound hTO hk he hG (hρ n) (hρ c) h hp).done
      · cases h
    · cases h
  case h_23 t x f =>
    split at h
    · rename_i fs hk
      split at h
      · rename_i ft off hf
        exact (xpart_sound hTO hk hf hG (hρ x) h hp).done
      · cases h
    · cases h
  case h_24 t r =>
    split at h
    · cases h
    · rename_i hr
      unfold xmakeMap at h
      split at h
      · injection h with e1 e2 e3
        subst e1 e2 e3
        cases r with
        | some _ => exact absurd rfl hr
        | none => exact (makeMap_sound hG).done
      · cases h
  case h_25 t x i ok => exact (xlookup_sound hTO hG (hρ x) (hρ i) h hp).done
  case h_26 t m k x =>
    obtain ⟨rfl, w', g', h1, h2, h3⟩ := xmapUpdate_sound hTO hG (hρ m) (hρ k) (hρ x) h hp
    exact ⟨w', g', undef, .skip, by simp [execOp, h1], .inr ⟨rfl, rfl⟩, h2, h3, trivial⟩
  case h_27 t x => exact (xrange_sound hTO hG (hρ x) h hp).done
  case h_28 x => exact (xentry_sound hG (hρ x) h hp).done
  case h_29 t x =>
    injection h with e1 e2 e3
    subst e1 e2 e3
    exact (makeInterface_sound hTO hG (hρ x) hp.1 hp.2.1 hp.2.2).done
  case h_30 x xt t ok =>
    have hx := hρ x
    split at h
    · rename_i t' v' hq
      split at h
      · cases h
      · rename_i hok
        injection h with e1 e2 e3
        subst e1 e2 e3
        obtain ⟨rfl, h1, h2⟩ := hp
        rw [hq] at hx
        have : ok = false := by simpa using hok
        subst this
        exact (typeAssert_sound hTO hG hx h1 h2).done
    · cases h
  case h_31 x s => split at h <;> cases h
  case h_32 => cases h

/-- the step of an iterator -/
theorem xop_steps {own : Bool} {op : Op} {ρ : Operand → V} {it : V} (h : xop T own ρ H op = .steps it) : ∃ x, op = .next x false ∧ it = ρ x := by
  cases op
  case next x s =>
    simp only [xop] at h
    split at h
    · cases h
    · rename_i hs
      injection h with h
      exact ⟨x, by rw [show s = false by simpa using hs], h.symm⟩
  all_goals exfalso
  case unOp op t x => cases op <;> simp only [xop] at h <;> first | (cases h; done) | (split at h <;> cases h)
  case binOp op t x y yt =>
    simp only [xop] at h
    split at h
    · unfold xnils xmaybe at h; (repeat' split at h) <;> cases h
    · split at h
      · unfold xnilm at h; (repeat' split at h) <;> cases h
      · unfold xbin xnil at h; (repeat' split at h) <;> cases h
  all_goals
    simp only [xop] at h
    first
    | (cases h; done)
    | (unfold xfieldAddr at h; (repeat' split at h) <;> cases h; done)
    | (unfold xindexAddr at h; (repeat' split at h) <;> cases h; done)
    | (unfold xindex at h; (repeat' split at h) <;> cases h; done)
    | (unfold xload at h; (repeat' split at h) <;> cases h; done)
    | (unfold xstore at h; (repeat' split at h) <;> cases h; done)
    | (unfold xslice3 xslice xsliceA at h; (repeat' split at h) <;> cases h; done)
    | (split at h <;> first | (unfold xslice xsliceA at h; (repeat' split at h) <;> cases h; done) | (unfold xslice3 at h; (repeat' split at h) <;> cases h; done))
    | (unfold xconvert xtoStr at h; (repeat' split at h) <;> cases h; done)
    | (unfold xmake at h; (repeat' split at h) <;> cases h; done)
    | (unfold xpart at h; (repeat' split at h) <;> cases h; done)
    | (unfold xlookup at h; (repeat' split at h) <;> cases h; done)
    | (unfold xmapUpdate at h; (repeat' split at h) <;> cases h; done)
    | (unfold xrange at h; (repeat' split at h) <;> cases h; done)
    | (unfold xmakeMap at h; (repeat' split at h) <;> cases h; done)
    | (unfold xentry at h; (repeat' split at h) <;> cases h; done)
    | (unfold xbuiltin xlen xmapLen xappend xmin xclear xdelete at h; (repeat' split at h) <;> cases h; done)
    | ((repeat' split at h) <;> cases h; done)

/-- an operation of two outcomes -/
theorem xop_maybe (hTO : TyOK P T) {own : Bool} {o : Oper} {ρ : Operand → V} {ρc : Operand → Value} (hρ : ∀ x, RepV (cxOf g H.length w) (ρ x) (ρc x)) (hc : ∀ v, ρc (.const v) = v) (hG : Good g H w) {pre p : Prop} {f : Bool → V} {H' : List Ob}
    (h : xop T own ρ H o.op = .maybe pre p f H') (hp : pre) : ∃ b, (p → b = false) ∧ Done P g H w (execOp ρc o) (f b) H' := by
  obtain ⟨dst, op, type, pos, after, guard⟩ := o
  simp only at h
  cases op
  case binOp op t x y yt =>
    simp only [xop] at h
    split at h
    · rename_i hy
      have : ∃ n c, y = .const (.slice none n c) := by
        unfold isNilS at hy
        split at hy
        · exact ⟨_, _, rfl⟩
        · cases hy
      obtain ⟨n, c, rfl⟩ := this
      obtain ⟨b, h1, h2⟩ := xnils_sound (P := P) (ox := x) (oy := .const (.slice none n c)) (n' := n) (c' := c) hTO hG (hρ x) h hp
      refine ⟨b, h1, ?_⟩
      rw [show execOp ρc ⟨dst, .binOp op t x (.const (.slice none n c)) yt, type, pos, after, guard⟩ = (do pure (Next.value (← (do eqGuard op t x (.const (.slice none n c)) (ρc x) (.slice none n c); binOp op t (ρc x) (.slice none n c))))) by simp [execOp, hc]]
      exact h2.done
    · exfalso
      split at h
      · unfold xnilm at h; (repeat' split at h) <;> cases h
      · unfold xbin xnil at h; (repeat' split at h) <;> cases h
  all_goals exfalso
  case unOp op t x => cases op <;> simp only [xop] at h <;> first | (cases h; done) | (split at h <;> cases h)
  all_goals
    simp only [xop] at h
    first
    | (cases h; done)
    | (unfold xfieldAddr at h; (repeat' split at h) <;> cases h; done)
    | (unfold xindexAddr at h; (repeat' split at h) <;> cases h; done)
    | (unfold xindex at h; (repeat' split at h) <;> cases h; done)
    | (unfold xload at h; (repeat' split at h) <;> cases h; done)
    | (unfold xstore at h; (repeat' split at h) <;> cases h; done)
    | (unfold xslice3 xslice xsliceA at h; (repeat' split at h) <;> cases h; done)
    | (split at h <;> first | (unfold xslice xsliceA at h; (repeat' split at h) <;> cases h; done) | (unfold xslice3 at h; (repeat' split at h) <;> cases h; done))
    | (unfold xconvert xtoStr at h; (repeat' split at h) <;> cases h; done)
    | (unfold xmake at h; (repeat' split at h) <;> cases h; done)
    | (unfold xpart at h; (repeat' split at h) <;> cases h; done)
    | (unfold xlookup at h; (repeat' split at h) <;> cases h; done)
    | (unfold xmapUpdate at h; (repeat' split at h) <;> cases h; done)
    | (unfold xrange at h; (repeat' split at h) <;> cases h; done)
    | (unfold xmakeMap at h; (repeat' split at h) <;> cases h; done)
    | (unfold xentry at h; (repeat' split at h) <;> cases h; done)
    | (unfold xbuiltin xlen xmapLen xappend xmin xclear xdelete at h; (repeat' split at h) <;> cases h; done)
    | ((repeat' split at h) <;> cases h; done)
end Go.EL

/- The value logic, part N: calls, code, loops. -/
set_option linter.unusedVariables false
set_option linter.unusedSimpArgs false
namespace Go.EL
open Go
variable {P : Program} {T : Nat → TD} {rd : Option Nat} {ds : List Deferred}

/-- what holds two things in their place: 'simp' does not enter them -/
class Hold {α : Sort _} {β : Sort _} (a : α) (b : β) : Type where
instance {α : Sort _} {β : Sort _} (a : α) (b : β) : Hold a b := ⟨⟩

/-- what a call of a function comes to -/
def CallR (P : Program) (f : FuncId) (cargs : Array Value) (w : World) (K : Value → World → Prop) : Prop :=
  match (callFunc f cargs).run P w with
  | .ok (.value v) w' => K v w'
  | .ok (.enter f' args') w' => Calls P f' args' w' fun e w'' => ∃ v, e = .returned v ∧ K v w''
  | _ => False

def SCall (P : Program) (f : FuncId) (args : List V) (H : List Ob) (R : V → List Ob → Prop) [Hold R R] : Prop :=
  ∀ (g : Nat → Option Key) (w : World) (cargs : Array Value), Good g H w → RepVals (cxOf g H.length w) args cargs.toList →
    CallR P f cargs w fun cv w' => ∃ r H' g', Good g' H' w' ∧ Ext g H.length w g' H'.length w' ∧ RepV (cxOf g' H'.length w') r cv ∧ R r H'

theorem CallR.mono {f : FuncId} {cargs : Array Value} {w : World} {K K' : Value → World → Prop} (h : CallR P f cargs w K) (hk : ∀ v w', K v w' → K' v w') : CallR P f cargs w K' := by
  unfold CallR at *
  split
  · rename_i hr; rw [hr] at h; exact hk _ _ h
  · rename_i hr; rw [hr] at h; exact h.mono fun e w' ⟨v, h1, h2⟩ => ⟨v, h1, hk _ _ h2⟩
  · rename_i h1 h2
    split at h
    · rename_i hr; exact absurd hr (h1 _ _)
    · rename_i hr; exact absurd hr (h2 _ _ _)
    · exact h

theorem SCall.mono {f : FuncId} {args : List V} {H : List Ob} {R R' : V → List Ob → Prop} (h : SCall P f args H R) (hr : ∀ r H', R r H' → R' r H') : SCall P f args H R' := by
  intro g w cargs hG ha
  exact (h g w cargs hG ha).mono fun v w' ⟨r, H', g', h1, h2, h3, h4⟩ => ⟨r, H', g', h1, h2, h3, hr _ _ h4⟩

theorem SCall.congr {f : FuncId} {args args' : List V} {H H' : List Ob} {R : V → List Ob → Prop} (h1 : args = args') (h2 : H = H') : SCall P f args H R = SCall P f args' H' R := by rw [h1, h2]

/-- the fence of a round, or of none -/
def fz (rd : Option Nat) : Fence := { Fence.wide with round := rd }
theorem fz_fn {rd : Option Nat} {f : FuncId} : (fz rd).fn f := trivial
theorem callsIn_fz {rd : Option Nat} {m : Nat} {f : FuncId} {args : Array Value} {w : World} {R : Ending → World → Prop} (h : Calls P f args w R) : CallsIn (fz rd) m P f args w R := by
  have h1 : CallsIn Fence.wide m P f args w R := callsIn_wide.2 h
  cases rd with
  | none => exact h1
  | some l => exact CallsIn.inRound l h1
theorem roundIn_fz {rd : Option Nat} {m k l : Nat} {f : FuncId} {tmps : Array Value} {assign body : Code} {w : World} {R : Ending → World → Prop} (h : RoundIn Fence.wide k P l f tmps assign body w R) : RoundIn (fz rd) m P l f tmps assign body w R :=
  ⟨trivial, fun c cs _ => h.2 c cs (room_wide _)⟩
theorem fz_depth {rd : Option Nat} {k : Nat} : (fz rd).depth.isSome = true → 1 ≤ k := fun h => by simp [fz, Fence.wide] at h
/-- what the call of a loop's body, handed on, comes to -/
def YSCall (P : Program) (l : Nat) (args : List V) (H : List Ob) (R : V → List Ob → Prop) [Hold R R] : Prop :=
  ∀ (g : Nat → Option Key) (w : World) (cargs : Array Value), Good g H w → RepVals (cxOf g H.length w) args cargs.toList →
    YieldAt Fence.wide 0 P l cargs w fun e w' => ∃ v, e = .returned v ∧ ∃ r H' g', Good g' H' w' ∧ Ext g H.length w g' H'.length w' ∧ RepV (cxOf g' H'.length w') r v ∧ R r H'
theorem YSCall.congr {l : Nat} {args args' : List V} {H H' : List Ob} {R : V → List Ob → Prop} (h1 : args = args') (h2 : H = H') : YSCall P l args H R = YSCall P l args' H' R := by rw [h1, h2]

def Rel (ds : List Deferred) (n : Nat) (env : Env) (H : List Ob) (g : Nat → Option Key) (a : Act) (w : World) : Prop :=
  a.tmps.size = n ∧ a.defers = ds ∧ EnvRep (cxOf g H.length w) env a ∧ Good g H w

def EW (P : Program) (n : Nat) (c : Code) (Q : Exit → Env → List Ob → Prop) [Hold c Q] (env : Env) (H : List Ob) : Prop :=
  ∀ rd ds g a w, Rel ds n env H g a w → c.wpIn (fz rd) 0 P (fun e a' w' => ∃ env' H' g', Rel ds n env' H' g' a' w' ∧ Ext g H.length w g' H'.length w' ∧ Q e env' H') a w

theorem EW.congr {n : Nat} {c : Code} {Q : Exit → Env → List Ob → Prop} {env env' : Env} {H H' : List Ob} (h1 : env = env') (h2 : H = H') : EW P n c Q env H = EW P n c Q env' H' := by rw [h1, h2]

def Need (pre K : Prop) [Hold K K] : Prop := pre ∧ K
theorem Need.congr {pre pre' K : Prop} (h : pre = pre') : Need pre K = Need pre' K := by rw [h]
theorem Need_true (K : Prop) (i : Hold K K) : @Need True K i = K := by simp [Need]
theorem Need.intro {pre K : Prop} (h : pre) (k : K) : Need pre K := ⟨h, k⟩

def IfW (b : Bool) (X Y : Prop) [Hold X Y] : Prop := (b = true → X) ∧ (b = false → Y)
theorem IfW.congr {b b' : Bool} {X Y : Prop} (h : b = b') : IfW b X Y = IfW b' X Y := by rw [h]
theorem IfW_true (X Y : Prop) (i : Hold X Y) : @IfW true X Y i = X := by simp [IfW]
theorem IfW_false (X Y : Prop) (i : Hold X Y) : @IfW false X Y i = Y := by simp [IfW]
theorem IfW.intro {b : Bool} {X Y : Prop} (h : b = true → X) (k : b = false → Y) : IfW b X Y := ⟨h, k⟩

/-- what a guard says: one way, or the other; it may itself stand behind a guard -/
def GuardW (v : V) (want : Bool) (X Y : Prop) [Hold X Y] : Prop := match v with
  | .bool q => IfW (q == want) X Y
  | .tuple _ => Y
  | _ => False
theorem GuardW_bool (q want : Bool) (X Y : Prop) (i : Hold X Y) : @GuardW (.bool q) want X Y i = @IfW (q == want) X Y i := rfl
theorem GuardW_tuple (l : List V) (want : Bool) (X Y : Prop) (i : Hold X Y) : @GuardW (.tuple l) want X Y i = Y := rfl

/-- a truth value that is not known, but for a case -/
def AnyB (p : Prop) (K : Bool → Prop) [Hold p K] : Prop := ∀ b, (p → b = false) → K b
theorem AnyB.intro {p : Prop} {K : Bool → Prop} (h : ∀ b, (p → b = false) → K b) : AnyB p K := h
/-- the step of an iterator: any entry that is not seen yet, or the end -/
def NextW (it : V) (H : List Ob) (K : V → List Ob → Prop) [Hold H K] : Prop := ∃ i o since seen last l ck, it = .ref i 0 ∧ H[i]? = some (.iter o since seen last) ∧ H[o]? = some (.map l ck) ∧ (seen = [] ∨ l = [] ∨ ∃ p ∈ l, p.2.1 < last) ∧
  (∀ p ∈ l, p.2.1 ∉ seen → K (.tuple [.bool true, .int .i64 p.1, p.2.2]) (H.set i (.iter o since (seen ++ [p.2.1]) ck))) ∧ ((∀ p ∈ l, p.2.1 < since → p.2.1 ∈ seen) → K (.tuple [.bool false]) H)
theorem NextW.intro {it : V} {H : List Ob} {K : V → List Ob → Prop} (i o since : Nat) (seen : List Nat) (last : Nat) (l : List (Int × Nat × V)) (ck : Nat) (h1 : it = .ref i 0) (h2 : H[i]? = some (.iter o since seen last)) (h3 : H[o]? = some (.map l ck)) (h4 : seen = [] ∨ l = [] ∨ ∃ p ∈ l, p.2.1 < last)
    (h5 : ∀ p ∈ l, p.2.1 ∉ seen → K (.tuple [.bool true, .int .i64 p.1, p.2.2]) (H.set i (.iter o since (seen ++ [p.2.1]) ck))) (h6 : (∀ p ∈ l, p.2.1 < since → p.2.1 ∈ seen) → K (.tuple [.bool false]) H) : NextW it H K := ⟨i, o, since, seen, last, l, ck, h1, h2, h3, h4, h5, h6⟩
/-- one operation -/
def ewOp (P : Program) (T : Nat → TD) (own : Bool) (o : Oper) (K : V → List Ob → Prop) (env : Env) (H : List Ob) : Prop :=
  match xop T own (evl env) H o.op with
  | .val pre v H' => Need pre (K v H')
  | .maybe pre p f H' => Need pre (AnyB p fun b => K (f b) H')
  | .steps it => NextW it H K
  | .call f args => SCall P f args H K
  | .ycall l args => YSCall P l args H K
  | .bad => False

def gval (ops : List Oper) (env : Env) (j : Nat) : V := match (ops[j]?).bind (·.dst) with | some t => eget env t | none => .dead

def ewOps (P : Program) (T : Nat → TD) (own : Bool) (ops : List Oper) : List Oper → (Env → List Ob → Prop) → Env → List Ob → Prop
  | [], K, env, H => K env H
  | o :: rest, K, env, H =>
    match o.guard with
    | none => ewOp P T own o (fun v H' => ewOps P T own ops rest K (eput env o.dst v) H') env H
    | some (j, want) => GuardW (gval ops env j) want (ewOp P T own o (fun v H' => ewOps P T own ops rest K (eput env o.dst v) H') env H) (ewOps P T own ops rest K (eput env o.dst (.tuple [])) H)

theorem ewOp.congr {own : Bool} {o : Oper} {K : V → List Ob → Prop} {env env' : Env} {H H' : List Ob} (h1 : env = env') (h2 : H = H') : ewOp P T own o K env H = ewOp P T own o K env' H' := by rw [h1, h2]
theorem ewOps.congr {own : Bool} {ops l : List Oper} {K : Env → List Ob → Prop} {env env' : Env} {H H' : List Ob} (h1 : env = env') (h2 : H = H') : ewOps P T own ops l K env H = ewOps P T own ops l K env' H' := by rw [h1, h2]

def restr (ks : List Nat) (env : Env) : Env := ks.map fun t => (t, eget env t)

theorem get_restrict (env : Env) (t : Nat) : ∀ (ks : List Nat), eget (restr ks env) t = if t ∈ ks then eget env t else .dead
  | [] => by simp [restr, eget]
  | k :: ks => by
    have ih := get_restrict env t ks
    simp only [restr, List.map_cons, eget] at ih ⊢
    rw [ih]
    by_cases h : k = t
    · subst h; simp
    · simp [h, Ne.symm h]

theorem EnvRep.restr {c : Cx} {env : Env} {a : Act} (ks : List Nat) (h : EnvRep c env a) : EnvRep c (restr ks env) a := by
  intro t
  rw [get_restrict]
  split
  · exact h t
  · trivial

/-- the code's fixed facts: what is written lies in the frame; regions draw as told -/
def codeOK (n : Nat) : Code → Bool
  | .region _ ops _ => ops.toList.all fun o => match o.dst with | some d => decide (d < n) | none => true
  | .seq a b => codeOK n a && codeOK n b
  | .cond _ a b => codeOK n a && codeOK n b
  | .block _ b => codeOK n b
  | .loop b => codeOK n b
  | .scope b => codeOK n b
  | _ => true

section
variable {n : Nat} {env : Env} {H : List Ob} {g : Nat → Option Key} {a : Act} {w : World}

theorem Rel.put (h : Rel ds n env H g a w) {d : Option Tmp} (hd : ∀ t, d = some t → t < n) {v : V} {cv : Value} {H' g' w'} (hG : Good g' H' w') (he : Ext g H.length w g' H'.length w') (hv : RepV (cxOf g' H'.length w') v cv) :
    Rel ds n (eput env d v) H' g' (a.put d cv) w' := by
  obtain ⟨h1, h2, h3, h4⟩ := h
  refine ⟨by cases d <;> simp [Act.put, h1], by cases d <;> simp [Act.put, h2], (h3.mono he.mono).put (by rw [h1]; exact hd) hv, hG⟩

theorem Rel.put_undef (h : Rel ds n env H g a w) {d : Option Tmp} (hd : ∀ t, d = some t → t < n) : Rel ds n (eput env d .dead) H g (a.put d undef) w :=
  h.put hd h.2.2.2 (Ext.refl _ _ _) trivial

theorem Rel.put_undefT (h : Rel ds n env H g a w) {d : Option Tmp} (hd : ∀ t, d = some t → t < n) : Rel ds n (eput env d (.tuple [])) H g (a.put d undef) w :=
  h.put hd h.2.2.2 (Ext.refl _ _ _) ⟨by simp only [RepC]; exact ⟨[], rfl, rfl⟩, trivial⟩

theorem execOp_call {o : Oper} {c : Call} {fo : Operand} {k : FuncId} {first cap : Array Value} {ρc : Operand → Value} (ho : o.op = .call c) (hc : c.callee = .value fo) (hf : ρc fo = .func (.func k) first cap) :
    (execOp ρc o).run P w = (callFunc k (first ++ c.args.map ρc ++ cap)).run P w := by
  simp [execOp, ho, resolve, hc, hf, Deferred.ofValue, invoke]

theorem xload_nc {d : TD} {H : List Ob} {a : V} {f args} : xload d H a ≠ .call f args := by
  unfold xload; (repeat' split) <;> simp
theorem xstore_nc {d : TD} {H : List Ob} {a x : V} {f args} : xstore d H a x ≠ .call f args := by
  unfold xstore; (repeat' split) <;> simp
theorem xfieldAddr_nc {d : TD} {H : List Ob} {a : V} {i f args} : xfieldAddr T d H a i ≠ .call f args := by
  unfold xfieldAddr; (repeat' split) <;> simp
theorem xindexAddr_nc {d : TD} {H : List Ob} {a i : V} {f args} : xindexAddr T d H a i ≠ .call f args := by
  unfold xindexAddr; (repeat' split) <;> simp
theorem xindex_nc {d : TD} {H : List Ob} {a i : V} {f args} : xindex T d H a i ≠ .call f args := by
  unfold xindex; (repeat' split) <;> simp
theorem xslice_nc {d : TD} {H : List Ob} {a : V} {lo hi f args} : xslice T H d a lo hi ≠ .call f args := by
  unfold xslice xsliceA; (repeat' split) <;> simp
theorem xslice3_nc {d : TD} {H : List Ob} {a : V} {lo hi m f args} : xslice3 T H d a lo hi m ≠ .call f args := by
  unfold xslice3; (repeat' split) <;> simp
theorem xslice3_ny {d : TD} {H : List Ob} {a : V} {lo hi m f args} : xslice3 T H d a lo hi m ≠ .ycall f args := by
  unfold xslice3; (repeat' split) <;> simp
theorem xpart_nc {d : TD} {H : List Ob} {off} {x : V} {f args} : xpart d H off x ≠ .call f args := by
  unfold xpart; (repeat' split) <;> simp
theorem xnil_nc {d : TD} {H : List Ob} {op} {x : V} {f args} : xnil d H op x ≠ .call f args := by
  unfold xnil; (repeat' split) <;> simp
theorem xbin_nc {d : TD} {H : List Ob} {op} {x y : V} {f args} : xbin T H d op x y ≠ .call f args := by
  unfold xbin; (repeat' split) <;> first | exact xnil_nc | simp
theorem xtoStr_nc {H : List Ob} {x : V} {f args} : xtoStr H x ≠ .call f args := by
  unfold xtoStr; (repeat' split) <;> simp
theorem xconvert_nc {own s d e} {H : List Ob} {x : V} {f args} : xconvert own s d e H x ≠ .call f args := by
  unfold xconvert; (repeat' split) <;> simp
theorem xmake_nc {d : TD} {H : List Ob} {x y : V} {f args} : xmake d H x y ≠ .call f args := by
  unfold xmake; (repeat' split) <;> simp
theorem xbuiltin_nc {H : List Ob} {b ts} {xs : List V} {f args} : xbuiltin T H b ts xs ≠ .call f args := by
  unfold xbuiltin xlen xmapLen xappend xmin xclear xdelete; (repeat' split) <;> simp

theorem xmapLen_nc {H : List Ob} {x : V} {f args} : xmapLen H x ≠ .call f args := by
  unfold xmapLen; (repeat' split) <;> simp
theorem xlookup_nc {d : TD} {H : List Ob} {ok} {x i : V} {f args} : xlookup T d H ok x i ≠ .call f args := by
  unfold xlookup; (repeat' split) <;> simp
theorem xmapUpdate_nc {d : TD} {H : List Ob} {m i x : V} {f args} : xmapUpdate T d H m i x ≠ .call f args := by
  unfold xmapUpdate; (repeat' split) <;> simp
theorem xrange_nc {d : TD} {H : List Ob} {x : V} {f args} : xrange d H x ≠ .call f args := by
  unfold xrange; (repeat' split) <;> simp
theorem xentry_nc {H : List Ob} {x : V} {f args} : xentry H x ≠ .call f args := by
  unfold xentry; (repeat' split) <;> simp
theorem xnilm_nc {d : TD} {H : List Ob} {op} {x : V} {f args} : xnilm d H op x ≠ .call f args := by
  unfold xnilm; (repeat' split) <;> simp
theorem xlookup_ny {d : TD} {H : List Ob} {ok} {x i : V} {f args} : xlookup T d H ok x i ≠ .ycall f args := by
  unfold xlookup; (repeat' split) <;> simp
theorem xmapUpdate_ny {d : TD} {H : List Ob} {m i x : V} {f args} : xmapUpdate T d H m i x ≠ .ycall f args := by
  unfold xmapUpdate; (repeat' split) <;> simp
theorem xrange_ny {d : TD} {H : List Ob} {x : V} {f args} : xrange d H x ≠ .ycall f args := by
  unfold xrange; (repeat' split) <;> simp
theorem xentry_ny {H : List Ob} {x : V} {f args} : xentry H x ≠ .ycall f args := by
  unfold xentry; (repeat' split) <;> simp
theorem xnilm_ny {d : TD} {H : List Ob} {op} {x : V} {f args} : xnilm d H op x ≠ .ycall f args := by
  unfold xnilm; (repeat' split) <;> simp
theorem xload_ny {d : TD} {H : List Ob} {a : V} {f args} : xload d H a ≠ .ycall f args := by
  unfold xload; (repeat' split) <;> simp
theorem xstore_ny {d : TD} {H : List Ob} {a x : V} {f args} : xstore d H a x ≠ .ycall f args := by
  unfold xstore; (repeat' split) <;> simp
theorem xfieldAddr_ny {d : TD} {H : List Ob} {a : V} {i f args} : xfieldAddr T d H a i ≠ .ycall f args := by
  unfold xfieldAddr; (repeat' split) <;> simp
theorem xindexAddr_ny {d : TD} {H : List Ob} {a i : V} {f args} : xindexAddr T d H a i ≠ .ycall f args := by
  unfold xindexAddr; (repeat' split) <;> simp
theorem xindex_ny {d : TD} {H : List Ob} {a i : V} {f args} : xindex T d H a i ≠ .ycall f args := by
  unfold xindex; (repeat' split) <;> simp
theorem xslice_ny {d : TD} {H : List Ob} {a : V} {lo hi f args} : xslice T H d a lo hi ≠ .ycall f args := by
  unfold xslice xsliceA; (repeat' split) <;> simp
theorem xpart_ny {d : TD} {H : List Ob} {off} {x : V} {f args} : xpart d H off x ≠ .ycall f args := by
  unfold xpart; (repeat' split) <;> simp
theorem xnil_ny {d : TD} {H : List Ob} {op} {x : V} {f args} : xnil d H op x ≠ .ycall f args := by
  unfold xnil; (repeat' split) <;> simp
theorem xbin_ny {d : TD} {H : List Ob} {op} {x y : V} {f args} : xbin T H d op x y ≠ .ycall f args := by
  unfold xbin; (repeat' split) <;> first | exact xnil_ny | simp
theorem xtoStr_ny {H : List Ob} {x : V} {f args} : xtoStr H x ≠ .ycall f args := by
  unfold xtoStr; (repeat' split) <;> simp
theorem xconvert_ny {own s d e} {H : List Ob} {x : V} {f args} : xconvert own s d e H x ≠ .ycall f args := by
  unfold xconvert; (repeat' split) <;> simp
theorem xmake_ny {d : TD} {H : List Ob} {x y : V} {f args} : xmake d H x y ≠ .ycall f args := by
  unfold xmake; (repeat' split) <;> simp
theorem xbuiltin_ny {H : List Ob} {b ts} {xs : List V} {f args} : xbuiltin T H b ts xs ≠ .ycall f args := by
  unfold xbuiltin xlen xmapLen xappend xmin xclear xdelete; (repeat' split) <;> simp

theorem xop_call {own : Bool} {ρ : Operand → V} {H : List Ob} {op : Op} {f : FuncId} {args : List V} (h : xop T own ρ H op = .call f args) :
    ∃ c fo first cap, op = .call c ∧ c.callee = .value fo ∧ ρ fo = .fn (.func f) first cap ∧ args = first ++ c.args.toList.map ρ ++ cap := by
  unfold xop at h
  split at h
  case h_21 c =>
    split at h
    · rename_i fo hc
      split at h
      · rename_i k first cap hq
        injection h with h1 h2
        subst h1 h2
        exact ⟨c, fo, first, cap, rfl, hc, hq, rfl⟩
      · cases h
      · cases h
    · exact absurd h xbuiltin_nc
    · cases h
  case h_22 => (repeat' split at h) <;> first | cases h | exact absurd h xmake_nc
  case h_23 => (repeat' split at h) <;> first | cases h | exact absurd h xpart_nc
  case h_8 => split at h <;> first | cases h | exact absurd h xload_nc
  case h_9 => split at h <;> first | cases h | exact absurd h xstore_nc
  case h_10 => exact absurd h xfieldAddr_nc
  case h_11 => exact absurd h xindexAddr_nc
  case h_12 => exact absurd h xindex_nc
  case h_13 => split at h <;> first | exact absurd h xslice_nc | exact absurd h xslice3_nc
  case h_15 =>
    split at h
    · exact absurd h xnils_call
    · split at h
      · exact absurd h xnilm_nc
      · exact absurd h xbin_nc
  case h_24 => split at h; (cases h); (unfold xmakeMap at h; split at h <;> cases h)
  case h_25 => exact absurd h xlookup_nc
  case h_26 => exact absurd h xmapUpdate_nc
  case h_27 => exact absurd h xrange_nc
  case h_28 => exact absurd h xentry_nc
  case h_30 => (repeat' split at h) <;> cases h
  case h_31 => split at h <;> cases h
  case h_18 =>
    split at h
    · split at h <;> first | cases h | exact absurd h xtoStr_nc
    · cases h
    · exact absurd h xconvert_nc
    · exact absurd h xconvert_nc
  all_goals first
    | cases h
    | (split at h <;> cases h)

theorem xop_ycall {own : Bool} {ρ : Operand → V} {H : List Ob} {op : Op} {l : Nat} {args : List V} (h : xop T own ρ H op = .ycall l args) :
    ∃ c fo, op = .call c ∧ c.callee = .value fo ∧ ρ fo = .fn (.yield l) [] [] ∧ args = c.args.toList.map ρ := by
  cases op
  case call c =>
    simp only [xop] at h
    split at h
    · rename_i fo hc
      split at h
      · cases h
      · rename_i l' hq
        injection h with h1 h2
        subst h1 h2
        exact ⟨c, fo, rfl, hc, hq, rfl⟩
      · cases h
    · exact absurd h xbuiltin_ny
    · cases h
  case makeSlice => simp only [xop] at h; (repeat' split at h) <;> first | cases h | exact absurd h xmake_ny
  case field => simp only [xop] at h; (repeat' split at h) <;> first | cases h | exact absurd h xpart_ny
  case load => simp only [xop] at h; split at h <;> first | cases h | exact absurd h xload_ny
  case store => simp only [xop] at h; split at h <;> first | cases h | exact absurd h xstore_ny
  case fieldAddr => exact absurd h xfieldAddr_ny
  case indexAddr => exact absurd h xindexAddr_ny
  case index => exact absurd h xindex_ny
  case slice => simp only [xop] at h; split at h <;> first | exact absurd h xslice_ny | exact absurd h xslice3_ny
  case binOp =>
    simp only [xop] at h
    split at h
    · exact absurd h xnils_ycall
    · split at h
      · exact absurd h xnilm_ny
      · exact absurd h xbin_ny
  case makeMap => simp only [xop] at h; split at h; (cases h); (unfold xmakeMap at h; split at h <;> cases h)
  case lookup => exact absurd h xlookup_ny
  case mapUpdate => exact absurd h xmapUpdate_ny
  case range => exact absurd h xrange_ny
  case entry => exact absurd h xentry_ny
  case typeAssert => simp only [xop] at h; (repeat' split at h) <;> cases h
  case next => simp only [xop] at h; split at h <;> cases h
  case unOp op t x => cases op <;> simp only [xop] at h <;> first | (cases h; done) | (split at h <;> cases h)
  case convert =>
    simp only [xop] at h
    split at h
    · split at h <;> first | cases h | exact absurd h xtoStr_ny
    · cases h
    · exact absurd h xconvert_ny
    · exact absurd h xconvert_ny
  all_goals first
    | cases h
    | (simp only [xop] at h; split at h <;> cases h)

theorem op_wp' (hTO : TyOK P T) {own : Bool} {o : Oper} {K : V → List Ob → Prop} (hρ : EnvRep (cxOf g H.length w) env a) (hG : Good g H w) (h : ewOp P T own o K env H) {next : Act → World → Prop} {Q : Exit → Act → World → Prop}
    (hn : ∀ v cv H' g' w', Good g' H' w' → Ext g H.length w g' H'.length w' → RepV (cxOf g' H'.length w') v cv → K v H' → next (a.put o.dst cv) w') : o.wpIn (fz rd) 0 P a w next Q := by
  unfold ewOp at h
  have hρ := hρ.ev
  split at h
  · rename_i pre v H' hx
    obtain ⟨w', g', cv, nx, h1, h2, h3, h4, h5⟩ := xop_sound hTO hρ hG hx h.1
    refine ⟨fun _ _ => trivial, ?_⟩
    rw [Oper.semAt_eq _ _ _ (fun c hc => by rw [hc] at hx; simp [xop] at hx), h1]
    rcases h2 with rfl | ⟨rfl, rfl⟩
    · exact hn _ _ _ _ _ h3 h4 h5 h.2
    · exact hn _ _ _ _ _ h3 h4 h5 h.2
  · rename_i pre p f H' hx
    obtain ⟨b, hb, w', g', cv, nx, h1, h2, h3, h4, h5⟩ := xop_maybe hTO hρ (fun v => rfl) hG hx h.1
    refine ⟨fun _ _ => trivial, ?_⟩
    rw [Oper.semAt_eq _ _ _ (fun c hc => by rw [hc] at hx; simp [xop] at hx), h1]
    rcases h2 with rfl | ⟨rfl, rfl⟩
    · exact hn _ _ _ _ _ h3 h4 h5 (h.2 b hb)
    · exact hn _ _ _ _ _ h3 h4 h5 (h.2 b hb)
  · rename_i it hx
    obtain ⟨x, ho, rfl⟩ := xop_steps hx
    obtain ⟨i, oo, since, seen, last, l, ck, k1, k2, k3, k4, k5, k6⟩ := h
    have hit := hρ x
    rw [k1] at hit
    obtain ⟨cv, w', g', v, H', h1, h2, h3, h4, h5⟩ := next_sound (P := P) hG k2 k3 k4 hit o.type
    refine ⟨fun _ _ => trivial, ?_⟩
    rw [Oper.semAt_eq _ _ _ (fun c hc => by rw [hc] at ho; cases ho)]
    have hrun : (execOp a.eval o).run P w = .ok (.value cv) w' := by
      obtain ⟨dst, op, ty, pos, after, guard⟩ := o
      simp only at ho
      subst ho
      simp [execOp, h1]
    rw [hrun]
    rcases h5 with ⟨p, hp, hns, rfl, rfl⟩ | ⟨hall, rfl, rfl⟩
    · exact hn _ _ _ _ _ h2 h3 h4 (k5 p hp hns)
    · exact hn _ _ _ _ _ h2 h3 h4 (k6 hall)
  · rename_i f args hx
    obtain ⟨c, fo, first, cap, ho, hc, hq, rfl⟩ := xop_call hx
    have hf := hρ fo
    rw [hq] at hf
    have hl := hf.leaf (by simp) (by simp)
    simp only [RepC] at hl
    obtain ⟨x, y, hu, hx1, hy1⟩ := hl
    injection hu with hu
    have hrun := execOp_call (P := P) (w := w) ho hc hu
    have hargs : RepVals (cxOf g H.length w) (first ++ c.args.toList.map (evl env) ++ cap) (x.toArray ++ c.args.map a.eval ++ y.toArray).toList := by
      simp only [Array.toList_append, Array.toList_map]
      exact (hx1.vals.append (RepVals.map hρ _)).append hy1.vals
    have hcall := h g w _ hG hargs
    refine ⟨fun _ _ => trivial, ?_⟩
    rw [Oper.semAt_eq _ _ _ (fun c hc => by rw [hc] at ho; cases ho), hrun]
    unfold CallR at hcall
    split at hcall
    · rename_i v w' hr
      rw [hr]
      obtain ⟨r, H', g', k1, k2, k3, k4⟩ := hcall
      exact hn _ _ _ _ _ k1 k2 k3 k4
    · rename_i f' args' w' hr
      rw [hr]
      refine ⟨fz_depth, callsIn_fz (Calls.mono hcall fun e w'' ⟨v, he, r, H', g', k1, k2, k3, k4⟩ => ?_)⟩
      subst he
      exact hn _ _ _ _ _ k1 k2 k3 k4
    · exact hcall.elim
  · rename_i l args hx
    obtain ⟨c, fo, ho, hc, hq, rfl⟩ := xop_ycall hx
    have hf := hρ fo
    rw [hq] at hf
    have hl := hf.leaf (by simp) (by simp)
    simp only [RepC] at hl
    obtain ⟨x, y, hu, hx1, hy1⟩ := hl
    injection hu with hu
    have hxe : x = [] := by simpa only [RepVs] using hx1
    have hye : y = [] := by simpa only [RepVs] using hy1
    subst hxe hye
    have hargs : RepVals (cxOf g H.length w) (c.args.toList.map (evl env)) (c.args.map a.eval).toList := by
      rw [Array.toList_map]
      exact RepVals.map hρ _
    obtain ⟨fn, tmps, assign, body, hy, hR⟩ := h g w _ hG hargs
    have hrun : (execOp a.eval o).run P w = (Instr.yield l (c.args.map a.eval)).run P w := by
      have e1 : a.eval fo = .func (.yield l) #[] #[] := hu
      simp [execOp, ho, resolve, hc, e1, Deferred.ofValue, invoke]
    refine ⟨fun _ _ => trivial, ?_⟩
    rw [Oper.semAt_eq _ _ _ (fun c hc => by rw [hc] at ho; cases ho), hrun, hy]
    refine ⟨fz_depth, roundIn_fz (hR.mono fun e w'' ⟨v, he, r, H', g', k1, k2, k3, k4⟩ => ?_)⟩
    subst he
    exact hn _ _ _ _ _ k1 k2 k3 k4
  · exact h.elim

theorem op_wp (hTO : TyOK P T) {own : Bool} {o : Oper} (hd : ∀ t, o.dst = some t → t < n) {K : V → List Ob → Prop} (hR : Rel ds n env H g a w) (h : ewOp P T own o K env H) {next : Act → World → Prop} {Q : Exit → Act → World → Prop}
    (hn : ∀ v H' g' a' w', Rel ds n (eput env o.dst v) H' g' a' w' → Ext g H.length w g' H'.length w' → K v H' → next a' w') : o.wpIn (fz rd) 0 P a w next Q :=
  op_wp' hTO hR.2.2.1 hR.2.2.2 h fun v cv H' g' w' h1 h2 h3 h4 => hn _ _ _ _ _ (hR.put hd h1 h2 h3) h2 h4

theorem gval_yield {ops : Array Oper} {j : Nat} {b : Bool} (hR : Rel ds n env H g a w) (h : gval ops.toList env j = .bool b) : yielded ops a.tmps j = some b := by
  unfold gval at h
  unfold yielded
  rw [Array.getElem?_toList] at h
  cases hx : (ops[j]?).bind (·.dst) with
  | none => rw [hx] at h; cases h
  | some t =>
    rw [hx] at h
    have := hR.2.2.1 t
    simp only at h
    rw [h] at this
    have := this.bool
    simp only [Option.bind_some]
    have ht : a.tmps[t]? = some (.bool b) := by
      by_cases hlt : t < a.tmps.size
      · rw [Array.getElem?_eq_getElem hlt]
        simpa [Array.getD, hlt] using this
      · simp [Array.getD, hlt, undef] at this
    rw [ht]

theorem gval_tuple {ops : Array Oper} {j : Nat} {l : List V} (hR : Rel ds n env H g a w) (h : gval ops.toList env j = .tuple l) : yielded ops a.tmps j = none := by
  unfold gval at h
  unfold yielded
  rw [Array.getElem?_toList] at h
  cases hx : (ops[j]?).bind (·.dst) with
  | none => rw [hx] at h; cases h
  | some t =>
    rw [hx] at h
    have := hR.2.2.1 t
    simp only at h
    rw [h] at this
    have h1 := this.1
    simp only [RepC] at h1
    obtain ⟨ws, h2, _⟩ := h1
    simp only [Option.bind_some]
    by_cases hlt : t < a.tmps.size
    · rw [Array.getElem?_eq_getElem hlt]
      have e : a.tmps.getD t undef = a.tmps[t] := by simp [Array.getD, hlt]
      rw [e] at h2
      cases hv : a.tmps[t] with
      | bool b => rw [hv] at h2; simp [Value.cells] at h2
      | _ => rfl
    · rw [Array.getElem?_eq_none (Nat.le_of_not_lt hlt)]

theorem ops_wp (hTO : TyOK P T) {own : Bool} {ops : Array Oper} {K : Env → List Ob → Prop} {Q : Exit → Act → World → Prop} : ∀ (l : List Oper) {env : Env} {H : List Ob} {g : Nat → Option Key} {a : Act} {w : World},
    (∀ o ∈ l, ∀ t, o.dst = some t → t < n) → Rel ds n env H g a w → ewOps P T own ops.toList l K env H →
    (∀ env' H' g' a' w', Rel ds n env' H' g' a' w' → Ext g H.length w g' H'.length w' → K env' H' → Q .normal a' w') → wpListIn (fz rd) 0 P ops Q l a w
  | [], env, H, g, a, w, _, hR, h, hK => hK _ _ _ _ _ hR (Ext.refl _ _ _) h
  | o :: rest, env, H, g, a, w, hd, hR, h, hK => by
    have hdo := hd o (by simp)
    have hdr := fun o' (ho' : o' ∈ rest) => hd o' (by simp [ho'])
    have run : ewOp P T own o (fun v H' => ewOps P T own ops.toList rest K (eput env o.dst v) H') env H → o.wpIn (fz rd) 0 P a w (wpListIn (fz rd) 0 P ops Q rest) Q := fun h => op_wp hTO hdo hR h fun v H' g' a' w' hR' he hk =>
      ops_wp hTO rest hdr hR' hk fun env'' H'' g'' a'' w'' hR'' he'' hk'' => hK _ _ _ _ _ hR'' (he.trans he'') hk''
    unfold wpListIn
    simp only [ewOps] at h
    cases hg : o.guard with
    | none =>
      rw [hg] at h
      rw [if_pos (by simp [Region.wanted, hg])]
      exact run h
    | some jw =>
      obtain ⟨j, want⟩ := jw
      rw [hg] at h
      simp only at h
      unfold GuardW at h
      split at h
      · rename_i b hb
        have hy := gval_yield hR hb
        have hw : Region.wanted o (yielded ops a.tmps) = (b == want) := by simp [Region.wanted, hg, hy]
        rw [hw]
        cases hbw : (b == want) with
        | true =>
          rw [if_pos rfl]
          exact run (h.1 hbw)
        | false =>
          rw [if_neg (by simp)]
          exact ⟨fun _ _ => trivial, ops_wp hTO rest hdr (hR.put_undefT hdo) (h.2 hbw) hK⟩
      · rename_i l hb
        have hy := gval_tuple hR hb
        have hw : Region.wanted o (yielded ops a.tmps) = false := by simp [Region.wanted, hg, hy]
        rw [hw, if_neg (by simp)]
        exact ⟨fun _ _ => trivial, ops_wp hTO rest hdr (hR.put_undefT hdo) h hK⟩
      · exact h.elim

theorem EW.region (hTO : TyOK P T) {own : Bool} {id : Nat} {ops : Array Oper} (keep : Nat → List Nat) (hd : codeOK n (.region id ops false) = true) {Q : Exit → Env → List Ob → Prop}
    (h : ewOps P T own ops.toList ops.toList (fun env' H' => Q .normal (restr (keep id) env') H') env H) : EW P n (.region id ops false) Q env H := by
  intro rd ds g a w hR
  refine wpIn_region_list (ops_wp hTO (n := n) ops.toList (fun o ho t ht => ?_) hR h fun env' H' g' a' w' hR' he hk => ⟨_, H', g', ⟨hR'.1, hR'.2.1, hR'.2.2.1.restr (keep id), hR'.2.2.2⟩, he, hk⟩)
  have := List.all_eq_true.1 hd o ho
  simpa [ht] using this

theorem EW.mono {c : Code} {Q Q' : Exit → Env → List Ob → Prop} (h : EW P n c Q env H) (hq : ∀ e env' H', Q e env' H' → Q' e env' H') : EW P n c Q' env H := by
  intro rd ds g a w hR
  exact wpIn_mono (h rd ds g a w hR) fun e a' w' ⟨env', H', g', h1, h2, h3⟩ => ⟨env', H', g', h1, h2, hq _ _ _ h3⟩

def thenE (c : Env → List Ob → Prop) (Q : Exit → Env → List Ob → Prop) : Exit → Env → List Ob → Prop
  | .normal => c
  | .exit id => Q (.exit id)
  | .goto l => Q (.goto l)
  | .ret => Q .ret
  | .panic ch => Q (.panic ch)
  | .outgrown => Q .outgrown

theorem EW.seq {c d : Code} {Q : Exit → Env → List Ob → Prop} (h : EW P n c (thenE (EW P n d Q) Q) env H) : EW P n (.seq c d) Q env H := by
  intro rd ds g a w hR
  refine wpIn_seq (wpIn_mono (h rd ds g a w hR) fun e a' w' ⟨env', H', g', h1, h2, h3⟩ => ?_)
  cases e with
  | normal =>
    exact wpIn_mono (h3 rd ds g' a' w' h1) fun e a'' w'' ⟨env'', H'', g'', k1, k2, k3⟩ => ⟨env'', H'', g'', k1, h2.trans k2, k3⟩
  | exit id => exact ⟨env', H', g', h1, h2, h3⟩
  | goto l => exact ⟨env', H', g', h1, h2, h3⟩
  | ret => exact ⟨env', H', g', h1, h2, h3⟩
  | panic ch => exact ⟨env', H', g', h1, h2, h3⟩
  | outgrown => exact ⟨env', H', g', h1, h2, h3⟩

def condW (v : V) (X Y : Prop) [Hold X Y] : Prop := match v with | .bool b => IfW b X Y | _ => False
theorem condW_bool (b : Bool) (X Y : Prop) (i : Hold X Y) : @condW (.bool b) X Y i = @IfW b X Y i := rfl
theorem condW.congr {v v' : V} {X Y : Prop} (h : v = v') : condW v X Y = condW v' X Y := by rw [h]

theorem EW.cond {c : Operand} {x y : Code} {Q : Exit → Env → List Ob → Prop} (h : condW (evl env c) (EW P n x Q env H) (EW P n y Q env H)) : EW P n (.cond c x y) Q env H := by
  intro rd ds g a w hR
  have hc := hR.2.2.1.ev c
  unfold condW at h
  split at h
  · rename_i b hb
    rw [hb] at hc
    have := hc.bool
    cases b with
    | true => exact wpIn_cond_true this ((h.1 rfl) rd ds g a w hR)
    | false => exact wpIn_cond_false this ((h.2 rfl) rd ds g a w hR)
  · exact h.elim

def inBlockE (id : Nat) (Q : Exit → Env → List Ob → Prop) : Exit → Env → List Ob → Prop
  | .normal => Q .normal
  | .exit id' => if id' = id then Q .normal else Q (.exit id')
  | .goto l => Q (.goto l)
  | .ret => Q .ret
  | .panic ch => Q (.panic ch)
  | .outgrown => Q .outgrown

theorem EW.block {id : Nat} {c : Code} {Q : Exit → Env → List Ob → Prop} (h : EW P n c (inBlockE id Q) env H) : EW P n (.block id c) Q env H := by
  intro rd ds g a w hR
  refine wpIn_block (wpIn_mono (h rd ds g a w hR) fun e a' w' ⟨env', H', g', h1, h2, h3⟩ => ?_)
  cases e with
  | exit id' =>
    simp only [Exit.inBlock, inBlockE] at h3 ⊢
    split
    · rename_i e; rw [if_pos e] at h3; exact ⟨env', H', g', h1, h2, h3⟩
    · rename_i e; rw [if_neg e] at h3; exact ⟨env', H', g', h1, h2, h3⟩
  | _ => exact ⟨env', H', g', h1, h2, h3⟩

theorem EW.exit {id : Nat} {Q : Exit → Env → List Ob → Prop} (h : Q (.exit id) env H) : EW P n (.exit id) Q env H :=
  fun rd ds g a w hR => wpIn_exit ⟨env, H, g, hR, Ext.refl _ _ _, h⟩
theorem EW.ret {Q : Exit → Env → List Ob → Prop} (h : Q .ret env H) : EW P n .ret Q env H :=
  fun rd ds g a w hR => wpIn_ret ⟨env, H, g, hR, Ext.refl _ _ _, h⟩
theorem EW.skip {Q : Exit → Env → List Ob → Prop} (h : Q .normal env H) : EW P n .skip Q env H :=
  fun rd ds g a w hR => wpIn_skip ⟨env, H, g, hR, Ext.refl _ _ _, h⟩

theorem exists_least (p : Nat → Prop) (h : ∃ n, p n) : ∃ n, p n ∧ ∀ m, p m → n ≤ m := by
  obtain ⟨n, hn⟩ := h
  induction n using Nat.strongRecOn with
  | _ n ih =>
    by_cases h : ∃ m, m < n ∧ p m
    · obtain ⟨m, h1, h2⟩ := h
      exact ih m h1 h2
    · exact ⟨n, hn, fun m hm => Nat.le_of_not_lt fun hlt => h ⟨m, hlt, hm⟩⟩

open Classical in
noncomputable def least (p : Nat → Prop) : Nat := if h : ∃ n, p n then Classical.choose (exists_least p h) else 0
theorem least_spec {p : Nat → Prop} (h : ∃ n, p n) : p (least p) ∧ ∀ m, p m → least p ≤ m := by
  unfold least
  rw [dif_pos h]
  exact Classical.choose_spec (exists_least p h)

/-- A LOOP: an invariant, with a number that goes down. -/
theorem EW.loop {c : Code} {Q : Exit → Env → List Ob → Prop} (I : Nat → Env → List Ob → Prop) (m : Nat) (h0 : I m env H)
    (hb : ∀ k env H, I k env H → EW P n c (thenE (fun env' H' => ∃ k', k' < k ∧ I k' env' H') Q) env H) : EW P n (.loop c) Q env H := by
  intro rd ds g a w hR
  let J : Act → World → Nat → Prop := fun a' w' k => ∃ env' H' g', Rel ds n env' H' g' a' w' ∧ Ext g H.length w g' H'.length w' ∧ I k env' H'
  refine wpIn_loop (fun a' w' => ∃ k, J a' w' k) (fun a' w' => least (J a' w')) ⟨m, env, H, g, hR, Ext.refl _ _ _, h0⟩ ?_
  intro a' w' hJ
  have hmin := (least_spec hJ).1
  generalize least (J a' w') = k at hmin ⊢
  obtain ⟨env', H', g', h1, h2, h3⟩ := hmin
  refine wpIn_mono (hb k env' H' h3 rd ds g' a' w' h1) fun e a'' w'' ⟨env'', H'', g'', k1, k2, k3⟩ => ?_
  cases e with
  | normal =>
    obtain ⟨k', hk', hI⟩ := k3
    have hJ2 : J a'' w'' k' := ⟨env'', H'', g'', k1, h2.trans k2, hI⟩
    exact ⟨⟨k', hJ2⟩, Nat.lt_of_le_of_lt ((least_spec ⟨k', hJ2⟩).2 k' hJ2) hk'⟩
  | exit id => exact ⟨env'', H'', g'', k1, h2.trans k2, k3⟩
  | goto l => exact ⟨env'', H'', g'', k1, h2.trans k2, k3⟩
  | ret => exact ⟨env'', H'', g'', k1, h2.trans k2, k3⟩
  | panic ch => exact ⟨env'', H'', g'', k1, h2.trans k2, k3⟩
  | outgrown => exact ⟨env'', H'', g'', k1, h2.trans k2, k3⟩
end
end Go.EL

/- The value logic, part O: ghost steps, what a function answers. -/
set_option linter.unusedVariables false
set_option linter.unusedSimpArgs false
namespace Go.EL
open Go
variable {P : Program} {T : Nat → TD}

mutual
def V.lt (n : Nat) : V → Prop
  | .ref o _ => o < n
  | .eref o _ _ _ => o < n
  | .cref cs _ => ltL n cs
  | .slice l => ltL n l
  | .fslice l => ltL n l
  | .vec o _ _ _ => o < n
  | .agg cs => ltL n cs
  | .fn _ a b => ltL n a ∧ ltL n b
  | .mapr o => o < n
  | .iface _ v => v.lt n
  | .tuple vs => ltL n vs
  | _ => True
def ltL (n : Nat) : List V → Prop
  | [] => True
  | x :: xs => x.lt n ∧ ltL n xs
end

theorem ltL_iff {n : Nat} : ∀ {l : List V}, ltL n l ↔ ∀ x ∈ l, x.lt n
  | [] => by simp [ltL]
  | x :: xs => by simp only [ltL, List.mem_cons, forall_eq_or_imp, ltL_iff (l := xs)]
theorem ltL_append {n : Nat} {l m : List V} : ltL n (l ++ m) ↔ ltL n l ∧ ltL n m := by
  simp only [ltL_iff, List.mem_append]
  exact ⟨fun h => ⟨fun x hx => h x (.inl hx), fun x hx => h x (.inr hx)⟩, fun h x hx => hx.elim (h.1 x) (h.2 x)⟩
theorem ltL_map {α : Type} {n : Nat} {f : α → V} (h : ∀ x, (f x).lt n) (l : List α) : ltL n (l.map f) := by
  rw [ltL_iff]
  intro x hx
  obtain ⟨y, _, rfl⟩ := List.mem_map.1 hx
  exact h y
theorem ltL_take {n k : Nat} {l : List V} (h : ltL n l) : ltL n (l.take k) := by rw [ltL_iff] at *; exact fun x hx => h x (List.mem_of_mem_take hx)
theorem ltL_drop {n k : Nat} {l : List V} (h : ltL n l) : ltL n (l.drop k) := by rw [ltL_iff] at *; exact fun x hx => h x (List.mem_of_mem_drop hx)

mutual
theorem V.lt_le {m n : Nat} (h : m ≤ n) : ∀ (x : V), x.lt m → x.lt n
  | .ref o _, k => Nat.lt_of_lt_of_le k h
  | .eref o _ _ _, k => Nat.lt_of_lt_of_le k h
  | .cref cs _, k => ltL_le h cs k
  | .slice l, k => ltL_le h l k
  | .fslice l, k => ltL_le h l k
  | .vec o _ _ _, k => Nat.lt_of_lt_of_le k h
  | .agg cs, k => ltL_le h cs k
  | .fn _ a b, k => ⟨ltL_le h a k.1, ltL_le h b k.2⟩
  | .mapr o, k => Nat.lt_of_lt_of_le k h
  | .iface _ v, k => V.lt_le h v k
  | .tuple vs, k => ltL_le h vs k
  | .dead, _ | .int _ _, _ | .bool _, _ | .str _, _ | .nilp, _ | .nilf, _ | .nilm, _ | .nili, _ => trivial
theorem ltL_le {m n : Nat} (h : m ≤ n) : ∀ (l : List V), ltL m l → ltL n l
  | [], _ => trivial
  | x :: xs, k => ⟨V.lt_le h x k.1, ltL_le h xs k.2⟩
end

/-- a context of which a part is seen -/
structure Sub (c c' : Cx) (n : Nat) : Prop where
  imm : ∀ b, c.imm b → c'.imm b
  cell : c'.cell = c.cell
  key : ∀ o, o < n → c'.key o = c.key o ∨ c'.key o = none
  nobj : c'.nobj = n

theorem Sub.has {c c' : Cx} {n : Nat} (m : Sub c c' n) {o : Nat} (hl : o < n) (h : c.has o) : c'.has o := by
  refine ⟨by rw [m.nobj]; exact hl, fun e => ?_⟩
  rcases m.key o hl with k | k
  · exact h.2 (k ▸ e)
  · rw [k] at e; cases e
mutual
theorem RepC.sub {c c' : Cx} {n : Nat} (m : Sub c c' n) : ∀ (x : V) (vs : List Value), x.lt n → RepC c x vs → RepC c' x vs
  | .dead, vs, _, h => by simpa only [RepC] using h
  | .int k n, vs, _, h => by simpa only [RepC] using h
  | .bool b, vs, _, h => by simpa only [RepC] using h
  | .str l, vs, _, h => by simpa only [RepC] using h
  | .nilp, vs, _, h => by simpa only [RepC] using h
  | .ref o off, vs, hl, h => by
    simp only [RepC] at h ⊢
    simp only [V.lt] at hl
    obtain ⟨ho, v, hv, h1c, h⟩ := h
    refine ⟨m.has hl ho, v, hv, h1c, fun k b hk hk0 hb => ?_⟩
    rcases m.key o hl with e | e
    · rw [e] at hk; exact h k b hk hk0 hb
    · rw [e] at hk; cases hk
  | .eref o ver i j, vs, hl, h => by
    simp only [RepC] at h ⊢
    simp only [V.lt] at hl
    obtain ⟨ho, v, hv, h1c, h⟩ := h
    refine ⟨m.has hl ho, v, hv, h1c, fun k hk => ?_⟩
    rcases m.key o hl with e | e
    · rw [e] at hk; exact h k hk
    · rw [e] at hk; cases hk
  | .cref cs j, vs, hl, h => by
    simp only [RepC] at h ⊢
    simp only [V.lt] at hl
    obtain ⟨b, off, ws, hv, hi, hr, hc⟩ := h
    exact ⟨b, off, ws, hv, m.imm b hi, Reps.sub m cs ws hl hr, by rw [m.cell]; exact hc⟩
  | .slice l, vs, hl', h => by
    simp only [RepC] at h ⊢
    simp only [V.lt] at hl'
    obtain ⟨a, cap, es, hv, hl, hm, h⟩ := h
    refine ⟨a, cap, es, hv, hl, hm, ?_⟩
    rcases h with h | ⟨b, off, ha, hi, he⟩
    · exact .inl h
    · exact .inr ⟨b, off, ha, m.imm b hi, RepE.sub m es b off l hl' he⟩
  | .fslice l, vs, hl', h => by
    simp only [RepC] at h ⊢
    simp only [V.lt] at hl'
    obtain ⟨a, es, hv, hm, h⟩ := h
    refine ⟨a, es, hv, hm, ?_⟩
    rcases h with h | ⟨b, off, ha, hi, he⟩
    · exact .inl h
    · exact .inr ⟨b, off, ha, m.imm b hi, RepE.sub m es b off l hl' he⟩
  | .vec o ver off n, vs, hl, h => by
    simp only [RepC] at h ⊢
    simp only [V.lt] at hl
    obtain ⟨ho, v, hv, h1c, h⟩ := h
    refine ⟨m.has hl ho, v, hv, h1c, fun k hk => ?_⟩
    rcases m.key o hl with e | e
    · rw [e] at hk; exact h k hk
    · rw [e] at hk; cases hk
  | .agg cs, vs, hl, h => by
    simp only [RepC] at h ⊢
    simp only [V.lt] at hl
    exact Reps.sub m cs vs hl h
  | .fn f first cap, vs, hl, h => by
    simp only [RepC] at h ⊢
    simp only [V.lt] at hl
    obtain ⟨x, y, hv, h1, h2⟩ := h
    exact ⟨x, y, hv, RepVs.sub m first x hl.1 h1, RepVs.sub m cap y hl.2 h2⟩
  | .nilf, vs, _, h => by simpa only [RepC] using h
  | .mapr o, vs, hl, h => by
    simp only [RepC] at h ⊢
    simp only [V.lt] at hl
    obtain ⟨ho, v, hv, h1c, h⟩ := h
    refine ⟨m.has hl ho, v, hv, h1c, fun k b hk hk0 hb => ?_⟩
    rcases m.key o hl with e | e
    · rw [e] at hk; exact h k b hk hk0 hb
    · rw [e] at hk; cases hk
  | .nilm, vs, _, h => by simpa only [RepC] using h
  | .iface t x, vs, hl, h => by
    simp only [RepC] at h ⊢
    simp only [V.lt] at hl
    obtain ⟨v, hv, h1, h2⟩ := h
    exact ⟨v, hv, RepC.sub m x _ hl h1, h2⟩
  | .nili, vs, _, h => by simpa only [RepC] using h
  | .tuple xs, vs, hl, h => by
    simp only [RepC] at h ⊢
    simp only [V.lt] at hl
    obtain ⟨ws, hv, h1⟩ := h
    exact ⟨ws, hv, RepVs.sub m xs ws hl h1⟩
theorem Reps.sub {c c' : Cx} {n : Nat} (m : Sub c c' n) : ∀ (xs : List V) (vs : List Value), ltL n xs → Reps c xs vs → Reps c' xs vs
  | [], vs, _, h => by simpa only [Reps] using h
  | x :: xs, vs, hl, h => by
    simp only [Reps] at h ⊢
    simp only [ltL] at hl
    obtain ⟨v, vs', hv, h0, h1, h2⟩ := h
    exact ⟨v, vs', hv, h0, RepC.sub m x _ hl.1 h1, Reps.sub m xs vs' hl.2 h2⟩
theorem RepVs.sub {c c' : Cx} {n : Nat} (m : Sub c c' n) : ∀ (xs : List V) (vs : List Value), ltL n xs → RepVs c xs vs → RepVs c' xs vs
  | [], vs, _, h => by simpa only [RepVs] using h
  | x :: xs, vs, hl, h => by
    simp only [RepVs] at h ⊢
    simp only [ltL] at hl
    obtain ⟨v, vs', hv, h1, h2, h3⟩ := h
    exact ⟨v, vs', hv, RepC.sub m x _ hl.1 h1, h2, RepVs.sub m xs vs' hl.2 h3⟩
theorem RepE.sub {c c' : Cx} {n : Nat} (m : Sub c c' n) (es b : Nat) : ∀ (off : Nat) (xs : List V), ltL n xs → RepE c es b off xs → RepE c' es b off xs
  | off, [], _, h => by simp only [RepE]
  | off, x :: xs, hl, h => by
    simp only [RepE] at h ⊢
    simp only [ltL] at hl
    obtain ⟨vs, h1, h2, h3, h4⟩ := h
    exact ⟨vs, ⟨h1.1, RepC.sub m x vs hl.1 h1.2⟩, h2, by rw [m.cell]; exact h3, RepE.sub m es b (off + es) xs hl.2 h4⟩
end

theorem RepV.sub {c c' : Cx} {n : Nat} (m : Sub c c' n) {x : V} {v : Value} (hl : x.lt n) (h : RepV c x v) : RepV c' x v := by
  cases x <;> first | exact trivial | exact ⟨RepC.sub m _ _ hl h.1, h.2⟩

def Ob.lt (n : Nat) : Ob → Prop
  | .gone => True
  | .hole => True
  | .var cs => ltL n cs
  | .vec _ _ l => ltL n l
  | .raw _ _ vs _ => ltL n vs
  | .map l _ => ltL n (l.map (·.2.2))
  | .iter o _ _ _ => o < n

mutual
theorem RepC.lt {c : Cx} : ∀ (x : V) (vs : List Value), RepC c x vs → x.lt c.nobj
  | .dead, _, _ | .int _ _, _, _ | .bool _, _, _ | .str _, _, _ | .nilp, _, _ | .nilf, _, _ | .nilm, _, _ | .nili, _, _ => trivial
  | .ref o off, vs, h => by simp only [RepC] at h; exact h.1.1
  | .eref o ver i j, vs, h => by simp only [RepC] at h; exact h.1.1
  | .cref cs j, vs, h => by simp only [RepC] at h; obtain ⟨b, off, ws, hv, hi, hr, hc⟩ := h; exact Reps.lt cs ws hr
  | .slice l, vs, h => by
    simp only [RepC] at h
    obtain ⟨a, cap, es, hv, hl, hm, h⟩ := h
    rcases h with rfl | ⟨b, off, ha, hi, he⟩
    · exact trivial
    · exact RepE.lt es b off l he
  | .fslice l, vs, h => by
    simp only [RepC] at h
    obtain ⟨a, es, hv, hm, h⟩ := h
    rcases h with rfl | ⟨b, off, ha, hi, he⟩
    · exact trivial
    · exact RepE.lt es b off l he
  | .vec o ver off n, vs, h => by simp only [RepC] at h; exact h.1.1
  | .agg cs, vs, h => by simp only [RepC] at h; exact Reps.lt cs vs h
  | .fn f first cap, vs, h => by simp only [RepC] at h; obtain ⟨x, y, hv, h1, h2⟩ := h; exact ⟨RepVs.lt first x h1, RepVs.lt cap y h2⟩
  | .mapr o, vs, h => by simp only [RepC] at h; exact h.1.1
  | .iface t x, vs, h => by simp only [RepC] at h; obtain ⟨v, hv, h1, h2⟩ := h; exact RepC.lt x _ h1
  | .tuple xs, vs, h => by simp only [RepC] at h; obtain ⟨ws, hv, h1⟩ := h; exact RepVs.lt xs ws h1
theorem Reps.lt {c : Cx} : ∀ (xs : List V) (vs : List Value), Reps c xs vs → ltL c.nobj xs
  | [], vs, _ => trivial
  | x :: xs, vs, h => by
    simp only [Reps] at h
    obtain ⟨v, vs', hv, h0, h1, h2⟩ := h
    exact ⟨RepC.lt x _ h1, Reps.lt xs vs' h2⟩
theorem RepVs.lt {c : Cx} : ∀ (xs : List V) (vs : List Value), RepVs c xs vs → ltL c.nobj xs
  | [], vs, _ => trivial
  | x :: xs, vs, h => by
    simp only [RepVs] at h
    obtain ⟨v, vs', hv, h1, h2, h3⟩ := h
    exact ⟨RepC.lt x _ h1, RepVs.lt xs vs' h3⟩
theorem RepE.lt {c : Cx} (es b : Nat) : ∀ (off : Nat) (xs : List V), RepE c es b off xs → ltL c.nobj xs
  | off, [], _ => trivial
  | off, x :: xs, h => by
    simp only [RepE] at h
    obtain ⟨vs, h1, h2, h3, h4⟩ := h
    exact ⟨RepC.lt x vs h1.2, RepE.lt es b (off + es) xs h4⟩
end
theorem RepV.lt {c : Cx} {x : V} {v : Value} (h : RepV c x v) : x.lt c.nobj := by
  cases x <;> first | exact trivial | exact RepC.lt _ _ h.1

theorem RepL.lt {c : Cx} : ∀ {xs : List V} {vs : List Value}, RepL c xs vs → ltL c.nobj xs
  | [], [], _ => trivial
  | x :: xs, v :: vs, h => ⟨h.1.lt, RepL.lt h.2⟩
  | [], _ :: _, h => h.elim
  | _ :: _, [], h => h.elim
theorem RepL.sub {c c' : Cx} {n : Nat} (m : Sub c c' n) : ∀ {xs : List V} {vs : List Value}, ltL n xs → RepL c xs vs → RepL c' xs vs
  | [], [], _, _ => trivial
  | x :: xs, v :: vs, hl, h => ⟨h.1.sub m hl.1, RepL.sub m hl.2 h.2⟩
  | [], _ :: _, _, h => h.elim
  | _ :: _, [], _, h => h.elim
theorem RepM.lt {c : Cx} : ∀ {l : List (Int × Nat × V)} {es : List MapEntry}, RepM c l es → ltL c.nobj (l.map (·.2.2))
  | [], [], _ => trivial
  | p :: l, e :: es, h => ⟨RepC.lt _ _ h.1.2.2.2.1, RepM.lt h.2⟩
  | [], _ :: _, h => h.elim
  | _ :: _, [], h => h.elim
theorem RepM.sub {c c' : Cx} {n : Nat} (m : Sub c c' n) : ∀ {l : List (Int × Nat × V)} {es : List MapEntry}, ltL n (l.map (·.2.2)) → RepM c l es → RepM c' l es
  | [], [], _, _ => trivial
  | p :: l, e :: es, hl, h => ⟨⟨h.1.1, h.1.2.1, h.1.2.2.1, RepC.sub m _ _ hl.1 h.1.2.2.2.1, h.1.2.2.2.2⟩, RepM.sub m hl.2 h.2⟩
  | [], _ :: _, _, h => h.elim
  | _ :: _, [], _, h => h.elim
theorem Good.lt {g H w} (h : Good g H w) {o : Nat} {x : Ob} (hx : H[o]? = some x) : x.lt H.length := by
  have := h.ob o
  rw [hx] at this
  cases x with
  | gone => trivial
  | hole => trivial
  | var cs => obtain ⟨b, cur, et, fr, _, _, hr, _⟩ := this; exact Reps.lt _ _ hr
  | raw b x vs cs =>
    obtain ⟨_, hr⟩ := this
    exact RepL.lt hr
  | map l ck => obtain ⟨b, es, _, _, hr⟩ := this; exact RepM.lt hr
  | iter o' since seen last => obtain ⟨b, mb, _, _, hr⟩ := this; exact RepC.lt _ _ hr
  | vec ver es l =>
    obtain ⟨q, _, _, _, _, _, h5, h6⟩ := this
    rcases h6 with ⟨h6, h7⟩ | ⟨b, cur, et, fr, _, _, _, hr, _⟩
    · have : l = [] := List.eq_nil_of_length_eq_zero (by omega)
      subst this; trivial
    · exact RepE.lt _ _ _ _ hr

/-- the objects from n on are given up -/
def cutKey (g : Nat → Option Key) (n : Nat) : Nat → Option Key := fun o => if o < n then g o else none

theorem cut_sub {g : Nat → Option Key} {n m : Nat} {w : World} : Sub (cxOf g n w) (cxOf (cutKey g m) m w) m :=
  ⟨fun b hb => ⟨hb.1, fun o k hk => by unfold cutKey at hk; split at hk; exact hb.2 o k hk; cases hk⟩, rfl,
    fun o ho => .inl (by show cutKey g m o = g o; simp [cutKey, ho]), rfl⟩

theorem ObOK.sub {c c' : Cx} {n : Nat} (m : Sub c c' n) {heap : Array Obj} {k : Option Key} {x : Option Ob} (hl : ∀ y, x = some y → y.lt n) (h : ObOK c heap k x) : ObOK c' heap k x := by
  cases x with
  | none => exact h
  | some x =>
    have hl := hl x rfl
    cases x with
    | gone => exact h
    | hole => exact h
    | raw b x vs cs => exact ⟨h.1, RepL.sub m hl h.2⟩
    | map l ck => obtain ⟨b, es, h1, h2, h3⟩ := h; exact ⟨b, es, h1, h2, RepM.sub m hl h3⟩
    | iter o' since seen last => obtain ⟨b, mb, h1, h2, h3⟩ := h; exact ⟨b, mb, h1, h2, RepC.sub m (.mapr o') _ hl h3⟩
    | var cs =>
      obtain ⟨b, cur, et, fr, h1, h2, h3, h4⟩ := h
      exact ⟨b, cur, et, fr, h1, h2, Reps.sub m _ _ hl h3, h4⟩
    | vec ver es l =>
      obtain ⟨q, h1, h2, h2', h3, h4, h5, h6⟩ := h
      refine ⟨q, h1, h2, h2', h3, h4, h5, ?_⟩
      rcases h6 with h6 | ⟨b, cur, et, fr, h7, h8, h9, h10, h11⟩
      · exact .inl h6
      · exact .inr ⟨b, cur, et, fr, h7, h8, h9, RepE.sub m _ _ _ _ hl h10, h11⟩

theorem Good.cut {g H w} (hG : Good g H w) (m : Nat) (hm : m ≤ H.length) (hl : ∀ o x, o < m → H[o]? = some x → x.lt m) : Good (cutKey g m) (H.take m) w := by
  refine ⟨fun o => ?_, fun o o' k k' b hk hk' hb hb' => ?_⟩
  · rw [List.length_take, Nat.min_eq_left hm]
    by_cases ho : o < m
    · rw [List.getElem?_take, if_pos ho]
      have e : cutKey g m o = g o := by simp [cutKey, ho]
      rw [e]
      exact ObOK.sub cut_sub (fun y hy => hl o y ho hy) (hG.ob o)
    · rw [List.getElem?_eq_none (by simp; omega)]
      show cutKey g m o = none
      simp [cutKey, ho]
  · unfold cutKey at hk hk'
    split at hk
    · split at hk'
      · exact hG.inj _ _ _ _ _ hk hk' hb hb'
      · cases hk'
    · cases hk

/-- given up, seen from the beginning -/
theorem Ext.cut {g0 n0 w0 g n w} (h : Ext g0 n0 w0 g n w) (m : Nat) (hm : n0 ≤ m) : Ext g0 n0 w0 (cutKey g m) m w := by
  refine ⟨h.os, h.output, h.tape, h.size, fun b hb => ⟨(h.frame b hb).1, cut_sub.imm b (h.frame b hb).2⟩, fun o ho k' hk' => ?_, hm⟩
  unfold cutKey at hk'
  split at hk'
  · exact h.key o ho k' hk'
  · cases hk'
end Go.EL

/- The value logic, part Q: what is left of a heap; returns; ghost steps. -/
set_option linter.unusedVariables false
set_option linter.unusedSimpArgs false
namespace Go.EL
open Go
variable {P : Program} {T : Nat → TD}

def All2 {α β : Type} (R : α → β → Prop) : List α → List β → Prop
  | [], [] => True
  | x :: xs, y :: ys => R x y ∧ All2 R xs ys
  | _, _ => False

/-- a value, as it may be told where the objects from n on are given up -/
def Wk0 (H : List Ob) (n : Nat) : V → V → Prop
  | .vec o ver off k, r => (∃ es l, H[o]? = some (.vec ver es l) ∧ off + k ≤ l.length ∧ r = .slice ((l.drop off).take k) ∧ ltL n l ∧ n ≤ o) ∨ (r = .vec o ver off k ∧ o < n)
  | .fslice l, r => (r = .slice l ∨ r = .fslice l) ∧ ltL n l
  | x, r => r = x ∧ x.lt n
def Wk1 (H : List Ob) (n : Nat) : V → V → Prop
  | .agg cs, r => ∃ cs', r = .agg cs' ∧ All2 (Wk0 H n) cs cs'
  | x, r => Wk0 H n x r
def Wk (H : List Ob) (n : Nat) : V → V → Prop
  | .tuple vs, r => ∃ vs', r = .tuple vs' ∧ All2 (Wk1 H n) vs vs'
  | x, r => Wk1 H n x r

section
variable {g : Nat → Option Key} {H : List Ob} {w : World} {n : Nat}

theorem fslice_slice {c : Cx} {l : List V} {vs : List Value} (h : RepC c (.fslice l) vs) : RepC c (.slice l) vs := by
  simp only [RepC] at h ⊢
  obtain ⟨a, es, h1, h2, h3⟩ := h
  exact ⟨a, _, es, h1, Nat.le_refl _, h2, h3⟩

theorem vec_slice (hG : Good g H w) {o ver off k es : Nat} {l : List V} {vs : List Value} {c : Cx} {m : Nat} (ho : H[o]? = some (.vec ver es l)) (hle : off + k ≤ l.length) (hs : Sub (cxOf g H.length w) c m) (hl : ltL m l)
    (hb : ∀ q b, g o = some q → q.blk = some b → c.imm b) (h : RepC (cxOf g H.length w) (.vec o ver off k) vs) : RepC c (.slice ((l.drop off).take k)) vs := by
  obtain ⟨q, hq, hver, hes, hv1, hcm, hcap, hbk⟩ := hG.vec ho
  simp only [RepC] at h ⊢
  obtain ⟨h1, u, rfl, h2, h3⟩ := h
  obtain ⟨k1, a, rfl, k3⟩ := (h3 q hq).2 hver
  have hlen : ((l.drop off).take k).length = k := by simp; omega
  refine ⟨a, q.cap - off, q.es, by rw [hlen], by omega, by omega, ?_⟩
  rw [← List.length_eq_zero_iff]
  by_cases hk : k = 0
  · left; omega
  · right
    obtain ⟨b, m1, rfl⟩ := k3 (by omega)
    refine ⟨b, _, rfl, hb q b hq m1, ?_⟩
    rcases hbk with ⟨h0, _⟩ | ⟨b', cur, et, fr, hblk, hh, hsz, hr, hu, hone⟩
    · rw [h0] at m1; cases m1
    rw [hblk] at m1
    injection m1 with m1
    subst m1
    have := (RepE.sub hs _ _ _ _ hl hr).drop off
    rw [Nat.zero_add] at this
    exact this.take k

theorem Wk0.repC (hG : Good g H w) {x r : V} {vs : List Value} (hn : n ≤ H.length) (h : Wk0 H n x r) (hx : RepC (cxOf g H.length w) x vs) : RepC (cxOf (cutKey g n) n w) r vs ∧ (x.leaf → r.leaf) ∧ (∀ v, okAgg x v → okAgg r v) := by
  cases x
  case vec o ver off k =>
    rcases h with ⟨es, l, ho, hle, rfl, hl, hno⟩ | ⟨rfl, ho⟩
    · refine ⟨vec_slice hG ho hle cut_sub hl (fun q b hq hb => ?_) hx, fun _ => trivial, fun v hv => by cases v <;> first | trivial | exact hv⟩
      refine ⟨hG.blk_lt hq hb, fun o' k' hk' hb' => ?_⟩
      unfold cutKey at hk'
      split at hk'
      · have := hG.inj _ _ _ _ _ hk' hq hb' hb; omega
      · cases hk'
    · exact ⟨RepC.sub cut_sub _ _ ho hx, fun h => h, fun _ h => h⟩
  case fslice l =>
    obtain ⟨rfl | rfl, hl⟩ := h
    · exact ⟨fslice_slice (RepC.sub cut_sub _ _ hl hx), fun _ => trivial, fun v hv => by cases v <;> first | trivial | exact hv⟩
    · exact ⟨RepC.sub cut_sub _ _ hl hx, fun h => h, fun _ h => h⟩
  all_goals
    obtain ⟨rfl, hl⟩ := h
    exact ⟨RepC.sub cut_sub _ _ hl hx, fun h => h, fun _ h => h⟩

theorem Wk0.reps (hG : Good g H w) (hn : n ≤ H.length) : ∀ {xs rs : List V} {vs : List Value}, All2 (Wk0 H n) xs rs → Reps (cxOf g H.length w) xs vs → Reps (cxOf (cutKey g n) n w) rs vs
  | [], [], _, _, h => by simpa only [Reps] using h
  | x :: xs, r :: rs, vs, h, hx => by
    simp only [Reps] at hx ⊢
    obtain ⟨v, vs', rfl, h1, h2, h3⟩ := hx
    obtain ⟨k1, k2, k3⟩ := h.1.repC hG hn h2
    exact ⟨v, vs', rfl, k2 h1, k1, Wk0.reps hG hn h.2 h3⟩
  | [], _ :: _, _, h, _ => h.elim
  | _ :: _, [], _, h, _ => h.elim

theorem Wk1.repC (hG : Good g H w) {x r : V} {vs : List Value} (hn : n ≤ H.length) (h : Wk1 H n x r) (hx : RepC (cxOf g H.length w) x vs) : RepC (cxOf (cutKey g n) n w) r vs ∧ (∀ v, okAgg x v → okAgg r v) := by
  cases x
  case agg cs =>
    obtain ⟨cs', rfl, h⟩ := h
    simp only [RepC] at hx ⊢
    exact ⟨Wk0.reps hG hn h hx, fun v hv => by cases v <;> first | exact hv | trivial⟩
  all_goals
    simp only [Wk1] at h
    exact ⟨(h.repC hG hn hx).1, (h.repC hG hn hx).2.2⟩

theorem Wk1.repVs (hG : Good g H w) (hn : n ≤ H.length) : ∀ {xs rs : List V} {vs : List Value}, All2 (Wk1 H n) xs rs → RepVs (cxOf g H.length w) xs vs → RepVs (cxOf (cutKey g n) n w) rs vs
  | [], [], _, _, h => by simpa only [RepVs] using h
  | x :: xs, r :: rs, vs, h, hx => by
    simp only [RepVs] at hx ⊢
    obtain ⟨v, vs', rfl, h1, h2, h3⟩ := hx
    obtain ⟨k1, k2⟩ := h.1.repC hG hn h1
    exact ⟨v, vs', rfl, k1, k2 _ h2, Wk1.repVs hG hn h.2 h3⟩
  | [], _ :: _, _, h, _ => h.elim
  | _ :: _, [], _, h, _ => h.elim

theorem Wk1.repV (hG : Good g H w) {x r : V} {v : Value} (hn : n ≤ H.length) (h : Wk1 H n x r) (hx : RepV (cxOf g H.length w) x v) : RepV (cxOf (cutKey g n) n w) r v := by
  cases x
  case dead => obtain ⟨rfl, _⟩ := h; trivial
  all_goals
    have k := Wk1.repC hG hn h hx.1
    exact RepV.of_parts k.1 (k.2 _ hx.2)

theorem Wk.repV (hG : Good g H w) {x r : V} {v : Value} (hn : n ≤ H.length) (h : Wk H n x r) (hx : RepV (cxOf g H.length w) x v) : RepV (cxOf (cutKey g n) n w) r v := by
  cases x
  case tuple vs =>
    obtain ⟨vs', rfl, h⟩ := h
    obtain ⟨ws, rfl, hr⟩ := hx.tuple
    refine RepV.mk_leaf ?_ (by simp) (by simp)
    simp only [RepC]
    exact ⟨ws, rfl, Wk1.repVs hG hn h hr⟩
  all_goals
    simp only [Wk] at h
    exact Wk1.repV hG hn h hx
end

/-- WHAT A FUNCTION ANSWERS: the objects from n on are given up. -/
def RetW (n0 : Nat) (H0 : List Ob) (R : V → List Ob → Prop) [Hold R R] (r : V) (H : List Ob) : Prop :=
  ∃ n r', n0 ≤ n ∧ n ≤ H.length ∧ Wk H n r r' ∧ (∀ o x, o < n → H[o]? = some x → H0[o]? = some x ∨ x.lt n) ∧ R r' (H.take n)

theorem RetW.congr {n0 : Nat} {H0 : List Ob} {R : V → List Ob → Prop} {r r' : V} {H H' : List Ob} (h1 : r = r') (h2 : H = H') : RetW n0 H0 R r H = RetW n0 H0 R r' H' := by rw [h1, h2]

/-- the results' values, one after another -/
def retVals (T : Nat → TD) (env : Env) (H : List Ob) : List ResultVar → (List V → Prop) → Prop
  | [], K => K []
  | .tmp t :: rs, K => retVals T env H rs fun vs => K (eget env t :: vs)
  | .cell t ty :: rs, K => if (T ty).kind = .other then False else match xload (T ty) H (eget env t) with
    | .val pre v _ => Need pre (retVals T env H rs fun vs => K (v :: vs))
    | _ => False

def tupled : List V → V
  | [v] => v
  | vs => .tuple vs

def RetE (T : Nat → TD) (rs : List ResultVar) (H0 : List Ob) (R : V → List Ob → Prop) : Exit → Env → List Ob → Prop
  | .normal, env, H => retVals T env H rs fun vs => Need (vs.any V.isDead = false) (RetW H0.length H0 R (tupled vs) H)
  | .ret, env, H => retVals T env H rs fun vs => Need (vs.any V.isDead = false) (RetW H0.length H0 R (tupled vs) H)
  | _, _, _ => False

def resRun (tmps : Array Value) : ResultVar → Sem Value
  | .tmp t => pure (tmps.getD t undef)
  | .cell p t => do loadVar t (← asAddr (tmps.getD p undef))

theorem retVals_run (hTO : TyOK P T) {g : Nat → Option Key} {H : List Ob} {w : World} {env : Env} {a : Act} (hG : Good g H w) (he : EnvRep (cxOf g H.length w) env a) : ∀ (rs : List ResultVar) {K : List V → Prop}, retVals T env H rs K →
    ∃ vs cvs, K vs ∧ RepVals (cxOf g H.length w) vs cvs ∧ (rs.mapM (resRun a.tmps)).run P w = .ok cvs w
  | [], K, h => ⟨[], [], h, trivial, by simp⟩
  | .tmp t :: rs, K, h => by
    obtain ⟨vs, cvs, h1, h2, h3⟩ := retVals_run hTO hG he rs h
    refine ⟨_, a.tmps.getD t undef :: cvs, h1, ⟨he t, h2⟩, ?_⟩
    rw [List.mapM_cons, Sem.run_bind]
    simp only [resRun, Sem.run_pure, Result.andThen_ok, Sem.run_bind]
    rw [h3]
    rfl
  | .cell t ty :: rs, K, h => by
    simp only [retVals] at h
    split at h
    · exact h.elim
    rename_i hk
    split at h
    · rename_i pre v H' hx
      obtain ⟨hp, h⟩ := h
      obtain ⟨vs, cvs, h1, h2, h3⟩ := retVals_run hTO hG he rs h
      obtain ⟨_, cv, c1, c2⟩ := xload_exact (hTO.at hk) hG (he t) hx hp
      refine ⟨_, cv :: cvs, h1, ⟨c2, h2⟩, ?_⟩
      have c1' : (do loadVar ty (← asAddr (a.tmps.getD t undef)) : Sem Value).run P w = .ok cv w := by
        unfold Instr.loadAt Instr.sureAddr at c1
        unfold asAddr
        generalize a.tmps.getD t undef = u at c1 ⊢
        cases u
        case pointer ad => cases ad with
          | none => simp at c1
          | some ad => simpa using c1
        all_goals simp at c1
      rw [List.mapM_cons, Sem.run_bind]
      rw [show resRun a.tmps (.cell t ty) = (do loadVar ty (← asAddr (a.tmps.getD t undef)) : Sem Value) from rfl, c1']
      simp only [Result.andThen_ok, Sem.run_bind]
      rw [h3]
      rfl
    · exact h.elim

theorem tupled_rep {c : Cx} {vs : List V} {cvs : List Value} (h : RepVals c vs cvs) (hd : ∀ v ∈ vs, v ≠ .dead) : RepV c (tupled vs) (if h : cvs.toArray.size = 1 then cvs.toArray[0] else .tuple cvs.toArray) := by
  have hl := h.length
  match vs, cvs, h with
  | [], [], _ =>
    refine RepV.mk_leaf ?_ (by simp [tupled]) (by simp)
    simp [tupled, RepC, RepVs]
  | [v], [cv], h => simpa [tupled] using h.1
  | v :: u :: vs, cv :: cu :: cvs, h =>
    rw [dif_neg (by simp)]
    refine RepV.mk_leaf ?_ (by simp [tupled]) (by simp)
    simp only [tupled, RepC]
    refine ⟨_, rfl, ?_⟩
    have key : ∀ (vs : List V) (cvs : List Value), (∀ v ∈ vs, v ≠ .dead) → RepVals c vs cvs → RepVs c vs cvs := by
      intro vs
      induction vs with
      | nil => intro cvs _ h; cases cvs with
        | nil => simp [RepVs]
        | cons _ _ => exact h.elim
      | cons v vs ih => intro cvs hd h; cases cvs with
        | nil => exact h.elim
        | cons cv cvs =>
          simp only [RepVs]
          have hv := hd v (by simp)
          refine ⟨cv, cvs, rfl, ?_, ?_, ih cvs (fun u hu => hd u (by simp [hu])) h.2⟩
          · have := h.1; cases v <;> first | exact absurd rfl hv | exact this.1
          · have := h.1; cases v <;> first | exact absurd rfl hv | exact this.2
    exact key _ _ hd h

theorem results_eq {fn : Func} {a : Act} {w : World} {cvs : List Value} (h : (fn.results.toList.mapM (resRun a.tmps)).run P w = .ok cvs w) :
    (results fn a.tmps).run P w = .ok (if h : cvs.toArray.size = 1 then cvs.toArray[0] else .tuple cvs.toArray) w := by
  have e : results fn a.tmps = (do let vs ← fn.results.mapM (resRun a.tmps); pure (if h : vs.size = 1 then vs[0] else .tuple vs)) := by
    unfold results
    congr 1
  rw [e, Array.mapM_eq_mapM_toList]
  simp only [Sem.run_bind, Sem.run_map]
  rw [h]
  rfl

def argEnv : Nat → List V → Env
  | _, [] => []
  | k, x :: xs => (k, x) :: argEnv (k + 1) xs

theorem argEnv_rep {c : Cx} : ∀ (args : List V) (cargs : List Value) (k : Nat) (tmps : Nat → Value), RepVals c args cargs → (∀ i v, cargs[i]? = some v → tmps (k + i) = v) → ∀ t, RepV c (eget (argEnv k args) t) (tmps t)
  | [], _, _, _, _, _, t => trivial
  | x :: xs, [], _, _, h, _, t => h.elim
  | x :: xs, v :: vs, k, tmps, h, hc, t => by
    simp only [argEnv, eget]
    split
    · rename_i e
      subst e
      have := hc 0 v rfl
      rw [Nat.add_zero] at this
      rw [this]
      exact h.1
    · exact argEnv_rep xs vs (k + 1) tmps h.2 (fun i u hu => by rw [show k + 1 + i = k + (i + 1) by omega]; exact hc (i + 1) u hu) t

/-- A CALL, BY THE FUNCTION's CODE. -/
theorem SCall.of_code (hTO : TyOK P T) {f : FuncId} {fn : Func} {c : Code} {args : List V} {H : List Ob} {R : V → List Ob → Prop} (hf : P.funcs[f]? = some fn) (hb : fn.body = some c) (hcall : ∀ args w, (callFunc f args).run P w = .ok (.enter f args) w)
    {n : Nat} (hn : fn.ntmps = n) (hargs : args.length ≤ n) {rs : List ResultVar} (hrs : fn.results = rs.toArray) (h : EW P n c (RetE T rs H R) (argEnv 0 args) H) : SCall P f args H R := by
  intro g w cargs hG ha
  have hlen := ha.length
  simp only [Array.length_toList] at hlen
  unfold CallR
  rw [hcall]
  simp only
  refine callsIn_wide.1 (callsIn_of_wp (n := 0) hf hb trivial ?_)
  have hR : Rel [] n (argEnv 0 args) H g { tmps := cargs ++ Array.replicate (fn.ntmps - cargs.size) undef, defers := [] } w := by
    refine ⟨by simp; omega, rfl, fun t => ?_, hG⟩
    refine argEnv_rep args cargs.toList 0 (fun t => (cargs ++ Array.replicate (fn.ntmps - cargs.size) undef).getD t undef) ha (fun i v hv => ?_) t
    have hi : i < cargs.size := by have := (List.getElem?_eq_some_iff.1 hv).1; simpa using this
    simp only [Nat.zero_add]
    rw [Array.getElem?_toList] at hv
    rw [Array.getElem?_eq_getElem hi] at hv
    injection hv with hv
    simp [Array.getElem?_append, hi, hv]
  refine wpIn_mono (h none [] g _ w hR) fun e a' w' ⟨env', H', g', h1, h2, h3⟩ => ?_
  have key : retVals T env' H' rs (fun vs => Need (vs.any V.isDead = false) (RetW H.length H R (tupled vs) H')) →
      a'.defers = [] ∧ ∃ v, (results fn a'.tmps).run P w' = .ok v w' ∧ ∃ v', Ending.returned v = .returned v' ∧ ∃ r H'' g'', Good g'' H'' w' ∧ Ext g H.length w g'' H''.length w' ∧ RepV (cxOf g'' H''.length w') r v' ∧ R r H'' := by
    intro h3
    obtain ⟨vs, cvs, ⟨k0, n1, r', k1, k2, k3, k4, k5⟩, k6, k7⟩ := retVals_run hTO h1.2.2.2 h1.2.2.1 rs h3
    have hrun := results_eq (P := P) (fn := fn) (a := a') (w := w') (cvs := cvs) (by rw [hrs]; exact k7)
    refine ⟨h1.2.1, _, hrun, _, rfl, r', H'.take n1, cutKey g' n1, ?_, ?_, ?_, k5⟩
    · refine h1.2.2.2.cut n1 k2 (fun o x ho hx => ?_)
      rcases k4 o x ho hx with e | e
      · have := hG.lt e
        cases x with
        | gone => trivial
        | hole => trivial
        | var cs => exact ltL_le k1 _ this
        | vec _ _ l => exact ltL_le k1 _ this
        | raw _ _ vs _ => exact ltL_le k1 _ this
        | map l _ => exact ltL_le k1 _ this
        | iter _ _ _ _ => exact Nat.lt_of_lt_of_le this k1
      · exact e
    · rw [List.length_take, Nat.min_eq_left k2]
      exact h2.cut n1 k1
    · rw [List.length_take, Nat.min_eq_left k2]
      exact k3.repV h1.2.2.2 k2 (tupled_rep k6 (fun v hv e => by
        have := List.any_eq_false.1 k0 v hv
        subst e
        simp [V.isDead] at this))
  cases e with
  | normal => exact key h3
  | ret => exact key h3
  | exit id => exact h3.elim
  | goto l => exact h3.elim
  | panic ch => exact h3.elim
  | outgrown => exact h3.elim
end Go.EL

/- The value logic, part R: small rules for the walk. -/
set_option linter.unusedVariables false
set_option linter.unusedSimpArgs false
namespace Go.EL
open Go

theorem hget {H L : List Ob} {k : Nat} : (H ++ L)[H.length + k]? = L[k]? := by
  rw [List.getElem?_append_right (by omega), Nat.add_sub_cancel_left]
theorem hget0 {H L : List Ob} : (H ++ L)[H.length]? = L[0]? := by
  rw [List.getElem?_append_right (by omega), Nat.sub_self]
theorem hset {H L : List Ob} {k : Nat} {x : Ob} : (H ++ L).set (H.length + k) x = H ++ L.set k x := by
  rw [List.set_append_right _ _ (by omega), Nat.add_sub_cancel_left]
theorem hset0 {H L : List Ob} {x : Ob} : (H ++ L).set H.length x = H ++ L.set 0 x := by
  rw [List.set_append_right _ _ (by omega), Nat.sub_self]
theorem wrap64_id {x : Int} (h : -9223372036854775808 ≤ x ∧ x ≤ 9223372036854775807) : IntKind.i64.wrap x = x := by
  unfold IntKind.wrap
  simp only [IntKind.bits, IntKind.signed]
  simp
  split <;> omega
theorem wrap8_id {x : Int} (h : 0 ≤ x ∧ x ≤ 255) : IntKind.u8.wrap x = x := by
  unfold IntKind.wrap
  simp only [IntKind.bits, IntKind.signed]
  simp
  omega
theorem at_map {α : Type} (f : α → V) (l : List α) (i : Nat) (h : i < l.length) : (l.map f).getD i .dead = f l[i] := by
  simp [List.getD_eq_getElem?_getD, h]
theorem at_mapV {α : Type} (f : α → V) (l : List α) (i : Nat) (h : i < l.length) : V.at (l.map f) i = f l[i] := by
  unfold V.at
  rw [List.getD_eq_getElem?_getD, List.getElem?_map, List.getElem?_eq_getElem h]
  rfl
theorem sizedMapV {α : Type} {n : Nat} {f : α → V} (h : ∀ x, (f x).cells.length = n) (l : List α) : Sized n (l.map f) := by
  intro y hy
  obtain ⟨x, _, rfl⟩ := List.mem_map.1 hy
  exact h x
theorem storable_map {α : Type} {f : α → V} (h : ∀ x, (f x).storable) (l : List α) : ∀ y ∈ l.map f, y.storable := by
  intro y hy
  obtain ⟨x, _, rfl⟩ := List.mem_map.1 hy
  exact h x

/-- A pure answer: nothing of the heap is other than it was. -/
theorem RetW.pure {H0 H : List Ob} {R : V → List Ob → Prop} {r r' : V} (L : List Ob) (hH : H = H0 ++ L) (hw : Wk H H0.length r r') (hR : R r' H0) : RetW H0.length H0 R r H := by
  subst hH
  refine ⟨H0.length, r', Nat.le_refl _, by simp, hw, fun o x ho hx => ?_, ?_⟩
  · left; rw [List.getElem?_append_left ho] at hx; exact hx
  · rw [List.take_left]; exact hR
theorem RetW.pure0 {H0 : List Ob} {R : V → List Ob → Prop} {r r' : V} (hw : Wk H0 H0.length r r') (hR : R r' H0) : RetW H0.length H0 R r H0 :=
  RetW.pure [] (by simp) hw hR
end Go.EL

/- The value logic, part S: regions whose order is open. -/
set_option linter.unusedVariables false
set_option linter.unusedSimpArgs false
namespace Go.EL
open Go
variable {P : Program} {T : Nat → TD}

theorem map_congr_mem {α β : Type} {f g : α → β} {l : List α} (h : ∀ x ∈ l, f x = g x) : l.map f = l.map g := List.map_congr_left h

theorem xop_congr {own : Bool} {ρ ρ' : Operand → V} {H : List Ob} (op : Op) (h : ∀ x ∈ op.operands, ρ x = ρ' x) : xop T own ρ H op = xop T own ρ' H op := by
  cases op
  case move x => simp only [xop]; rw [h x (by simp [Op.operands])]
  case assign x => simp only [xop]; rw [h x (by simp [Op.operands])]
  case pick c a b => simp only [xop]; rw [h c (by simp [Op.operands]), h a (by simp [Op.operands]), h b (by simp [Op.operands])]
  case alloc e => rfl
  case box e x => simp only [xop]; rw [h x (by simp [Op.operands])]
  case build t ps =>
    have h' : ∀ p ∈ ps.toList, ρ p.2 = ρ' p.2 := fun p hp => h p.2 (by simp [Op.operands]; exact ⟨p.1, by simpa using hp⟩)
    have e1 : (ps.toList.map fun p => (p.1, ρ p.2)) = ps.toList.map fun p => (p.1, ρ' p.2) := map_congr_mem fun p hp => by rw [h' p hp]
    simp only [xop]
    rw [e1]
    split
    · congr 1
      apply propext
      constructor
      · exact fun ⟨a, b⟩ => ⟨a, fun p hp => by rw [← h' p hp]; exact b p hp⟩
      · exact fun ⟨a, b⟩ => ⟨a, fun p hp => by rw [h' p hp]; exact b p hp⟩
    · congr 1
      apply propext
      constructor
      · exact fun ⟨a, b⟩ => ⟨a, fun p hp => by rw [← h' p hp]; exact b p hp⟩
      · exact fun ⟨a, b⟩ => ⟨a, fun p hp => by rw [h' p hp]; exact b p hp⟩
    · rfl
  case buildSlice t n ps =>
    have h' : ∀ p ∈ ps.toList, ρ p.2 = ρ' p.2 := fun p hp => h p.2 (by simp [Op.operands]; exact ⟨p.1, by simpa using hp⟩)
    have e1 : (ps.toList.map fun p => ρ p.2) = ps.toList.map fun p => ρ' p.2 := map_congr_mem fun p hp => by rw [h' p hp]
    simp only [xop]
    rw [e1]
    split
    · congr 1
      apply propext
      constructor
      · exact fun ⟨a, b, c, d, e⟩ => ⟨a, b, c, d, fun p hp => by rw [← h' p hp]; exact e p hp⟩
      · exact fun ⟨a, b, c, d, e⟩ => ⟨a, b, c, d, fun p hp => by rw [h' p hp]; exact e p hp⟩
    · rfl
  case load t a => simp only [xop]; rw [h a (by simp [Op.operands])]
  case store t a x => simp only [xop]; rw [h a (by simp [Op.operands]), h x (by simp [Op.operands])]
  case fieldAddr t a f => simp only [xop]; rw [h a (by simp [Op.operands])]
  case indexAddr t x i => simp only [xop]; rw [h x (by simp [Op.operands]), h i (by simp [Op.operands])]
  case index t x i => simp only [xop]; rw [h x (by simp [Op.operands]), h i (by simp [Op.operands])]
  case slice t x lo hi mx =>
    have e1 : lo.map ρ = lo.map ρ' := by cases lo with
      | none => rfl
      | some y => simp only [Option.map_some]; rw [h y (by simp [Op.operands])]
    have e2 : hi.map ρ = hi.map ρ' := by cases hi with
      | none => rfl
      | some y => simp only [Option.map_some]; rw [h y (by simp [Op.operands])]
    simp only [xop]
    rw [h x (by simp [Op.operands]), e1, e2]
    cases mx with
    | none => rfl
    | some m => simp only; rw [h m (by simp [Op.operands])]
  case nilCheck x => simp only [xop]; rw [h x (by simp [Op.operands])]
  case binOp op t x y yt => simp only [xop]; rw [h x (by simp [Op.operands]), h y (by simp [Op.operands])]
  case unOp op t x => cases op <;> simp only [xop] <;> rw [h x (by simp [Op.operands])]
  case convert s d x => simp only [xop]; rw [h x (by simp [Op.operands])]
  case makeFunc f first cap =>
    have e1 : first.toList.map ρ = first.toList.map ρ' := map_congr_mem fun x hx => h x (by simp [Op.operands]; exact .inl (by simpa using hx))
    have e2 : cap.toList.map ρ = cap.toList.map ρ' := map_congr_mem fun x hx => h x (by simp [Op.operands]; exact .inr (by simpa using hx))
    simp only [xop]
    rw [e1, e2]
    congr 1
    apply propext
    have h' : ∀ x ∈ first.toList ++ cap.toList, ρ x = ρ' x := fun x hx => h x (by simpa [Op.operands] using hx)
    exact ⟨fun a x hx => by rw [← h' x hx]; exact a x hx, fun a x hx => by rw [h' x hx]; exact a x hx⟩
  case extract t i => simp only [xop]; rw [h t (by simp [Op.operands])]
  case call c =>
    have e1 : c.args.toList.map ρ = c.args.toList.map ρ' := map_congr_mem fun x hx => h x (by simp [Op.operands, Call.operands]; exact .inr (by simpa using hx))
    simp only [xop]
    rw [e1]
    cases hc : c.callee with
    | value f => simp only []; rw [h f (by simp [Op.operands, Call.operands, hc])]
    | builtin b => rfl
    | invoke r m => rfl
  case field t x f => simp only [xop]; rw [h x (by simp [Op.operands])]
  case makeSlice t n c => simp only [xop]; rw [h n (by simp [Op.operands]), h c (by simp [Op.operands])]
  case makeInterface t x => simp only [xop]; rw [h x (by simp [Op.operands])]
  case lookup t x i ok => simp only [xop]; rw [h x (by simp [Op.operands]), h i (by simp [Op.operands])]
  case mapUpdate t m i x => simp only [xop]; rw [h m (by simp [Op.operands]), h i (by simp [Op.operands]), h x (by simp [Op.operands])]
  case range t x => simp only [xop]; rw [h x (by simp [Op.operands])]
  case entry x => simp only [xop]; rw [h x (by simp [Op.operands])]
  case typeAssert x s t ok => simp only [xop]; rw [h x (by simp [Op.operands])]
  case next x s => simp only [xop]; rw [h x (by simp [Op.operands])]
  all_goals rfl

theorem live_free {x : V} {H : List Ob} (h : live [] x) : live H x := by
  unfold live at *
  split at h <;> first | (simp at h; done) | trivial | exact h.elim

/-- what an operation comes to where it asks nothing of the heap -/
theorem nilEq_free {d : TD} {x : V} {p : Prop} {b : Bool} (h : nilEq d [] x = some (p, b)) (hp : p) (H : List Ob) : ∃ p', nilEq d H x = some (p', b) ∧ p' := by
  cases x
  case nilp =>
    simp only [nilEq] at h ⊢
    split at h
    · injection h with h; injection h with h1 h2; subst h1 h2; exact ⟨_, rfl, trivial⟩
    · cases h
  case cref cs c =>
    simp only [nilEq] at h ⊢
    split at h
    · injection h with h; injection h with h1 h2; subst h1 h2; exact ⟨_, rfl, trivial⟩
    · cases h
  case ref o c =>
    simp only [nilEq] at h
    split at h
    · injection h with h; injection h with h1 h2; subst h1 h2; obtain ⟨cs, h⟩ := hp; simp at h
    · cases h
  case eref o v i c =>
    simp only [nilEq] at h
    split at h
    · injection h with h; injection h with h1 h2; subst h1 h2; obtain ⟨cs, l, h, _⟩ := hp; simp at h
    · cases h
  all_goals simp [nilEq] at h
theorem xnil_free {d : TD} {op : BinOp} {x : V} {pre : Prop} {v : V} (h : xnil d [] op x = .val pre v []) (hp : pre) (H : List Ob) : ∃ pre', xnil d H op x = .val pre' v H ∧ pre' := by
  unfold xnil at h ⊢
  split at h
  case h_2 => cases h
  rename_i p b hb
  split at h
  case h_3 => cases h
  all_goals
    injection h with e1 e2 e3
    subst e1 e2
    obtain ⟨p', k1, k2⟩ := nilEq_free hb hp H
    rw [k1]
    exact ⟨_, rfl, k2⟩
theorem xop_free {own : Bool} {ρ : Operand → V} {op : Op} {pre : Prop} {v : V} (h : xop T own ρ [] op = .val pre v []) (hp : pre) : ∀ H : List Ob, ∃ pre', xop T own ρ H op = .val pre' v H ∧ pre' := by
  intro H
  cases op
  all_goals first | (cases h; done) | skip
  case move x => injection h with e1 e2 e3; subst e1 e2; exact ⟨_, rfl, trivial⟩
  case assign x => injection h with e1 e2 e3; subst e1 e2; exact ⟨_, rfl, trivial⟩
  case pick c a b =>
    simp only [xop] at h ⊢
    split at h
    · injection h with e1 e2 e3; subst e1 e2; exact ⟨_, rfl, trivial⟩
    · cases h
  case build t ps =>
    simp only [xop] at h ⊢
    split at h
    · injection h with e1 e2 e3; subst e1 e2; exact ⟨_, rfl, hp⟩
    · injection h with e1 e2 e3; subst e1 e2; exact ⟨_, rfl, hp⟩
    · cases h
  case buildSlice t n ps =>
    simp only [xop] at h ⊢
    split at h
    · cases own with
      | false => injection h with e1 e2 e3; subst e1 e2; exact ⟨_, rfl, hp⟩
      | true => injection h with e1 e2 e3; exact absurd (congrArg List.length e3) (by simp)
    · cases h
  case load t a =>
    simp only [xop] at h ⊢
    split at h
    · cases h
    · rename_i hk
      rw [if_neg hk]
      unfold xload at h ⊢
      split at h
      · simp at h
      · injection h with e1 e2 e3; subst e1 e2; exact ⟨_, rfl, hp⟩
      · simp at h
      · cases h
  case store t a x =>
    simp only [xop] at h
    split at h
    · cases h
    · unfold xstore at h
      split at h
      · simp at h
      · simp at h
      · cases h
  case fieldAddr t a f =>
    simp only [xop] at h ⊢
    unfold xfieldAddr at h ⊢
    split at h
    · split at h
      · split at h
        · injection h with e1 e2 e3; subst e1 e2; exact ⟨_, rfl, live_free hp.1, hp.2⟩
        · injection h with e1 e2 e3; subst e1 e2; exact ⟨_, rfl, live_free hp.1, hp.2⟩
        · injection h with e1 e2 e3; subst e1 e2; exact ⟨_, rfl, live_free hp.1, hp.2⟩
        · cases h
      · cases h
    · cases h
  case indexAddr t x i =>
    simp only [xop] at h ⊢
    unfold xindexAddr at h ⊢
    split at h
    · split at h
      · injection h with e1 e2 e3; subst e1 e2; exact ⟨_, rfl, hp⟩
      · injection h with e1 e2 e3; subst e1 e2; exact ⟨_, rfl, hp⟩
      · simp at h
      · cases h
    · split at h
      · injection h with e1 e2 e3; subst e1 e2; exact ⟨_, rfl, live_free hp.1, hp.2⟩
      · injection h with e1 e2 e3; subst e1 e2; exact ⟨_, rfl, hp⟩
      · cases h
    · cases h
  case index t x i =>
    simp only [xop] at h ⊢
    unfold xindex at h ⊢
    split at h
    · injection h with e1 e2 e3; subst e1 e2; exact ⟨_, rfl, hp⟩
    · injection h with e1 e2 e3; subst e1 e2; exact ⟨_, rfl, hp⟩
    · cases h
  case slice t x lo hi mx =>
    simp only [xop] at h ⊢
    split at h
    · unfold xslice at h ⊢
      split at h
      · split at h
        · split at h
          · injection h with e1 e2 e3; subst e1 e2; first | exact ⟨_, rfl, hp⟩ | (rename_i ha hb; simp only [ha, hb]; exact ⟨_, rfl, hp⟩) | (rename_i ho; rw [if_neg ho]; exact ⟨_, rfl, hp⟩)
          · cases h
        · cases h
      · split at h
        · cases h
        · rename_i hk
          rw [if_neg hk]
          split at h
          · split at h
            · injection h with e1 e2 e3; subst e1 e2; first | exact ⟨_, rfl, hp⟩ | (rename_i ha hb; simp only [ha, hb]; exact ⟨_, rfl, hp⟩) | (rename_i ho; rw [if_neg ho]; exact ⟨_, rfl, hp⟩)
            · cases h
          · split at h
            · injection h with e1 e2 e3; subst e1 e2; first | exact ⟨_, rfl, hp⟩ | (rename_i ha hb; simp only [ha, hb]; exact ⟨_, rfl, hp⟩) | (rename_i ho; rw [if_neg ho]; exact ⟨_, rfl, hp⟩)
            · cases h
          · simp at h
          · cases h
      · split at h
        · cases h
        · unfold xsliceA at h
          split at h
          · simp at h
          · cases h
      · cases h
    · unfold xslice3 at h ⊢
      split at h
      · split at h
        · cases h
        · rename_i hk
          rw [if_neg hk]
          split at h
          · injection h with e1 e2 e3; subst e1 e2; exact ⟨_, rfl, hp⟩
          · injection h with e1 e2 e3; subst e1 e2; exact ⟨_, rfl, hp⟩
          · cases h
      · cases h
  case nilCheck x =>
    simp only [xop] at h ⊢
    split at h
    · injection h with e1 e2 e3; subst e1 e2; exact ⟨_, rfl, live_free hp⟩
    · injection h with e1 e2 e3; subst e1 e2; exact ⟨_, rfl, hp⟩
    · injection h with e1 e2 e3; subst e1 e2; exact ⟨_, rfl, live_free hp⟩
    · cases h
  case binOp op t x y yt =>
    simp only [xop] at h ⊢
    split at h
    · exact absurd h xnils_val
    · rename_i hy
      rw [if_neg hy]
      split at h
      · unfold xnilm at h ⊢
        (repeat' split at h) <;> first
          | (cases h; done)
          | (injection h with e1 e2 e3; subst e1 e2; exact ⟨_, rfl, trivial⟩)
          | (injection h with e1 e2 e3; subst e1 e2; obtain ⟨_, _, hp⟩ := hp; simp at hp)
      · unfold xbin at h ⊢
        split at h
        · split at h <;> first
            | (injection h with e1 e2 e3; subst e1 e2; exact ⟨_, rfl, hp⟩)
            | cases h
        · split at h <;> first
            | (injection h with e1 e2 e3; subst e1 e2; exact ⟨_, rfl, hp⟩)
            | cases h
        · split at h <;> first
            | (injection h with e1 e2 e3; subst e1 e2; exact ⟨_, rfl, hp⟩)
            | cases h
        · split at h
          · split at h
            · rename_i b hb
              try simp only [hb]
              split at h <;> first
                | (injection h with e1 e2 e3; subst e1 e2; exact ⟨_, rfl, hp⟩)
                | cases h
            · cases h
          · cases h
        · exact xnil_free h hp H
        · exact xnil_free h hp H
        · exact xnil_free h hp H
        · exact xnil_free h hp H
        · cases h
  case unOp op t x =>
    cases op <;> simp only [xop] at h ⊢ <;> first
      | cases h
      | (split at h
         · injection h with e1 e2 e3; subst e1 e2; exact ⟨_, rfl, hp⟩
         · cases h)
  case convert s d x =>
    simp only [xop] at h ⊢
    split at h
    · split at h
      · rename_i he
        rw [if_pos he]
        unfold xtoStr at h ⊢
        split at h
        · cases h
        · rename_i hs
          rw [if_neg hs]
          cases hx : ρ x <;> rw [hx] at hs h <;> simp only [elems] at h ⊢ <;> first
            | (injection h with e1 e2 e3; subst e1 e2; exact ⟨_, rfl, hp⟩)
            | (simp at h; done)
            | exact absurd rfl hs
      · cases h
    · cases h
    · unfold xconvert at h ⊢
      split at h
      · injection h with e1 e2 e3; subst e1 e2; first | exact ⟨_, rfl, hp⟩ | (rename_i ha hb; simp only [ha, hb]; exact ⟨_, rfl, hp⟩) | (rename_i ho; rw [if_neg ho]; exact ⟨_, rfl, hp⟩)
      · injection h with e1 e2 e3; subst e1 e2; first | exact ⟨_, rfl, hp⟩ | (rename_i ha hb; simp only [ha, hb]; exact ⟨_, rfl, hp⟩) | (rename_i ho; rw [if_neg ho]; exact ⟨_, rfl, hp⟩)
      · injection h with e1 e2 e3; subst e1 e2; first | exact ⟨_, rfl, hp⟩ | (rename_i ha hb; simp only [ha, hb]; exact ⟨_, rfl, hp⟩)
      · cases h
    · unfold xconvert at h ⊢
      split at h
      · injection h with e1 e2 e3; subst e1 e2; first | exact ⟨_, rfl, hp⟩ | (rename_i ha hb; simp only [ha, hb]; exact ⟨_, rfl, hp⟩) | (rename_i ho; rw [if_neg ho]; exact ⟨_, rfl, hp⟩)
      · injection h with e1 e2 e3; subst e1 e2; first | exact ⟨_, rfl, hp⟩ | (rename_i ha hb; simp only [ha, hb]; exact ⟨_, rfl, hp⟩) | (rename_i ho; rw [if_neg ho]; exact ⟨_, rfl, hp⟩)
      · injection h with e1 e2 e3; subst e1 e2; first | exact ⟨_, rfl, hp⟩ | (rename_i ha hb; simp only [ha, hb]; exact ⟨_, rfl, hp⟩)
      · cases h
  case makeFunc f first cap => injection h with e1 e2 e3; subst e1 e2; exact ⟨_, rfl, hp⟩
  case extract t i =>
    simp only [xop] at h ⊢
    split at h
    · injection h with e1 e2 e3; subst e1 e2; exact ⟨_, rfl, hp⟩
    · cases h
  case call c =>
    simp only [xop] at h ⊢
    split at h
    · split at h <;> cases h
    · unfold xbuiltin at h ⊢
      split at h
      · rename_i _ t x _
        have key2 : ∀ d x, xlen d [] x = .val pre v [] → ∃ pre', xlen d H x = .val pre' v H ∧ pre' := by
          intro d x h
          unfold xlen at h ⊢
          split at h
          · injection h with e1 e2 e3; subst e1 e2; exact ⟨_, rfl, hp⟩
          · injection h with e1 e2 e3; subst e1 e2; exact ⟨_, rfl, hp⟩
          · injection h with e1 e2 e3; subst e1 e2; exact ⟨_, rfl, hp⟩
          · simp at h
          · cases h
        split at h
        · unfold xmapLen at h ⊢
          split at h
          · simp at h
          · injection h with e1 e2 e3; subst e1 e2; exact ⟨_, rfl, hp⟩
          · cases h
        · exact key2 _ _ h
      · have key : ∀ d s x, xappend d [] s x = .val pre v [] → ∀ H, xappend d H s x = .val pre v H := by
          intro d s x hx H
          unfold xappend at hx ⊢
          have he : ∀ xs, elems [] x = some xs → elems H x = some xs := by
            intro xs h
            cases x <;> simp [elems] at h ⊢ <;> exact h
          split at hx
          · cases hx
          · rename_i xs hxs
            rw [he xs hxs]
            simp only
            split at hx
            · simp at hx
            · split at hx
              · rename_i hc
                rw [if_pos hc]
                injection hx with e1 e2 e3
                subst e1 e2
                rfl
              · simp at hx
            · cases hx
        split at h
        · split at h
          · rename_i he
            rw [if_pos he]; exact ⟨_, key _ _ _ h _, hp⟩
          · cases h
        · split at h
          · rename_i he
            rw [if_pos he]; exact ⟨_, key _ _ _ h _, hp⟩
          · cases h
        · cases h
      · unfold xmin at h ⊢
        split at h
        · injection h with e1 e2 e3; subst e1 e2; exact ⟨_, rfl, hp⟩
        · cases h
      · unfold xmin at h ⊢
        split at h
        · injection h with e1 e2 e3; subst e1 e2; exact ⟨_, rfl, hp⟩
        · cases h
      · unfold xdelete at h
        (repeat' split at h) <;> first | (cases h; done) | (simp at *; done)
      · split at h
        · split at h
          · rename_i he
            rw [if_pos he]
            unfold xclear at h ⊢
            split at h
            · simp at h
            · injection h with e1 e2 e3; subst e1 e2; exact ⟨_, rfl, hp⟩
            · cases h
          · cases h
        · cases h
      · cases h
    · cases h
  case field t x f =>
    simp only [xop] at h ⊢
    split at h
    · split at h
      · unfold xpart at h ⊢
        split at h
        · injection h with e1 e2 e3; subst e1 e2; exact ⟨_, rfl, hp⟩
        · cases h
      · cases h
    · cases h
  case makeMap t r =>
    simp only [xop] at h
    unfold xmakeMap at h
    (repeat' split at h) <;> first | (cases h; done) | (simp at *; done)
  case lookup t x i ok =>
    simp only [xop] at h ⊢
    unfold xlookup at h ⊢
    split at h
    · split at h
      · simp at h
      · injection h with e1 e2 e3; subst e1 e2; exact ⟨_, rfl, hp⟩
      · cases h
    · cases h
  case mapUpdate t m k x =>
    simp only [xop] at h
    unfold xmapUpdate at h
    (repeat' split at h) <;> first | (cases h; done) | (simp at *; done)
  case range t x =>
    simp only [xop] at h
    unfold xrange at h
    (repeat' split at h) <;> first | (cases h; done) | (simp at *; done)
  case entry x =>
    simp only [xop] at h
    unfold xentry at h
    (repeat' split at h) <;> first | (cases h; done) | (simp at *; done)
  case next x s => simp only [xop] at h; split at h <;> cases h
  case makeInterface t x => injection h with e1 e2 e3; subst e1 e2; exact ⟨_, rfl, hp⟩
  case typeAssert x s t ok =>
    simp only [xop] at h ⊢
    split at h
    · split at h
      · cases h
      · rename_i ho
        injection h with e1 e2 e3; subst e1 e2
        exact ⟨_, by rw [if_neg ho], hp⟩
    · cases h
  case makeSlice t n c =>
    simp only [xop] at h
    split at h
    · split at h
      · unfold xmake at h
        split at h
        · simp at h
        · cases h
      · cases h
    · cases h
end Go.EL

/- The value logic, part U: a region whose order is open, walked once in the order of the text. -/
set_option linter.unusedVariables false
set_option linter.unusedSimpArgs false
namespace Go.EL
open Go
variable {P : Program} {T : Nat → TD}

/-! ### what stands ahead of what -/
def bits (acc : List Nat) (o : Oper) : Nat := o.after.toList.foldl (fun s e => if Region.binds .any e = true then s ||| (2 ^ e.on ||| acc.getD e.on 0) else s) 0
def befL : List Oper → List Nat → List Nat
  | [], acc => acc
  | o :: os, acc => befL os (acc ++ [bits acc o])

theorem fold_bit {α : Type} (c : α → Bool) (f : α → Nat) (i : Nat) : ∀ (l : List α) (s : Nat), (l.foldl (fun s e => if c e = true then s ||| f e else s) s).testBit i = true → s.testBit i = true ∨ ∃ e ∈ l, c e = true ∧ (f e).testBit i = true
  | [], s, h => .inl h
  | x :: l, s, h => by
    rw [List.foldl_cons] at h
    rcases fold_bit c f i l _ h with h | ⟨e, he, h⟩
    · split at h
      · rename_i hc
        rw [Nat.testBit_or, Bool.or_eq_true] at h
        rcases h with h | h
        · exact .inl h
        · exact .inr ⟨x, by simp, hc, h⟩
      · exact .inl h
    · exact .inr ⟨e, by simp [he], h⟩

def Closed (ops : List Oper) (S : Nat → Prop) : Prop := ∀ j o, ops[j]? = some o → S j → ∀ e ∈ o.after.toList, Region.binds .any e = true → S e.on
def Ahead (ops : List Oper) (j i : Nat) : Prop := ∀ S : Nat → Prop, Closed ops S → (∀ o, ops[j]? = some o → ∀ e ∈ o.after.toList, Region.binds .any e = true → S e.on) → S i

theorem bef_ahead (all : List Oper) : ∀ (os : List Oper) (acc : List Nat), (∀ k o, os[k]? = some o → all[acc.length + k]? = some o) → (∀ j x, acc[j]? = some x → ∀ i, x.testBit i = true → Ahead all j i) →
    ∀ j x, (befL os acc)[j]? = some x → ∀ i, x.testBit i = true → Ahead all j i
  | [], acc, _, h => h
  | o :: os, acc, ho, h => by
    refine bef_ahead all os _ (fun k o' hk => ?_) (fun j x hj i hi => ?_)
    · rw [List.length_append, List.length_singleton, show acc.length + 1 + k = acc.length + (k + 1) by omega]
      exact ho (k + 1) o' hk
    · rcases Nat.lt_or_ge j acc.length with hl | hl
      · rw [List.getElem?_append_left hl] at hj
        exact h j x hj i hi
      · rw [List.getElem?_append_right hl] at hj
        have hj0 : j = acc.length := by
          rcases Nat.lt_or_ge (j - acc.length) 1 with h1 | h1
          · omega
          · rw [List.getElem?_eq_none (by simpa using h1)] at hj; cases hj
        subst hj0
        simp at hj
        subst hj
        intro S hS hE
        have hoo := ho 0 o rfl
        rw [Nat.add_zero] at hoo
        rcases fold_bit _ _ i _ _ hi with h0 | ⟨e, he, hc, hb⟩
        · simp at h0
        · have hse := hE o hoo e he hc
          rw [Nat.testBit_or, Bool.or_eq_true] at hb
          rcases hb with hb | hb
          · rw [Nat.testBit_two_pow] at hb
            have := of_decide_eq_true hb
            rw [← this]; exact hse
          · cases hx : acc[e.on]? with
            | none => rw [List.getD_eq_getElem?_getD, hx] at hb; simp at hb
            | some x =>
              rw [List.getD_eq_getElem?_getD, hx] at hb
              exact h e.on x hx i hb S hS (fun o' ho' e' he' hb' => hS e.on o' ho' hse e' he' hb')

def bef (ops : List Oper) : List Nat := befL ops []
theorem ahead_of_bit {ops : List Oper} {i j : Nat} (h : ((bef ops).getD j 0).testBit i = true) : Ahead ops j i := by
  cases hx : (bef ops)[j]? with
  | none => rw [List.getD_eq_getElem?_getD, hx] at h; simp at h
  | some x =>
    rw [List.getD_eq_getElem?_getD, hx] at h
    exact bef_ahead ops ops [] (fun k o hk => by simpa using hk) (fun j x hj => by simp at hj) j x hx i h

/-- two operations that stand in an order -/
def ordered (b : List Nat) (i k : Nat) : Bool := if i < k then (b.getD k 0).testBit i else if k < i then (b.getD i 0).testBit k else true
/-- operations that only lengthen the heap; and those that read the same at a longer one -/
def isAl (o : Option Oper) : Bool := match o with
  | some o => (match o.op with | .alloc _ => true | .box _ _ => true | _ => false)
  | none => false
def stabOp (o : Oper) : Bool := match o.op with
  | .move _ => true
  | .nilCheck _ => true
  | .lookup _ _ _ _ => true
  | .load _ _ => true
  | .fieldAddr _ _ _ => true
  | .indexAddr _ _ _ => true
  | .build _ _ => true
  | .buildSlice _ _ _ => true
  | .call c => (match c.callee with | .value _ => true | _ => false)
  | _ => false
def isStab (F : List Nat) (i : Nat) : Bool := F.contains (i + 1000)
/-- the look at a region -/
def drawOK (n : Nat) (ops : Array Oper) (W F : List Nat) : Bool :=
  let b := bef ops.toList
  (List.range ops.size).all fun j => match ops[j]? with
    | none => true
    | some oj =>
      (W.contains j || F.contains j || W.all fun k => ordered b j k || (isStab F j && stabOp oj && decide (j < k) && isAl ops[k]?)) &&
      (oj.after.toList.all fun e => !Region.binds .any e || decide (e.on < j)) && (match oj.dst with | some d => decide (d < n) | none => true) &&
      (List.range j).all fun i => match ops[i]? with
        | none => true
        | some oi => (oi.apart ops oj || (b.getD j 0).testBit i) && (!(W.contains i && W.contains j) || (b.getD j 0).testBit i)
def isFree (F : List Nat) (W : List Nat) (i : Nat) : Bool := F.contains i

/-- a call in a drawn region: its answer, and what follows -/
def CallE (S K : V → Prop) [Hold S K] : Prop := ∃ v, S v ∧ K v
def CallE2 (S K : V → List Ob → Prop) [Hold S K] : Prop := ∃ v H, S v H ∧ K v H
theorem CallE.intro {S K : V → Prop} (v : V) (h : S v) (k : K v) : CallE S K := ⟨v, h, k⟩
theorem CallE2.intro {S K : V → List Ob → Prop} (v : V) (H : List Ob) (h : S v H) (k : K v H) : CallE2 S K := ⟨v, H, h, k⟩

def FreeW (P : Program) (T : Nat → TD) (own : Bool) (o : Oper) (K : V → Prop) (env : Env) : Prop :=
  match xop T own (evl env) [] o.op with
  | .val pre v H' => H' = [] ∧ Need pre (K v)
  | .call f args => CallE (fun v => ∀ H, SCall P f args H fun r H' => r = v ∧ H' = H) K
  | _ => False
def SameW (P : Program) (T : Nat → TD) (own : Bool) (o : Oper) (K : V → Prop) (env : Env) (H : List Ob) : Prop :=
  match xop T own (evl env) H o.op with
  | .val pre v H' => H' = H ∧ Need pre (K v)
  | .call f args => CallE (fun v => SCall P f args H (fun r H' => r = v ∧ H' = H)) K
  | _ => False
def ChangeW (P : Program) (T : Nat → TD) (own : Bool) (o : Oper) (K : V → List Ob → Prop) (env : Env) (H : List Ob) : Prop :=
  match xop T own (evl env) H o.op with
  | .val pre v H' => Need pre (K v H')
  | .call f args => CallE2 (fun v H1 => SCall P f args H (fun r H' => r = v ∧ H' = H1)) K
  | _ => False

def StabW (P : Program) (T : Nat → TD) (own : Bool) (o : Oper) (K : V → Prop) (env : Env) (H : List Ob) : Prop :=
  match xop T own (evl env) H o.op with
  | .val pre v H' => H' = H ∧ Need pre (K v)
  | .call f args => CallE (fun v => ∀ L, SCall P f args (H ++ L) (fun r H' => r = v ∧ H' = H ++ L)) K
  | _ => False
/-- one step of the walk, by what kind of operation it is -/
def drawStep (P : Program) (T : Nat → TD) (own : Bool) (o : Oper) (inW free stab : Bool) (K : V → List Ob → Prop) (env : Env) (H : List Ob) : Prop :=
  if inW = true then ChangeW P T own o K env H else if free = true then FreeW P T own o (fun v => K v H) env else if stab = true then StabW P T own o (fun v => K v H) env H else SameW P T own o (fun v => K v H) env H

def ewDraw (P : Program) (T : Nat → TD) (own : Bool) (ops : List Oper) (F W : List Nat) : Nat → List Oper → (Env → List Ob → Prop) → Env → List Ob → Prop
  | _, [], K, env, H => K env H
  | k, o :: rest, K, env, H =>
    match o.guard with
    | none => drawStep P T own o (W.contains k) (isFree F W k) (isStab F k) (fun v H' => ewDraw P T own ops F W (k + 1) rest K (eput env o.dst v) H') env H
    | some (j, want) => GuardW (gval ops env j) want (drawStep P T own o (W.contains k) (isFree F W k) (isStab F k) (fun v H' => ewDraw P T own ops F W (k + 1) rest K (eput env o.dst v) H') env H) (ewDraw P T own ops F W (k + 1) rest K (eput env o.dst (.tuple [])) H)

/-- what is known of one operation, as it stands in the order of the text -/
def OpFact (P : Program) (T : Nat → TD) (own : Bool) (ops : List Oper) (F W : List Nat) (o : Oper) (k : Nat) (env : Env) (H : List Ob) (v : V) (H' : List Ob) : Prop :=
  (match o.guard with
   | none => True
   | some (j, want) => gval ops env j = .bool want) ∧
    ((W.contains k = true ∧ ewOp P T own o (fun v' H1 => v' = v ∧ H1 = H') env H) ∨
     (W.contains k = false ∧ H' = H ∧ isFree F W k = true ∧ ∀ H0, ewOp P T own o (fun v' H1 => v' = v ∧ H1 = H0) env H0) ∨
     (W.contains k = false ∧ H' = H ∧ isFree F W k = false ∧ isStab F k = false ∧ ewOp P T own o (fun v' H1 => v' = v ∧ H1 = H) env H) ∨
     (W.contains k = false ∧ H' = H ∧ isFree F W k = false ∧ isStab F k = true ∧ ((∃ pre, xop T own (evl env) H o.op = .val pre v H ∧ pre) ∨ ∃ f args, xop T own (evl env) H o.op = .call f args ∧ ∀ L, SCall P f args (H ++ L) (fun r H' => r = v ∧ H' = H ++ L)))) ∨
  (∃ j want, o.guard = some (j, want) ∧ ((∃ q, gval ops env j = .bool q ∧ q ≠ want) ∨ ∃ l, gval ops env j = .tuple l) ∧ v = .tuple [] ∧ H' = H)

theorem drawStep_fact {own : Bool} {ops : List Oper} {F W : List Nat} {o : Oper} {k : Nat} {K : V → List Ob → Prop} {env : Env} {H : List Ob} (h : drawStep P T own o (W.contains k) (isFree F W k) (isStab F k) K env H) :
    ∃ v H', ((W.contains k = true ∧ ewOp P T own o (fun v' H1 => v' = v ∧ H1 = H') env H) ∨
     (W.contains k = false ∧ H' = H ∧ isFree F W k = true ∧ ∀ H0, ewOp P T own o (fun v' H1 => v' = v ∧ H1 = H0) env H0) ∨
     (W.contains k = false ∧ H' = H ∧ isFree F W k = false ∧ isStab F k = false ∧ ewOp P T own o (fun v' H1 => v' = v ∧ H1 = H) env H) ∨
     (W.contains k = false ∧ H' = H ∧ isFree F W k = false ∧ isStab F k = true ∧ ((∃ pre, xop T own (evl env) H o.op = .val pre v H ∧ pre) ∨ ∃ f args, xop T own (evl env) H o.op = .call f args ∧ ∀ L, SCall P f args (H ++ L) (fun r H' => r = v ∧ H' = H ++ L)))) ∧ K v H' := by
  unfold drawStep at h
  split at h
  · rename_i hW
    unfold ChangeW at h
    split at h
    · rename_i pre v H' hx
      refine ⟨v, H', .inl ⟨hW, ?_⟩, h.2⟩
      unfold ewOp; rw [hx]; exact ⟨h.1, rfl, rfl⟩
    · rename_i f args hx
      obtain ⟨v, H1, h1, h2⟩ := h
      refine ⟨v, H1, .inl ⟨hW, ?_⟩, h2⟩
      unfold ewOp; rw [hx]; exact h1
    · exact h.elim
  · rename_i hW
    have hW : W.contains k = false := by simpa using hW
    split at h
    · rename_i hF
      unfold FreeW at h
      split at h
      · rename_i pre v H' hx
        obtain ⟨rfl, hp, hk⟩ := h
        refine ⟨v, H, .inr (.inl ⟨hW, rfl, hF, fun H0 => ?_⟩), hk⟩
        obtain ⟨pre', h1, h2⟩ := xop_free hx hp H0
        unfold ewOp; rw [h1]; exact ⟨h2, rfl, rfl⟩
      · rename_i f args hx
        obtain ⟨v, h1, h2⟩ := h
        refine ⟨v, H, .inr (.inl ⟨hW, rfl, hF, fun H0 => ?_⟩), h2⟩
        obtain ⟨c, fo, first, cap, ho, hc, hq, ha⟩ := xop_call hx
        have : xop T own (evl env) H0 o.op = .call f args := by
          rw [ho]
          simp only [xop, hc, hq, ha]
        unfold ewOp; rw [this]; exact h1 H0
      · exact h.elim
    · rename_i hF
      have hF : isFree F W k = false := by simpa using hF
      split at h
      · rename_i hS
        unfold StabW at h
        split at h
        · rename_i pre v H' hx
          obtain ⟨rfl, hp, hk⟩ := h
          exact ⟨v, H', .inr (.inr (.inr ⟨hW, rfl, hF, hS, .inl ⟨pre, hx, hp⟩⟩)), hk⟩
        · rename_i f args hx
          obtain ⟨v, h1, h2⟩ := h
          exact ⟨v, H, .inr (.inr (.inr ⟨hW, rfl, hF, hS, .inr ⟨f, args, hx, h1⟩⟩)), h2⟩
        · exact h.elim
      · rename_i hS
        have hS : isStab F k = false := by simpa using hS
        unfold SameW at h
        split at h
        · rename_i pre v H' hx
          obtain ⟨rfl, hp, hk⟩ := h
          refine ⟨v, H', .inr (.inr (.inl ⟨hW, rfl, hF, hS, ?_⟩)), hk⟩
          unfold ewOp; rw [hx]; exact ⟨hp, rfl, rfl⟩
        · rename_i f args hx
          obtain ⟨v, h1, h2⟩ := h
          refine ⟨v, H, .inr (.inr (.inl ⟨hW, rfl, hF, hS, ?_⟩)), h2⟩
          unfold ewOp; rw [hx]; exact h1
        · exact h.elim

theorem live_ext {H : List Ob} {a : V} (h : live H a) (L : List Ob) : live (H ++ L) a := by
  cases a
  case ref o c =>
    obtain ⟨cs, h⟩ := h
    exact ⟨cs, by rw [List.getElem?_append_left (List.getElem?_eq_some_iff.1 h).1]; exact h⟩
  case eref o ver i c =>
    obtain ⟨es, l, h, k⟩ := h
    exact ⟨es, l, by rw [List.getElem?_append_left (List.getElem?_eq_some_iff.1 h).1]; exact h, k⟩
  all_goals first | trivial | exact h.elim
theorem xop_ext {own : Bool} {ρ : Operand → V} {o : Oper} {pre : Prop} {v : V} {H : List Ob} (hs : stabOp o = true) (h : xop T own ρ H o.op = .val pre v H) (hp : pre) (L : List Ob) : ∃ pre', xop T own ρ (H ++ L) o.op = .val pre' v (H ++ L) ∧ pre' := by
  obtain ⟨dst, op, ty, pos, after, guard⟩ := o
  cases op
  all_goals first | (simp [stabOp] at hs; done) | skip
  case move x => injection h with e1 e2 e3; subst e1 e2; exact ⟨_, rfl, trivial⟩
  case build t ps =>
    simp only [xop] at h ⊢
    split at h
    · injection h with e1 e2 e3; subst e1 e2; exact ⟨_, rfl, hp⟩
    · injection h with e1 e2 e3; subst e1 e2; exact ⟨_, rfl, hp⟩
    · cases h
  case buildSlice t n ps =>
    simp only [xop] at h ⊢
    split at h
    · cases own with
      | false => injection h with e1 e2 e3; subst e1 e2; exact ⟨_, rfl, hp⟩
      | true => injection h with e1 e2 e3; exact absurd (congrArg List.length e3) (by simp)
    · cases h
  case load t a =>
    simp only [xop] at h ⊢
    split at h
    · cases h
    · rename_i hk
      rw [if_neg hk]
      unfold xload at h ⊢
      split at h
      · split at h
        · rename_i ho
          rw [List.getElem?_append_left (List.getElem?_eq_some_iff.1 ho).1, ho]
          injection h with e1 e2 e3; subst e1 e2; exact ⟨_, rfl, hp⟩
        · cases h
      · injection h with e1 e2 e3; subst e1 e2; exact ⟨_, rfl, hp⟩
      · split at h
        · rename_i ho
          rw [List.getElem?_append_left (List.getElem?_eq_some_iff.1 ho).1, ho]
          injection h with e1 e2 e3; subst e1 e2; exact ⟨_, rfl, hp⟩
        · cases h
      · cases h
  case fieldAddr t a f =>
    simp only [xop] at h ⊢
    unfold xfieldAddr at h ⊢
    split at h
    · split at h
      · split at h
        · injection h with e1 e2 e3; subst e1 e2; exact ⟨_, rfl, live_ext hp.1 L, hp.2⟩
        · injection h with e1 e2 e3; subst e1 e2; exact ⟨_, rfl, live_ext hp.1 L, hp.2⟩
        · injection h with e1 e2 e3; subst e1 e2; exact ⟨_, rfl, live_ext hp.1 L, hp.2⟩
        · cases h
      · cases h
    · cases h
  case indexAddr t x i =>
    simp only [xop] at h ⊢
    unfold xindexAddr at h ⊢
    split at h
    · split at h
      · injection h with e1 e2 e3; subst e1 e2; exact ⟨_, rfl, hp⟩
      · injection h with e1 e2 e3; subst e1 e2; exact ⟨_, rfl, hp⟩
      · split at h
        · rename_i ho
          rw [List.getElem?_append_left (List.getElem?_eq_some_iff.1 ho).1, ho]
          injection h with e1 e2 e3; subst e1 e2; exact ⟨_, rfl, hp⟩
        · cases h
      · cases h
    · split at h
      · injection h with e1 e2 e3; subst e1 e2; exact ⟨_, rfl, live_ext hp.1 L, hp.2⟩
      · injection h with e1 e2 e3; subst e1 e2; exact ⟨_, rfl, hp⟩
      · cases h
    · cases h
  case nilCheck x =>
    simp only [xop] at h ⊢
    split at h
    · injection h with e1 e2 e3; subst e1 e2; exact ⟨_, rfl, live_ext hp L⟩
    · injection h with e1 e2 e3; subst e1 e2; exact ⟨_, rfl, hp⟩
    · injection h with e1 e2 e3; subst e1 e2; exact ⟨_, rfl, live_ext hp L⟩
    · cases h
  case lookup t x i ok =>
    simp only [xop] at h ⊢
    unfold xlookup at h ⊢
    split at h
    · split at h
      · split at h
        · rename_i ho
          rw [List.getElem?_append_left (List.getElem?_eq_some_iff.1 ho).1, ho]
          injection h with e1 e2 e3; subst e1 e2; exact ⟨_, rfl, hp⟩
        · cases h
      · injection h with e1 e2 e3; subst e1 e2; exact ⟨_, rfl, hp⟩
      · cases h
    · cases h
  case call c =>
    simp only [stabOp] at hs
    simp only [xop] at h
    split at hs
    · rename_i f hc
      rw [hc] at h
      simp only at h
      split at h <;> cases h
    · cases hs

/-- the whole walk as a table -/
theorem ewDraw_table {own : Bool} {ops : List Oper} {F W : List Nat} {K : Env → List Ob → Prop} : ∀ (l : List Oper) (k : Nat) (env : Env) (H : List Ob), ewDraw P T own ops F W k l K env H →
    ∃ (es : Nat → Env) (hs : Nat → List Ob) (vs : Nat → V), es k = env ∧ hs k = H ∧ (∀ i o, l[i]? = some o → es (k + i + 1) = eput (es (k + i)) o.dst (vs (k + i)) ∧ OpFact P T own ops F W o (k + i) (es (k + i)) (hs (k + i)) (vs (k + i)) (hs (k + i + 1))) ∧
      K (es (k + l.length)) (hs (k + l.length))
  | [], k, env, H, h => ⟨fun _ => env, fun _ => H, fun _ => .dead, rfl, rfl, fun i o ho => by simp at ho, h⟩
  | o :: rest, k, env, H, h => by
    have fin : ∀ v H', OpFact P T own ops F W o k env H v H' → ewDraw P T own ops F W (k + 1) rest K (eput env o.dst v) H' → ∃ (es : Nat → Env) (hs : Nat → List Ob) (vs : Nat → V), es k = env ∧ hs k = H ∧ (∀ i o', (o :: rest)[i]? = some o' → es (k + i + 1) = eput (es (k + i)) o'.dst (vs (k + i)) ∧ OpFact P T own ops F W o' (k + i) (es (k + i)) (hs (k + i)) (vs (k + i)) (hs (k + i + 1))) ∧
      K (es (k + (o :: rest).length)) (hs (k + (o :: rest).length)) := by
      intro v H' hf hr
      obtain ⟨es, hs, vs, e1, e2, e3, e4⟩ := ewDraw_table rest (k + 1) _ _ hr
      refine ⟨fun i => if i = k then env else es i, fun i => if i = k then H else hs i, fun i => if i = k then v else vs i, by simp, by simp, fun i o' ho' => ?_, ?_⟩
      · cases i with
        | zero =>
          simp only [List.getElem?_cons_zero, Option.some.injEq] at ho'
          subst ho'
          simp only [Nat.add_zero, if_true]
          have n1 : ¬ (k + 1 = k) := by omega
          simp only [n1, if_false, e1, e2]
          exact ⟨trivial, hf⟩
        | succ i =>
          simp only [List.getElem?_cons_succ] at ho'
          have := e3 i o' ho'
          have n1 : ¬ (k + (i + 1) = k) := by omega
          have n2 : ¬ (k + (i + 1) + 1 = k) := by omega
          simp only [n1, n2, if_false]
          rw [show k + (i + 1) = k + 1 + i by omega]
          exact this
      · have n3 : ¬ (k + (o :: rest).length = k) := by simp
        simp only [n3, if_false]
        rw [List.length_cons, show k + (rest.length + 1) = k + 1 + rest.length by omega]
        exact e4
    simp only [ewDraw] at h
    cases hg : o.guard with
    | none =>
      rw [hg] at h
      obtain ⟨v, H', h1, h2⟩ := drawStep_fact (ops := ops) h
      exact fin v H' (.inl ⟨by rw [hg]; trivial, h1⟩) h2
    | some jw =>
      obtain ⟨j, want⟩ := jw
      rw [hg] at h
      simp only at h
      unfold GuardW at h
      split at h
      · rename_i q hq
        by_cases hqw : q = want
        · subst hqw
          obtain ⟨v, H', h1, h2⟩ := drawStep_fact (ops := ops) (h.1 (by simp))
          exact fin v H' (.inl ⟨by rw [hg]; exact hq, h1⟩) h2
        · exact fin (.tuple []) H (.inr ⟨j, want, hg, .inl ⟨q, hq, hqw⟩, rfl, rfl⟩) (h.2 (by simpa using hqw))
      · rename_i l hq
        exact fin (.tuple []) H (.inr ⟨j, want, hg, .inr ⟨l, hq⟩, rfl, rfl⟩) h
      · exact h.elim

/-! ### every order -/
section
variable {own : Bool} {n : Nat} {ops : Array Oper} {W : List Nat}

/-- the value of a slot, where some operations have run -/
def Seen {α : Type} (m : Nat) (dst : Nat → Option Nat) (val : Nat → α) (e0 : Nat → α) (fl : Nat → Bool) (t : Nat) (v : α) : Prop :=
  (∃ j, j < m ∧ fl j = true ∧ dst j = some t ∧ val j = v ∧ ∀ k, j < k → k < m → fl k = true → dst k ≠ some t) ∨
  ((∀ k, k < m → fl k = true → dst k ≠ some t) ∧ v = e0 t)
def SeenH (m : Nat) (W : List Nat) (hs : Nat → List Ob) (fl : Nat → Bool) (H : List Ob) : Prop :=
  (∃ j, j < m ∧ W.contains j = true ∧ fl j = true ∧ hs (j + 1) = H ∧ ∀ k, j < k → k < m → W.contains k = true → fl k = false) ∨
  ((∀ k, k < m → W.contains k = true → fl k = false) ∧ H = hs 0)

theorem SeenH.unique {m : Nat} {hs : Nat → List Ob} {fl : Nat → Bool} {H H' : List Ob} (h : SeenH m W hs fl H) (h' : SeenH m W hs fl H') : H = H' := by
  rcases h with ⟨j, a1, a2, a3, a4, a5⟩ | ⟨a1, a2⟩ <;> rcases h' with ⟨j', b1, b2, b3, b4, b5⟩ | ⟨b1, b2⟩
  · rcases Nat.lt_trichotomy j j' with h | h | h
    · have := a5 j' h b1 b2; rw [b3] at this; cases this
    · subst h; exact a4.symm.trans b4
    · have := b5 j h a1 a2; rw [a3] at this; cases this
  · have := b1 j a1 a2; rw [a3] at this; cases this
  · have := a1 j' b1 b2; rw [b3] at this; cases this
  · exact a2.trans b2.symm

theorem Seen.congr {α : Type} {m : Nat} {dst : Nat → Option Nat} {val : Nat → α} {e0 : Nat → α} {fl fl' : Nat → Bool} {t : Nat} {v : α} (hc : ∀ k, k < m → dst k = some t → fl k = fl' k) (h : Seen m dst val e0 fl t v) : Seen m dst val e0 fl' t v := by
  rcases h with ⟨j, a1, a2, a3, a4, a5⟩ | ⟨a1, a2⟩
  · exact .inl ⟨j, a1, by rw [← hc j a1 a3]; exact a2, a3, a4, fun k h1 h2 h3 h4 => a5 k h1 h2 (by rw [hc k h2 h4]; exact h3) h4⟩
  · exact .inr ⟨fun k h1 h2 h3 => a1 k h1 (by rw [hc k h1 h3]; exact h2) h3, a2⟩
theorem SeenH.congr {m : Nat} {hs : Nat → List Ob} {fl fl' : Nat → Bool} {H : List Ob} (hc : ∀ k, k < m → W.contains k = true → fl k = fl' k) (h : SeenH m W hs fl H) : SeenH m W hs fl' H := by
  rcases h with ⟨j, a1, a2, a3, a4, a5⟩ | ⟨a1, a2⟩
  · exact .inl ⟨j, a1, a2, by rw [← hc j a1 a2]; exact a3, a4, fun k h1 h2 h3 => by rw [← hc k h2 h3]; exact a5 k h1 h2 h3⟩
  · exact .inr ⟨fun k h1 h2 => by rw [← hc k h1 h2]; exact a1 k h1 h2, a2⟩

theorem eget_eput (e : Env) (d : Option Nat) (v : V) (t : Nat) : eget (eput e d v) t = if d = some t then v else eget e t := by
  cases d with
  | none => simp [eput]
  | some d => simp only [eput, get_set, Option.some.injEq]

theorem seen_text {m : Nat} {dst : Nat → Option Nat} {val : Nat → V} {es : Nat → Env} (hes : ∀ i, i < m → es (i + 1) = eput (es i) (dst i) (val i)) (t : Nat) : ∀ k, k ≤ m → Seen m dst val (eget (es 0)) (fun j => decide (j < k)) t (eget (es k) t)
  | 0, _ => .inr ⟨fun k _ h => by simp at h, rfl⟩
  | k + 1, hk => by
    have ih := seen_text hes t k (by omega)
    rw [hes k (by omega), eget_eput]
    by_cases hd : dst k = some t
    · rw [if_pos hd]
      exact .inl ⟨k, by omega, by simp, hd, rfl, fun j h1 h2 h3 => by simp at h3; omega⟩
    · rw [if_neg hd]
      refine ih.congr (fun j h1 h2 => ?_)
      have : j ≠ k := fun e => hd (e ▸ h2)
      simp; omega

theorem seenH_text {m : Nat} {hs : Nat → List Ob} (hhs : ∀ i, i < m → W.contains i = false → hs (i + 1) = hs i) : ∀ k, k ≤ m → SeenH m W hs (fun j => decide (j < k)) (hs k)
  | 0, _ => .inr ⟨fun k _ _ => by simp, rfl⟩
  | k + 1, hk => by
    cases hW : W.contains k with
    | true => exact .inl ⟨k, by omega, hW, by simp, rfl, fun j h1 h2 h3 => by simp; omega⟩
    | false =>
      rw [hhs k (by omega) hW]
      refine (seenH_text hhs k (by omega)).congr (fun j h1 h2 => ?_)
      have : j ≠ k := fun e => by subst e; rw [hW] at h2; cases h2
      simp; omega

theorem filter_lt {α : Type} {p p' : α → Bool} {i : α} : ∀ {l : List α}, (∀ j ∈ l, p' j = true → p j = true) → i ∈ l → p i = true → p' i = false → (l.filter p').length < (l.filter p).length
  | [], _, h, _, _ => by cases h
  | x :: l, hs, hi, h1, h2 => by
    have le : ∀ {l : List α}, (∀ j ∈ l, p' j = true → p j = true) → (l.filter p').length ≤ (l.filter p).length := by
      intro l
      induction l with
      | nil => intro _; simp
      | cons y l ih =>
        intro h
        have := ih (fun j hj => h j (by simp [hj]))
        by_cases hy : p' y = true
        · rw [List.filter_cons_of_pos hy, List.filter_cons_of_pos (h y (by simp) hy)]; simpa using this
        · rw [List.filter_cons_of_neg hy]
          by_cases hy' : p y = true
          · rw [List.filter_cons_of_pos hy']; simp; omega
          · rw [List.filter_cons_of_neg hy']; exact this
    rcases List.mem_cons.1 hi with rfl | hi
    · rw [List.filter_cons_of_neg (by simp [h2]), List.filter_cons_of_pos h1]
      have := le (l := l) (fun j hj => hs j (by simp [hj]))
      simp; omega
    · have := filter_lt (l := l) (fun j hj => hs j (by simp [hj])) hi h1 h2
      by_cases hx : p' x = true
      · rw [List.filter_cons_of_pos hx, List.filter_cons_of_pos (hs x (by simp) hx)]; simpa using this
      · rw [List.filter_cons_of_neg hx]
        by_cases hx' : p x = true
        · rw [List.filter_cons_of_pos hx']; simp; omega
        · rw [List.filter_cons_of_neg hx']; exact this

theorem gval_yield' {ops : Array Oper} {j : Nat} {b : Bool} {c : Cx} {env : Env} {a : Act} (he : EnvRep c env a) (h : gval ops.toList env j = .bool b) : yielded ops a.tmps j = some b := by
  unfold gval at h
  unfold yielded
  rw [Array.getElem?_toList] at h
  cases hx : (ops[j]?).bind (·.dst) with
  | none => rw [hx] at h; cases h
  | some t =>
    rw [hx] at h
    have := he t
    simp only at h
    rw [h] at this
    have := this.bool
    simp only [Option.bind_some]
    have ht : a.tmps[t]? = some (.bool b) := by
      by_cases hlt : t < a.tmps.size
      · rw [Array.getElem?_eq_getElem hlt]
        simpa [Array.getD, hlt] using this
      · simp [Array.getD, hlt, undef] at this
    rw [ht]

theorem gval_tuple' {ops : Array Oper} {j : Nat} {l : List V} {c : Cx} {env : Env} {a : Act} (he : EnvRep c env a) (h : gval ops.toList env j = .tuple l) : yielded ops a.tmps j = none := by
  unfold gval at h
  unfold yielded
  rw [Array.getElem?_toList] at h
  cases hx : (ops[j]?).bind (·.dst) with
  | none => rw [hx] at h; cases h
  | some t =>
    rw [hx] at h
    have := he t
    simp only at h
    rw [h] at this
    have h1 := this.1
    simp only [RepC] at h1
    obtain ⟨ws, h2, _⟩ := h1
    simp only [Option.bind_some]
    by_cases hlt : t < a.tmps.size
    · rw [Array.getElem?_eq_getElem hlt]
      have e : a.tmps.getD t undef = a.tmps[t] := by simp [Array.getD, hlt]
      rw [e] at h2
      cases hv : a.tmps[t] with
      | bool b => rw [hv] at h2; simp [Value.cells] at h2
      | _ => rfl
    · rw [Array.getElem?_eq_none (Nat.le_of_not_lt hlt)]

theorem wanted_iff {o : Oper} {y : Nat → Option Bool} : Region.wanted o y = match o.guard with | none => true | some (j, want) => y j == some want := by
  unfold Region.wanted; cases o.guard <;> rfl

theorem EW.draw (hTO : TyOK P T) (hm : P.follows .mixedOrders = true) {id : Nat} {F : List Nat} (keep : Nat → List Nat) (hd : drawOK n ops W F = true) {Q : Exit → Env → List Ob → Prop} {env : Env} {H : List Ob}
    (h : ewDraw P T own ops.toList F W 0 ops.toList (fun env' H' => Q .normal (restr (keep id) env') H') env H) : EW P n (.region id ops true) Q env H := by
  intro rd ds g a w hR
  obtain ⟨es, hs, vs, e1, e2, e3, e4⟩ := ewDraw_table _ _ _ _ h
  simp only [Nat.zero_add, Array.length_toList] at e1 e2 e3 e4
  subst e1 e2
  let m := ops.size
  let dst : Nat → Option Nat := fun j => (ops[j]?).bind (·.dst)
  have hop : ∀ j o, ops[j]? = some o → ops.toList[j]? = some o := fun j o h => by rw [Array.getElem?_toList]; exact h
  have hget : ∀ j, j < m → ∃ o, ops[j]? = some o := fun j hj => ⟨ops[j], by simp [m] at hj; simp [hj]⟩
  -- the look
  have look : ∀ j o, ops[j]? = some o → (W.contains j = true ∨ F.contains j = true ∨ ∀ k ∈ W, ordered (bef ops.toList) j k = true ∨ (((isStab F j = true ∧ stabOp o = true) ∧ decide (j < k) = true) ∧ isAl ops[k]? = true)) ∧ (∀ e ∈ o.after.toList, Region.binds .any e = true → e.on < j) ∧ (∀ d, o.dst = some d → d < n) ∧
      ∀ i oi, i < j → ops[i]? = some oi → (oi.apart ops o = true ∨ ((bef ops.toList).getD j 0).testBit i = true) ∧ (W.contains i = true → W.contains j = true → ((bef ops.toList).getD j 0).testBit i = true) := by
    intro j o hj
    have hjm : j < ops.size := (Array.getElem?_eq_some_iff.1 hj).1
    have := List.all_eq_true.1 hd j (List.mem_range.2 hjm)
    simp only [hj, Bool.and_eq_true, Bool.or_eq_true, List.all_eq_true, List.mem_range] at this
    obtain ⟨⟨⟨q0, q1⟩, q2⟩, q3⟩ := this
    refine ⟨?_, fun e he hb => ?_, fun d hd => ?_, fun i oi hi hoi => ?_⟩
    · rcases q0 with (q0 | q0) | q0
      · exact .inl q0
      · exact .inr (.inl q0)
      · exact .inr (.inr q0)
    · rcases q1 e he with h | h
      · rw [hb] at h; cases h
      · exact of_decide_eq_true h
    · rw [hd] at q2; exact of_decide_eq_true q2
    · have := q3 i hi
      simp only [hoi, Bool.and_eq_true, Bool.or_eq_true, Bool.not_eq_true'] at this
      refine ⟨this.1, fun h1 h2 => ?_⟩
      rcases this.2 with h | h
      · rw [h1, h2] at h; cases h
      · exact h
  have hes : ∀ i, i < m → es (i + 1) = eput (es i) (dst i) (vs i) := fun i hi => by
    obtain ⟨o, ho⟩ := hget i hi
    have := (e3 i o (hop i o ho)).1
    simpa [dst, ho] using this
  have hhs : ∀ i, i < m → W.contains i = false → hs (i + 1) = hs i := fun i hi hW => by
    obtain ⟨o, ho⟩ := hget i hi
    rcases (e3 i o (hop i o ho)).2 with ⟨_, h | h | h | h⟩ | ⟨j, want, _, _, _, h⟩
    · rw [h.1] at hW; cases hW
    · exact h.2.1
    · exact h.2.1
    · exact h.2.1
    · exact h
  -- every order
  have main : ∀ (fuel : Nat) (listed : Array Bool) (a : Act) (w' : World), listed.size = m → ((List.range m).filter fun j => !listed.getD j false).length ≤ fuel →
      Closed ops.toList (fun j => listed.getD j false = true) →
      a.tmps.size = n → a.defers = ds →
      (∃ H g', SeenH m W hs (fun j => listed.getD j false) H ∧ Good g' H w' ∧ Ext g (hs 0).length w g' H.length w' ∧ ∀ t v, Seen m dst vs (eget (es 0)) (fun j => listed.getD j false) t v → RepV (cxOf g' H.length w') v (a.tmps.getD t undef)) →
      wpAnyIn (fz rd) 0 P .any ops (fun e a' w' => ∃ env' H' g', Rel ds n env' H' g' a' w' ∧ Ext g (hs 0).length w g' H'.length w' ∧ Q e env' H') fuel listed a w' := by
    have ready_nil : ∀ (listed : Array Bool), listed.size = m → Region.ready .any ops listed = [] → ∀ j, j < m → listed.getD j false = true := by
      intro listed hsz hr j
      induction j using Nat.strongRecOn with
      | _ j ih =>
        intro hj
        cases hl : listed.getD j false with
        | true => rfl
        | false =>
          obtain ⟨o, ho⟩ := hget j hj
          have : j ∈ Region.ready .any ops listed := by
            unfold Region.ready
            rw [List.mem_filter]
            refine ⟨List.mem_range.2 hj, ?_⟩
            simp only [ho, Option.map_some, Option.getD_some, Bool.and_eq_true, Bool.not_eq_true']
            refine ⟨?_, ?_⟩
            · have hjs : j < listed.size := by rw [hsz]; exact hj
              simpa [Array.getD, hjs] using hl
            · rw [Array.all_eq_true']
              intro e he
              simp only [Bool.or_eq_true, Bool.not_eq_true']
              by_cases hb : Region.binds .any e = true
              · right
                have hlt := (look j o ho).2.1 e (by simpa using he) hb
                exact ih e.on hlt (by omega)
              · left; simpa using hb
          rw [hr] at this; cases this
    have fin : ∀ (listed : Array Bool) (a : Act) (w' : World), (∀ j, j < m → listed.getD j false = true) → a.tmps.size = n → a.defers = ds →
        (∃ H g', SeenH m W hs (fun j => listed.getD j false) H ∧ Good g' H w' ∧ Ext g (hs 0).length w g' H.length w' ∧ ∀ t v, Seen m dst vs (eget (es 0)) (fun j => listed.getD j false) t v → RepV (cxOf g' H.length w') v (a.tmps.getD t undef)) →
        ∃ env' H' g', Rel ds n env' H' g' a w' ∧ Ext g (hs 0).length w g' H'.length w' ∧ Q .normal env' H' := by
      intro listed a w' hall hsz hdef ⟨H, g', s1, s2, s3, s4⟩
      have hH : H = hs m := by
        refine s1.unique ((seenH_text hhs m (Nat.le_refl _)).congr (fun k h1 h2 => ?_))
        rw [hall k h1]; simpa using h1
      subst hH
      refine ⟨restr (keep id) (es m), hs m, g', ⟨hsz, hdef, EnvRep.restr _ (fun t => s4 t _ ((seen_text hes t m (Nat.le_refl _)).congr (fun k h1 h2 => ?_))), s2⟩, s3, e4⟩
      rw [hall k h1]; simpa using h1
    intro fuel
    induction fuel with
    | zero =>
      intro listed a w' hsz hfu hcl hts hdef hinv
      have hall : ∀ j, j < m → listed.getD j false = true := by
        intro j hj
        cases hl : listed.getD j false with
        | true => rfl
        | false =>
          have : j ∈ (List.range m).filter fun j => !listed.getD j false := List.mem_filter.2 ⟨List.mem_range.2 hj, by simp [hl]⟩
          have hnil : ((List.range m).filter fun j => !listed.getD j false) = [] := List.eq_nil_of_length_eq_zero (Nat.le_zero.1 hfu)
          rw [hnil] at this
          cases this
      refine ⟨?_, fin listed a w' hall hts hdef hinv⟩
      unfold Region.ready
      rw [List.filter_eq_nil_iff]
      intro j hj
      have hj := List.mem_range.1 hj
      have hjs : j < listed.size := by rw [hsz]; exact hj
      have := hall j hj
      have h2 : listed.getD j true = true := by simpa [Array.getD, hjs] using this
      simp only [h2]; simp
    | succ fuel ih =>
      intro listed a w' hsz hfu hcl hts hdef hinv
      refine ⟨fun hr => fin listed a w' (ready_nil listed hsz hr) hts hdef hinv, fun i hi => ?_⟩
      unfold Region.ready at hi
      rw [List.mem_filter] at hi
      obtain ⟨him, hi⟩ := hi
      have him : i < m := List.mem_range.1 him
      have his : i < listed.size := by rw [hsz]; exact him
      obtain ⟨o, ho⟩ := hget i him
      simp only [ho, Option.map_some, Option.getD_some, Bool.and_eq_true, Bool.not_eq_true'] at hi
      obtain ⟨hil, hie⟩ := hi
      have hil : listed.getD i false = false := by simpa [Array.getD, his] using hil
      have hedge : ∀ e ∈ o.after.toList, Region.binds .any e = true → listed.getD e.on false = true := by
        intro e he hb
        rw [Array.all_eq_true'] at hie
        have := hie e (by simpa using he)
        simpa [hb] using this
      -- ahead
      have up : ∀ k, Ahead ops.toList i k → listed.getD k false = true := fun k hk => hk _ hcl (fun o' ho' e he hb => by
        have : ops[i]? = some o' := by rw [← Array.getElem?_toList]; exact ho'
        rw [ho] at this
        injection this with this
        subst this
        exact hedge e he hb)
      have down : ∀ k, Ahead ops.toList k i → listed.getD k false = false := fun k hk => by
        cases hl : listed.getD k false with
        | false => rfl
        | true =>
          have := hk _ hcl (fun o' ho' e he hb => hcl k o' ho' hl e he hb)
          have this : listed.getD i false = true := this
          rw [hil] at this; cases this
      have agree : ∀ k, k < m → (k = i ∨ (k < i ∧ ((bef ops.toList).getD i 0).testBit k = true) ∨ (i < k ∧ ((bef ops.toList).getD k 0).testBit i = true)) → listed.getD k false = decide (k < i) := by
        intro k _ h
        rcases h with rfl | ⟨h1, h2⟩ | ⟨h1, h2⟩
        · rw [hil]; simp
        · rw [up k (ahead_of_bit h2)]; simp [h1]
        · rw [down k (ahead_of_bit h2)]; simp; omega
      have clash : ∀ k ok, k < m → ops[k]? = some ok → k ≠ i → (∃ d, ok.dst = some d ∧ (d ∈ o.looksAt ops ∨ o.dst = some d)) → listed.getD k false = decide (k < i) := by
        intro k ok hk hok hne ⟨d, hd, hl⟩
        refine agree k hk ?_
        rcases Nat.lt_or_gt_of_ne hne with hlt | hgt
        · right; left
          refine ⟨hlt, ?_⟩
          rcases ((look i o ho).2.2.2 k ok hlt hok).1 with h | h
          · obtain ⟨p1, p2, p3⟩ := Oper.apart_spec h
            rcases hl with hl | hl
            · exact absurd hl (p1 d hd)
            · exact absurd hl (p2 d hd)
          · exact h
        · right; right
          refine ⟨hgt, ?_⟩
          rcases ((look k ok hok).2.2.2 i o hgt ho).1 with h | h
          · obtain ⟨p1, p2, p3⟩ := Oper.apart_spec h
            rcases hl with hl | hl
            · exact absurd hl (p3 d hd)
            · exact absurd hd (p2 d hl)
          · exact h
      obtain ⟨HS, g', s1, s2, s3, s4⟩ := hinv
      obtain ⟨_, hfact⟩ := e3 i o (hop i o ho)
      have heq : W.contains i = true ∨ (∀ k ∈ W, ordered (bef ops.toList) i k = true) → HS = hs i := by
        intro hc
        refine s1.unique ((seenH_text hhs i (Nat.le_of_lt him)).congr (fun k hk hW => ?_))
        refine (agree k hk ?_).symm
        by_cases hki : k = i
        · exact .inl hki
        · right
          rcases hc with hc | hc
          · rcases Nat.lt_or_gt_of_ne hki with hlt | hgt
            · obtain ⟨ok, hok⟩ := hget k hk
              exact .inl ⟨hlt, ((look i o ho).2.2.2 k ok hlt hok).2 hW hc⟩
            · obtain ⟨ok, hok⟩ := hget k hk
              exact .inr ⟨hgt, ((look k ok hok).2.2.2 i o hgt ho).2 hc hW⟩
          · have := hc k (by simpa using hW)
            unfold ordered at this
            rcases Nat.lt_or_gt_of_ne hki with hlt | hgt
            · rw [if_neg (by omega), if_pos hlt] at this; exact .inl ⟨hlt, this⟩
            · rw [if_pos hgt] at this; exact .inr ⟨hgt, this⟩
      -- what it sees
      let es' : Env := restr (o.looksAt ops) (es i)
      have hE : EnvRep (cxOf g' HS.length w') es' a := by
        intro t
        show RepV _ (eget (restr (o.looksAt ops) (es i)) t) _
        rw [get_restrict]
        split
        · rename_i ht
          refine s4 t _ ((seen_text hes t i (Nat.le_of_lt him)).congr (fun k hk hdk => ?_))
          by_cases hki : k = i
          · subst hki; rw [hil]; simp
          · obtain ⟨ok, hok⟩ := hget k hk
            have hdk' : ok.dst = some t := by simpa [dst, hok] using hdk
            exact (clash k ok hk hok hki ⟨t, hdk', .inl ht⟩).symm
        · trivial
      have hlook : ∀ x ∈ o.op.operands, evl (es i) x = evl es' x := by
        intro x hx
        cases x with
        | tmp t =>
          show eget (es i) t = eget (restr (o.looksAt ops) (es i)) t
          rw [get_restrict, if_pos]
          unfold Oper.looksAt
          exact List.mem_append_left _ (List.mem_filterMap.2 ⟨.tmp t, by simpa using hx, rfl⟩)
        | _ => rfl
      have hgv : ∀ j want, o.guard = some (j, want) → gval ops.toList es' j = gval ops.toList (es i) j := by
        intro j want hg
        unfold gval
        rw [Array.getElem?_toList]
        cases hx : (ops[j]?).bind (·.dst) with
        | none => rfl
        | some t =>
          show eget (restr (o.looksAt ops) (es i)) t = eget (es i) t
          rw [get_restrict, if_pos]
          unfold Oper.looksAt
          rw [hg]
          simp only [hx]
          simp
      have hcong : ∀ K H, ewOp P T own o K (es i) H → ewOp P T own o K es' H := by
        intro K H h
        unfold ewOp at h ⊢
        rw [← xop_congr o.op hlook]
        exact h
      -- what comes behind it
      have after : ∀ (cv : Value) (H' : List Ob) (g'' : Nat → Option Key) (w'' : World), Good g'' H' w'' → Ext g' HS.length w' g'' H'.length w'' → RepV (cxOf g'' H'.length w'') (vs i) cv → SeenH m W hs (fun j => (listed.setIfInBounds i true).getD j false) H' →
          wpAnyIn (fz rd) 0 P .any ops (fun e a' w' => ∃ env' H' g', Rel ds n env' H' g' a' w' ∧ Ext g (hs 0).length w g' H'.length w' ∧ Q e env' H') fuel (listed.setIfInBounds i true) (a.put o.dst cv) w'' := by
        intro cv H' g'' w'' k1 k2 k3 k4
        have hset : ∀ j, (listed.setIfInBounds i true).getD j false = if j = i then true else listed.getD j false := by
          intro j
          by_cases e : j = i
          · subst e; simp [Array.getD, his]
          · rw [if_neg e]
            simp only [Array.getD_eq_getD_getElem?]
            rw [Array.getElem?_setIfInBounds_ne (Ne.symm e)]
        refine ih _ _ _ (by simp [hsz]) ?_ ?_ (by cases o.dst <;> simp [Act.put, hts]) (by cases o.dst <;> simp [Act.put, hdef]) ⟨H', g'', k4, k1, s3.trans k2, fun t v hv => ?_⟩
        · have := filter_lt (p := fun j => !listed.getD j false) (p' := fun j => !(listed.setIfInBounds i true).getD j false) (i := i) (l := List.range m) (fun j _ hj => by
            simp only [hset] at hj
            split at hj
            · simp at hj
            · exact hj) (List.mem_range.2 him) (by simp [hil]) (by simp [hset])
          omega
        · intro j oj hj hl e he hb
          simp only [hset] at hl ⊢
          split
          · rfl
          · split at hl
            · rename_i e1
              subst e1
              have : ops[j]? = some oj := by rw [← Array.getElem?_toList]; exact hj
              rw [ho] at this
              injection this with this
              subst this
              exact hedge e he hb
            · exact hcl j oj hj hl e he hb
        · have hdn := (look i o ho).2.2.1
          by_cases hdt : o.dst = some t
          · have hv' : v = vs i := by
              have hdi : dst i = some t := by simp [dst, ho, hdt]
              rcases hv with ⟨j, a1, a2, a3, a4, a5⟩ | ⟨a1, _⟩
              · by_cases hji : j = i
                · subst hji; exact a4.symm
                · obtain ⟨oj, hoj⟩ := hget j a1
                  have hdj : oj.dst = some t := by simpa [dst, hoj] using a3
                  have hcl' := clash j oj a1 hoj hji ⟨t, hdj, .inr hdt⟩
                  simp only [hset] at a2
                  rw [if_neg hji, hcl'] at a2
                  exact absurd hdi (a5 i (of_decide_eq_true a2) him (by simp [hset]))
              · exact absurd hdi (a1 i him (by simp [hset]))
            subst hv'
            have : (a.put o.dst cv).tmps.getD t undef = cv := by
              have := hdn t hdt
              rw [hdt]
              simp [Act.put, hts, this]
            rw [this]
            exact k3
          · have hold : Seen m dst vs (eget (es 0)) (fun j => listed.getD j false) t v := hv.congr (fun k hk hdk => by
              simp only [hset]
              rw [if_neg]
              intro e
              subst e
              exact hdt (by simpa [dst, ho] using hdk))
            have := RepV.mono k2.mono (s4 t v hold)
            have e : (a.put o.dst cv).tmps.getD t undef = a.tmps.getD t undef := by
              cases hd : o.dst with
              | none => rfl
              | some d =>
                have hne : d ≠ t := fun e => hdt (by rw [hd, e])
                simp [Act.put, Array.getElem?_setIfInBounds_ne hne]
            rw [e]
            exact this
      have seenW : W.contains i = true → SeenH m W hs (fun j => (listed.setIfInBounds i true).getD j false) (hs (i + 1)) := by
        intro hW
        refine .inl ⟨i, him, hW, by simp [Array.getD, his], rfl, fun k h1 h2 h3 => ?_⟩
        obtain ⟨ok, hok⟩ := hget k h2
        have := agree k h2 (.inr (.inr ⟨h1, ((look k ok hok).2.2.2 i o h1 ho).2 hW h3⟩))
        simp only [Array.getD_eq_getD_getElem?] at this ⊢
        rw [Array.getElem?_setIfInBounds_ne (by omega), this]
        simp; omega
      have seenN : W.contains i = false → SeenH m W hs (fun j => (listed.setIfInBounds i true).getD j false) HS := by
        intro hW
        refine s1.congr (fun k hk hWk => ?_)
        have : k ≠ i := fun e => by subst e; rw [hW] at hWk; cases hWk
        simp only [Array.getD_eq_getD_getElem?]
        rw [Array.getElem?_setIfInBounds_ne (Ne.symm this)]
      -- the step
      unfold wpOpIn
      rw [ho]
      simp only
      rcases hfact with ⟨hg, hk⟩ | ⟨j, want, hg, hq, hv, hH⟩
      · have hw : Region.wanted o (yielded ops a.tmps) = true := by
          rw [wanted_iff]
          cases hgd : o.guard with
          | none => rfl
          | some jw =>
            obtain ⟨j, want⟩ := jw
            rw [hgd] at hg
            simp only at hg ⊢
            rw [gval_yield' hE ((hgv j want hgd).trans hg)]
            simp
        rw [if_pos hw]
        rcases hk with ⟨hW, hk⟩ | ⟨hW, hH, hF, hk⟩ | ⟨hW, hH, hF, hS, hk⟩ | ⟨hW, hH, hF, hS, hk⟩
        · have hHS := heq (.inl hW)
          subst hHS
          refine op_wp' hTO hE s2 (hcong _ _ hk) fun v cv H' g'' w'' k1 k2 k3 ⟨k4, k5⟩ => ?_
          subst k4 k5
          exact after cv _ g'' w'' k1 k2 k3 (seenW hW)
        · refine op_wp' hTO hE s2 (hcong _ _ (hk HS)) fun v cv H' g'' w'' k1 k2 k3 ⟨k4, k5⟩ => ?_
          subst k4 k5
          exact after cv _ g'' w'' k1 k2 k3 (seenN hW)
        · have hord : ∀ k ∈ W, ordered (bef ops.toList) i k = true := by
            rcases (look i o ho).1 with h | h | h
            · rw [hW] at h; cases h
            · unfold isFree at hF; rw [hF] at h; cases h
            · intro k hk
              rcases h k hk with h | h
              · exact h
              · rw [hS] at h; cases h.1.1.1
          have hHS := heq (.inr hord)
          subst hHS
          refine op_wp' hTO hE s2 (hcong _ _ hk) fun v cv H' g'' w'' k1 k2 k3 ⟨k4, k5⟩ => ?_
          subst k4 k5
          exact after cv _ g'' w'' k1 k2 k3 (seenN hW)
        · have hord : ∀ k ∈ W, ordered (bef ops.toList) i k = true ∨ (((isStab F i = true ∧ stabOp o = true) ∧ decide (i < k) = true) ∧ isAl ops[k]? = true) := by
            rcases (look i o ho).1 with h | h | h
            · rw [hW] at h; cases h
            · unfold isFree at hF; rw [hF] at h; cases h
            · exact h
          have hex : ∃ L, HS = hs i ++ L ∧ (L = [] ∨ stabOp o = true) := by
            by_cases hc : ∃ j, i < j ∧ j < m ∧ W.contains j = true ∧ listed.getD j false = true
            · obtain ⟨j0, hj0⟩ := hc
              have hst : stabOp o = true := by
                rcases hord j0 (by simpa using hj0.2.2.1) with h | h
                · unfold ordered at h
                  rw [if_pos hj0.1] at h
                  have := down j0 (ahead_of_bit h)
                  rw [hj0.2.2.2] at this; cases this
                · exact h.1.1.2
              rcases s1 with ⟨j, a1, a2, a3, a4, a5⟩ | ⟨a1, a2⟩
              · have hij : i < j := by
                  rcases Nat.lt_trichotomy j j0 with h | h | h
                  · have := a5 j0 h hj0.2.1 hj0.2.2.1
                    have this : listed.getD j0 false = false := this
                    rw [hj0.2.2.2] at this; cases this
                  · omega
                  · omega
                have a3 : listed.getD j false = true := a3
                have key : ∀ t, i ≤ t → t ≤ j + 1 → ∃ L, hs t = hs i ++ L := by
                  intro t
                  induction t with
                  | zero => intro h1 _; exact ⟨[], by rw [List.append_nil, show i = 0 by omega]⟩
                  | succ t iht =>
                    intro h1 h2
                    by_cases hti : t + 1 = i
                    · exact ⟨[], by rw [List.append_nil, hti]⟩
                    · obtain ⟨L, hL⟩ := iht (by omega) (by omega)
                      have htm : t < m := by omega
                      cases hWt : W.contains t with
                      | false => exact ⟨L, by rw [hhs t htm hWt, hL]⟩
                      | true =>
                        have hne : t ≠ i := fun e => by subst e; rw [hW] at hWt; cases hWt
                        obtain ⟨ot, hot⟩ := hget t htm
                        have hlt : listed.getD t false = true := by
                          by_cases htj : t = j
                          · rw [htj]; exact a3
                          · obtain ⟨oj, hoj⟩ := hget j a1
                            have hb := ((look j oj hoj).2.2.2 t ot (by omega) hot).2 hWt a2
                            exact ahead_of_bit hb _ hcl (fun o' ho' e he hb => hcl j o' (by exact ho') a3 e he hb)
                        rcases hord t (by simpa using hWt) with h | h
                        · unfold ordered at h
                          rw [if_pos (by omega)] at h
                          have := down t (ahead_of_bit h)
                          rw [hlt] at this; cases this
                        · have hal := h.2
                          rw [hot] at hal
                          rcases (e3 t ot (hop t ot hot)).2 with ⟨_, k | k | k | k⟩ | ⟨_, _, _, _, _, k⟩
                          · have k2 := k.2
                            unfold ewOp at k2
                            unfold isAl at hal
                            obtain ⟨dst', op', ty', pos', after', guard'⟩ := ot
                            cases op' <;> simp only [Bool.false_eq_true] at hal
                            · simp only [xop] at k2
                              exact ⟨L ++ _, by rw [← k2.2.2, hL, List.append_assoc]⟩
                            · simp only [xop] at k2
                              exact ⟨L ++ _, by rw [← k2.2.2, hL, List.append_assoc]⟩
                          · exact ⟨L, by rw [k.2.1, hL]⟩
                          · exact ⟨L, by rw [k.2.1, hL]⟩
                          · exact ⟨L, by rw [k.2.1, hL]⟩
                          · exact ⟨L, by rw [k, hL]⟩
                obtain ⟨L, hL⟩ := key (j + 1) (by omega) (Nat.le_refl _)
                exact ⟨L, by rw [← a4, hL], .inr hst⟩
              · have := a1 j0 hj0.2.1 hj0.2.2.1
                have this : listed.getD j0 false = false := this
                rw [hj0.2.2.2] at this; cases this
            · refine ⟨[], ?_, .inl rfl⟩
              rw [List.append_nil]
              refine s1.unique ((seenH_text hhs i (Nat.le_of_lt him)).congr (fun k hk hWk => ?_))
              have hki : k ≠ i := fun e => by subst e; rw [hW] at hWk; cases hWk
              rcases Nat.lt_or_gt_of_ne hki with hlt | hgt
              · rcases hord k (by simpa using hWk) with h | h
                · unfold ordered at h
                  rw [if_neg (by omega), if_pos hlt] at h
                  exact (agree k hk (.inr (.inl ⟨hlt, h⟩))).symm
                · have := of_decide_eq_true h.1.2; omega
              · have : listed.getD k false = false := by
                  cases hl : listed.getD k false with
                  | false => rfl
                  | true => exact absurd ⟨k, hgt, hk, hWk, hl⟩ hc
                rw [this]; simp; omega
          obtain ⟨L, hL, hst⟩ := hex
          have hk' : ewOp P T own o (fun v' H1 => v' = vs i ∧ H1 = HS) (es i) HS := by
            rw [hL]
            rcases hk with ⟨pre, hx, hp⟩ | ⟨f, args, hx, hc⟩
            · rcases hst with rfl | hst
              · rw [List.append_nil]
                unfold ewOp; rw [hx]; exact ⟨hp, rfl, rfl⟩
              · obtain ⟨pre', q1, q2⟩ := xop_ext hst hx hp L
                unfold ewOp; rw [q1]; exact ⟨q2, rfl, rfl⟩
            · obtain ⟨c, fo, first, cap, hop', hcc, hq, ha⟩ := xop_call hx
              have : xop T own (evl (es i)) (hs i ++ L) o.op = .call f args := by
                rw [hop']
                simp only [xop, hcc, hq, ha]
              unfold ewOp; rw [this]; exact hc L
          refine op_wp' hTO hE s2 (hcong _ _ hk') fun v cv H' g'' w'' k1 k2 k3 ⟨k4, k5⟩ => ?_
          subst k4 k5
          exact after cv _ g'' w'' k1 k2 k3 (seenN hW)
      · have hw : Region.wanted o (yielded ops a.tmps) = false := by
          rw [wanted_iff, hg]
          simp only
          rcases hq with ⟨q, hq, hne⟩ | ⟨l, hq⟩
          · rw [gval_yield' hE ((hgv j want hg).trans hq)]
            simpa using hne
          · rw [gval_tuple' hE ((hgv j want hg).trans hq)]
            rfl
        rw [hw]
        rw [if_neg (by simp)]
        refine ⟨fun _ _ => trivial, ?_⟩
        cases hW : W.contains i with
        | true =>
          have hHS := heq (.inl hW)
          subst hHS
          refine after undef _ g' w' s2 (Ext.refl _ _ _) (by rw [hv]; exact ⟨by simp only [RepC]; exact ⟨[], rfl, rfl⟩, trivial⟩) ?_
          rw [← hH]
          exact seenW hW
        | false => exact after undef _ g' w' s2 (Ext.refl _ _ _) (by rw [hv]; exact ⟨by simp only [RepC]; exact ⟨[], rfl, rfl⟩, trivial⟩) (seenN hW)
  refine wpIn_region_any hm (main ops.size _ a _ (by simp [m]) (Nat.le_trans (List.length_filter_le _ _) (by simp [m])) ?_ hR.1 hR.2.1 ?_)
  · intro j o hj hS
    simp [Array.getD] at hS
  · have hdr := step_drawn hR.2.2.2 (w.drawn + 1)
    refine ⟨hs 0, g, .inr ⟨fun k hk hW => by simp [Array.getD], rfl⟩, hdr.1, hdr.2, fun t v hs => ?_⟩
    rcases hs with ⟨j, _, h1, _⟩ | ⟨_, rfl⟩
    · simp [Array.getD] at h1
    · exact RepV.mono hdr.2.mono (hR.2.2.1 t)
end
end Go.EL

/- The value logic, part UF: a region whose order is open, of which what is written is new: the objects may come in any order. -/
set_option linter.unusedVariables false
set_option linter.unusedSimpArgs false
namespace Go.EL
open Go
variable {P : Program} {T : Nat → TD}

/-! ### the step of an object that is made in its place -/
section
variable {g : Nat → Option Key} {H : List Ob} {w : World} {env : Env} {a : Act} {own : Bool}
theorem new_var_fill (hG : Good g H w) {p : Nat} (hp : H[p]? = some .hole) {cs : List V} {vs : Array Value} (hr : Reps (cxOf g H.length w) cs vs.toList) (t : TypeId) :
    ∃ g', Good g' (H.set p (.var cs)) (pushW w (.cells vs t)) ∧ Ext g H.length w g' H.length (pushW w (.cells vs t)) ∧ RepV (cxOf g' H.length (pushW w (.cells vs t))) (.ref p 0) (.pointer (some ⟨w.heap.size, 0, none⟩)) := by
  have hlt := (List.getElem?_eq_some_iff.1 hp).1
  have hk : g p = some hole := by have := hG.ob p; rw [hp] at this; exact this
  have := step_fill hG hlt hk (.var cs) (.cells vs t) ⟨0, some w.heap.size, 0, 0⟩ rfl (fun g' hg' m => ⟨w.heap.size, vs, t, (0, 0), rfl, heap_pushW_new _ _, Reps.mono m _ _ hr, fun j hj => by simp⟩)
  refine ⟨_, this.1, this.2, RepV.mk_leaf ?_ (by simp) (by simp)⟩
  simp only [RepC]
  refine ⟨has_set hlt (.inl (by simp)), _, rfl, rfl, fun k b hk _ hb => ?_⟩
  have hk : setKey g p (some ⟨0, some w.heap.size, 0, 0⟩) p = some k := hk
  rw [setKey_same] at hk
  injection hk with hk
  subst hk
  injection hb with hb
  subst hb
  rfl

theorem al_shape {o : Oper} (hal : isAl (some o) = true) {v0 : V} {H1 : List Ob} (h : ewOp P T own o (fun v H' => v = v0 ∧ H' = H1) env H) :
    ∃ cs, H1 = H ++ [.var cs] ∧ v0 = .ref H.length 0 := by
  obtain ⟨dst, op, ty, pos, after, guard⟩ := o
  unfold ewOp at h
  cases op <;> simp only [isAl, Bool.false_eq_true] at hal
  · simp only [xop] at h
    exact ⟨_, h.2.2.symm, h.2.1.symm⟩
  · simp only [xop] at h
    exact ⟨_, h.2.2.symm, h.2.1.symm⟩

theorem al_fill (hTO : TyOK P T) {o : Oper} (hal : isAl (some o) = true) {v0 : V} {H0 : List Ob} {cs : List V} (h : ewOp P T own o (fun v H' => v = v0 ∧ H' = H0 ++ [.var cs]) env H0) (hρ : EnvRep (cxOf g H.length w) env a) (hG : Good g H w)
    (hp : H[H0.length]? = some .hole) {rd : Option Nat} {next : Act → World → Prop} {Q : Exit → Act → World → Prop}
    (hn : ∀ cv g' w', Good g' (H.set H0.length (.var cs)) w' → Ext g H.length w g' H.length w' → RepV (cxOf g' H.length w') v0 cv → next (a.put o.dst cv) w') : o.wpIn (fz rd) 0 P a w next Q := by
  obtain ⟨dst, op, ty, pos, after, guard⟩ := o
  unfold ewOp at h
  have hρ := hρ.ev
  cases op <;> simp only [isAl, Bool.false_eq_true] at hal
  case alloc e =>
    simp only [xop] at h
    obtain ⟨hk, h1, h2⟩ := h
    have h2 := List.append_cancel_left h2
    simp only [List.cons.injEq, Ob.var.injEq, and_true] at h2
    obtain ⟨z, i1, i2⟩ := (hTO.at hk).run_zeroValue w
    obtain ⟨g', k1, k2, k3⟩ := new_var_fill hG hp (zEqs_reps (c := cxOf g H.length w) i2) e
    refine ⟨fun _ _ => trivial, ?_⟩
    rw [Oper.semAt_eq _ _ _ (fun c hc => by cases hc)]
    have hrun : (execOp a.eval ⟨dst, .alloc e, ty, pos, after, guard⟩).run P w = .ok (.value (.pointer (some ⟨w.heap.size, 0, none⟩))) (pushW w (.cells z.cells e)) := by
      simp [execOp, Instr.alloc, i1, newVar, newRow, pushW]
    rw [hrun]
    rw [h2] at k1
    exact hn _ _ _ k1 k2 (h1 ▸ k3)
  case box e x =>
    simp only [xop] at h
    obtain ⟨hk, h1, h2⟩ := h
    have h2 := List.append_cancel_left h2
    simp only [List.cons.injEq, Ob.var.injEq, and_true] at h2
    obtain ⟨g', k1, k2, k3⟩ := new_var_fill hG hp (cells_of (hρ x) hk) e
    refine ⟨fun _ _ => trivial, ?_⟩
    rw [Oper.semAt_eq _ _ _ (fun c hc => by cases hc)]
    have hrun : (execOp a.eval ⟨dst, .box e x, ty, pos, after, guard⟩).run P w = .ok (.value (.pointer (some ⟨w.heap.size, 0, none⟩))) (pushW w (.cells (a.eval x).cells e)) := by
      simp [execOp, Instr.box, newVar, newRow, pushW]
    rw [hrun]
    rw [h2] at k1
    exact hn _ _ _ k1 k2 (h1 ▸ k3)

theorem store_shape {o : Oper} {t : TypeId} {d : Nat} {x : Operand} (ho : o.op = .store t (.tmp d) x) {p : Nat} (hd : eget env d = .ref p 0) {v0 : V} {H1 : List Ob} (h : ewOp P T own o (fun v H' => v = v0 ∧ H' = H1) env H) :
    ∃ cs new, H[p]? = some (.var cs) ∧ H1 = H.set p (.var new) ∧ ∀ HS : List Ob, HS[p]? = some (.var cs) → ewOp P T own o (fun v H' => v = v0 ∧ H' = HS.set p (.var new)) env HS := by
  unfold ewOp at h
  have e : evl env (.tmp d) = .ref p 0 := hd
  rw [ho] at h
  simp only [xop, e] at h
  split at h
  case h_1 pre v H' hx =>
    split at hx
    · cases hx
    · rename_i hk
      simp only [xstore] at hx
      split at hx
      · rename_i cs hcs
        injection hx with e1 e2 e3
        subst e1 e2 e3
        refine ⟨cs, _, hcs, h.2.2.symm, fun HS hHS => ?_⟩
        unfold ewOp
        rw [ho]
        simp only [xop, e, xstore, hHS, hk, if_false]
        exact ⟨h.1, h.2.1, rfl⟩
      · cases hx
  all_goals first
    | exact h.elim
    | (rename_i hx; split at hx <;> first | cases hx | (simp only [xstore] at hx; split at hx <;> cases hx))
end

/-! ### the look at a region -/
def isAlW (ops : Array Oper) (W : List Nat) (i : Nat) : Bool := W.contains i && isAl ops[i]?
def rkA (ops : Array Oper) (W : List Nat) : Nat → Nat
  | 0 => 0
  | j + 1 => if isAlW ops W j = true then rkA ops W j + 1 else rkA ops W j
def alOf (ops : Array Oper) (W : List Nat) (d : Nat) : Option Nat := (List.range ops.size).find? fun i => isAlW ops W i && ((ops[i]?).bind (·.dst) == some d)
def stAt (o : Oper) : Option Nat := match o.op with
  | .store _ (.tmp d) _ => some d
  | _ => none
def objOf (ops : Array Oper) (W : List Nat) (j : Nat) : Option Nat :=
  if W.contains j = true then (if isAl ops[j]? = true then some (rkA ops W j) else ((ops[j]?).bind stAt).bind fun d => (alOf ops W d).map (rkA ops W)) else none
def drawOK2 (n : Nat) (ops : Array Oper) (W F : List Nat) : Bool :=
  let b := bef ops.toList
  (List.range ops.size).all fun j => match ops[j]? with
    | none => true
    | some oj =>
      (!W.contains j || ((match oj.guard with | none => true | some _ => false) && (isAl (some oj) || match stAt oj with
        | none => false
        | some d => match alOf ops W d with
          | none => false
          | some i => decide (i < j) && (List.range ops.size).all fun k => !((ops[k]?).bind (·.dst) == some d) || k == i))) &&
      (W.contains j || F.contains j || stabOp oj) &&
      (oj.after.toList.all fun e => !Region.binds .any e || decide (e.on < j)) && (match oj.dst with | some d => decide (d < n) | none => true) &&
      (List.range j).all fun i => match ops[i]? with
        | none => true
        | some oi => (oi.apart ops oj || (b.getD j 0).testBit i) && (!((objOf ops W i).isSome && objOf ops W i == objOf ops W j) || (b.getD j 0).testBit i)

def drawStep2 (P : Program) (T : Nat → TD) (own : Bool) (o : Oper) (inW free : Bool) (K : V → List Ob → Prop) (env : Env) (H0 H : List Ob) : Prop :=
  if inW = true then ChangeW P T own o K env H else if free = true then FreeW P T own o (fun v => K v H) env else StabW P T own o (fun v => K v H) env H0
def ewDraw2 (P : Program) (T : Nat → TD) (own : Bool) (ops : List Oper) (F W : List Nat) (H0 : List Ob) : Nat → List Oper → (Env → List Ob → Prop) → Env → List Ob → Prop
  | _, [], K, env, H => K env H
  | k, o :: rest, K, env, H =>
    match o.guard with
    | none => drawStep2 P T own o (W.contains k) (isFree F W k) (fun v H' => ewDraw2 P T own ops F W H0 (k + 1) rest K (eput env o.dst v) H') env H0 H
    | some (j, want) => match gval ops env j with
      | .bool q => IfW (q == want) (drawStep2 P T own o (W.contains k) (isFree F W k) (fun v H' => ewDraw2 P T own ops F W H0 (k + 1) rest K (eput env o.dst v) H') env H0 H) (ewDraw2 P T own ops F W H0 (k + 1) rest K (eput env o.dst .dead) H)
      | _ => False

/-- what is known of one operation -/
def OpFact2 (P : Program) (T : Nat → TD) (own : Bool) (ops : List Oper) (F W : List Nat) (H0 : List Ob) (o : Oper) (k : Nat) (env : Env) (H : List Ob) (v : V) (H' : List Ob) : Prop :=
  (match o.guard with
   | none => True
   | some (j, want) => gval ops env j = .bool want) ∧
    ((W.contains k = true ∧ ewOp P T own o (fun v' H1 => v' = v ∧ H1 = H') env H) ∨
     (W.contains k = false ∧ H' = H ∧ ∀ L, L = [] ∨ stabOp o = true ∨ isFree F W k = true → ewOp P T own o (fun v' H1 => v' = v ∧ H1 = H0 ++ L) env (H0 ++ L))) ∨
  (∃ j want q, o.guard = some (j, want) ∧ gval ops env j = .bool q ∧ q ≠ want ∧ v = .dead ∧ H' = H)

theorem drawStep2_fact {own : Bool} {F W : List Nat} {H0 : List Ob} {o : Oper} {k : Nat} {K : V → List Ob → Prop} {env : Env} {H : List Ob} (h : drawStep2 P T own o (W.contains k) (isFree F W k) K env H0 H) :
    ∃ v H', ((W.contains k = true ∧ ewOp P T own o (fun v' H1 => v' = v ∧ H1 = H') env H) ∨
     (W.contains k = false ∧ H' = H ∧ ∀ L, L = [] ∨ stabOp o = true ∨ isFree F W k = true → ewOp P T own o (fun v' H1 => v' = v ∧ H1 = H0 ++ L) env (H0 ++ L))) ∧ K v H' := by
  unfold drawStep2 at h
  split at h
  · rename_i hW
    unfold ChangeW at h
    split at h
    · rename_i pre v H' hx
      refine ⟨v, H', .inl ⟨hW, ?_⟩, h.2⟩
      unfold ewOp; rw [hx]; exact ⟨h.1, rfl, rfl⟩
    · rename_i f args hx
      obtain ⟨v, H1, h1, h2⟩ := h
      refine ⟨v, H1, .inl ⟨hW, ?_⟩, h2⟩
      unfold ewOp; rw [hx]; exact h1
    · exact h.elim
  · rename_i hW
    have hW : W.contains k = false := by simpa using hW
    split at h
    · rename_i hF
      unfold FreeW at h
      split at h
      · rename_i pre v H' hx
        obtain ⟨rfl, hp, hk⟩ := h
        refine ⟨v, H, .inr ⟨hW, rfl, fun L _ => ?_⟩, hk⟩
        obtain ⟨pre', h1, h2⟩ := xop_free hx hp (H0 ++ L)
        unfold ewOp; rw [h1]; exact ⟨h2, rfl, rfl⟩
      · rename_i f args hx
        obtain ⟨v, h1, h2⟩ := h
        refine ⟨v, H, .inr ⟨hW, rfl, fun L _ => ?_⟩, h2⟩
        obtain ⟨c, fo, first, cap, ho, hc, hq, ha⟩ := xop_call hx
        have : xop T own (evl env) (H0 ++ L) o.op = .call f args := by
          rw [ho]
          simp only [xop, hc, hq, ha]
        unfold ewOp; rw [this]; exact h1 _
      · exact h.elim
    · rename_i hF
      unfold StabW at h
      split at h
      · rename_i pre v H' hx
        obtain ⟨rfl, hp, hk⟩ := h
        refine ⟨v, H, .inr ⟨hW, rfl, fun L hL => ?_⟩, hk⟩
        rcases hL with rfl | hL | hL
        · rw [List.append_nil]; unfold ewOp; rw [hx]; exact ⟨hp, rfl, rfl⟩
        · obtain ⟨pre', h1, h2⟩ := xop_ext hL hx hp L
          unfold ewOp; rw [h1]; exact ⟨h2, rfl, rfl⟩
        · exact absurd hL hF
      · rename_i f args hx
        obtain ⟨v, h1, h2⟩ := h
        refine ⟨v, H, .inr ⟨hW, rfl, fun L _ => ?_⟩, h2⟩
        obtain ⟨c, fo, first, cap, ho, hc, hq, ha⟩ := xop_call hx
        have : xop T own (evl env) (H0 ++ L) o.op = .call f args := by
          rw [ho]
          simp only [xop, hc, hq, ha]
        unfold ewOp; rw [this]; exact h1 L
      · exact h.elim

theorem ewDraw2_table {own : Bool} {ops : List Oper} {F W : List Nat} {H0 : List Ob} {K : Env → List Ob → Prop} : ∀ (l : List Oper) (k : Nat) (env : Env) (H : List Ob), ewDraw2 P T own ops F W H0 k l K env H →
    ∃ (es : Nat → Env) (hs : Nat → List Ob) (vs : Nat → V), es k = env ∧ hs k = H ∧ (∀ i o, l[i]? = some o → es (k + i + 1) = eput (es (k + i)) o.dst (vs (k + i)) ∧ OpFact2 P T own ops F W H0 o (k + i) (es (k + i)) (hs (k + i)) (vs (k + i)) (hs (k + i + 1))) ∧
      K (es (k + l.length)) (hs (k + l.length))
  | [], k, env, H, h => ⟨fun _ => env, fun _ => H, fun _ => .dead, rfl, rfl, fun i o ho => by simp at ho, h⟩
  | o :: rest, k, env, H, h => by
    have fin : ∀ v H', OpFact2 P T own ops F W H0 o k env H v H' → ewDraw2 P T own ops F W H0 (k + 1) rest K (eput env o.dst v) H' → ∃ (es : Nat → Env) (hs : Nat → List Ob) (vs : Nat → V), es k = env ∧ hs k = H ∧ (∀ i o', (o :: rest)[i]? = some o' → es (k + i + 1) = eput (es (k + i)) o'.dst (vs (k + i)) ∧ OpFact2 P T own ops F W H0 o' (k + i) (es (k + i)) (hs (k + i)) (vs (k + i)) (hs (k + i + 1))) ∧
      K (es (k + (o :: rest).length)) (hs (k + (o :: rest).length)) := by
      intro v H' hf hr
      obtain ⟨es, hs, vs, e1, e2, e3, e4⟩ := ewDraw2_table rest (k + 1) _ _ hr
      refine ⟨fun i => if i = k then env else es i, fun i => if i = k then H else hs i, fun i => if i = k then v else vs i, by simp, by simp, fun i o' ho' => ?_, ?_⟩
      · cases i with
        | zero =>
          simp only [List.getElem?_cons_zero, Option.some.injEq] at ho'
          subst ho'
          simp only [Nat.add_zero, if_true]
          have n1 : ¬ (k + 1 = k) := by omega
          simp only [n1, if_false, e1, e2]
          exact ⟨trivial, hf⟩
        | succ i =>
          simp only [List.getElem?_cons_succ] at ho'
          have := e3 i o' ho'
          have n1 : ¬ (k + (i + 1) = k) := by omega
          have n2 : ¬ (k + (i + 1) + 1 = k) := by omega
          simp only [n1, n2, if_false]
          rw [show k + (i + 1) = k + 1 + i by omega]
          exact this
      · have n3 : ¬ (k + (o :: rest).length = k) := by simp
        simp only [n3, if_false]
        rw [List.length_cons, show k + (rest.length + 1) = k + 1 + rest.length by omega]
        exact e4
    simp only [ewDraw2] at h
    cases hg : o.guard with
    | none =>
      rw [hg] at h
      obtain ⟨v, H', h1, h2⟩ := drawStep2_fact h
      exact fin v H' (.inl ⟨by rw [hg]; trivial, h1⟩) h2
    | some jw =>
      obtain ⟨j, want⟩ := jw
      rw [hg] at h
      simp only at h
      split at h
      · rename_i q hq
        by_cases hqw : q = want
        · subst hqw
          obtain ⟨v, H', h1, h2⟩ := drawStep2_fact (h.1 (by simp))
          exact fin v H' (.inl ⟨by rw [hg]; exact hq, h1⟩) h2
        · exact fin .dead H (.inr ⟨j, want, q, hg, hq, hqw, rfl, rfl⟩) (h.2 (by simpa using hqw))
      · exact h.elim

/-! ### every order -/
theorem Seen.unique {α : Type} {m : Nat} {dst : Nat → Option Nat} {val : Nat → α} {e0 : Nat → α} {fl : Nat → Bool} {t : Nat} {v v' : α} (h : Seen m dst val e0 fl t v) (h' : Seen m dst val e0 fl t v') : v = v' := by
  rcases h with ⟨j, a1, a2, a3, a4, a5⟩ | ⟨a1, a2⟩ <;> rcases h' with ⟨j', b1, b2, b3, b4, b5⟩ | ⟨b1, b2⟩
  · rcases Nat.lt_trichotomy j j' with h | h | h
    · exact absurd b3 (a5 j' h b1 b2)
    · subst h; exact a4.symm.trans b4
    · exact absurd a3 (b5 j h a1 a2)
  · exact absurd a3 (b1 j a1 a2)
  · exact absurd b3 (a1 j' b1 b2)
  · exact a2.trans b2.symm
theorem seenO_text {m : Nat} {dst : Nat → Option Nat} {f : Nat → Ob} {t : Nat} (h0 : f 0 = .hole) (h : ∀ i, i < m → dst i ≠ some t → f (i + 1) = f i) : ∀ k, k ≤ m → Seen m dst (fun j => f (j + 1)) (fun _ => .hole) (fun j => decide (j < k)) t (f k)
  | 0, _ => .inr ⟨fun k _ h => by simp at h, h0⟩
  | k + 1, hk => by
    have ih := seenO_text h0 h k (by omega)
    by_cases hd : dst k = some t
    · exact .inl ⟨k, by omega, by simp, hd, rfl, fun j h1 h2 h3 => by simp at h3; omega⟩
    · rw [h k (by omega) hd]
      refine ih.congr (fun j h1 h2 => ?_)
      have : j ≠ k := fun e => hd (e ▸ h2)
      simp; omega
theorem rkA_mono {ops : Array Oper} {W : List Nat} {i : Nat} : ∀ j, i ≤ j → rkA ops W i ≤ rkA ops W j
  | 0, h => by rw [Nat.le_zero.1 h]; exact Nat.le_refl _
  | j + 1, h => by
    by_cases e : i = j + 1
    · rw [e]; exact Nat.le_refl _
    · have := rkA_mono (ops := ops) (W := W) (i := i) j (by omega)
      simp only [rkA]
      split <;> omega
theorem step_holes {g : Nat → Option Key} {H : List Ob} {w : World} (hG : Good g H w) : ∀ r, ∃ g', Good g' (H ++ List.replicate r .hole) w ∧ Ext g H.length w g' (H ++ List.replicate r Ob.hole).length w
  | 0 => ⟨g, by simpa using hG, by simpa using Ext.refl g H.length w⟩
  | r + 1 => by
    obtain ⟨g1, h1, h2⟩ := step_holes hG r
    have h3 := step_hole h1
    have e : H ++ List.replicate (r + 1) Ob.hole = (H ++ List.replicate r Ob.hole) ++ [Ob.hole] := by rw [List.append_assoc, ← List.replicate_succ']
    refine ⟨_, by rw [e]; exact h3.1, ?_⟩
    rw [e, @List.length_append _ (H ++ List.replicate r Ob.hole) _]
    exact h2.trans h3.2
section
variable {own : Bool} {n : Nat} {ops : Array Oper} {W : List Nat}
theorem EW.draw2 (hTO : TyOK P T) (hm : P.follows .mixedOrders = true) {id : Nat} {F : List Nat} (keep : Nat → List Nat) (hd : drawOK2 n ops W F = true) {Q : Exit → Env → List Ob → Prop} {env : Env} {H : List Ob}
    (h : ewDraw2 P T own ops.toList F W H 0 ops.toList (fun env' H' => Q .normal (restr (keep id) env') H') env H) : EW P n (.region id ops true) Q env H := by
  intro rd ds g a w hR
  obtain ⟨es, hs, vs, e1, e2, e3, e4⟩ := ewDraw2_table _ _ _ _ h
  simp only [Nat.zero_add, Array.length_toList] at e1 e2 e3 e4
  subst e1 e2
  let m := ops.size
  let dst : Nat → Option Nat := fun j => (ops[j]?).bind (·.dst)
  let obj : Nat → Option Nat := objOf ops W
  have hop : ∀ j o, ops[j]? = some o → ops.toList[j]? = some o := fun j o h => by rw [Array.getElem?_toList]; exact h
  have hget : ∀ j, j < m → ∃ o, ops[j]? = some o := fun j hj => ⟨ops[j], by simp [m] at hj; simp [hj]⟩
  -- the look
  have look : ∀ j o, ops[j]? = some o → (W.contains j = true → o.guard = none ∧ (isAl (some o) = true ∨ ∃ d i, stAt o = some d ∧ alOf ops W d = some i ∧ i < j ∧ ∀ k, k < m → dst k = some d → k = i)) ∧
      (W.contains j = true ∨ F.contains j = true ∨ stabOp o = true) ∧
      (∀ e ∈ o.after.toList, Region.binds .any e = true → e.on < j) ∧ (∀ d, o.dst = some d → d < n) ∧
      ∀ i oi, i < j → ops[i]? = some oi → (oi.apart ops o = true ∨ ((bef ops.toList).getD j 0).testBit i = true) ∧ ((obj i).isSome = true → obj i = obj j → ((bef ops.toList).getD j 0).testBit i = true) := by
    intro j o hj
    have hjm : j < ops.size := (Array.getElem?_eq_some_iff.1 hj).1
    have := List.all_eq_true.1 hd j (List.mem_range.2 hjm)
    simp only [hj, Bool.and_eq_true, Bool.or_eq_true, List.all_eq_true, List.mem_range] at this
    obtain ⟨⟨⟨⟨q0, qr⟩, q1⟩, q2⟩, q3⟩ := this
    refine ⟨fun hW => ?_, ?_, fun e he hb => ?_, fun d hd => ?_, fun i oi hi hoi => ?_⟩
    · rcases q0 with q0 | ⟨q0, q4⟩
      · rw [hW] at q0; cases q0
      · have hgn : o.guard = none := by
          cases hg : o.guard with
          | none => rfl
          | some _ => rw [hg] at q0; cases q0
        refine ⟨hgn, ?_⟩
        rcases q4 with q4 | q4
        · exact .inl q4
        · right
          cases hst : stAt o with
          | none => rw [hst] at q4; cases q4
          | some d =>
            rw [hst] at q4
            simp only at q4
            cases hal : alOf ops W d with
            | none => rw [hal] at q4; cases q4
            | some i =>
              rw [hal] at q4
              simp only [Bool.and_eq_true, List.all_eq_true, List.mem_range, Bool.or_eq_true, Bool.not_eq_true'] at q4
              refine ⟨d, i, rfl, hal, of_decide_eq_true q4.1, fun k hk hdk => ?_⟩
              rcases q4.2 k hk with h | h
              · have hdk : ((ops[k]?).bind fun x => x.dst) = some d := hdk
                rw [hdk] at h; simp at h
              · exact beq_iff_eq.1 h
    · rcases qr with (qr | qr) | qr
      · exact .inl qr
      · exact .inr (.inl qr)
      · exact .inr (.inr qr)
    · rcases q1 e he with h | h
      · rw [hb] at h; cases h
      · exact of_decide_eq_true h
    · rw [hd] at q2; exact of_decide_eq_true q2
    · have := q3 i hi
      simp only [hoi, Bool.and_eq_true, Bool.or_eq_true, Bool.not_eq_true'] at this
      refine ⟨this.1, fun h1 h2 => ?_⟩
      rcases this.2 with h | h
      · have h1' : (objOf ops W i).isSome = true := h1
        have h2' : objOf ops W i = objOf ops W j := h2
        rw [h1', h2'] at h; simp at h
      · exact h
  have hes : ∀ i, i < m → es (i + 1) = eput (es i) (dst i) (vs i) := fun i hi => by
    obtain ⟨o, ho⟩ := hget i hi
    have := (e3 i o (hop i o ho)).1
    simpa [dst, ho] using this
  have hhs : ∀ i, i < m → W.contains i = false → hs (i + 1) = hs i := fun i hi hW => by
    obtain ⟨o, ho⟩ := hget i hi
    rcases (e3 i o (hop i o ho)).2 with ⟨_, h | h⟩ | ⟨j, want, q, _, _, _, _, h⟩
    · rw [h.1] at hW; cases hW
    · exact h.2.1
    · exact h
  have hew : ∀ i o, i < m → ops[i]? = some o → W.contains i = true → ewOp P T own o (fun v H' => v = vs i ∧ H' = hs (i + 1)) (es i) (hs i) := fun i o hi ho hW => by
    rcases (e3 i o (hop i o ho)).2 with ⟨_, h | h⟩ | ⟨j, want, q, hg, _, _, _, h⟩
    · exact h.2
    · rw [h.1] at hW; cases hW
    · rw [((look i o ho).1 hW).1] at hg; cases hg
  have alW : ∀ i o, ops[i]? = some o → W.contains i = true → isAl (some o) = true → isAlW ops W i = true := fun i o ho hW hal => by
    unfold isAlW; rw [ho, hW, hal]; rfl
  have hsA : ∀ i o, i < m → ops[i]? = some o → W.contains i = true → isAl (some o) = true → ∃ cs, hs (i + 1) = hs i ++ [.var cs] ∧ vs i = .ref (hs i).length 0 := fun i o hi ho hW hal => al_shape hal (hew i o hi ho hW)
  have alspec : ∀ d i, alOf ops W d = some i → isAlW ops W i = true ∧ i < m ∧ dst i = some d := fun d i h => by
    unfold alOf at h
    have h1 := List.find?_some h
    have h2 := List.mem_of_find?_eq_some h
    simp only [Bool.and_eq_true, beq_iff_eq] at h1
    exact ⟨h1.1, List.mem_range.1 h2, h1.2⟩
  have ofAlW : ∀ i, i < m → isAlW ops W i = true → ∃ o, ops[i]? = some o ∧ W.contains i = true ∧ isAl (some o) = true := fun i hi h => by
    obtain ⟨o, ho⟩ := hget i hi
    unfold isAlW at h
    rw [ho, Bool.and_eq_true] at h
    exact ⟨o, ho, h.1, h.2⟩
  have hsS : ∀ j o d i, j < m → ops[j]? = some o → W.contains j = true → stAt o = some d → alOf ops W d = some i → i < j → (∀ k, k < m → dst k = some d → k = i) →
      ∃ cs new, (hs j)[(hs i).length]? = some (.var cs) ∧ hs (j + 1) = (hs j).set (hs i).length (.var new) ∧ ∀ HS : List Ob, HS[(hs i).length]? = some (.var cs) → ewOp P T own o (fun v H' => v = vs j ∧ H' = HS.set (hs i).length (.var new)) (es j) HS := by
    intro j o d i hj ho hW hst hal hij hun
    obtain ⟨q1, q2, q3⟩ := alspec d i hal
    obtain ⟨oi, hoi, hWi, hali⟩ := ofAlW i q2 q1
    obtain ⟨cs0, _, hv⟩ := hsA i oi q2 hoi hWi hali
    have hed : eget (es j) d = .ref (hs i).length 0 := by
      rw [← hv]
      refine (seen_text hes d j (Nat.le_of_lt hj)).unique (.inl ⟨i, q2, by simpa using hij, q3, rfl, fun k h1 h2 h3 h4 => ?_⟩)
      have := hun k h2 h4; omega
    obtain ⟨dst', op, ty, pos, after, guard⟩ := o
    cases op <;> simp only [stAt] at hst <;> first | (cases hst; done) | skip
    rename_i t ad x
    cases ad <;> simp only at hst <;> first | (cases hst; done) | skip
    injection hst with hst
    subst hst
    exact store_shape rfl hed (hew j _ hj ho hW)
  -- the text's heaps
  have hLs0 : ∀ j, j ≤ m → ∃ L, hs j = hs 0 ++ L ∧ L.length = rkA ops W j := by
    intro j
    induction j using Nat.strongRecOn with
    | _ j ih =>
      cases j with
      | zero => exact fun _ => ⟨[], by simp, rfl⟩
      | succ j =>
        intro hj
        obtain ⟨L, h1, h2⟩ := ih j (by omega) (by omega)
        obtain ⟨o, ho⟩ := hget j (by omega)
        cases hW : W.contains j with
        | false =>
          have : isAlW ops W j = false := by unfold isAlW; rw [hW]; rfl
          exact ⟨L, by rw [hhs j (by omega) hW, h1], by rw [h2]; simp only [rkA, this]; simp⟩
        | true =>
          rcases ((look j o ho).1 hW).2 with hal | ⟨d, i, k1, k2, k3, k4⟩
          · obtain ⟨cs, k, _⟩ := hsA j o (by omega) ho hW hal
            exact ⟨L ++ [.var cs], by rw [k, h1, List.append_assoc], by simp [rkA, alW j o ho hW hal, h2]⟩
          · obtain ⟨cs, new, q1, q2, _⟩ := hsS j o d i (by omega) ho hW k1 k2 k3 k4
            obtain ⟨Li, p1, p2⟩ := ih i (by omega) (by omega)
            have hal : isAlW ops W j = false := by
              unfold isAlW
              rw [hW, ho]
              obtain ⟨dst', op, ty, pos, after, guard⟩ := o
              cases op <;> simp only [stAt] at k1 <;> first | (cases k1; done) | rfl
            refine ⟨L.set (rkA ops W i) (.var new), ?_, by rw [List.length_set, h2]; simp only [rkA, hal]; simp⟩
            rw [q2, h1, p1, List.length_append, p2, List.set_append_right _ _ (by omega)]
            congr 2
            omega
  obtain ⟨Ls, hLs⟩ : ∃ Ls : Nat → List Ob, ∀ j, j ≤ m → hs j = hs 0 ++ Ls j ∧ (Ls j).length = rkA ops W j :=
    ⟨fun j => (hs j).drop (hs 0).length, fun j hj => by
      obtain ⟨L, h1, h2⟩ := hLs0 j hj
      simp only
      rw [h1, List.drop_left]
      exact ⟨rfl, h2⟩⟩
  have hlen : ∀ j, j ≤ m → (hs j).length = (hs 0).length + rkA ops W j := fun j hj => by
    obtain ⟨h1, h2⟩ := hLs j hj
    have := congrArg List.length h1
    rw [List.length_append, h2] at this
    exact this
  have objAl : ∀ i o, ops[i]? = some o → W.contains i = true → isAl (some o) = true → obj i = some (rkA ops W i) := fun i o ho hW hal => by
    show objOf ops W i = _
    unfold objOf; rw [if_pos hW, ho, if_pos hal]
  have objSt : ∀ j o d i, ops[j]? = some o → W.contains j = true → stAt o = some d → alOf ops W d = some i → obj j = some (rkA ops W i) := fun j o d i ho hW hst hal => by
    show objOf ops W j = _
    have : isAl (some o) = false := by
      obtain ⟨dst', op, ty, pos, after, guard⟩ := o
      cases op <;> simp only [stAt] at hst <;> first | (cases hst; done) | rfl
    unfold objOf; rw [if_pos hW, ho, this]
    simp [hst, hal]
  have objN : ∀ i, W.contains i = false → obj i = none := fun i hW => by
    show objOf ops W i = _
    unfold objOf; rw [hW]; rfl
  have hf0 : ∀ t, (Ls 0).getD t .hole = Ob.hole := fun t => by
    have := (hLs 0 (Nat.zero_le _)).2
    have h0 : Ls 0 = [] := List.eq_nil_of_length_eq_zero this
    rw [h0]; rfl
  have hfs : ∀ t i, i < m → obj i ≠ some t → (Ls (i + 1)).getD t .hole = (Ls i).getD t .hole := by
    intro t i hi hne
    obtain ⟨o, ho⟩ := hget i hi
    obtain ⟨a1, a2⟩ := hLs i (by omega)
    obtain ⟨b1, b2⟩ := hLs (i + 1) hi
    cases hW : W.contains i with
    | false =>
      have := hhs i hi hW
      rw [a1, b1] at this
      rw [List.append_cancel_left this]
    | true =>
      rcases ((look i o ho).1 hW).2 with hal | ⟨d, i', k1, k2, k3, k4⟩
      · obtain ⟨cs, k, _⟩ := hsA i o hi ho hW hal
        rw [objAl i o ho hW hal] at hne
        rw [a1, b1, List.append_assoc] at k
        rw [List.append_cancel_left k]
        simp only [List.getD_eq_getElem?_getD]
        have : t ≠ (Ls i).length := fun e => hne (by rw [e, a2])
        rcases Nat.lt_or_ge t (Ls i).length with hl | hl
        · rw [List.getElem?_append_left hl]
        · rw [List.getElem?_eq_none (by simp; omega), List.getElem?_eq_none hl]
      · obtain ⟨cs, new, q1, q2, _⟩ := hsS i o d i' hi ho hW k1 k2 k3 k4
        rw [objSt i o d i' ho hW k1 k2] at hne
        rw [hlen i' (by omega), a1, b1, List.set_append_right _ _ (by omega), Nat.add_sub_cancel_left] at q2
        rw [List.append_cancel_left q2]
        simp only [List.getD_eq_getElem?_getD]
        rw [List.getElem?_set_ne (fun e => hne (by rw [e]))]
  have text : ∀ t k, k ≤ m → Seen m obj (fun j => (Ls (j + 1)).getD t .hole) (fun _ => Ob.hole) (fun j => decide (j < k)) t ((Ls k).getD t .hole) :=
    fun t k hk => seenO_text (f := fun j => (Ls j).getD t .hole) (hf0 t) (hfs t) k hk
  let r := rkA ops W m
  -- every order
  have main : ∀ (fuel : Nat) (listed : Array Bool) (a : Act) (w' : World), listed.size = m → ((List.range m).filter fun j => !listed.getD j false).length ≤ fuel →
      Closed ops.toList (fun j => listed.getD j false = true) →
      a.tmps.size = n → a.defers = ds →
      (∃ L g', L.length = r ∧ (∀ t, t < r → Seen m obj (fun j => (Ls (j + 1)).getD t .hole) (fun _ => Ob.hole) (fun j => listed.getD j false) t (L.getD t .hole)) ∧ Good g' (hs 0 ++ L) w' ∧ Ext g (hs 0).length w g' (hs 0 ++ L).length w' ∧
        ∀ t v, Seen m dst vs (eget (es 0)) (fun j => listed.getD j false) t v → RepV (cxOf g' (hs 0 ++ L).length w') v (a.tmps.getD t undef)) →
      wpAnyIn (fz rd) 0 P .any ops (fun e a' w' => ∃ env' H' g', Rel ds n env' H' g' a' w' ∧ Ext g (hs 0).length w g' H'.length w' ∧ Q e env' H') fuel listed a w' := by
    have ready_nil : ∀ (listed : Array Bool), listed.size = m → Region.ready .any ops listed = [] → ∀ j, j < m → listed.getD j false = true := by
      intro listed hsz hr j
      induction j using Nat.strongRecOn with
      | _ j ih =>
        intro hj
        cases hl : listed.getD j false with
        | true => rfl
        | false =>
          obtain ⟨o, ho⟩ := hget j hj
          have : j ∈ Region.ready .any ops listed := by
            unfold Region.ready
            rw [List.mem_filter]
            refine ⟨List.mem_range.2 hj, ?_⟩
            simp only [ho, Option.map_some, Option.getD_some, Bool.and_eq_true, Bool.not_eq_true']
            refine ⟨?_, ?_⟩
            · have hjs : j < listed.size := by rw [hsz]; exact hj
              simpa [Array.getD, hjs] using hl
            · rw [Array.all_eq_true']
              intro e he
              simp only [Bool.or_eq_true, Bool.not_eq_true']
              by_cases hb : Region.binds .any e = true
              · right
                have hlt := (look j o ho).2.2.1 e (by simpa using he) hb
                exact ih e.on hlt (by omega)
              · left; simpa using hb
          rw [hr] at this; cases this
    have fin : ∀ (listed : Array Bool) (a : Act) (w' : World), (∀ j, j < m → listed.getD j false = true) → a.tmps.size = n → a.defers = ds →
        (∃ L g', L.length = r ∧ (∀ t, t < r → Seen m obj (fun j => (Ls (j + 1)).getD t .hole) (fun _ => Ob.hole) (fun j => listed.getD j false) t (L.getD t .hole)) ∧ Good g' (hs 0 ++ L) w' ∧ Ext g (hs 0).length w g' (hs 0 ++ L).length w' ∧
          ∀ t v, Seen m dst vs (eget (es 0)) (fun j => listed.getD j false) t v → RepV (cxOf g' (hs 0 ++ L).length w') v (a.tmps.getD t undef)) →
        ∃ env' H' g', Rel ds n env' H' g' a w' ∧ Ext g (hs 0).length w g' H'.length w' ∧ Q .normal env' H' := by
      intro listed a w' hall hsz hdef ⟨L, g', s0, s1, s2, s3, s4⟩
      obtain ⟨b1, b2⟩ := hLs m (Nat.le_refl _)
      have hH : hs 0 ++ L = hs m := by
        rw [b1]
        congr 1
        refine List.ext_getElem? fun t => ?_
        rcases Nat.lt_or_ge t r with hl | hl
        · have := (s1 t hl).unique ((text t m (Nat.le_refl _)).congr (fun k h1 h2 => by rw [hall k h1]; simpa using h1))
          simp only [List.getD_eq_getElem?_getD] at this
          have hl2 : t < (Ls m).length := by rw [b2]; exact hl
          have hl1 : t < L.length := by rw [s0]; exact hl
          rw [List.getElem?_eq_getElem hl1, List.getElem?_eq_getElem hl2] at this ⊢
          simp only [Option.getD_some] at this
          rw [this]
        · rw [List.getElem?_eq_none (by rw [s0]; exact hl), List.getElem?_eq_none (by rw [b2]; exact hl)]
      rw [hH] at s2 s3 s4
      refine ⟨restr (keep id) (es m), hs m, g', ⟨hsz, hdef, EnvRep.restr _ (fun t => s4 t _ ((seen_text hes t m (Nat.le_refl _)).congr (fun k h1 h2 => ?_))), s2⟩, s3, e4⟩
      rw [hall k h1]; simpa using h1
    intro fuel
    induction fuel with
    | zero =>
      intro listed a w' hsz hfu hcl hts hdef hinv
      have hall : ∀ j, j < m → listed.getD j false = true := by
        intro j hj
        cases hl : listed.getD j false with
        | true => rfl
        | false =>
          have : j ∈ (List.range m).filter fun j => !listed.getD j false := List.mem_filter.2 ⟨List.mem_range.2 hj, by simp [hl]⟩
          have hnil : ((List.range m).filter fun j => !listed.getD j false) = [] := List.eq_nil_of_length_eq_zero (Nat.le_zero.1 hfu)
          rw [hnil] at this
          cases this
      refine ⟨?_, fin listed a w' hall hts hdef hinv⟩
      unfold Region.ready
      rw [List.filter_eq_nil_iff]
      intro j hj
      have hj := List.mem_range.1 hj
      have hjs : j < listed.size := by rw [hsz]; exact hj
      have := hall j hj
      have h2 : listed.getD j true = true := by simpa [Array.getD, hjs] using this
      simp only [h2]; simp
    | succ fuel ih =>
      intro listed a w' hsz hfu hcl hts hdef hinv
      refine ⟨fun hr => fin listed a w' (ready_nil listed hsz hr) hts hdef hinv, fun i hi => ?_⟩
      unfold Region.ready at hi
      rw [List.mem_filter] at hi
      obtain ⟨him, hi⟩ := hi
      have him : i < m := List.mem_range.1 him
      have his : i < listed.size := by rw [hsz]; exact him
      obtain ⟨o, ho⟩ := hget i him
      simp only [ho, Option.map_some, Option.getD_some, Bool.and_eq_true, Bool.not_eq_true'] at hi
      obtain ⟨hil, hie⟩ := hi
      have hil : listed.getD i false = false := by simpa [Array.getD, his] using hil
      have hedge : ∀ e ∈ o.after.toList, Region.binds .any e = true → listed.getD e.on false = true := by
        intro e he hb
        rw [Array.all_eq_true'] at hie
        have := hie e (by simpa using he)
        simpa [hb] using this
      have up : ∀ k, Ahead ops.toList i k → listed.getD k false = true := fun k hk => hk _ hcl (fun o' ho' e he hb => by
        have : ops[i]? = some o' := by rw [← Array.getElem?_toList]; exact ho'
        rw [ho] at this
        injection this with this
        subst this
        exact hedge e he hb)
      have down : ∀ k, Ahead ops.toList k i → listed.getD k false = false := fun k hk => by
        cases hl : listed.getD k false with
        | false => rfl
        | true =>
          have := hk _ hcl (fun o' ho' e he hb => hcl k o' ho' hl e he hb)
          have this : listed.getD i false = true := this
          rw [hil] at this; cases this
      have agree : ∀ k, k < m → (k = i ∨ (k < i ∧ ((bef ops.toList).getD i 0).testBit k = true) ∨ (i < k ∧ ((bef ops.toList).getD k 0).testBit i = true)) → listed.getD k false = decide (k < i) := by
        intro k _ h
        rcases h with rfl | ⟨h1, h2⟩ | ⟨h1, h2⟩
        · rw [hil]; simp
        · rw [up k (ahead_of_bit h2)]; simp [h1]
        · rw [down k (ahead_of_bit h2)]; simp; omega
      have clash : ∀ k ok, k < m → ops[k]? = some ok → k ≠ i → (∃ d, ok.dst = some d ∧ (d ∈ o.looksAt ops ∨ o.dst = some d)) → listed.getD k false = decide (k < i) := by
        intro k ok hk hok hne ⟨d, hd, hl⟩
        refine agree k hk ?_
        rcases Nat.lt_or_gt_of_ne hne with hlt | hgt
        · right; left
          refine ⟨hlt, ?_⟩
          rcases ((look i o ho).2.2.2.2 k ok hlt hok).1 with h | h
          · obtain ⟨p1, p2, p3⟩ := Oper.apart_spec h
            rcases hl with hl | hl
            · exact absurd hl (p1 d hd)
            · exact absurd hl (p2 d hd)
          · exact h
        · right; right
          refine ⟨hgt, ?_⟩
          rcases ((look k ok hok).2.2.2.2 i o hgt ho).1 with h | h
          · obtain ⟨p1, p2, p3⟩ := Oper.apart_spec h
            rcases hl with hl | hl
            · exact absurd hl (p3 d hd)
            · exact absurd hd (p2 d hl)
          · exact h
      -- the same object's operations stand in an order
      have sameO : ∀ t, obj i = some t → ∀ k, k < m → obj k = some t → listed.getD k false = decide (k < i) := by
        intro t hit k hk hkt
        by_cases hki : k = i
        · exact agree k hk (.inl hki)
        · rcases Nat.lt_or_gt_of_ne hki with hlt | hgt
          · obtain ⟨ok, hok⟩ := hget k hk
            exact agree k hk (.inr (.inl ⟨hlt, ((look i o ho).2.2.2.2 k ok hlt hok).2 (by rw [hkt]; rfl) (by rw [hkt, hit])⟩))
          · obtain ⟨ok, hok⟩ := hget k hk
            exact agree k hk (.inr (.inr ⟨hgt, ((look k ok hok).2.2.2.2 i o hgt ho).2 (by rw [hit]; rfl) (by rw [hkt, hit])⟩))
      obtain ⟨L, g', s0, s1, s2, s3, s4⟩ := hinv
      obtain ⟨_, hfact⟩ := e3 i o (hop i o ho)
      have seesO : ∀ t, t < r → obj i = some t → L.getD t .hole = (Ls i).getD t .hole := fun t ht hit =>
        (s1 t ht).unique ((text t i (Nat.le_of_lt him)).congr (fun k hk hkt => (sameO t hit k hk hkt).symm))
      -- what it sees
      let es' : Env := restr (o.looksAt ops) (es i)
      have hE : EnvRep (cxOf g' (hs 0 ++ L).length w') es' a := by
        intro t
        show RepV _ (eget (restr (o.looksAt ops) (es i)) t) _
        rw [get_restrict]
        split
        · rename_i ht
          refine s4 t _ ((seen_text hes t i (Nat.le_of_lt him)).congr (fun k hk hdk => ?_))
          by_cases hki : k = i
          · subst hki; rw [hil]; simp
          · obtain ⟨ok, hok⟩ := hget k hk
            have hdk' : ok.dst = some t := by simpa [dst, hok] using hdk
            exact (clash k ok hk hok hki ⟨t, hdk', .inl ht⟩).symm
        · trivial
      have hlook : ∀ x ∈ o.op.operands, evl (es i) x = evl es' x := by
        intro x hx
        cases x with
        | tmp t =>
          show eget (es i) t = eget (restr (o.looksAt ops) (es i)) t
          rw [get_restrict, if_pos]
          unfold Oper.looksAt
          exact List.mem_append_left _ (List.mem_filterMap.2 ⟨.tmp t, by simpa using hx, rfl⟩)
        | _ => rfl
      have hgv : ∀ j want, o.guard = some (j, want) → gval ops.toList es' j = gval ops.toList (es i) j := by
        intro j want hg
        unfold gval
        rw [Array.getElem?_toList]
        cases hx : (ops[j]?).bind (·.dst) with
        | none => rfl
        | some t =>
          show eget (restr (o.looksAt ops) (es i)) t = eget (es i) t
          rw [get_restrict, if_pos]
          unfold Oper.looksAt
          rw [hg]
          simp only [hx]
          simp
      have hcong : ∀ K H, ewOp P T own o K (es i) H → ewOp P T own o K es' H := by
        intro K H h
        unfold ewOp at h ⊢
        rw [← xop_congr o.op hlook]
        exact h
      have hset : ∀ j, (listed.setIfInBounds i true).getD j false = if j = i then true else listed.getD j false := by
        intro j
        by_cases e : j = i
        · subst e; simp [Array.getD, his]
        · rw [if_neg e]
          simp only [Array.getD_eq_getD_getElem?]
          rw [Array.getElem?_setIfInBounds_ne (Ne.symm e)]
      -- what comes behind it
      have after : ∀ (cv : Value) (L' : List Ob) (g'' : Nat → Option Key) (w'' : World), L'.length = r → Good g'' (hs 0 ++ L') w'' → Ext g' (hs 0 ++ L).length w' g'' (hs 0 ++ L').length w'' → RepV (cxOf g'' (hs 0 ++ L').length w'') (vs i) cv →
          (∀ t, t < r → L'.getD t .hole = if obj i = some t then (Ls (i + 1)).getD t .hole else L.getD t .hole) →
          wpAnyIn (fz rd) 0 P .any ops (fun e a' w' => ∃ env' H' g', Rel ds n env' H' g' a' w' ∧ Ext g (hs 0).length w g' H'.length w' ∧ Q e env' H') fuel (listed.setIfInBounds i true) (a.put o.dst cv) w'' := by
        intro cv L' g'' w'' k0 k1 k2 k3 k4
        refine ih _ _ _ (by simp [hsz]) ?_ ?_ (by cases o.dst <;> simp [Act.put, hts]) (by cases o.dst <;> simp [Act.put, hdef]) ⟨L', g'', k0, fun t ht => ?_, k1, s3.trans k2, fun t v hv => ?_⟩
        · have := filter_lt (p := fun j => !listed.getD j false) (p' := fun j => !(listed.setIfInBounds i true).getD j false) (i := i) (l := List.range m) (fun j _ hj => by
            simp only [hset] at hj
            split at hj
            · simp at hj
            · exact hj) (List.mem_range.2 him) (by simp [hil]) (by simp [hset])
          omega
        · intro j oj hj hl e he hb
          simp only [hset] at hl ⊢
          split
          · rfl
          · split at hl
            · rename_i e1
              subst e1
              have : ops[j]? = some oj := by rw [← Array.getElem?_toList]; exact hj
              rw [ho] at this
              injection this with this
              subst this
              exact hedge e he hb
            · exact hcl j oj hj hl e he hb
        · rw [k4 t ht]
          by_cases hit : obj i = some t
          · rw [if_pos hit]
            refine .inl ⟨i, him, by simp [hset], hit, rfl, fun k h1 h2 h3 h4 => ?_⟩
            have := sameO t hit k h2 h4
            simp only [hset] at h3
            rw [if_neg (by omega), this] at h3
            have := of_decide_eq_true h3; omega
          · rw [if_neg hit]
            refine (s1 t ht).congr (fun k hk hkt => ?_)
            simp only [hset]
            rw [if_neg (fun (e : k = i) => hit (e ▸ hkt))]
        · have hdn := (look i o ho).2.2.2.1
          by_cases hdt : o.dst = some t
          · have hv' : v = vs i := by
              have hdi : dst i = some t := by simp [dst, ho, hdt]
              rcases hv with ⟨j, a1, a2, a3, a4, a5⟩ | ⟨a1, _⟩
              · by_cases hji : j = i
                · subst hji; exact a4.symm
                · obtain ⟨oj, hoj⟩ := hget j a1
                  have hdj : oj.dst = some t := by simpa [dst, hoj] using a3
                  have hcl' := clash j oj a1 hoj hji ⟨t, hdj, .inr hdt⟩
                  simp only [hset] at a2
                  rw [if_neg hji, hcl'] at a2
                  exact absurd hdi (a5 i (of_decide_eq_true a2) him (by simp [hset]))
              · exact absurd hdi (a1 i him (by simp [hset]))
            subst hv'
            have : (a.put o.dst cv).tmps.getD t undef = cv := by
              have := hdn t hdt
              rw [hdt]
              simp [Act.put, hts, this]
            rw [this]
            exact k3
          · have hold : Seen m dst vs (eget (es 0)) (fun j => listed.getD j false) t v := hv.congr (fun k hk hdk => by
              simp only [hset]
              rw [if_neg]
              intro e
              subst e
              exact hdt (by simpa [dst, ho] using hdk))
            have := RepV.mono k2.mono (s4 t v hold)
            have e : (a.put o.dst cv).tmps.getD t undef = a.tmps.getD t undef := by
              cases hd : o.dst with
              | none => rfl
              | some d =>
                have hne : d ≠ t := fun e => hdt (by rw [hd, e])
                simp [Act.put, Array.getElem?_setIfInBounds_ne hne]
            rw [e]
            exact this
      -- the step
      unfold wpOpIn
      rw [ho]
      simp only
      obtain ⟨a1, a2⟩ := hLs i (Nat.le_of_lt him)
      obtain ⟨b1, b2⟩ := hLs (i + 1) him
      rcases hfact with ⟨hg, hk⟩ | ⟨j, want, q, hg, hq, hne, hv, hH⟩
      · have hw : Region.wanted o (yielded ops a.tmps) = true := by
          rw [wanted_iff]
          cases hgd : o.guard with
          | none => rfl
          | some jw =>
            obtain ⟨j, want⟩ := jw
            rw [hgd] at hg
            simp only at hg ⊢
            rw [gval_yield' hE ((hgv j want hgd).trans hg)]
            simp
        rw [if_pos hw]
        rcases hk with ⟨hW, hk⟩ | ⟨hW, hH, hk⟩
        · rcases ((look i o ho).1 hW).2 with hal | ⟨d, i', k1, k2, k3, k4⟩
          · obtain ⟨cs, k, _⟩ := hsA i o him ho hW hal
            have hrk : rkA ops W i < r := by
              have h1 := rkA_mono (ops := ops) (W := W) (i := i + 1) m him
              simp only [rkA, alW i o ho hW hal, if_true] at h1
              omega
            have hob := objAl i o ho hW hal
            have hnone : L[rkA ops W i]? = some .hole := by
              have := seesO _ hrk hob
              have hl1 : rkA ops W i < L.length := by rw [s0]; exact hrk
              simp only [List.getD_eq_getElem?_getD] at this
              rw [List.getElem?_eq_getElem hl1, List.getElem?_eq_none (l := Ls i) (by omega)] at this
              rw [List.getElem?_eq_getElem hl1]
              simpa using this
            have hp : (hs 0 ++ L)[(hs i).length]? = some .hole := by
              rw [hlen i (Nat.le_of_lt him), List.getElem?_append_right (by omega), Nat.add_sub_cancel_left]; exact hnone
            rw [k] at hk
            refine al_fill hTO hal (hcong _ _ hk) hE s2 hp fun cv g'' w'' q1 q2 q3 => ?_
            have hse : (hs 0 ++ L).set (hs i).length (.var cs) = hs 0 ++ L.set (rkA ops W i) (.var cs) := by
              rw [hlen i (Nat.le_of_lt him), List.set_append_right _ _ (by omega), Nat.add_sub_cancel_left]
            have hle : (hs 0 ++ L).length = (hs 0 ++ L.set (rkA ops W i) (.var cs)).length := by simp
            rw [hse] at q1
            rw [hle] at q2 q3
            refine after cv _ g'' w'' (by simp [s0]) q1 (by rw [hle]; exact q2) q3 fun t ht => ?_
            rw [a1, b1, List.append_assoc] at k
            have k' := List.append_cancel_left k
            rw [hob]
            simp only [List.getD_eq_getElem?_getD, Option.some.injEq]
            split
            · rename_i e
              subst e
              rw [List.getElem?_set_self (by rw [s0]; exact hrk), k', List.getElem?_append_right (by omega), a2, Nat.sub_self]
              rfl
            · rename_i e
              rw [List.getElem?_set_ne e]
          · obtain ⟨cs, new, q1, q2, q3⟩ := hsS i o d i' him ho hW k1 k2 k3 k4
            have hob := objSt i o d i' ho hW k1 k2
            have hrk : rkA ops W i' < r := by
              have h1 := rkA_mono (ops := ops) (W := W) (i := i' + 1) m (by omega)
              simp only [rkA, (alspec d i' k2).1, if_true] at h1
              omega
            rw [hlen i' (by omega)] at q1 q2 q3
            have hL : L[rkA ops W i']? = some (.var cs) := by
              have := seesO _ hrk hob
              have hl1 : rkA ops W i' < L.length := by rw [s0]; exact hrk
              rw [a1, List.getElem?_append_right (by omega), Nat.add_sub_cancel_left] at q1
              simp only [List.getD_eq_getElem?_getD, q1] at this
              rw [List.getElem?_eq_getElem hl1] at this ⊢
              simpa using this
            have hp : (hs 0 ++ L)[(hs 0).length + rkA ops W i']? = some (.var cs) := by
              rw [List.getElem?_append_right (by omega), Nat.add_sub_cancel_left]; exact hL
            have hse : (hs 0 ++ L).set ((hs 0).length + rkA ops W i') (.var new) = hs 0 ++ L.set (rkA ops W i') (.var new) := by
              rw [List.set_append_right _ _ (by omega), Nat.add_sub_cancel_left]
            refine op_wp' hTO hE s2 (hcong _ _ (q3 _ hp)) fun v cv H' g'' w'' p1 p2 p3 ⟨p4, p5⟩ => ?_
            rw [hse] at p5
            subst p4 p5
            refine after cv _ g'' w'' (by simp [s0]) p1 p2 p3 fun t ht => ?_
            rw [a1, b1, List.set_append_right _ _ (by omega), Nat.add_sub_cancel_left] at q2
            have q2' := List.append_cancel_left q2
            rw [a1, List.getElem?_append_right (by omega), Nat.add_sub_cancel_left] at q1
            rw [hob]
            simp only [List.getD_eq_getElem?_getD, Option.some.injEq]
            split
            · rename_i e
              subst e
              rw [List.getElem?_set_self (by rw [s0]; exact hrk), q2', List.getElem?_set_self (List.getElem?_eq_some_iff.1 q1).1]
            · rename_i e
              rw [List.getElem?_set_ne e]
        · have hfree : L = [] ∨ stabOp o = true ∨ isFree F W i = true := by
            rcases (look i o ho).2.1 with h | h | h
            · rw [hW] at h; cases h
            · exact .inr (.inr h)
            · exact .inr (.inl h)
          refine op_wp' hTO hE s2 (hcong _ _ (hk L hfree)) fun v cv H' g'' w'' p1 p2 p3 ⟨p4, p5⟩ => ?_
          subst p4 p5
          refine after cv L g'' w'' s0 p1 p2 p3 fun t ht => ?_
          rw [objN i hW, if_neg (by simp)]
      · have hw : Region.wanted o (yielded ops a.tmps) = false := by
          rw [wanted_iff, hg]
          simp only
          rw [gval_yield' hE ((hgv j want hg).trans hq)]
          simpa using hne
        rw [hw]
        rw [if_neg (by simp)]
        refine ⟨fun _ _ => trivial, ?_⟩
        have hW : W.contains i = false := by
          cases hW : W.contains i with
          | false => rfl
          | true => rw [((look i o ho).1 hW).1] at hg; cases hg
        refine after undef L g' w' s0 s2 (Ext.refl _ _ _) (by rw [hv]; trivial) fun t ht => ?_
        rw [objN i hW, if_neg (by simp)]
  refine wpIn_region_any hm (main ops.size _ a _ (by simp [m]) (Nat.le_trans (List.length_filter_le _ _) (by simp [m])) ?_ hR.1 hR.2.1 ?_)
  · intro j o hj hS
    simp [Array.getD] at hS
  · have hdr := step_drawn hR.2.2.2 (w.drawn + 1)
    obtain ⟨g1, k1, k2⟩ := step_holes hdr.1 r
    refine ⟨List.replicate r .hole, g1, by simp, fun t ht => .inr ⟨fun k hk h => by simp [Array.getD] at h, by simp [ht]⟩, k1, hdr.2.trans k2, fun t v hs => ?_⟩
    rcases hs with ⟨j, _, h1, _⟩ | ⟨_, rfl⟩
    · simp [Array.getD] at h1
    · exact RepV.mono (hdr.2.trans k2).mono (hR.2.2.1 t)
end
end Go.EL

/- The value logic, part UG: a region whose order is open, where what is written is only added behind: what was there may be read at any time. -/
set_option linter.unusedVariables false
set_option linter.unusedSimpArgs false
namespace Go.EL
open Go
variable {P : Program} {T : Nat → TD}

/-- the heap without some objects -/
def blank : List Nat → List Ob → List Ob
  | [], H => H
  | o :: S, H => (blank S H).set o .gone
theorem blank_get {x : Ob} (hx : x ≠ .gone) {i : Nat} {H : List Ob} : ∀ {S : List Nat}, (blank S H)[i]? = some x → H[i]? = some x
  | [], h => h
  | o :: S, h => by
    simp only [blank] at h
    by_cases e : o = i
    · subst e
      rcases Nat.lt_or_ge o (blank S H).length with hl | hl
      · rw [List.getElem?_set_self hl] at h
        injection h with h
        exact absurd h.symm hx
      · rw [List.getElem?_eq_none (by simpa using hl)] at h; cases h
    · rw [List.getElem?_set_ne e] at h
      exact blank_get hx h
/-- the objects that some slots lead to -/
def addO : V → List Nat → List Nat
  | .ref o _, l => o :: l
  | .eref o _ _ _, l => o :: l
  | _, l => l
def objsOf (env : Env) : List Nat → List Nat
  | [] => []
  | j :: F => if 4000 ≤ j then (if j < 5000 then addO (eget env (j - 4000)) (objsOf env F) else objsOf env F) else objsOf env F
theorem live_un {S : List Nat} {H : List Ob} {a : V} (h : live (blank S H) a) : live H a := by
  cases a
  case ref o c =>
    obtain ⟨cs, h⟩ := h
    exact ⟨cs, blank_get (by simp) h⟩
  case eref o ver i c =>
    obtain ⟨es, l, h, k⟩ := h
    exact ⟨es, l, blank_get (by simp) h, k⟩
  all_goals first | trivial | exact h.elim
theorem xop_un {own : Bool} {ρ : Operand → V} {o : Oper} {pre : Prop} {v : V} {S : List Nat} {H : List Ob} (hs : stabOp o = true) (h : xop T own ρ (blank S H) o.op = .val pre v (blank S H)) (hp : pre) : ∃ pre', xop T own ρ H o.op = .val pre' v H ∧ pre' := by
  obtain ⟨dst, op, ty, pos, after, guard⟩ := o
  cases op
  all_goals first | (simp [stabOp] at hs; done) | skip
  case move x => injection h with e1 e2 e3; subst e1 e2; exact ⟨_, rfl, trivial⟩
  case build t ps =>
    simp only [xop] at h ⊢
    split at h
    · injection h with e1 e2 e3; subst e1 e2; exact ⟨_, rfl, hp⟩
    · injection h with e1 e2 e3; subst e1 e2; exact ⟨_, rfl, hp⟩
    · cases h
  case buildSlice t n ps =>
    simp only [xop] at h ⊢
    split at h
    · cases own with
      | false => injection h with e1 e2 e3; subst e1 e2; exact ⟨_, rfl, hp⟩
      | true => injection h with e1 e2 e3; exact absurd (congrArg List.length e3) (by simp)
    · cases h
  case load t a =>
    simp only [xop] at h ⊢
    split at h
    · cases h
    · rename_i hk
      rw [if_neg hk]
      unfold xload at h ⊢
      split at h
      · split at h
        · rename_i ho
          rw [blank_get (by simp) ho]
          injection h with e1 e2 e3; subst e1 e2; exact ⟨_, rfl, hp⟩
        · cases h
      · injection h with e1 e2 e3; subst e1 e2; exact ⟨_, rfl, hp⟩
      · split at h
        · rename_i ho
          rw [blank_get (by simp) ho]
          injection h with e1 e2 e3; subst e1 e2; exact ⟨_, rfl, hp⟩
        · cases h
      · cases h
  case fieldAddr t a f =>
    simp only [xop] at h ⊢
    unfold xfieldAddr at h ⊢
    split at h
    · split at h
      · split at h
        · injection h with e1 e2 e3; subst e1 e2; exact ⟨_, rfl, live_un hp.1, hp.2⟩
        · injection h with e1 e2 e3; subst e1 e2; exact ⟨_, rfl, live_un hp.1, hp.2⟩
        · injection h with e1 e2 e3; subst e1 e2; exact ⟨_, rfl, live_un hp.1, hp.2⟩
        · cases h
      · cases h
    · cases h
  case indexAddr t x i =>
    simp only [xop] at h ⊢
    unfold xindexAddr at h ⊢
    split at h
    · split at h
      · injection h with e1 e2 e3; subst e1 e2; exact ⟨_, rfl, hp⟩
      · injection h with e1 e2 e3; subst e1 e2; exact ⟨_, rfl, hp⟩
      · split at h
        · rename_i ho
          rw [blank_get (by simp) ho]
          injection h with e1 e2 e3; subst e1 e2; exact ⟨_, rfl, hp⟩
        · cases h
      · cases h
    · split at h
      · injection h with e1 e2 e3; subst e1 e2; exact ⟨_, rfl, live_un hp.1, hp.2⟩
      · injection h with e1 e2 e3; subst e1 e2; exact ⟨_, rfl, hp⟩
      · cases h
    · cases h
  case nilCheck x =>
    simp only [xop] at h ⊢
    split at h
    · injection h with e1 e2 e3; subst e1 e2; exact ⟨_, rfl, live_un hp⟩
    · injection h with e1 e2 e3; subst e1 e2; exact ⟨_, rfl, hp⟩
    · injection h with e1 e2 e3; subst e1 e2; exact ⟨_, rfl, live_un hp⟩
    · cases h
  case lookup t x i ok =>
    simp only [xop] at h ⊢
    unfold xlookup at h ⊢
    split at h
    · split at h
      · split at h
        · rename_i ho
          rw [blank_get (by simp) ho]
          injection h with e1 e2 e3; subst e1 e2; exact ⟨_, rfl, hp⟩
        · cases h
      · injection h with e1 e2 e3; subst e1 e2; exact ⟨_, rfl, hp⟩
      · cases h
    · cases h
  case call c =>
    simp only [stabOp] at hs
    simp only [xop] at h
    split at hs
    · rename_i f hc
      rw [hc] at h
      simp only at h
      split at h <;> cases h
    · cases hs
/-- a read of what is not written, or a call that asks nothing of the heap -/
def BaseW (P : Program) (T : Nat → TD) (own : Bool) (o : Oper) (K : V → Prop) (env : Env) (H : List Ob) : Prop :=
  match xop T own (evl env) H o.op with
  | .val pre v H' => H' = H ∧ Need pre (K v)
  | .call f args => CallE (fun v => ∀ H, SCall P f args H fun r H' => r = v ∧ H' = H) K
  | _ => False

def isBase (F : List Nat) (i : Nat) : Bool := F.contains (i + 2000)
def drawOK3 (n : Nat) (ops : Array Oper) (W F : List Nat) : Bool :=
  let b := bef ops.toList
  (List.range ops.size).all fun j => match ops[j]? with
    | none => true
    | some oj =>
      (W.contains j || F.contains j || (isBase F j && stabOp oj) || (!isBase F j && W.all fun k => ordered b j k)) &&
      (oj.after.toList.all fun e => !Region.binds .any e || decide (e.on < j)) && (match oj.dst with | some d => decide (d < n) | none => true) &&
      (List.range j).all fun i => match ops[i]? with
        | none => true
        | some oi => (oi.apart ops oj || (b.getD j 0).testBit i) && (!(W.contains i && W.contains j) || (b.getD j 0).testBit i)
/-- what is added behind -/
def AddW (P : Program) (T : Nat → TD) (own : Bool) (o : Oper) (K : V → List Ob → Prop) (env : Env) (S : List Nat) (H0 H : List Ob) : Prop :=
  match xop T own (evl env) H o.op with
  | .val pre v H' => Need (pre ∧ ∃ L, blank S H' = H0 ++ L) (K v H')
  | .call f args => CallE2 (fun v H1 => SCall P f args H (fun r H' => r = v ∧ H' = H1)) (fun v H' => Need (∃ L, blank S H' = H0 ++ L) (K v H'))
  | _ => False
def drawStep3 (P : Program) (T : Nat → TD) (own : Bool) (o : Oper) (inW free base : Bool) (K : V → List Ob → Prop) (env : Env) (S : List Nat) (H0 H : List Ob) : Prop :=
  if inW = true then AddW P T own o K env S H0 H else if free = true then FreeW P T own o (fun v => K v H) env else if base = true then BaseW P T own o (fun v => K v H) env H0 else SameW P T own o (fun v => K v H) env H
def ewDraw3 (P : Program) (T : Nat → TD) (own : Bool) (ops : List Oper) (F W : List Nat) (S : List Nat) (H0 : List Ob) : Nat → List Oper → (Env → List Ob → Prop) → Env → List Ob → Prop
  | _, [], K, env, H => K env H
  | k, o :: rest, K, env, H =>
    match o.guard with
    | none => drawStep3 P T own o (W.contains k) (isFree F W k) (isBase F k) (fun v H' => ewDraw3 P T own ops F W S H0 (k + 1) rest K (eput env o.dst v) H') env S H0 H
    | some (j, want) => match gval ops env j with
      | .bool q => IfW (q == want) (drawStep3 P T own o (W.contains k) (isFree F W k) (isBase F k) (fun v H' => ewDraw3 P T own ops F W S H0 (k + 1) rest K (eput env o.dst v) H') env S H0 H) (ewDraw3 P T own ops F W S H0 (k + 1) rest K (eput env o.dst .dead) H)
      | _ => False
def OpFact3 (P : Program) (T : Nat → TD) (own : Bool) (ops : List Oper) (F W : List Nat) (S : List Nat) (H0 : List Ob) (o : Oper) (k : Nat) (env : Env) (H : List Ob) (v : V) (H' : List Ob) : Prop :=
  (match o.guard with
   | none => True
   | some (j, want) => gval ops env j = .bool want) ∧
    ((W.contains k = true ∧ (∃ L, blank S H' = H0 ++ L) ∧ ewOp P T own o (fun v' H1 => v' = v ∧ H1 = H') env H) ∨
     (W.contains k = false ∧ H' = H ∧ isFree F W k = true ∧ ∀ H0, ewOp P T own o (fun v' H1 => v' = v ∧ H1 = H0) env H0) ∨
     (W.contains k = false ∧ H' = H ∧ isFree F W k = false ∧ isBase F k = false ∧ ewOp P T own o (fun v' H1 => v' = v ∧ H1 = H) env H) ∨
     (W.contains k = false ∧ H' = H ∧ isFree F W k = false ∧ isBase F k = true ∧ ∀ HS L, blank S HS = H0 ++ L → stabOp o = true → ewOp P T own o (fun v' H1 => v' = v ∧ H1 = HS) env HS)) ∨
  (∃ j want q, o.guard = some (j, want) ∧ gval ops env j = .bool q ∧ q ≠ want ∧ v = .dead ∧ H' = H)

theorem drawStep3_fact {own : Bool} {F W S : List Nat} {H0 : List Ob} {o : Oper} {k : Nat} {K : V → List Ob → Prop} {env : Env} {H : List Ob} (h : drawStep3 P T own o (W.contains k) (isFree F W k) (isBase F k) K env S H0 H) :
    ∃ v H', ((W.contains k = true ∧ (∃ L, blank S H' = H0 ++ L) ∧ ewOp P T own o (fun v' H1 => v' = v ∧ H1 = H') env H) ∨
     (W.contains k = false ∧ H' = H ∧ isFree F W k = true ∧ ∀ H0, ewOp P T own o (fun v' H1 => v' = v ∧ H1 = H0) env H0) ∨
     (W.contains k = false ∧ H' = H ∧ isFree F W k = false ∧ isBase F k = false ∧ ewOp P T own o (fun v' H1 => v' = v ∧ H1 = H) env H) ∨
     (W.contains k = false ∧ H' = H ∧ isFree F W k = false ∧ isBase F k = true ∧ ∀ HS L, blank S HS = H0 ++ L → stabOp o = true → ewOp P T own o (fun v' H1 => v' = v ∧ H1 = HS) env HS)) ∧ K v H' := by
  unfold drawStep3 at h
  split at h
  · rename_i hW
    unfold AddW at h
    split at h
    · rename_i pre v H' hx
      refine ⟨v, H', .inl ⟨hW, h.1.2, ?_⟩, h.2⟩
      unfold ewOp; rw [hx]; exact ⟨h.1.1, rfl, rfl⟩
    · rename_i f args hx
      obtain ⟨v, H1, h1, h2, h3⟩ := h
      refine ⟨v, H1, .inl ⟨hW, h2, ?_⟩, h3⟩
      unfold ewOp; rw [hx]; exact h1
    · exact h.elim
  · rename_i hW
    have hW : W.contains k = false := by simpa using hW
    split at h
    · rename_i hF
      unfold FreeW at h
      split at h
      · rename_i pre v H' hx
        obtain ⟨rfl, hp, hk⟩ := h
        refine ⟨v, H, .inr (.inl ⟨hW, rfl, hF, fun H0 => ?_⟩), hk⟩
        obtain ⟨pre', h1, h2⟩ := xop_free hx hp H0
        unfold ewOp; rw [h1]; exact ⟨h2, rfl, rfl⟩
      · rename_i f args hx
        obtain ⟨v, h1, h2⟩ := h
        refine ⟨v, H, .inr (.inl ⟨hW, rfl, hF, fun H0 => ?_⟩), h2⟩
        obtain ⟨c, fo, first, cap, ho, hc, hq, ha⟩ := xop_call hx
        have : xop T own (evl env) H0 o.op = .call f args := by
          rw [ho]
          simp only [xop, hc, hq, ha]
        unfold ewOp; rw [this]; exact h1 H0
      · exact h.elim
    · rename_i hF
      have hF : isFree F W k = false := by simpa using hF
      split at h
      · rename_i hS
        unfold BaseW at h
        split at h
        · rename_i pre v H' hx
          obtain ⟨rfl, hp, hk⟩ := h
          refine ⟨v, H, .inr (.inr (.inr ⟨hW, rfl, hF, hS, fun HS L hL hst => ?_⟩)), hk⟩
          obtain ⟨pre1, h1, h2⟩ := xop_ext hst hx hp L
          rw [← hL] at h1
          obtain ⟨pre', h3, h4⟩ := xop_un hst h1 h2
          unfold ewOp; rw [h3]; exact ⟨h4, rfl, rfl⟩
        · rename_i f args hx
          obtain ⟨v, h1, h2⟩ := h
          refine ⟨v, H, .inr (.inr (.inr ⟨hW, rfl, hF, hS, fun HS L _ _ => ?_⟩)), h2⟩
          obtain ⟨c, fo, first, cap, ho, hc, hq, ha⟩ := xop_call hx
          have : xop T own (evl env) HS o.op = .call f args := by
            rw [ho]
            simp only [xop, hc, hq, ha]
          unfold ewOp; rw [this]; exact h1 HS
        · exact h.elim
      · rename_i hS
        have hS : isBase F k = false := by simpa using hS
        unfold SameW at h
        split at h
        · rename_i pre v H' hx
          obtain ⟨rfl, hp, hk⟩ := h
          refine ⟨v, H', .inr (.inr (.inl ⟨hW, rfl, hF, hS, ?_⟩)), hk⟩
          unfold ewOp; rw [hx]; exact ⟨hp, rfl, rfl⟩
        · rename_i f args hx
          obtain ⟨v, h1, h2⟩ := h
          refine ⟨v, H, .inr (.inr (.inl ⟨hW, rfl, hF, hS, ?_⟩)), h2⟩
          unfold ewOp; rw [hx]; exact h1
        · exact h.elim

theorem ewDraw3_table {own : Bool} {ops : List Oper} {F W S : List Nat} {H0 : List Ob} {K : Env → List Ob → Prop} : ∀ (l : List Oper) (k : Nat) (env : Env) (H : List Ob), ewDraw3 P T own ops F W S H0 k l K env H →
    ∃ (es : Nat → Env) (hs : Nat → List Ob) (vs : Nat → V), es k = env ∧ hs k = H ∧ (∀ i o, l[i]? = some o → es (k + i + 1) = eput (es (k + i)) o.dst (vs (k + i)) ∧ OpFact3 P T own ops F W S H0 o (k + i) (es (k + i)) (hs (k + i)) (vs (k + i)) (hs (k + i + 1))) ∧
      K (es (k + l.length)) (hs (k + l.length))
  | [], k, env, H, h => ⟨fun _ => env, fun _ => H, fun _ => .dead, rfl, rfl, fun i o ho => by simp at ho, h⟩
  | o :: rest, k, env, H, h => by
    have fin : ∀ v H', OpFact3 P T own ops F W S H0 o k env H v H' → ewDraw3 P T own ops F W S H0 (k + 1) rest K (eput env o.dst v) H' → ∃ (es : Nat → Env) (hs : Nat → List Ob) (vs : Nat → V), es k = env ∧ hs k = H ∧ (∀ i o', (o :: rest)[i]? = some o' → es (k + i + 1) = eput (es (k + i)) o'.dst (vs (k + i)) ∧ OpFact3 P T own ops F W S H0 o' (k + i) (es (k + i)) (hs (k + i)) (vs (k + i)) (hs (k + i + 1))) ∧
      K (es (k + (o :: rest).length)) (hs (k + (o :: rest).length)) := by
      intro v H' hf hr
      obtain ⟨es, hs, vs, e1, e2, e3, e4⟩ := ewDraw3_table rest (k + 1) _ _ hr
      refine ⟨fun i => if i = k then env else es i, fun i => if i = k then H else hs i, fun i => if i = k then v else vs i, by simp, by simp, fun i o' ho' => ?_, ?_⟩
      · cases i with
        | zero =>
          simp only [List.getElem?_cons_zero, Option.some.injEq] at ho'
          subst ho'
          simp only [Nat.add_zero, if_true]
          have n1 : ¬ (k + 1 = k) := by omega
          simp only [n1, if_false, e1, e2]
          exact ⟨trivial, hf⟩
        | succ i =>
          simp only [List.getElem?_cons_succ] at ho'
          have := e3 i o' ho'
          have n1 : ¬ (k + (i + 1) = k) := by omega
          have n2 : ¬ (k + (i + 1) + 1 = k) := by omega
          simp only [n1, n2, if_false]
          rw [show k + (i + 1) = k + 1 + i by omega]
          exact this
      · have n3 : ¬ (k + (o :: rest).length = k) := by simp
        simp only [n3, if_false]
        rw [List.length_cons, show k + (rest.length + 1) = k + 1 + rest.length by omega]
        exact e4
    simp only [ewDraw3] at h
    cases hg : o.guard with
    | none =>
      rw [hg] at h
      obtain ⟨v, H', h1, h2⟩ := drawStep3_fact h
      exact fin v H' (.inl ⟨by rw [hg]; trivial, h1⟩) h2
    | some jw =>
      obtain ⟨j, want⟩ := jw
      rw [hg] at h
      simp only at h
      split at h
      · rename_i q hq
        by_cases hqw : q = want
        · subst hqw
          obtain ⟨v, H', h1, h2⟩ := drawStep3_fact (h.1 (by simp))
          exact fin v H' (.inl ⟨by rw [hg]; exact hq, h1⟩) h2
        · exact fin .dead H (.inr ⟨j, want, q, hg, hq, hqw, rfl, rfl⟩) (h.2 (by simpa using hqw))
      · exact h.elim

section
variable {own : Bool} {n : Nat} {ops : Array Oper} {W : List Nat}
theorem EW.draw3 (hTO : TyOK P T) (hm : P.follows .mixedOrders = true) {id : Nat} {F : List Nat} (keep : Nat → List Nat) (hd : drawOK3 n ops W F = true) {Q : Exit → Env → List Ob → Prop} {env : Env} {H : List Ob}
    (h : ewDraw3 P T own ops.toList F W (objsOf env F) (blank (objsOf env F) H) 0 ops.toList (fun env' H' => Q .normal (restr (keep id) env') H') env H) : EW P n (.region id ops true) Q env H := by
  intro rd ds g a w hR
  obtain ⟨es, hs, vs, e1, e2, e3, e4⟩ := ewDraw3_table _ _ _ _ h
  simp only [Nat.zero_add, Array.length_toList] at e1 e2 e3 e4
  subst e1 e2
  let m := ops.size
  let dst : Nat → Option Nat := fun j => (ops[j]?).bind (·.dst)
  have hop : ∀ j o, ops[j]? = some o → ops.toList[j]? = some o := fun j o h => by rw [Array.getElem?_toList]; exact h
  have hget : ∀ j, j < m → ∃ o, ops[j]? = some o := fun j hj => ⟨ops[j], by simp [m] at hj; simp [hj]⟩
  -- the look
  have look : ∀ j o, ops[j]? = some o → (W.contains j = true ∨ F.contains j = true ∨ (isBase F j = true ∧ stabOp o = true) ∨ (isBase F j = false ∧ ∀ k ∈ W, ordered (bef ops.toList) j k = true)) ∧ (∀ e ∈ o.after.toList, Region.binds .any e = true → e.on < j) ∧ (∀ d, o.dst = some d → d < n) ∧
      ∀ i oi, i < j → ops[i]? = some oi → (oi.apart ops o = true ∨ ((bef ops.toList).getD j 0).testBit i = true) ∧ (W.contains i = true → W.contains j = true → ((bef ops.toList).getD j 0).testBit i = true) := by
    intro j o hj
    have hjm : j < ops.size := (Array.getElem?_eq_some_iff.1 hj).1
    have := List.all_eq_true.1 hd j (List.mem_range.2 hjm)
    simp only [hj, Bool.and_eq_true, Bool.or_eq_true, List.all_eq_true, List.mem_range, Bool.not_eq_true'] at this
    obtain ⟨⟨⟨q0, q1⟩, q2⟩, q3⟩ := this
    refine ⟨?_, fun e he hb => ?_, fun d hd => ?_, fun i oi hi hoi => ?_⟩
    · rcases q0 with ((q0 | q0) | q0) | q0
      · exact .inl q0
      · exact .inr (.inl q0)
      · exact .inr (.inr (.inl q0))
      · exact .inr (.inr (.inr q0))
    · rcases q1 e he with h | h
      · rw [hb] at h; cases h
      · exact of_decide_eq_true h
    · rw [hd] at q2; exact of_decide_eq_true q2
    · have := q3 i hi
      simp only [hoi, Bool.and_eq_true, Bool.or_eq_true, Bool.not_eq_true'] at this
      refine ⟨this.1, fun h1 h2 => ?_⟩
      rcases this.2 with h | h
      · rw [h1, h2] at h; cases h
      · exact h
  have hes : ∀ i, i < m → es (i + 1) = eput (es i) (dst i) (vs i) := fun i hi => by
    obtain ⟨o, ho⟩ := hget i hi
    have := (e3 i o (hop i o ho)).1
    simpa [dst, ho] using this
  have hhs : ∀ i, i < m → W.contains i = false → hs (i + 1) = hs i := fun i hi hW => by
    obtain ⟨o, ho⟩ := hget i hi
    rcases (e3 i o (hop i o ho)).2 with ⟨_, h | h | h | h⟩ | ⟨j, want, q, _, _, _, _, h⟩
    · rw [h.1] at hW; cases hW
    · exact h.2.1
    · exact h.2.1
    · exact h.2.1
    · exact h
  have hpre : ∀ i, i ≤ m → ∃ L, blank (objsOf (es 0) F) (hs i) = blank (objsOf (es 0) F) (hs 0) ++ L := by
    intro i
    induction i with
    | zero => exact fun _ => ⟨[], by simp⟩
    | succ i ih =>
      intro hi
      obtain ⟨o, ho⟩ := hget i (by omega)
      cases hW : W.contains i with
      | false => rw [hhs i (by omega) hW]; exact ih (by omega)
      | true =>
        rcases (e3 i o (hop i o ho)).2 with ⟨_, h | h | h | h⟩ | ⟨_, _, _, _, _, _, _, h⟩
        · exact h.2.1
        · rw [h.1] at hW; cases hW
        · rw [h.1] at hW; cases hW
        · rw [h.1] at hW; cases hW
        · rw [h]; exact ih (by omega)
  -- every order
  have main : ∀ (fuel : Nat) (listed : Array Bool) (a : Act) (w' : World), listed.size = m → ((List.range m).filter fun j => !listed.getD j false).length ≤ fuel →
      Closed ops.toList (fun j => listed.getD j false = true) →
      a.tmps.size = n → a.defers = ds →
      (∃ H g', SeenH m W hs (fun j => listed.getD j false) H ∧ Good g' H w' ∧ Ext g (hs 0).length w g' H.length w' ∧ ∀ t v, Seen m dst vs (eget (es 0)) (fun j => listed.getD j false) t v → RepV (cxOf g' H.length w') v (a.tmps.getD t undef)) →
      wpAnyIn (fz rd) 0 P .any ops (fun e a' w' => ∃ env' H' g', Rel ds n env' H' g' a' w' ∧ Ext g (hs 0).length w g' H'.length w' ∧ Q e env' H') fuel listed a w' := by
    have ready_nil : ∀ (listed : Array Bool), listed.size = m → Region.ready .any ops listed = [] → ∀ j, j < m → listed.getD j false = true := by
      intro listed hsz hr j
      induction j using Nat.strongRecOn with
      | _ j ih =>
        intro hj
        cases hl : listed.getD j false with
        | true => rfl
        | false =>
          obtain ⟨o, ho⟩ := hget j hj
          have : j ∈ Region.ready .any ops listed := by
            unfold Region.ready
            rw [List.mem_filter]
            refine ⟨List.mem_range.2 hj, ?_⟩
            simp only [ho, Option.map_some, Option.getD_some, Bool.and_eq_true, Bool.not_eq_true']
            refine ⟨?_, ?_⟩
            · have hjs : j < listed.size := by rw [hsz]; exact hj
              simpa [Array.getD, hjs] using hl
            · rw [Array.all_eq_true']
              intro e he
              simp only [Bool.or_eq_true, Bool.not_eq_true']
              by_cases hb : Region.binds .any e = true
              · right
                have hlt := (look j o ho).2.1 e (by simpa using he) hb
                exact ih e.on hlt (by omega)
              · left; simpa using hb
          rw [hr] at this; cases this
    have fin : ∀ (listed : Array Bool) (a : Act) (w' : World), (∀ j, j < m → listed.getD j false = true) → a.tmps.size = n → a.defers = ds →
        (∃ H g', SeenH m W hs (fun j => listed.getD j false) H ∧ Good g' H w' ∧ Ext g (hs 0).length w g' H.length w' ∧ ∀ t v, Seen m dst vs (eget (es 0)) (fun j => listed.getD j false) t v → RepV (cxOf g' H.length w') v (a.tmps.getD t undef)) →
        ∃ env' H' g', Rel ds n env' H' g' a w' ∧ Ext g (hs 0).length w g' H'.length w' ∧ Q .normal env' H' := by
      intro listed a w' hall hsz hdef ⟨H, g', s1, s2, s3, s4⟩
      have hH : H = hs m := by
        refine s1.unique ((seenH_text hhs m (Nat.le_refl _)).congr (fun k h1 h2 => ?_))
        rw [hall k h1]; simpa using h1
      subst hH
      refine ⟨restr (keep id) (es m), hs m, g', ⟨hsz, hdef, EnvRep.restr _ (fun t => s4 t _ ((seen_text hes t m (Nat.le_refl _)).congr (fun k h1 h2 => ?_))), s2⟩, s3, e4⟩
      rw [hall k h1]; simpa using h1
    intro fuel
    induction fuel with
    | zero =>
      intro listed a w' hsz hfu hcl hts hdef hinv
      have hall : ∀ j, j < m → listed.getD j false = true := by
        intro j hj
        cases hl : listed.getD j false with
        | true => rfl
        | false =>
          have : j ∈ (List.range m).filter fun j => !listed.getD j false := List.mem_filter.2 ⟨List.mem_range.2 hj, by simp [hl]⟩
          have hnil : ((List.range m).filter fun j => !listed.getD j false) = [] := List.eq_nil_of_length_eq_zero (Nat.le_zero.1 hfu)
          rw [hnil] at this
          cases this
      refine ⟨?_, fin listed a w' hall hts hdef hinv⟩
      unfold Region.ready
      rw [List.filter_eq_nil_iff]
      intro j hj
      have hj := List.mem_range.1 hj
      have hjs : j < listed.size := by rw [hsz]; exact hj
      have := hall j hj
      have h2 : listed.getD j true = true := by simpa [Array.getD, hjs] using this
      simp only [h2]; simp
    | succ fuel ih =>
      intro listed a w' hsz hfu hcl hts hdef hinv
      refine ⟨fun hr => fin listed a w' (ready_nil listed hsz hr) hts hdef hinv, fun i hi => ?_⟩
      unfold Region.ready at hi
      rw [List.mem_filter] at hi
      obtain ⟨him, hi⟩ := hi
      have him : i < m := List.mem_range.1 him
      have his : i < listed.size := by rw [hsz]; exact him
      obtain ⟨o, ho⟩ := hget i him
      simp only [ho, Option.map_some, Option.getD_some, Bool.and_eq_true, Bool.not_eq_true'] at hi
      obtain ⟨hil, hie⟩ := hi
      have hil : listed.getD i false = false := by simpa [Array.getD, his] using hil
      have hedge : ∀ e ∈ o.after.toList, Region.binds .any e = true → listed.getD e.on false = true := by
        intro e he hb
        rw [Array.all_eq_true'] at hie
        have := hie e (by simpa using he)
        simpa [hb] using this
      -- ahead
      have up : ∀ k, Ahead ops.toList i k → listed.getD k false = true := fun k hk => hk _ hcl (fun o' ho' e he hb => by
        have : ops[i]? = some o' := by rw [← Array.getElem?_toList]; exact ho'
        rw [ho] at this
        injection this with this
        subst this
        exact hedge e he hb)
      have down : ∀ k, Ahead ops.toList k i → listed.getD k false = false := fun k hk => by
        cases hl : listed.getD k false with
        | false => rfl
        | true =>
          have := hk _ hcl (fun o' ho' e he hb => hcl k o' ho' hl e he hb)
          have this : listed.getD i false = true := this
          rw [hil] at this; cases this
      have agree : ∀ k, k < m → (k = i ∨ (k < i ∧ ((bef ops.toList).getD i 0).testBit k = true) ∨ (i < k ∧ ((bef ops.toList).getD k 0).testBit i = true)) → listed.getD k false = decide (k < i) := by
        intro k _ h
        rcases h with rfl | ⟨h1, h2⟩ | ⟨h1, h2⟩
        · rw [hil]; simp
        · rw [up k (ahead_of_bit h2)]; simp [h1]
        · rw [down k (ahead_of_bit h2)]; simp; omega
      have clash : ∀ k ok, k < m → ops[k]? = some ok → k ≠ i → (∃ d, ok.dst = some d ∧ (d ∈ o.looksAt ops ∨ o.dst = some d)) → listed.getD k false = decide (k < i) := by
        intro k ok hk hok hne ⟨d, hd, hl⟩
        refine agree k hk ?_
        rcases Nat.lt_or_gt_of_ne hne with hlt | hgt
        · right; left
          refine ⟨hlt, ?_⟩
          rcases ((look i o ho).2.2.2 k ok hlt hok).1 with h | h
          · obtain ⟨p1, p2, p3⟩ := Oper.apart_spec h
            rcases hl with hl | hl
            · exact absurd hl (p1 d hd)
            · exact absurd hl (p2 d hd)
          · exact h
        · right; right
          refine ⟨hgt, ?_⟩
          rcases ((look k ok hok).2.2.2 i o hgt ho).1 with h | h
          · obtain ⟨p1, p2, p3⟩ := Oper.apart_spec h
            rcases hl with hl | hl
            · exact absurd hl (p3 d hd)
            · exact absurd hd (p2 d hl)
          · exact h
      obtain ⟨HS, g', s1, s2, s3, s4⟩ := hinv
      obtain ⟨_, hfact⟩ := e3 i o (hop i o ho)
      have heq : W.contains i = true ∨ (∀ k ∈ W, ordered (bef ops.toList) i k = true) → HS = hs i := by
        intro hc
        refine s1.unique ((seenH_text hhs i (Nat.le_of_lt him)).congr (fun k hk hW => ?_))
        refine (agree k hk ?_).symm
        by_cases hki : k = i
        · exact .inl hki
        · right
          rcases hc with hc | hc
          · rcases Nat.lt_or_gt_of_ne hki with hlt | hgt
            · obtain ⟨ok, hok⟩ := hget k hk
              exact .inl ⟨hlt, ((look i o ho).2.2.2 k ok hlt hok).2 hW hc⟩
            · obtain ⟨ok, hok⟩ := hget k hk
              exact .inr ⟨hgt, ((look k ok hok).2.2.2 i o hgt ho).2 hc hW⟩
          · have := hc k (by simpa using hW)
            unfold ordered at this
            rcases Nat.lt_or_gt_of_ne hki with hlt | hgt
            · rw [if_neg (by omega), if_pos hlt] at this; exact .inl ⟨hlt, this⟩
            · rw [if_pos hgt] at this; exact .inr ⟨hgt, this⟩
      -- what it sees
      let es' : Env := restr (o.looksAt ops) (es i)
      have hE : EnvRep (cxOf g' HS.length w') es' a := by
        intro t
        show RepV _ (eget (restr (o.looksAt ops) (es i)) t) _
        rw [get_restrict]
        split
        · rename_i ht
          refine s4 t _ ((seen_text hes t i (Nat.le_of_lt him)).congr (fun k hk hdk => ?_))
          by_cases hki : k = i
          · subst hki; rw [hil]; simp
          · obtain ⟨ok, hok⟩ := hget k hk
            have hdk' : ok.dst = some t := by simpa [dst, hok] using hdk
            exact (clash k ok hk hok hki ⟨t, hdk', .inl ht⟩).symm
        · trivial
      have hlook : ∀ x ∈ o.op.operands, evl (es i) x = evl es' x := by
        intro x hx
        cases x with
        | tmp t =>
          show eget (es i) t = eget (restr (o.looksAt ops) (es i)) t
          rw [get_restrict, if_pos]
          unfold Oper.looksAt
          exact List.mem_append_left _ (List.mem_filterMap.2 ⟨.tmp t, by simpa using hx, rfl⟩)
        | _ => rfl
      have hgv : ∀ j want, o.guard = some (j, want) → gval ops.toList es' j = gval ops.toList (es i) j := by
        intro j want hg
        unfold gval
        rw [Array.getElem?_toList]
        cases hx : (ops[j]?).bind (·.dst) with
        | none => rfl
        | some t =>
          show eget (restr (o.looksAt ops) (es i)) t = eget (es i) t
          rw [get_restrict, if_pos]
          unfold Oper.looksAt
          rw [hg]
          simp only [hx]
          simp
      have hcong : ∀ K H, ewOp P T own o K (es i) H → ewOp P T own o K es' H := by
        intro K H h
        unfold ewOp at h ⊢
        rw [← xop_congr o.op hlook]
        exact h
      -- what comes behind it
      have after : ∀ (cv : Value) (H' : List Ob) (g'' : Nat → Option Key) (w'' : World), Good g'' H' w'' → Ext g' HS.length w' g'' H'.length w'' → RepV (cxOf g'' H'.length w'') (vs i) cv → SeenH m W hs (fun j => (listed.setIfInBounds i true).getD j false) H' →
          wpAnyIn (fz rd) 0 P .any ops (fun e a' w' => ∃ env' H' g', Rel ds n env' H' g' a' w' ∧ Ext g (hs 0).length w g' H'.length w' ∧ Q e env' H') fuel (listed.setIfInBounds i true) (a.put o.dst cv) w'' := by
        intro cv H' g'' w'' k1 k2 k3 k4
        have hset : ∀ j, (listed.setIfInBounds i true).getD j false = if j = i then true else listed.getD j false := by
          intro j
          by_cases e : j = i
          · subst e; simp [Array.getD, his]
          · rw [if_neg e]
            simp only [Array.getD_eq_getD_getElem?]
            rw [Array.getElem?_setIfInBounds_ne (Ne.symm e)]
        refine ih _ _ _ (by simp [hsz]) ?_ ?_ (by cases o.dst <;> simp [Act.put, hts]) (by cases o.dst <;> simp [Act.put, hdef]) ⟨H', g'', k4, k1, s3.trans k2, fun t v hv => ?_⟩
        · have := filter_lt (p := fun j => !listed.getD j false) (p' := fun j => !(listed.setIfInBounds i true).getD j false) (i := i) (l := List.range m) (fun j _ hj => by
            simp only [hset] at hj
            split at hj
            · simp at hj
            · exact hj) (List.mem_range.2 him) (by simp [hil]) (by simp [hset])
          omega
        · intro j oj hj hl e he hb
          simp only [hset] at hl ⊢
          split
          · rfl
          · split at hl
            · rename_i e1
              subst e1
              have : ops[j]? = some oj := by rw [← Array.getElem?_toList]; exact hj
              rw [ho] at this
              injection this with this
              subst this
              exact hedge e he hb
            · exact hcl j oj hj hl e he hb
        · have hdn := (look i o ho).2.2.1
          by_cases hdt : o.dst = some t
          · have hv' : v = vs i := by
              have hdi : dst i = some t := by simp [dst, ho, hdt]
              rcases hv with ⟨j, a1, a2, a3, a4, a5⟩ | ⟨a1, _⟩
              · by_cases hji : j = i
                · subst hji; exact a4.symm
                · obtain ⟨oj, hoj⟩ := hget j a1
                  have hdj : oj.dst = some t := by simpa [dst, hoj] using a3
                  have hcl' := clash j oj a1 hoj hji ⟨t, hdj, .inr hdt⟩
                  simp only [hset] at a2
                  rw [if_neg hji, hcl'] at a2
                  exact absurd hdi (a5 i (of_decide_eq_true a2) him (by simp [hset]))
              · exact absurd hdi (a1 i him (by simp [hset]))
            subst hv'
            have : (a.put o.dst cv).tmps.getD t undef = cv := by
              have := hdn t hdt
              rw [hdt]
              simp [Act.put, hts, this]
            rw [this]
            exact k3
          · have hold : Seen m dst vs (eget (es 0)) (fun j => listed.getD j false) t v := hv.congr (fun k hk hdk => by
              simp only [hset]
              rw [if_neg]
              intro e
              subst e
              exact hdt (by simpa [dst, ho] using hdk))
            have := RepV.mono k2.mono (s4 t v hold)
            have e : (a.put o.dst cv).tmps.getD t undef = a.tmps.getD t undef := by
              cases hd : o.dst with
              | none => rfl
              | some d =>
                have hne : d ≠ t := fun e => hdt (by rw [hd, e])
                simp [Act.put, Array.getElem?_setIfInBounds_ne hne]
            rw [e]
            exact this
      have seenW : W.contains i = true → SeenH m W hs (fun j => (listed.setIfInBounds i true).getD j false) (hs (i + 1)) := by
        intro hW
        refine .inl ⟨i, him, hW, by simp [Array.getD, his], rfl, fun k h1 h2 h3 => ?_⟩
        obtain ⟨ok, hok⟩ := hget k h2
        have := agree k h2 (.inr (.inr ⟨h1, ((look k ok hok).2.2.2 i o h1 ho).2 hW h3⟩))
        simp only [Array.getD_eq_getD_getElem?] at this ⊢
        rw [Array.getElem?_setIfInBounds_ne (by omega), this]
        simp; omega
      have seenN : W.contains i = false → SeenH m W hs (fun j => (listed.setIfInBounds i true).getD j false) HS := by
        intro hW
        refine s1.congr (fun k hk hWk => ?_)
        have : k ≠ i := fun e => by subst e; rw [hW] at hWk; cases hWk
        simp only [Array.getD_eq_getD_getElem?]
        rw [Array.getElem?_setIfInBounds_ne (Ne.symm this)]
      -- the step
      unfold wpOpIn
      rw [ho]
      simp only
      rcases hfact with ⟨hg, hk⟩ | ⟨j, want, q, hg, hq, hne, hv, hH⟩
      · have hw : Region.wanted o (yielded ops a.tmps) = true := by
          rw [wanted_iff]
          cases hgd : o.guard with
          | none => rfl
          | some jw =>
            obtain ⟨j, want⟩ := jw
            rw [hgd] at hg
            simp only at hg ⊢
            rw [gval_yield' hE ((hgv j want hgd).trans hg)]
            simp
        rw [if_pos hw]
        rcases hk with ⟨hW, _, hk⟩ | ⟨hW, hH, hF, hk⟩ | ⟨hW, hH, hF, hS, hk⟩ | ⟨hW, hH, hF, hS, hk⟩
        · have hHS := heq (.inl hW)
          subst hHS
          refine op_wp' hTO hE s2 (hcong _ _ hk) fun v cv H' g'' w'' k1 k2 k3 ⟨k4, k5⟩ => ?_
          subst k4 k5
          exact after cv _ g'' w'' k1 k2 k3 (seenW hW)
        · refine op_wp' hTO hE s2 (hcong _ _ (hk HS)) fun v cv H' g'' w'' k1 k2 k3 ⟨k4, k5⟩ => ?_
          subst k4 k5
          exact after cv _ g'' w'' k1 k2 k3 (seenN hW)
        · have hord : ∀ k ∈ W, ordered (bef ops.toList) i k = true := by
            rcases (look i o ho).1 with h | h | h | h
            · rw [hW] at h; cases h
            · unfold isFree at hF; rw [hF] at h; cases h
            · rw [hS] at h; cases h.1
            · exact h.2
          have hHS := heq (.inr hord)
          subst hHS
          refine op_wp' hTO hE s2 (hcong _ _ hk) fun v cv H' g'' w'' k1 k2 k3 ⟨k4, k5⟩ => ?_
          subst k4 k5
          exact after cv _ g'' w'' k1 k2 k3 (seenN hW)
        · have hst : stabOp o = true ∧ ∃ L, blank (objsOf (es 0) F) HS = blank (objsOf (es 0) F) (hs 0) ++ L := by
            rcases (look i o ho).1 with h | h | h | h
            · rw [hW] at h; cases h
            · unfold isFree at hF; rw [hF] at h; cases h
            · refine ⟨h.2, ?_⟩
              rcases s1 with ⟨j, a1, a2, a3, a4, a5⟩ | ⟨a1, a2⟩
              · obtain ⟨L, hL⟩ := hpre (j + 1) a1
                exact ⟨L, by rw [← a4, hL]⟩
              · exact ⟨[], by rw [a2]; simp⟩
            · rw [hS] at h; cases h.1
          obtain ⟨hst, L, hL⟩ := hst
          have hk' := hk HS L hL hst
          refine op_wp' hTO hE s2 (hcong _ _ hk') fun v cv H' g'' w'' k1 k2 k3 ⟨k4, k5⟩ => ?_
          subst k4 k5
          exact after cv _ g'' w'' k1 k2 k3 (seenN hW)
      · have hw : Region.wanted o (yielded ops a.tmps) = false := by
          rw [wanted_iff, hg]
          simp only
          rw [gval_yield' hE ((hgv j want hg).trans hq)]
          simpa using hne
        rw [hw]
        rw [if_neg (by simp)]
        refine ⟨fun _ _ => trivial, ?_⟩
        cases hW : W.contains i with
        | true =>
          have hHS := heq (.inl hW)
          subst hHS
          refine after undef _ g' w' s2 (Ext.refl _ _ _) (by rw [hv]; trivial) ?_
          rw [← hH]
          exact seenW hW
        | false => exact after undef _ g' w' s2 (Ext.refl _ _ _) (by rw [hv]; trivial) (seenN hW)
  refine wpIn_region_any hm (main ops.size _ a _ (by simp [m]) (Nat.le_trans (List.length_filter_le _ _) (by simp [m])) ?_ hR.1 hR.2.1 ?_)
  · intro j o hj hS
    simp [Array.getD] at hS
  · have hdr := step_drawn hR.2.2.2 (w.drawn + 1)
    refine ⟨hs 0, g, .inr ⟨fun k hk hW => by simp [Array.getD], rfl⟩, hdr.1, hdr.2, fun t v hs => ?_⟩
    rcases hs with ⟨j, _, h1, _⟩ | ⟨_, rfl⟩
    · simp [Array.getD] at h1
    · exact RepV.mono hdr.2.mono (hR.2.2.1 t)
end
end Go.EL

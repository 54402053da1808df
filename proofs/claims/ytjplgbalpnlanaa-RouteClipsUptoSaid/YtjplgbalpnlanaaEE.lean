/- The value logic, part E: loads, stores, addresses. -/
import Derived.Test.YtjplgbalpnlanaaED
set_option linter.unusedSimpArgs false
set_option linter.unusedVariables false
namespace Go.EL
open Go
variable {P : Program} {T : Nat → TD} {g : Nat → Option Key} {H : List Ob} {w : World}

theorem kindOK_agg {td : TypeDesc} {k : TK} (h : kindOK td k = true) : (match td with | .struct _ | .array _ _ => true | _ => false) = k.isAgg := by
  cases td <;> cases k <;> first | rfl | (simp [kindOK] at h)

theorem TyAt.run_und {t : TypeId} {d : TD} (h : TyAt P t d) (w : World) : ∃ td, kindOK td d.kind = true ∧ (underlying t).run P w = .ok td w ∧ P.underlying t = some td := by
  obtain ⟨td, h1, h2⟩ := h.und
  exact ⟨td, h2, run_underlying h1 w, h1⟩
theorem TyAt.run_isAgg {t : TypeId} {d : TD} (h : TyAt P t d) (w : World) : (isAgg t).run P w = .ok d.kind.isAgg w := by
  obtain ⟨td, h1, h2, _⟩ := h.run_und w
  have := kindOK_agg h1
  unfold isAgg
  rw [Sem.run_bind, h2]
  cases td <;> simp_all
theorem TyAt.run_typeInfo {t : TypeId} {d : TD} (h : TyAt P t d) (w : World) : ∃ i, (typeInfo t).run P w = .ok i w ∧ i.size = d.size ∧ i.bytes = d.bytes ∧ P.info? t = some i ∧ ∃ z, i.zero = some z ∧ zEqs z.cells.toList d.zero = true := by
  obtain ⟨i, z, h1, h2, h3, h4, h5⟩ := h.info
  exact ⟨i, by simp [typeInfo, h1], h2, h3, h1, z, h4, h5⟩
theorem TyAt.run_sizeOf {t : TypeId} {d : TD} (h : TyAt P t d) (w : World) : (sizeOf t).run P w = .ok d.size w := by
  obtain ⟨i, h1, h2, _⟩ := h.run_typeInfo w
  simp [sizeOf, h1, h2]
theorem TyAt.run_zeroValue {t : TypeId} {d : TD} (h : TyAt P t d) (w : World) : ∃ z, (zeroValue t).run P w = .ok z w ∧ zEqs z.cells.toList d.zero = true := by
  obtain ⟨i, h1, _, _, _, z, h2, h3⟩ := h.run_typeInfo w
  exact ⟨z, by simp [zeroValue, h1, h2], h3⟩

theorem addr_add (b off n : Nat) : (⟨b, off, none⟩ : Addr).add n = ⟨b, off + n, none⟩ := by
  unfold Addr.add; split <;> simp_all

theorem run_loadVar {t : TypeId} {d : TD} (hT : TyAt P t d) {b off : Nat} {vs : List Value} (hl : vs.length = d.size)
    (hc : ∀ j v, vs[j]? = some v → w.cell? ⟨b, off + j, none⟩ = some v) (h1 : d.kind.isAgg = false → d.size = 1) :
    (loadVar t ⟨b, off, none⟩).run P w = .ok (if d.kind.isAgg then .agg vs.toArray else vs.headD undef) w := by
  unfold loadVar
  rw [Sem.run_bind, hT.run_isAgg w]
  simp only [Result.andThen_ok]
  cases hk : d.kind.isAgg with
  | true =>
    have : (loadCells ⟨b, off, none⟩ vs.length).run P w = .ok vs.toArray w :=
      run_loadCells_list w _ vs (fun j v hv => by rw [addr_add]; exact hc j v hv)
    simp [hT.run_sizeOf w, ← hl, this]
  | false =>
    have hs := h1 hk
    rw [hs] at hl
    match vs, hl with
    | [v], _ =>
      have := hc 0 v rfl
      simp only [Nat.add_zero] at this
      simp [this]

theorem mkV_rep {c : Cx} {d : TD} {xs : List V} {vs : List Value} (h : Reps c xs vs) (hl : xs.length = d.size) (h1 : d.kind.isAgg = false → d.size = 1) :
    RepV c (mkV d xs) (if d.kind.isAgg then .agg vs.toArray else vs.headD undef) := by
  unfold mkV
  cases hk : d.kind.isAgg with
  | true => simp only [if_true]; exact RepV.mk_agg h
  | false =>
    have hs := h1 hk
    rw [hs] at hl
    match xs, hl with
    | [x], _ =>
      simp only [Reps] at h
      obtain ⟨v, vs', rfl, ho, hr, rfl⟩ := h
      simp only [List.headD_cons, if_false, Bool.false_eq_true]
      have ho' := RepC.oneCell hr ho
      refine RepV.mk_leaf hr (fun cs e => by subst e; exact ho) (fun cs e => by subst e; simp [Value.oneCell'] at ho')

theorem cell?_row {b j : Nat} {cur : Array Value} {et : TypeId} {fr : Nat × Nat} (h : w.heap[b]? = some (.cells cur et fr)) : w.cell? ⟨b, j, none⟩ = cur.toList[j]? := by
  simp [World.cell?, h]

theorem Good.var (hG : Good g H w) {o : Nat} {cs : List V} (h : H[o]? = some (.var cs)) :
    ∃ b cur et fr, g o = some ⟨0, some b, 0, 0⟩ ∧ w.heap[b]? = some (.cells cur et fr) ∧ Reps (cxOf g H.length w) cs cur.toList ∧ unfrozen fr cur.size := by
  have := hG.ob o; rw [h] at this; exact this
theorem Good.vec (hG : Good g H w) {o : Nat} {ver es : Nat} {l : List V} (h : H[o]? = some (.vec ver es l)) :
    ∃ q, g o = some q ∧ q.ver = ver ∧ q.es = es ∧ 1 ≤ ver ∧ q.cap ≤ maxLen ∧ l.length ≤ q.cap ∧
      ((q.blk = none ∧ q.cap = 0) ∨
       ∃ b cur et fr, q.blk = some b ∧ w.heap[b]? = some (.cells cur et fr) ∧ cur.size = q.cap * q.es ∧ RepE (cxOf g H.length w) q.es b 0 l ∧ unfrozen fr cur.size ∧ (∀ v ∈ cur.toList, v.oneCell' = true)) := by
  have := hG.ob o; rw [h] at this; exact this

theorem take_drop_get {α : Type} {l : List α} {off n j : Nat} {x : α} (h : ((l.drop off).take n)[j]? = some x) : l[off + j]? = some x := by
  rw [List.getElem?_take] at h
  split at h
  · rwa [List.getElem?_drop] at h
  · cases h

theorem xload_exact {t : TypeId} {d : TD} (hT : TyAt P t d) {a : V} {ca : Value} (hG : Good g H w) (ha : RepV (cxOf g H.length w) a ca) {pre : Prop} {v : V} {H' : List Ob}
    (h : xload d H a = .val pre v H') (hp : pre) : H' = H ∧ ∃ cv, (Instr.loadAt t ca).run P w = .ok cv w ∧ RepV (cxOf g H.length w) v cv := by
  unfold xload at h
  split at h
  · rename_i o off
    split at h
    · rename_i cs ho
      injection h with e1 e2 e3
      subst e1 e2 e3
      obtain ⟨hp1, hp2⟩ := hp
      obtain ⟨b, cur, et, fr, hk, hh, hr, _⟩ := hG.var ho
      have hl := ha.leaf (by simp) (by simp)
      simp only [RepC] at hl
      obtain ⟨_, u, hu, _, hv⟩ := hl
      injection hu with hu
      subst hu
      have := hv _ b hk rfl rfl
      subst this
      have hlen := hr.length
      refine ⟨rfl, if d.kind.isAgg then .agg ((cur.toList.drop off).take d.size).toArray else ((cur.toList.drop off).take d.size).headD undef, ?_, ?_⟩
      · simp only [Instr.loadAt, Instr.sureAddr, Sem.run_bind, Sem.run_pure, Result.andThen_ok]
        refine run_loadVar hT ?_ (fun j v hj => ?_) hp2
        · rw [List.length_take, List.length_drop]; omega
        · rw [cell?_row hh]; exact take_drop_get hj
      · exact mkV_rep ((hr.drop off).take d.size) (by rw [List.length_take, List.length_drop]; omega) hp2
    · cases h
  · rename_i cs c
    injection h with e1 e2 e3
    subst e1 e2 e3
    obtain ⟨hp1, hp2⟩ := hp
    have hl := ha.leaf (by simp) (by simp)
    simp only [RepC] at hl
    obtain ⟨b, off, ws, hu, himm, hr, hc⟩ := hl
    injection hu with hu
    subst hu
    have hlen := hr.length
    refine ⟨rfl, if d.kind.isAgg then .agg ((ws.drop c).take d.size).toArray else ((ws.drop c).take d.size).headD undef, ?_, ?_⟩
    · simp only [Instr.loadAt, Instr.sureAddr, Sem.run_bind, Sem.run_pure, Result.andThen_ok]
      refine run_loadVar hT ?_ (fun j v hj => ?_) hp2
      · rw [List.length_take, List.length_drop]; omega
      · rw [Nat.add_assoc]; exact hc _ v (take_drop_get hj)
    · exact mkV_rep ((hr.drop c).take d.size) (by rw [List.length_take, List.length_drop]; omega) hp2
  · rename_i o ver i c
    split at h
    · rename_i ver' es l ho
      injection h with e1 e2 e3
      subst e1 e2 e3
      obtain ⟨rfl, hi, hp1, hp2⟩ := hp
      obtain ⟨q, hk, hver, _, _, _, hcap, hb⟩ := hG.vec ho
      have hl := ha.leaf (by simp) (by simp)
      simp only [RepC] at hl
      obtain ⟨_, u, hu, _, hv⟩ := hl
      injection hu with hu
      subst hu
      have hv := (hv q hk).2
      rcases hb with ⟨_, h0⟩ | ⟨b, cur, et, fr, hblk, hh, hsz, hr, _⟩
      · omega
      have := hv b hver hblk
      subst this
      have hx : l[i]? = some (V.at l i) := by simp [V.at, List.getD, hi]
      obtain ⟨ws, g1, g2, g3⟩ := hr.get hx
      have hlen := g1.2.length
      have hreps : Reps (cxOf g H.length w) (V.at l i).cells ws := RepC.to_cells g1.2 g1.1
      refine ⟨rfl, if d.kind.isAgg then .agg ((ws.drop c).take d.size).toArray else ((ws.drop c).take d.size).headD undef, ?_, ?_⟩
      · simp only [Instr.loadAt, Instr.sureAddr, Sem.run_bind, Sem.run_pure, Result.andThen_ok]
        refine run_loadVar hT ?_ (fun j v hj => ?_) hp2
        · rw [List.length_take, List.length_drop]; omega
        · have := g3 _ v (take_drop_get hj)
          rw [← this]
          simp only [Nat.zero_add, Nat.add_assoc]
          rfl
      · exact mkV_rep ((hreps.drop c).take d.size) (by rw [List.length_take, List.length_drop]; omega) hp2
    · cases h
  · cases h

theorem xload_sound {t : TypeId} {d : TD} (hT : TyAt P t d) {a : V} {ca : Value} (hG : Good g H w) (ha : RepV (cxOf g H.length w) a ca) {pre : Prop} {v : V} {H' : List Ob}
    (h : xload d H a = .val pre v H') (hp : pre) : DoneV P g H w (Instr.loadAt t ca) v H' := by
  obtain ⟨rfl, cv, h1, h2⟩ := xload_exact hT hG ha h hp
  exact DoneV.pure_ hG h1 h2

theorem heap_setCell {b i : Nat} {v : Value} {cs : Array Value} {t : TypeId} {fr : Nat × Nat} (hg : w.heap[b]? = some (.cells cs t fr)) :
    (w.setCell ⟨b, i, none⟩ v).heap[b]? = some (.cells (cs.setIfInBounds i v) t fr) := by
  simp [World.setCell, Array.getElem?_modify, hg]
theorem heap_setCell_ne {a : Addr} {k : Nat} {v : Value} (h : k ≠ a.block) : (w.setCell a v).heap[k]? = w.heap[k]? := by
  simp [World.setCell, Array.getElem?_modify, Ne.symm h]
theorem size_setCell (a : Addr) (v : Value) : (w.setCell a v).heap.size = w.heap.size := by simp [World.setCell]

theorem list_set_splice (l : List Value) (o : Nat) (v : Value) (vs : List Value) (h : o + (vs.length + 1) ≤ l.length) :
    (l.set o v).take (o + 1) ++ vs ++ (l.set o v).drop (o + 1 + vs.length) = l.take o ++ (v :: vs) ++ l.drop (o + (v :: vs).length) := by
  rw [List.take_set, List.drop_set_of_lt (by omega)]
  rw [List.take_succ_eq_append_getElem (by omega), List.set_append_right _ _ (by simp; omega)]
  simp [Nat.min_eq_left (show o ≤ l.length by omega)]
  omega

theorem heap_setCells {b : Nat} {t : TypeId} {fr : Nat × Nat} : ∀ (vs : List Value) (o : Nat) (w : World) (cs : Array Value), w.heap[b]? = some (.cells cs t fr) → o + vs.length ≤ cs.size →
    (w.setCells b o vs).heap[b]? = some (.cells (cs.toList.take o ++ vs ++ cs.toList.drop (o + vs.length)).toArray t fr)
  | [], o, w, cs, h, _ => by simp [World.setCells, h]
  | v :: vs, o, w, cs, h, hl => by
    rw [World.setCells, heap_setCells vs (o + 1) _ _ (heap_setCell h) (by simp at hl ⊢; omega)]
    congr 2
    congr 1
    rw [Array.toList_setIfInBounds]
    exact list_set_splice _ _ _ _ (by simpa using hl)
theorem heap_setCells_ne {b k : Nat} (h : k ≠ b) : ∀ (vs : List Value) (o : Nat) (w : World), (w.setCells b o vs).heap[k]? = w.heap[k]?
  | [], _, _ => rfl
  | v :: vs, o, w => by rw [World.setCells, heap_setCells_ne h vs, heap_setCell_ne h]
theorem size_setCells (b : Nat) : ∀ (vs : List Value) (o : Nat) (w : World), (w.setCells b o vs).heap.size = w.heap.size
  | [], _, _ => rfl
  | v :: vs, o, w => by rw [World.setCells, size_setCells b vs, size_setCell]
theorem rest_setCells (b : Nat) : ∀ (vs : List Value) (o : Nat) (w : World), (w.setCells b o vs).os = w.os ∧ (w.setCells b o vs).output = w.output ∧ (w.setCells b o vs).tape = w.tape ∧ (w.setCells b o vs).drawn = w.drawn
  | [], _, _ => ⟨rfl, rfl, rfl, rfl⟩
  | v :: vs, o, w => by rw [World.setCells]; exact rest_setCells b vs (o + 1) (w.setCell ⟨b, o, none⟩ v)

theorem run_store_row {t : TypeId} {d : TD} (hT : TyAt P t d) {b off : Nat} {cur : Array Value} {et : TypeId} {fr : Nat × Nat} {cv : Value} (hh : w.heap[b]? = some (.cells cur et fr))
    (hu : unfrozen fr cur.size) (hs : cv.cells.size = d.size) (hl : off + d.size ≤ cur.size) (h1 : ∀ v ∈ cv.cells.toList, v.oneCell' = true) :
    (Instr.storeAt t (.pointer (some ⟨b, off, none⟩)) cv).run P w = .ok () (w.setCells b off cv.cells.toList) := by
  have hlen : cv.cells.toList.length = d.size := by simpa using hs
  have := run_storeCells_cells (P := P) b off cv.cells.toList 0 w
    (fun j hj => by rw [Nat.add_zero, cell?_row hh]; simp; omega)
    (fun j hj => by
      have := hu (off + j) (by omega)
      simp only [World.frozen?, hh, Nat.add_zero]
      simpa using this) h1
  simp [Instr.storeAt, Instr.sureAddr, storeVar, hT.run_sizeOf, hs, this]

theorem set_get_ne {H : List Ob} {o o' : Nat} {x : Ob} (h : o' ≠ o) : (H.set o x)[o']? = H[o']? := by rw [List.getElem?_set_ne (Ne.symm h)]
theorem set_get_eq {H : List Ob} {o : Nat} {x y : Ob} (h : H[o]? = some y) : (H.set o x)[o]? = some x := by
  rw [List.getElem?_set_self (List.getElem?_eq_some_iff.1 h).1]

theorem lt_of_get {H : List Ob} {o : Nat} {y : Ob} (h : H[o]? = some y) : o < H.length := (List.getElem?_eq_some_iff.1 h).1

/-- the block of one object is rewritten in place -/
theorem step_rewrite (hG : Good g H w) {o b : Nat} {k : Key} {x y : Ob} (ho : H[o]? = some x) (hk : g o = some k) (hb : k.blk = some b) (vs : List Value) (off : Nat)
    (hob : Mono (cxOf g H.length w) (cxOf g (H.set o y).length (w.setCells b off vs)) → ObOK (cxOf g (H.set o y).length (w.setCells b off vs)) (w.setCells b off vs).heap (some k) (some y)) :
    Good g (H.set o y) (w.setCells b off vs) ∧ Ext g H.length w g (H.set o y).length (w.setCells b off vs) := by
  have hr := rest_setCells b vs off w
  refine step_one hG o g (H.set o y) (w.setCells b off vs) hr.1 hr.2.1 hr.2.2.1 (fun o' h => set_get_ne h) (fun _ _ => rfl) (by simp) (by rw [size_setCells]; exact Nat.le_refl _)
    (fun b' hb' hne => heap_setCells_ne (fun e => hne k hk (by rw [e]; exact hb)) _ _ _) (fun k' b' hk' hb' => .inr ⟨k', hk', hb'⟩)
    (fun _ k' hk' => ⟨k', hk', Nat.le_refl _, fun _ => rfl⟩) (fun m => ?_)
  rw [hk, set_get_eq ho]
  exact hob m

theorem splice_reps {c : Cx} {xs ys : List V} {vs us : List Value} (off : Nat) (h : Reps c xs vs) (g : Reps c ys us) : Reps c (splice xs off ys) (vs.take off ++ us ++ vs.drop (off + us.length)) := by
  unfold splice
  rw [g.length]
  exact ((h.take off).append g).append (h.drop _)

theorem xstore_var_sound {t : TypeId} {d : TD} (hT : TyAt P t d) {o off : Nat} {x : V} {ca cx : Value} (hG : Good g H w) (ha : RepV (cxOf g H.length w) (.ref o off) ca) (hx : RepV (cxOf g H.length w) x cx)
    {cs : List V} (ho : H[o]? = some (.var cs)) (hs : x.storable) (hl : x.cells.length = d.size) (hb : off + d.size ≤ cs.length) :
    ∃ w', (Instr.storeAt t ca cx).run P w = .ok () w' ∧ Good g (H.set o (.var (splice cs off x.cells))) w' ∧ Ext g H.length w g (H.set o (.var (splice cs off x.cells))).length w' := by
  obtain ⟨b, cur, et, fr, hk, hh, hr, hu⟩ := hG.var ho
  have hleaf := ha.leaf (by simp) (by simp)
  simp only [RepC] at hleaf
  obtain ⟨_, u, hu', _, hv⟩ := hleaf
  injection hu' with hu'
  subst hu'
  have := hv _ b hk rfl rfl
  subst this
  have hcells := cells_of hx hs
  have hlen := hr.length
  have hlc := hcells.length
  refine ⟨w.setCells b off cx.cells.toList, run_store_row hT hh hu (by simpa [hl] using hlc) (by simp at hlen; omega) hcells.oneCell, ?_⟩
  have hsz : (cur.toList.take off ++ cx.cells.toList ++ cur.toList.drop (off + cx.cells.toList.length)).length = cur.size := by
    have : cur.toList.length = cur.size := by simp
    simp only [List.length_append, List.length_take, List.length_drop]; omega
  refine step_rewrite hG ho hk rfl _ _ (fun m => ?_)
  refine ⟨b, _, et, fr, rfl, heap_setCells _ _ _ _ hh (by rw [hlc, hl]; simp at hlen; omega), ?_, ?_⟩
  · simp only []
    exact splice_reps off (Reps.mono m _ _ hr) (Reps.mono m _ _ hcells)
  · rw [List.size_toArray, hsz]; exact hu


theorem RepE.of_get {c : Cx} {es b : Nat} : ∀ {xs : List V} {off : Nat}, (∀ (i : Nat) (x : V), xs[i]? = some x →
    ∃ vs, (x.storable ∧ RepC c x vs) ∧ vs.length = es ∧ ∀ j v, vs[j]? = some v → c.cell ⟨b, off + i * es + j, none⟩ = some v) → RepE c es b off xs
  | [], _, _ => by simp [RepE]
  | x :: xs, off, h => by
    simp only [RepE]
    obtain ⟨vs, h1, h2, h3⟩ := h 0 x rfl
    refine ⟨vs, h1, h2, by simpa using h3, RepE.of_get (fun i y hy => ?_)⟩
    obtain ⟨us, g1, g2, g3⟩ := h (i + 1) y (by simpa using hy)
    exact ⟨us, g1, g2, fun j v hj => by rw [← g3 j v hj, show off + (i + 1) * es + j = off + es + i * es + j by rw [Nat.add_mul]; omega]⟩

theorem mul_gap {i j es c : Nat} (h : i < j) (hc : c < es) : i * es + c < j * es := by
  have : (i + 1) * es ≤ j * es := Nat.mul_le_mul_right _ h
  rw [Nat.add_mul] at this
  omega

theorem withCells_cells {x : V} {cs : List V} (hx : x.storable) (h : cs.length = x.cells.length) : (∀ y ∈ cs, V.leaf y) → (x.withCells cs).cells = cs ∧ (x.withCells cs).storable := by
  intro hl
  cases x with
  | agg _ => exact ⟨rfl, trivial⟩
  | dead => exact hx.elim
  | tuple _ => exact hx.elim
  | _ =>
    simp only [V.cells, List.length_cons, List.length_nil] at h
    match cs, h with
    | [y], _ =>
      have := hl y (by simp)
      simp only [V.withCells, List.headD_cons]
      cases y <;> first | exact this.elim | exact ⟨rfl, this⟩

theorem Reps.leaf {c : Cx} : ∀ {xs : List V} {vs : List Value}, Reps c xs vs → ∀ x ∈ xs, V.leaf x
  | [], _, _, x, hx => by simp at hx
  | y :: xs, _, h, x, hx => by
    simp only [Reps] at h
    obtain ⟨u, vs', rfl, h1, _, h⟩ := h
    rcases List.mem_cons.1 hx with e | hx
    · subst e; exact h1
    · exact h.leaf x hx

theorem splice_get {α : Type} (cur ws us : List α) (B c : Nat) (hB : ∀ n, n < ws.length → cur[B + n]? = ws[n]?) (h1 : c + us.length ≤ ws.length) (h2 : B + c + us.length ≤ cur.length) (k : Nat) (hk : k < ws.length) :
    (cur.take (B + c) ++ us ++ cur.drop (B + c + us.length))[B + k]? = (ws.take c ++ us ++ ws.drop (c + us.length))[k]? := by
  have e1 : (cur.take (B + c)).length = B + c := by rw [List.length_take]; omega
  have e2 : (ws.take c).length = c := by rw [List.length_take]; omega
  rcases Nat.lt_or_ge k c with h | h
  · rw [List.getElem?_append_left (by simp; omega), List.getElem?_append_left (by omega), List.getElem?_append_left (by simp; omega), List.getElem?_append_left (by omega),
      List.getElem?_take, List.getElem?_take, if_pos (by omega), if_pos h]
    exact hB k hk
  · rcases Nat.lt_or_ge k (c + us.length) with h' | h'
    · rw [List.getElem?_append_left (by simp; omega), List.getElem?_append_right (by omega), List.getElem?_append_left (by simp; omega), List.getElem?_append_right (by omega), e1, e2]
      congr 1; omega
    · rw [List.getElem?_append_right (by simp; omega), List.getElem?_append_right (by simp; omega), List.getElem?_drop, List.getElem?_drop, List.length_append, List.length_append, e1, e2]
      rw [show B + c + us.length + (B + k - (B + c + us.length)) = B + k by omega, show c + us.length + (k - (c + us.length)) = k by omega]
      exact hB k hk

theorem xstore_vec_sound {t : TypeId} {d : TD} (hT : TyAt P t d) {o ver es i c : Nat} {x : V} {ca cx : Value} (hG : Good g H w) (ha : RepV (cxOf g H.length w) (.eref o ver i c) ca) (hx : RepV (cxOf g H.length w) x cx)
    {l : List V} (ho : H[o]? = some (.vec ver es l)) (hi : i < l.length) (hs : x.storable) (hl : x.cells.length = d.size) (hb : c + d.size ≤ (V.at l i).cells.length) :
    ∃ w', (Instr.storeAt t ca cx).run P w = .ok () w' ∧ Good g (H.set o (.vec ver es (l.set i ((V.at l i).withCells (splice (V.at l i).cells c x.cells))))) w' ∧
      Ext g H.length w g (H.set o (.vec ver es (l.set i ((V.at l i).withCells (splice (V.at l i).cells c x.cells))))).length w' := by
  obtain ⟨q, hk, hver, hes, hv1, hcm, hcap, hbk⟩ := hG.vec ho
  have hleaf := ha.leaf (by simp) (by simp)
  simp only [RepC] at hleaf
  obtain ⟨_, u, hu', _, hv⟩ := hleaf
  injection hu' with hu'
  subst hu'
  rcases hbk with ⟨_, h0⟩ | ⟨b, cur, et, fr, hblk, hh, hsz, hr, hu, hone⟩
  · omega
  have := (hv q hk).2 b hver hblk
  subst this
  have hcells := cells_of hx hs
  have hlc := hcells.length
  have hx0 : l[i]? = some (V.at l i) := by simp [V.at, List.getD, hi]
  obtain ⟨ws, g1, g2, g3⟩ := hr.get hx0
  have hws := g1.2.length
  have hreps := RepC.to_cells g1.2 g1.1
  have hie : i * q.es + q.es ≤ cur.size := by
    rw [hsz]
    have : (i + 1) * q.es ≤ q.cap * q.es := Nat.mul_le_mul_right _ (by omega)
    rw [Nat.add_mul] at this; omega
  have hlen : cx.cells.toList.length = d.size := by omega
  refine ⟨w.setCells b (i * q.es + c) cx.cells.toList, run_store_row hT hh hu (by simpa using hlen) (by omega) hcells.oneCell, ?_⟩
  have hcs : ∀ j, (w.setCells b (i * q.es + c) cx.cells.toList).cell? ⟨b, j, none⟩ = (cur.toList.take (i * q.es + c) ++ cx.cells.toList ++ cur.toList.drop (i * q.es + c + cx.cells.toList.length))[j]? := by
    intro j
    rw [cell?_row (heap_setCells _ _ _ _ hh (by omega))]
  have hcsz : cur.toList.length = cur.size := by simp
  refine step_rewrite hG ho hk hblk _ _ (fun m => ?_)
  refine ⟨q, rfl, hver, hes, hv1, hcm, by simpa using hcap, .inr ⟨b, _, et, fr, hblk, heap_setCells _ _ _ _ hh (by omega), ?_, ?_, ?_, ?_⟩⟩
  · rw [← hsz]
    simp only [List.size_toArray, List.length_append, List.length_take, List.length_drop]; omega
  · refine RepE.of_get (fun j y hy => ?_)
    show ∃ vs, _ ∧ _ ∧ ∀ (k : Nat) (v : Value), vs[k]? = some v → (w.setCells b (i * q.es + c) cx.cells.toList).cell? ⟨b, 0 + j * q.es + k, none⟩ = some v
    by_cases e : j = i
    · subst e
      rw [List.getElem?_set_self hi] at hy
      injection hy with hy
      subst hy
      have hsp := splice_reps c (Reps.mono m _ _ hreps) (Reps.mono m _ _ hcells)
      have hspl : (splice (V.at l j).cells c x.cells).length = (V.at l j).cells.length := by
        unfold splice; simp only [List.length_append, List.length_take, List.length_drop]; omega
      obtain ⟨k1, k2⟩ := withCells_cells g1.1 hspl hsp.leaf
      refine ⟨_, ⟨k2, RepC.of_cells (by rw [k1]; exact hsp) k2⟩, ?_, fun k v hk' => ?_⟩
      · rw [hsp.length, hspl]; omega
      · rw [hcs]
        have hkl : k < ws.length := by
          have := (List.getElem?_eq_some_iff.1 hk').1
          rw [hsp.length, hspl] at this; omega
        have hold : ∀ n, n < ws.length → cur.toList[j * q.es + n]? = ws[n]? := by
          intro n hn
          have := g3 n ws[n] (List.getElem?_eq_getElem hn)
          simp only [Nat.zero_add] at this
          rw [show (cxOf g H.length w).cell = w.cell? from rfl, cell?_row hh] at this
          rw [this, List.getElem?_eq_getElem hn]
        simp only [Nat.zero_add]
        rw [← hk']
        exact splice_get _ _ _ _ _ hold (by omega) (by omega) k hkl
    · rw [List.getElem?_set_ne (Ne.symm e)] at hy
      obtain ⟨us, k1, k2, k3⟩ := hr.get hy
      refine ⟨us, ⟨k1.1, RepC.mono m _ _ k1.2⟩, k2, fun k v hk' => ?_⟩
      have hkl : k < q.es := by have := (List.getElem?_eq_some_iff.1 hk').1; omega
      have := k3 k v hk'
      rw [show (cxOf g H.length w).cell = w.cell? from rfl] at this
      rw [World.cell?_setCells_out]
      · exact this
      · intro _ _
        simp only [Nat.zero_add]
        rcases Nat.lt_or_gt_of_ne e with h | h
        · have := mul_gap (es := q.es) h hkl; left; omega
        · have := mul_gap (es := q.es) h (show q.es - 1 < q.es by omega); right; omega
  · simp only [List.size_toArray, List.length_append, List.length_take, List.length_drop]
    intro j hj
    exact hu j (by omega)
  · intro v hv
    simp only [List.mem_append] at hv
    rcases hv with (hv | hv) | hv
    · exact hone v (List.mem_of_mem_take hv)
    · exact hcells.oneCell v hv
    · exact hone v (List.mem_of_mem_drop hv)

end Go.EL

/- The value logic, part X: from what a claim's arguments read to abstract values; the row. -/
import Derived.Test.YtjplgbalpnlanaaEW
import Derived.Deep.Slices
import Derived.Carry
set_option linter.unusedVariables false
set_option linter.unusedSimpArgs false
namespace Go.EL
open Go Go.ChangeShapes Go.WideShapes Go.RowKit
variable {P : Program} {T : Nat → TD}

abbrev cx0 (W : World) : Cx := cxOf (fun _ => none) 0 W
theorem imm0 {W : World} {b : Nat} (h : b < W.heap.size) : (cx0 W).imm b := ⟨h, fun o k hk => by cases hk⟩

/-! how much a reading holds -/
mutual
def bulk {H : Type} : DataW H → Nat
  | .lit (.string bytes) => bytes.length + 1
  | .lit _ => 1
  | .nil => 1
  | .ptr d => bulk d + 1
  | .slice elems spare => bulkAll elems + bulkAll spare + 1
  | .agg parts => bulkAll parts + 1
  | .iface _ d => bulk d + 1
  | .map entries => bulkEntries entries + 1
  | .held _ => 1
def bulkAll {H : Type} : List (DataW H) → Nat
  | [] => 0
  | d :: r => bulk d + bulkAll r
def bulkEntries {H : Type} : List (Lit × DataW H) → Nat
  | [] => 0
  | x :: r => bulkEntry x + bulkEntries r
def bulkEntry {H : Type} : Lit × DataW H → Nat
  | (.string bytes, d) => bytes.length + bulk d + 1
  | (_, d) => bulk d + 1
end
theorem bulkAll_append {H : Type} : ∀ (l r : List (DataW H)), bulkAll (l ++ r) = bulkAll l + bulkAll r
  | [], r => by simp [bulkAll]
  | x :: l, r => by simp only [List.cons_append, bulkAll, bulkAll_append l r]; omega

/-- what a type's values are, as abstract values; 'sz': how much they hold at least -/
def Dec (P : Program) (t : TypeId) {α : Type} (f : α → V) (p : α → Prop) (sz : α → Nat) : Prop :=
  ∀ (H : Type) (enc : TypeId × Value → H) (W : World) (sp : Nat → Bool) (held : Bool) (fuel : Nat) (cs : List Value) (x : DataW H × List MemPlace),
    DataW.trod enc P W 0 sp held fuel t cs = some x → ∃ a, p a ∧ sz a ≤ bulk x.1 ∧ (f a).storable ∧ RepC (cx0 W) (f a) cs

theorem Dec.bool {t : TypeId} (ht : P.underlying t = some .bool) : Dec P t (fun b : Bool => V.bool b) (fun _ => True) (fun _ => 1) := by
  intro H enc W sp held fuel cs x h
  obtain ⟨b, rfl, rfl⟩ := DataW.trod_bool ht h
  exact ⟨b, trivial, by simp [bulk], trivial, by simp only [RepC]⟩
theorem Dec.int {t : TypeId} {k : IntKind} (ht : P.underlying t = some (.int k)) : Dec P t (fun n : Int => V.int k n) (fun n => (Lit.int k n).wf = true) (fun _ => 1) := by
  intro H enc W sp held fuel cs x h
  obtain ⟨n, rfl, rfl, hw⟩ := DataW.trod_int ht h
  exact ⟨n, hw, by simp [bulk], trivial, by simp only [RepC]⟩
theorem Dec.str {t : TypeId} (ht : P.underlying t = some .string) : Dec P t (fun l : List UInt8 => V.str l) (fun l => l.length ≤ maxLen) (fun l => l.length + 1) := by
  intro H enc W sp held fuel cs x h
  obtain ⟨s, rfl, rfl, hw⟩ := DataW.trod_string ht h
  refine ⟨s.data.toList, by show s.data.toList.length ≤ maxLen; rw [Array.length_toList]; exact hw, by simp [bulk], trivial, by simp only [RepC]⟩

theorem RepE.of_index {c : Cx} {es b : Nat} : ∀ {l : List V} {off : Nat}, (∀ i x, l[i]? = some x → ∃ vs, (x.storable ∧ RepC c x vs) ∧ vs.length = es ∧ ∀ j v, vs[j]? = some v → c.cell ⟨b, off + i * es + j, none⟩ = some v) → RepE c es b off l
  | [], _, _ => by simp only [RepE]
  | x :: xs, off, h => by
    simp only [RepE]
    obtain ⟨vs, h1, h2, h3⟩ := h 0 x rfl
    refine ⟨vs, h1, h2, fun i v hv => by have := h3 i v hv; rwa [Nat.zero_mul, Nat.add_zero] at this, RepE.of_index fun i y hy => ?_⟩
    obtain ⟨us, k1, k2, k3⟩ := h (i + 1) y hy
    refine ⟨us, k1, k2, fun j v hv => ?_⟩
    have := k3 j v hv
    rwa [show off + (i + 1) * es + j = off + es + i * es + j by rw [Nat.add_mul]; omega] at this

theorem Dec.slice {t e : TypeId} {α : Type} {f : α → V} {p : α → Prop} {sz : α → Nat} (ht : P.underlying t = some (.slice e)) (hc : 0 < P.cellsOf e) (hd : Dec P e f p sz) : Dec P t (fun l : List α => V.slice (l.map f)) (fun l => l.length ≤ maxLen ∧ ∀ a ∈ l, p a) (fun l => (l.map sz).sum + 1) := by
  intro H enc W sp held fuel cs x h
  rcases Deep.open_slice ht h with ⟨rfl, rfl⟩ | ⟨a, len, cap, m, n, D, Pl, rfl, hb, hl, hm, hmm, rfl, hx⟩
  · refine ⟨[], ⟨Nat.zero_le _, by simp⟩, by simp [bulk], trivial, ?_⟩
    simp only [List.map_nil, RepC, List.length_nil]
    exact ⟨none, 0, 0, rfl, Nat.le_refl _, Nat.zero_le _, .inl trivial⟩
  · have hlm : len ≤ m := by rw [hmm]; split <;> omega
    have key : ∀ i, i < len → ∃ (q : α) (ws : List Value), p q ∧ sz q ≤ bulk (D i) ∧ (f q).storable ∧ RepC (cx0 W) (f q) ws ∧ ws.length = P.cellsOf e ∧ ∀ j, j < P.cellsOf e → W.cell? ((a.add (i * P.cellsOf e)).add j) = ws[j]? := by
      intro i hi
      obtain ⟨ws, h1, h2⟩ := hx i (by omega)
      obtain ⟨_, h3, h4⟩ := World.cells?_some h1
      obtain ⟨q, k1, k0, k2, k3⟩ := hd H enc W sp held n ws _ h2
      exact ⟨q, ws, k1, k0, k2, k3, h3, fun j hj => h4 j hj⟩
    have mk : ∀ k, k ≤ len → ∃ l : List α, (l.length = k ∧ (l.map sz).sum ≤ bulkAll ((List.range k).map D)) ∧ ∀ i q, l[i]? = some q → ∃ ws : List Value, p q ∧ (f q).storable ∧ RepC (cx0 W) (f q) ws ∧ ws.length = P.cellsOf e ∧ ∀ j, j < P.cellsOf e → W.cell? ((a.add (i * P.cellsOf e)).add j) = ws[j]? := by
      intro k
      induction k with
      | zero => intro _; exact ⟨[], ⟨rfl, by simp⟩, fun i q hq => by simp at hq⟩
      | succ k ih =>
        intro hk
        obtain ⟨l, ⟨h1, h0⟩, h2⟩ := ih (by omega)
        obtain ⟨q, ws, w1, w0, w2⟩ := key k (by omega)
        refine ⟨l ++ [q], ⟨by simp [h1], ?_⟩, fun i r hr => ?_⟩
        · rw [List.range_succ, List.map_append, List.map_append, bulkAll_append, List.sum_append]
          simp only [List.map_cons, List.map_nil, bulkAll, List.sum_cons, List.sum_nil]
          omega
        by_cases hi : i < l.length
        · rw [List.getElem?_append_left hi] at hr; exact h2 i r hr
        · rw [List.getElem?_append_right (by omega)] at hr
          have : i - l.length = 0 := by
            rcases Nat.eq_zero_or_pos (i - l.length) with e | e
            · exact e
            · rw [List.getElem?_eq_none (by simp; omega)] at hr; cases hr
          rw [this] at hr
          simp at hr
          subst hr
          have : i = k := by omega
          subst this
          exact ⟨ws, w1, w2⟩
    obtain ⟨l, ⟨h1, h0⟩, h2⟩ := mk len (Nat.le_refl _)
    refine ⟨l, ⟨by omega, fun q hq => ?_⟩, ?_, trivial, ?_⟩
    · obtain ⟨i, hi⟩ := List.getElem?_of_mem hq
      obtain ⟨ws, k, _⟩ := h2 i q hi
      exact k
    · simp only [bulk]; omega
    · simp only [RepC, List.length_map]
      refine ⟨some a, cap, P.cellsOf e, by rw [h1], by omega, hm, ?_⟩
      by_cases h0 : len = 0
      · left; rw [List.map_eq_nil_iff]; exact List.eq_nil_of_length_eq_zero (by omega)
      · right
        obtain ⟨b, off, spot⟩ := a
        obtain ⟨q0, ws0, _, _, _, _, w1, w2⟩ := key 0 (by omega)
        have c0 := w2 0 hc
        rw [List.getElem?_eq_getElem (by omega)] at c0
        simp only [Nat.zero_mul, Addr.add, if_true] at c0
        unfold World.cell? at c0
        have hsp : spot = none ∧ b < W.heap.size := by
          split at c0
          · rename_i cur et fr hh
            simp only at c0 hh
            cases spot with
            | none => exact ⟨rfl, (Array.getElem?_eq_some_iff.1 hh).1⟩
            | some _ => simp at c0
          · cases c0
        obtain ⟨rfl, hlt⟩ := hsp
        refine ⟨b, off, rfl, imm0 hlt, RepE.of_index fun i x hxi => ?_⟩
        rw [List.getElem?_map] at hxi
        obtain ⟨q, hq, rfl⟩ := Option.map_eq_some_iff.1 hxi
        obtain ⟨ws, _, k2, k3, k4, k5⟩ := h2 i q hq
        refine ⟨ws, ⟨k2, k3⟩, k4, fun j v hv => ?_⟩
        have hj : j < P.cellsOf e := by rw [← k4]; exact (List.getElem?_eq_some_iff.1 hv).1
        have := k5 j hj
        rw [hv] at this
        rw [← this]
        show W.cell? _ = W.cell? _
        congr 1
        unfold Addr.add
        split <;> split <;> simp_all [Nat.add_assoc]

def DecFs (P : Program) (fs : List Field) (start total : Nat) {β : Type} (g : β → List V) (p : β → Prop) (sz : β → Nat) : Prop :=
  ∀ (H : Type) (enc : TypeId × Value → H) (W : World) (sp : Nat → Bool) (held : Bool) (n : Nat) (cs : List Value) (xs : List (DataW H × List MemPlace)), cs.length = total →
    All2 (fun f x => DataW.trod enc P W 0 sp held n f.type ((cs.drop f.offset).take (P.cellsOf f.type)) = some x) fs xs → ∃ b, p b ∧ sz b ≤ bulkAll (xs.map (·.1)) ∧ Reps (cx0 W) (g b) (cs.drop start)

theorem DecFs.nil {total : Nat} : DecFs P [] total total (fun _ : Unit => []) (fun _ => True) (fun _ => 0) := by
  intro H enc W sp held n cs xs hl _
  refine ⟨(), trivial, Nat.zero_le _, ?_⟩
  simp only [Reps]
  exact List.drop_eq_nil_of_le (by omega)

theorem DecFs.cons {fd : Field} {fs : List Field} {start next total : Nat} {α β : Type} {f : α → V} {p : α → Prop} {sz : α → Nat} {g : β → List V} {q : β → Prop} {sz2 : β → Nat} (ho : fd.offset = start) (hn : start + P.cellsOf fd.type = next) (hd : Dec P fd.type f p sz) (hs : DecFs P fs next total g q sz2) :
    DecFs P (fd :: fs) start total (fun x : α × β => (f x.1).cells ++ g x.2) (fun x => p x.1 ∧ q x.2) (fun x => sz x.1 + sz2 x.2) := by
  intro H enc W sp held n cs xs hl hx
  cases xs with
  | nil => exact hx.elim
  | cons x xs =>
    obtain ⟨hx0, hx⟩ := hx
    obtain ⟨a, h1, h0, h2, h3⟩ := hd _ _ _ _ _ _ _ _ hx0
    obtain ⟨b, k1, k0, k2⟩ := hs H enc W sp held n cs xs hl hx
    refine ⟨(a, b), ⟨h1, k1⟩, by simp only [List.map_cons, bulkAll]; omega, ?_⟩
    have := Reps.append (RepC.to_cells h3 h2) k2
    rw [ho, ← hn] at this
    have e : List.take (P.cellsOf fd.type) (List.drop start cs) ++ List.drop (start + P.cellsOf fd.type) cs = List.drop start cs := by
      rw [← List.drop_drop, List.take_append_drop]
    rwa [e] at this

theorem All2.of_index {α β : Type} {R : α → β → Prop} : ∀ {l : List α} {m : List β}, m.length = l.length → (∀ (i : Nat) (a : α) (b : β), l[i]? = some a → m[i]? = some b → R a b) → All2 R l m
  | [], [], _, _ => trivial
  | a :: l, b :: m, h, k => ⟨k 0 a b rfl rfl, All2.of_index (by simpa using h) (fun i x y hx hy => k (i + 1) x y hx hy)⟩
  | [], _ :: _, h, _ => by simp at h
  | _ :: _, [], h, _ => by simp at h

theorem Dec.struct {t : TypeId} {fs : Array Field} {β : Type} {g : β → List V} {p : β → Prop} {sz : β → Nat} (ht : P.underlying t = some (.struct fs)) (hd : DecFs P fs.toList 0 (P.cellsOf t) g p sz) : Dec P t (fun b : β => V.agg (g b)) p (fun b => sz b + 1) := by
  intro H enc W sp held fuel cs x h
  obtain ⟨xs, n, rfl, rfl, hl, hlen, hf⟩ := DataW.trod_struct ht h
  obtain ⟨b, h1, h0, h2⟩ := hd H enc W sp held n cs xs hl (All2.of_index (by simpa using hlen) (fun i f x hi hx => by
    rw [Array.getElem?_toList] at hi
    rw [hf i f hi, hx]))
  rw [List.drop_zero] at h2
  exact ⟨b, h1, by simp only [bulk]; omega, trivial, by simp only [RepC]; exact h2⟩

theorem Dec.of {t : TypeId} {α β : Type} {f : α → V} {p : α → Prop} {sz : α → Nat} {g : β → V} {q : β → Prop} {sz2 : β → Nat} (h : Dec P t f p sz) (φ : α → β) (hf : ∀ a, p a → f a = g (φ a) ∧ q (φ a) ∧ sz2 (φ a) ≤ sz a) : Dec P t g q sz2 := by
  intro H enc W sp held fuel cs x hx
  obtain ⟨a, h1, h0, h2, h3⟩ := h H enc W sp held fuel cs x hx
  obtain ⟨e, k, k0⟩ := hf a h1
  rw [e] at h2 h3
  exact ⟨φ a, k, Nat.le_trans k0 h0, h2, h3⟩

theorem ok_slice {t e : TypeId} {W : World} {base : Nat} {v : Value} (ht : P.underlying t = some (.slice e)) (h : Value.okWide P W .any base t v) : ∀ cs, v ≠ .agg cs := by
  rintro cs rfl
  simp [Value.okWide, ht, Cell.okWide, Cell.ok] at h
theorem ok_int {t : TypeId} {k : IntKind} {W : World} {base : Nat} {v : Value} (ht : P.underlying t = some (.int k)) (h : Value.okWide P W .any base t v) : ∀ cs, v ≠ .agg cs := by
  rintro cs rfl
  simp [Value.okWide, ht, Cell.okWide, Cell.ok] at h
theorem ok_bool {t : TypeId} {W : World} {base : Nat} {v : Value} (ht : P.underlying t = some .bool) (h : Value.okWide P W .any base t v) : ∀ cs, v ≠ .agg cs := by
  rintro cs rfl
  simp [Value.okWide, ht, Cell.okWide, Cell.ok] at h
theorem ok_str {t : TypeId} {W : World} {base : Nat} {v : Value} (ht : P.underlying t = some .string) (h : Value.okWide P W .any base t v) : ∀ cs, v ≠ .agg cs := by
  rintro cs rfl
  simp [Value.okWide, ht, Cell.okWide, Cell.ok] at h
theorem ok_struct {t : TypeId} {fs : Array Field} {W : World} {base : Nat} {v : Value} (ht : P.underlying t = some (.struct fs)) (h : Value.okWide P W .any base t v) : ∃ cs, v = .agg cs := by
  simp only [Value.okWide, ht] at h
  exact ⟨h.choose, h.choose_spec.1⟩
theorem okAgg_leaf {x : V} {v : Value} (hx : ∀ cs, x ≠ .agg cs) (h : ∀ cs, v ≠ .agg cs) : okAgg x v := by
  cases x <;> cases v <;> first | trivial | exact absurd rfl (h _) | exact absurd rfl (hx _)
theorem okAgg_agg {cs : List V} {v : Value} (h : ∃ cs, v = .agg cs) : okAgg (.agg cs) v := by
  obtain ⟨_, rfl⟩ := h
  trivial

theorem Dec.value {t : TypeId} {α : Type} {f : α → V} {p : α → Prop} {sz : α → Nat} (h : Dec P t f p sz) {H : Type} {enc : TypeId × Value → H} {W : World} {sp : Nat → Bool} {held : Bool} {v : Value} {d : DataW H} {ps : List MemPlace} (hv : DataW.Trod enc P W 0 sp held t v d ps)
    (hag : ∀ a, okAgg (f a) v) : ∃ a, p a ∧ sz a ≤ bulk d ∧ RepV (cx0 W) (f a) v := by
  obtain ⟨fuel, hx⟩ := hv
  obtain ⟨a, h1, h0, h2, h3⟩ := h H enc W sp held fuel _ _ hx
  exact ⟨a, h1, h0, RepV.of_parts h3 (hag a)⟩

theorem TrodAll_stays {H : Type} {enc : TypeId × Value → H} (hl : laidOutB P = true) {W W' : World} (hb : Below W.heap.size W W') {sp : Nat → Bool} : ∀ (ts : List TypeId) (vs : List Value) (ds : List (DataW H)) (ps : List MemPlace),
    (∀ t ∈ ts, P.readableRec t = true ∧ t < P.types.size) → DataW.TrodAll enc P W 0 (fun _ => true) true ts vs ds ps → (∀ x ∈ ps, x.block < W.heap.size) → (∀ x ∈ ps, sp x.block = true) → DataW.TrodAll enc P W' 0 sp true ts vs ds ps
  | [], [], [], ps, _, h, _, _ => h
  | t :: ts, v :: vs, d :: ds, ps, hr, h, h1, h2 => by
    obtain ⟨p, q, k1, k2, rfl⟩ := h
    refine ⟨p, q, WideElems.Trod_stays hl (hr t (by simp)).1 (hr t (by simp)).2 k1 (fun x hx => hb.same (h1 x (by simp [hx]))) (fun x hx => h2 x (by simp [hx])), ?_, rfl⟩
    exact TrodAll_stays hl hb ts vs ds q (fun t ht => hr t (by simp [ht])) k2 (fun x hx => h1 x (by simp [hx])) (fun x hx => h2 x (by simp [hx]))
  | [], [], _ :: _, _, _, h, _, _ => h.elim
  | [], _ :: _, _, _, _, h, _, _ => h.elim
  | _ :: _, [], _, _, _, h, _, _ => h.elim
  | _ :: _, _ :: _, [], _, _, h, _, _ => h.elim

theorem SCall.row {f : FuncId} {vs : List V} {cargs : Array Value} {W : World} (hcall : ∀ args w, (callFunc f args).run P w = .ok (.enter f args) w) (h : SCall P f vs [] (fun r _ => r = .bool true)) (hr : RepVals (cx0 W) vs cargs.toList) :
    Calls P f cargs W fun e W' => e = .returned (.bool true) ∧ Below W.heap.size W W' := by
  have := h (fun _ => none) W cargs (Good.zero W) hr
  unfold CallR at this
  rw [hcall] at this
  refine Calls.mono this fun e W' ⟨v, he, r, H', g', h1, h2, h3, h4⟩ => ?_
  subst h4
  have hv := h3.bool
  subst hv
  exact ⟨he, h2.os, h2.tape, h2.output, h2.size, fun k hk => (h2.frame k (imm0 hk)).1⟩

/-- THE ROW: what such a statement asks of one function, from the function's contract. -/
theorem row_contract {H : Type} {enc : TypeId × Value → H} {f : FuncId} {fn : Func} {s : ChangeSpec} {apart fresh handsOn : Bool} (hl : laidOutB P = true)
    (hts : (fn.params.toList.all fun t => P.readableRec t && decide (t < P.types.size)) = true) (hvars : s.vars = []) (hcall : ∀ args w, (callFunc f args).run P w = .ok (.enter f args) w)
    {tb : TypeId} (hres : fn.resultTypes = #[tb]) (htb : P.underlying tb = some .bool) {W : World} {args : Array Value} {ds gs : List (DataW H)} {before : List MemPlace}
    (hW : DataW.Whole enc P fn.params.toList s.vars apart W args.toList ds gs before)
    (hspec : (s.fn H ds).results = [.lit (.bool true)] ∧ (s.fn H ds).args = ds ∧ (s.fn H ds).vars = [])
    {vs : List V} (hv : RepVals (cx0 W) vs args.toList) (h : SCall P f vs [] (fun r _ => r = .bool true)) :
    Calls P f args W fun e W' => ∃ v, e = .returned v ∧ s.post enc P fn apart fresh handsOn false W args v W' := by
  refine (SCall.row hcall h hv).mono fun e W' ⟨he, hb⟩ => ⟨_, he, ?_⟩
  have hW' := hW
  obtain ⟨p, q, hA, hV, rfl, hfz, hnd⟩ := hW
  rw [hvars] at hV
  have hgs : gs = [] ∧ q = [] := by
    cases gs with
    | nil => exact ⟨rfl, hV⟩
    | cons _ _ => exact hV.elim
  obtain ⟨rfl, rfl⟩ := hgs
  obtain ⟨r1, r2, r3⟩ := hspec
  have hlt : ∀ x ∈ p, x.block < W.heap.size := fun x hx => by simpa using hW'.lt x (by simp [hx])
  have htr : ∀ t ∈ fn.params.toList, P.readableRec t = true ∧ t < P.types.size := fun t ht => by
    have := List.all_eq_true.1 hts t ht
    rw [Bool.and_eq_true] at this
    exact ⟨this.1, of_decide_eq_true this.2⟩
  refine ⟨ds, [], p, [], p, [], by simpa using hW', ?_, ?_, ?_, hb.frame _, fun h => by cases h⟩
  · rw [List.append_nil, r1, hres]
    exact ⟨[], [], ⟨1, by simp [Value.resultList, Value.cells, DataW.trod, htb]⟩, rfl, rfl⟩
  · rw [List.append_nil, r2]
    exact TrodAll_stays hl hb _ _ _ _ htr hA hlt (fun x hx => by simpa using hlt x hx)
  · rw [List.append_nil, r3, hvars]
    rfl
end Go.EL

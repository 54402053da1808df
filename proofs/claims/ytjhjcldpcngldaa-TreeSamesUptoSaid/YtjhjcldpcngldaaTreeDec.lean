/- Reading a tree: a type that is told of itself. -/
import Derived.Test.YtjhjcldpcngldaaTree1
import Derived.Test.YtjhjcldpcngldaaRows
import Derived.ProofKit
import Derived.JoinedCond
set_option linter.unusedSimpArgs false
set_option linter.unusedVariables false
set_option maxRecDepth 100000
namespace Go.EL
open Go Go.ChangeShapes Go.WideShapes Go.RowKit
section
variable {P : Program}
theorem bulk_le {H : Type} : ∀ {l : List (DataW H)} {d : DataW H}, d ∈ l → bulk d ≤ bulkAll l
  | x :: l, d, h => by
    simp only [bulkAll]
    rcases List.mem_cons.1 h with rfl | h
    · omega
    · have := bulk_le h; omega
/-- 'Dec', of the readings that hold less -/
def DecB (P : Program) (N : Nat) (t : TypeId) {α : Type} (f : α → V) (p : α → Prop) (sz : α → Nat) : Prop :=
  ∀ (H : Type) (enc : TypeId × Value → H) (W : World) (sp : Nat → Bool) (held : Bool) (fuel : Nat) (cs : List Value) (x : DataW H × List MemPlace),
    DataW.trod enc P W 0 sp held fuel t cs = some x → bulk x.1 < N → ∃ a, p a ∧ sz a ≤ bulk x.1 ∧ (f a).storable ∧ RepC (cx0 W) (f a) cs
theorem Dec.bound {t : TypeId} {α : Type} {f : α → V} {p : α → Prop} {sz : α → Nat} (h : Dec P t f p sz) (N : Nat) : DecB P N t f p sz :=
  fun H enc W sp held fuel cs x hx _ => h H enc W sp held fuel cs x hx
theorem DecB.all {t : TypeId} {α : Type} {f : α → V} {p : α → Prop} {sz : α → Nat} (h : ∀ N, DecB P N t f p sz) : Dec P t f p sz :=
  fun H enc W sp held fuel cs x hx => h _ H enc W sp held fuel cs x hx (Nat.lt_succ_self _)
theorem DecB.slice {N : Nat} {t e : TypeId} {α : Type} {f : α → V} {p : α → Prop} {sz : α → Nat} (ht : P.underlying t = some (.slice e)) (hc : 0 < P.cellsOf e) (hd : DecB P N e f p sz) : DecB P (N + 1) t (fun l : List α => V.slice (l.map f)) (fun l => l.length ≤ maxLen ∧ ∀ a ∈ l, p a) (fun l => (l.map sz).sum + 1) := by
  intro H enc W sp held fuel cs x h hN
  rcases Deep.open_slice ht h with ⟨rfl, rfl⟩ | ⟨a, len, cap, m, n, D, Pl, rfl, hb, hl, hm, hmm, rfl, hx⟩
  · refine ⟨[], ⟨Nat.zero_le _, by simp⟩, by simp [bulk], trivial, ?_⟩
    simp only [List.map_nil, RepC, List.length_nil]
    exact ⟨none, 0, 0, rfl, Nat.le_refl _, Nat.zero_le _, .inl trivial⟩
  · have hlm : len ≤ m := by rw [hmm]; split <;> omega
    have key : ∀ i, i < len → ∃ (q : α) (ws : List Value), p q ∧ sz q ≤ bulk (D i) ∧ (f q).storable ∧ RepC (cx0 W) (f q) ws ∧ ws.length = P.cellsOf e ∧ ∀ j, j < P.cellsOf e → W.cell? ((a.add (i * P.cellsOf e)).add j) = ws[j]? := by
      intro i hi
      obtain ⟨ws, h1, h2⟩ := hx i (by omega)
      obtain ⟨_, h3, h4⟩ := World.cells?_some h1
      have hbi : bulk (D i) ≤ bulkAll ((List.range len).map D) := bulk_le (List.mem_map.2 ⟨i, List.mem_range.2 hi, rfl⟩)
      obtain ⟨q, k1, k0, k2, k3⟩ := hd H enc W sp held n ws _ h2 (by simp only [bulk] at hN ⊢; omega)
      exact ⟨q, ws, k1, k0, k2, k3, h3, fun j hj => h4 j hj⟩
    have mk : ∀ k, k ≤ len → ∃ l : List α, (l.length = k ∧ (l.map sz).sum ≤ bulkAll ((List.range k).map D)) ∧ ∀ i q, l[i]? = some q → ∃ ws : List Value, p q ∧ (f q).storable ∧ RepC (cx0 W) (f q) ws ∧ ws.length = P.cellsOf e ∧ ∀ j, j < P.cellsOf e → W.cell? ((a.add (i * P.cellsOf e)).add j) = ws[j]? := by
      intro k
      induction k with
      | zero => intro _; exact ⟨[], ⟨rfl, by simp⟩, fun i q hq => by simp at hq⟩
      | succ k ih =>
        intro hk
        obtain ⟨l, ⟨h1, h0⟩, h2⟩ := ih (by omega)
        obtain ⟨q, ws, w1, w0, w2⟩ := key k (by omega)
        refine ⟨l ++ [q], ⟨by simp [h1], ?_⟩, fun i r hr => ?_⟩
        · rw [List.range_succ, List.map_append, List.map_append, bulkAll_append, List.sum_append]
          simp only [List.map_cons, List.map_nil, bulkAll, List.sum_cons, List.sum_nil]
          omega
        by_cases hi : i < l.length
        · rw [List.getElem?_append_left hi] at hr; exact h2 i r hr
        · rw [List.getElem?_append_right (by omega)] at hr
          have : i - l.length = 0 := by
            rcases Nat.eq_zero_or_pos (i - l.length) with e | e
            · exact e
            · rw [List.getElem?_eq_none (by simp; omega)] at hr; cases hr
          rw [this] at hr
          simp at hr
          subst hr
          have : i = k := by omega
          subst this
          exact ⟨ws, w1, w2⟩
    obtain ⟨l, ⟨h1, h0⟩, h2⟩ := mk len (Nat.le_refl _)
    refine ⟨l, ⟨by omega, fun q hq => ?_⟩, ?_, trivial, ?_⟩
    · obtain ⟨i, hi⟩ := List.getElem?_of_mem hq
      obtain ⟨ws, k, _⟩ := h2 i q hi
      exact k
    · simp only [bulk]; omega
    · simp only [RepC, List.length_map]
      refine ⟨some a, cap, P.cellsOf e, by rw [h1], by omega, hm, ?_⟩
      by_cases h0 : len = 0
      · left; rw [List.map_eq_nil_iff]; exact List.eq_nil_of_length_eq_zero (by omega)
      · right
        obtain ⟨b, off, spot⟩ := a
        obtain ⟨q0, ws0, _, _, _, _, w1, w2⟩ := key 0 (by omega)
        have c0 := w2 0 hc
        rw [List.getElem?_eq_getElem (by omega)] at c0
        simp only [Nat.zero_mul, Addr.add, if_true] at c0
        unfold World.cell? at c0
        have hsp : spot = none ∧ b < W.heap.size := by
          split at c0
          · rename_i cur et fr hh
            simp only at c0 hh
            cases spot with
            | none => exact ⟨rfl, (Array.getElem?_eq_some_iff.1 hh).1⟩
            | some _ => simp at c0
          · cases c0
        obtain ⟨rfl, hlt⟩ := hsp
        refine ⟨b, off, rfl, imm0 hlt, RepE.of_index fun i x hxi => ?_⟩
        rw [List.getElem?_map] at hxi
        obtain ⟨q, hq, rfl⟩ := Option.map_eq_some_iff.1 hxi
        obtain ⟨ws, _, k2, k3, k4, k5⟩ := h2 i q hq
        refine ⟨ws, ⟨k2, k3⟩, k4, fun j v hv => ?_⟩
        have hj : j < P.cellsOf e := by rw [← k4]; exact (List.getElem?_eq_some_iff.1 hv).1
        have := k5 j hj
        rw [hv] at this
        rw [← this]
        show W.cell? _ = W.cell? _
        congr 1
        unfold Addr.add
        split <;> split <;> simp_all [Nat.add_assoc]

def DecFsB (P : Program) (N : Nat) (fs : List Field) (start total : Nat) {β : Type} (g : β → List V) (p : β → Prop) (sz : β → Nat) : Prop :=
  ∀ (H : Type) (enc : TypeId × Value → H) (W : World) (sp : Nat → Bool) (held : Bool) (n : Nat) (cs : List Value) (xs : List (DataW H × List MemPlace)), cs.length = total →
    All2 (fun f x => DataW.trod enc P W 0 sp held n f.type ((cs.drop f.offset).take (P.cellsOf f.type)) = some x) fs xs → bulkAll (xs.map (·.1)) < N → ∃ b, p b ∧ sz b ≤ bulkAll (xs.map (·.1)) ∧ Reps (cx0 W) (g b) (cs.drop start)

theorem DecFsB.nil {N total : Nat} : DecFsB P N [] total total (fun _ : Unit => []) (fun _ => True) (fun _ => 0) := by
  intro H enc W sp held n cs xs hl _ _
  refine ⟨(), trivial, Nat.zero_le _, ?_⟩
  simp only [Reps]
  exact List.drop_eq_nil_of_le (by omega)

theorem DecFsB.cons {N : Nat} {fd : Field} {fs : List Field} {start next total : Nat} {α β : Type} {f : α → V} {p : α → Prop} {sz : α → Nat} {g : β → List V} {q : β → Prop} {sz2 : β → Nat} (ho : fd.offset = start) (hn : start + P.cellsOf fd.type = next) (hd : DecB P N fd.type f p sz) (hs : DecFsB P N fs next total g q sz2) :
    DecFsB P N (fd :: fs) start total (fun x : α × β => (f x.1).cells ++ g x.2) (fun x => p x.1 ∧ q x.2) (fun x => sz x.1 + sz2 x.2) := by
  intro H enc W sp held n cs xs hl hx hN
  cases xs with
  | nil => exact hx.elim
  | cons x xs =>
    obtain ⟨hx0, hx⟩ := hx
    simp only [List.map_cons, bulkAll] at hN
    obtain ⟨a, h1, h0, h2, h3⟩ := hd _ _ _ _ _ _ _ _ hx0 (by omega)
    obtain ⟨b, k1, k0, k2⟩ := hs H enc W sp held n cs xs hl hx (by omega)
    refine ⟨(a, b), ⟨h1, k1⟩, by simp only [List.map_cons, bulkAll]; omega, ?_⟩
    have := Reps.append (RepC.to_cells h3 h2) k2
    rw [ho, ← hn] at this
    have e : List.take (P.cellsOf fd.type) (List.drop start cs) ++ List.drop (start + P.cellsOf fd.type) cs = List.drop start cs := by
      rw [← List.drop_drop, List.take_append_drop]
    rwa [e] at this

theorem DecB.struct {N : Nat} {t : TypeId} {fs : Array Field} {β : Type} {g : β → List V} {p : β → Prop} {sz : β → Nat} (ht : P.underlying t = some (.struct fs)) (hd : DecFsB P N fs.toList 0 (P.cellsOf t) g p sz)   : DecB P (N + 1) t (fun b : β => V.agg (g b)) p (fun b => sz b + 1) := by
  intro H enc W sp held fuel cs x h hN
  obtain ⟨xs, n, rfl, rfl, hl, hlen, hf⟩ := DataW.trod_struct ht h
  obtain ⟨b, h1, h0, h2⟩ := hd H enc W sp held n cs xs hl (All2.of_index (by simpa using hlen) (fun i f x hi hx => by
    rw [Array.getElem?_toList] at hi
    rw [hf i f hi, hx])) (by simp only [bulk] at hN; omega)
  rw [List.drop_zero] at h2
  exact ⟨b, h1, by simp only [bulk]; omega, trivial, by simp only [RepC]; exact h2⟩

theorem DecB.of {N : Nat} {t : TypeId} {α β : Type} {f : α → V} {p : α → Prop} {sz : α → Nat} {g : β → V} {q : β → Prop} {sz2 : β → Nat} (h : DecB P N t f p sz) (φ : α → β) (hf : ∀ a, p a → f a = g (φ a) ∧ q (φ a) ∧ sz2 (φ a) ≤ sz a)   : DecB P N t g q sz2 := by
  intro H enc W sp held fuel cs x hx hN
  obtain ⟨a, h1, h0, h2, h3⟩ := h H enc W sp held fuel cs x hx hN
  obtain ⟨e, k, k0⟩ := hf a h1
  rw [e] at h2 h3
  exact ⟨φ a, k, Nat.le_trans k0 h0, h2, h3⟩

end
end Go.EL
namespace Go.Proofs.Ytjhjcldpcngldaa
open Go Go.EL
mutual
theorem bulk_eq {H : Type} : ∀ d : DataW H, bulk d = Rows.uptoBulk d
  | .lit l => by cases l <;> simp [bulk, Rows.uptoBulk]
  | .nil => by simp [bulk, Rows.uptoBulk]
  | .ptr d => by simp only [bulk, Rows.uptoBulk, bulk_eq d]
  | .slice a b => by simp only [bulk, Rows.uptoBulk, bulkAll_eq a, bulkAll_eq b]
  | .agg ps => by simp only [bulk, Rows.uptoBulk, bulkAll_eq ps]
  | .iface t d => by simp only [bulk, Rows.uptoBulk, bulk_eq d]
  | .map es => by simp only [bulk, Rows.uptoBulk, bulkEntries_eq es]
  | .held _ => by simp [bulk, Rows.uptoBulk]
theorem bulkAll_eq {H : Type} : ∀ l : List (DataW H), bulkAll l = Rows.uptoBulkAll l
  | [] => by simp [bulkAll, Rows.uptoBulkAll]
  | d :: r => by simp only [bulkAll, Rows.uptoBulkAll, bulk_eq d, bulkAll_eq r]
theorem bulkEntries_eq {H : Type} : ∀ l : List (Lit × DataW H), bulkEntries l = Rows.uptoBulkEntries l
  | [] => by simp [bulkEntries, Rows.uptoBulkEntries]
  | d :: r => by simp only [bulkEntries, Rows.uptoBulkEntries, bulkEntry_eq d, bulkEntries_eq r]
theorem bulkEntry_eq {H : Type} : ∀ x : Lit × DataW H, bulkEntry x = Rows.uptoBulkEntry x
  | (k, d) => by cases k <;> simp [bulkEntry, Rows.uptoBulkEntry, bulk_eq d]
end
theorem le_sum {α : Type} (g : α → Nat) : ∀ {l : List α} {x : α}, x ∈ l → g x ≤ (l.map g).sum
  | y :: l, x, h => by
    simp only [List.map_cons, List.sum_cons]
    rcases List.mem_cons.1 h with rfl | h
    · omega
    · have := le_sum g h; omega
theorem len_sum {α : Type} (g : α → Nat) (hg : ∀ x, 1 ≤ g x) : ∀ (l : List α), l.length ≤ (l.map g).sum
  | [] => by simp
  | y :: l => by
    have := len_sum g hg l
    have := hg y
    simp only [List.map_cons, List.sum_cons, List.length_cons]
    omega
theorem own_none : ownKnob Try.prog.godebug = none := by kernel_rfl
theorem laid_out : laidOutB Try.prog = true := by kernel_rfl

theorem dec_run : Dec Try.prog 120 runV (fun _ => True) (fun _ => 1) := by
  refine Dec.of (Dec.struct Try.underlying120 (DecFs.cons rfl (next := 1) (by kernel_rfl) (Dec.int Try.underlying3) (DecFs.cons rfl (next := 2) (by kernel_rfl) (Dec.int Try.underlying3) DecFs.nil))) (fun x => (x.1, x.2.1)) (fun x _ => ⟨rfl, trivial, by first | omega | (simp only; omega)⟩)
theorem dec_runs : Dec Try.prog 57 (fun l : List (Int × Int) => V.slice (l.map runV)) (fun _ => True) (fun l => l.length) :=
  Dec.of (Dec.slice Try.underlying57 (of_decide_eq_true (by kernel_rfl)) dec_run) id (fun x _ => ⟨rfl, trivial, by have := len_sum (fun x : Int × Int => 1) (fun x => by omega) x; simp only [id]; omega⟩)
def szS (s : Str) : Nat := s.text.length + s.runs.length + 1
theorem dec_str : Dec Try.prog 59 strV (fun _ => True) szS := by
  refine Dec.of (Dec.struct Try.underlying59 (DecFs.cons rfl (next := 1) (by kernel_rfl) (Dec.str Try.underlying9) (DecFs.cons rfl (next := 2) (by kernel_rfl) dec_runs DecFs.nil))) (fun x => ⟨x.1, x.2.1⟩) (fun x _ => ⟨rfl, trivial, by simp only [szS]; omega⟩)
theorem okS_sz {s : Str} (h : szS s ≤ 1048576) : okS s := by unfold szS at h; exact ⟨by omega, by omega⟩
def szA (a : Attr) : Nat := szS a.name + szS a.value + 1
theorem dec_attr : Dec Try.prog 149 attrV (fun _ => True) szA := by
  refine Dec.of (Dec.struct Try.underlying149 (DecFs.cons rfl (next := 2) (by kernel_rfl) dec_str (DecFs.cons rfl (next := 4) (by kernel_rfl) dec_str DecFs.nil))) (fun x => ⟨x.1, x.2.1⟩) (fun x _ => ⟨rfl, trivial, by simp only [szA]; omega⟩)
theorem okA_sz {a : Attr} (h : szA a ≤ 1048576) : okA a := by unfold szA at h; exact ⟨okS_sz (by omega), okS_sz (by omega)⟩
def szAs (l : List Attr) : Nat := (l.map szA).sum + 1
theorem dec_attrs : Dec Try.prog 68 (fun l : List Attr => V.slice (l.map attrV)) (fun _ => True) szAs :=
  Dec.of (Dec.slice Try.underlying68 (of_decide_eq_true (by kernel_rfl)) dec_attr) id (fun x _ => ⟨rfl, trivial, by simp only [id, szAs]; omega⟩)
theorem okA_szs {l : List Attr} (h : szAs l ≤ 1048576) : (∀ a ∈ l, okA a) ∧ l.length ≤ 1048576 := by
  unfold szAs at h
  refine ⟨fun a ha => okA_sz (by have := le_sum szA ha; omega), ?_⟩
  have := len_sum szA (fun x => by simp [szA]) l
  omega

theorem dec_tree {N : Nat} (h : ∀ M, M < N → DecB Try.prog M 47 (fun l : List Tree => V.slice (l.map treeV)) (fun _ => True) szTs) : DecB Try.prog N 100 treeV (fun _ => True) szT := by
  cases N with
  | zero => exact fun H enc W sp held fuel cs x hx hN => absurd hN (Nat.not_lt_zero _)
  | succ N =>
    refine DecB.of (DecB.struct Try.underlying100 (DecFsB.cons rfl (next := 2) (by kernel_rfl) (dec_str.bound N) (DecFsB.cons rfl (next := 3) (by kernel_rfl) (dec_attrs.bound N) (DecFsB.cons rfl (next := 4) (by kernel_rfl) (h N (Nat.lt_succ_self _)) (DecFsB.cons rfl (next := 6) (by kernel_rfl) (dec_str.bound N) DecFsB.nil)))))
      (fun x => .mk x.1 x.2.1 x.2.2.1 x.2.2.2.1) (fun x _ => ⟨?_, trivial, ?_⟩)
    · rw [treeV_mk]; rfl
    · have e1 : szA' = szA := rfl
      have e2 : szS' = szS := rfl
      simp only [szT, e1, e2, szAs]
      omega
theorem dec_trees : Dec Try.prog 47 (fun l : List Tree => V.slice (l.map treeV)) (fun _ => True) szTs := by
  refine DecB.all fun N => ?_
  induction N using Nat.strongRecOn with
  | ind N ih =>
    cases N with
    | zero => exact fun H enc W sp held fuel cs x hx hN => absurd hN (Nat.not_lt_zero _)
    | succ N =>
      refine DecB.of (DecB.slice Try.underlying47 (of_decide_eq_true (by kernel_rfl)) (dec_tree (N := N) fun M hM => ih M (by omega))) id (fun x _ => ⟨rfl, trivial, ?_⟩)
      simp only [id]
      have : ∀ l : List Tree, szTs l = (l.map szT).sum := fun l => by
        induction l with
        | nil => rfl
        | cons t l ih => simp only [szTs, ih, List.map_cons, List.sum_cons]
      rw [this]; omega
end Go.Proofs.Ytjhjcldpcngldaa

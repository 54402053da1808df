import Derived.ProofKit
import Derived.WalkKit
import Derived.Laws.Rows
import Derived.KernelRfl
import Derived.Laws.AppendOwn
import Derived.Laws.CopyRow
import Derived.Laws.IdiomCopy
import Derived.OrdersIn
import Derived.TacticsIn
import Derived.LoopIn
import Derived.RangeFuncLeaves
import Derived.RangeFuncCalls
import Derived.RangeFuncNested
import Derived.Laws.Append
import Derived.Laws.StructEq
import Derived.Laws.BytesString
import Derived.Laws.MakeOwn
/- The value logic, part A: abstract values, abstract heaps, and what it is that a world represents them. -/
set_option linter.unusedSimpArgs false
set_option linter.unusedVariables false
namespace Go.EL
open Go

inductive V where
  | dead
  | int (k : IntKind) (n : Int)
  | bool (b : Bool)
  | str (l : List UInt8)
  | nilp
  | ref (o off : Nat)
  | eref (o ver i c : Nat)
  | cref (cs : List V) (c : Nat)
  | slice (l : List V)
  | fslice (l : List V)
  | vec (o ver off n : Nat)
  | agg (cs : List V)
  | fn (f : Fn) (first cap : List V)
  | nilf
  | mapr (o : Nat)
  | nilm
  | iface (t : TypeId) (v : V)
  | nili
  | tuple (vs : List V)
  deriving Inhabited

def V.cells : V → List V
  | .agg cs => cs
  | v => [v]

/-- a value of one cell -/
def V.leaf : V → Prop
  | .dead | .tuple _ | .agg _ => False
  | _ => True
def V.storable : V → Prop
  | .agg _ => True
  | v => v.leaf

/-- An abstract object: a boxed variable, a row that grows, or none any more. -/
inductive Ob where
  | gone
  | hole
  | var (cs : List V)
  | vec (ver es : Nat) (l : List V)
  | raw (b : Nat) (x : Obj) (vs : List V) (cs : List Value)
  | map (l : List (Int × Nat × V)) (clock : Nat)
  | iter (o since : Nat) (seen : List Nat) (last : Nat)
  deriving Inhabited

structure Key where
  ver : Nat
  blk : Option Nat
  es : Nat
  cap : Nat

/-- the key of an object that is still to be made -/
def hole : Key := ⟨0, none, 0, 0⟩

structure Cx where
  imm : Nat → Prop
  key : Nat → Option Key
  cell : Addr → Option Value
  nobj : Nat
def Cx.has (c : Cx) (o : Nat) : Prop := o < c.nobj ∧ c.key o ≠ some hole

def okAgg : V → Value → Prop
  | .agg _, .agg _ => True
  | .agg _, _ => False
  | _, .agg _ => False
  | _, _ => True

mutual
def RepC (c : Cx) : V → List Value → Prop
  | .dead, vs => ∃ v, vs = [v]
  | .int k n, vs => vs = [.int k n]
  | .bool b, vs => vs = [.bool b]
  | .str l, vs => vs = [.string ⟨l.toArray⟩]
  | .nilp, vs => vs = [.pointer none]
  | .ref o off, vs => c.has o ∧ ∃ v, vs = [v] ∧ v.oneCell' = true ∧ ∀ k b, c.key o = some k → k.ver = 0 → k.blk = some b → v = .pointer (some ⟨b, off, none⟩)
  | .eref o ver i j, vs => c.has o ∧ ∃ v, vs = [v] ∧ v.oneCell' = true ∧ ∀ k, c.key o = some k → ver ≤ k.ver ∧ ∀ b, k.ver = ver → k.blk = some b → v = .pointer (some ⟨b, i * k.es + j, none⟩)
  | .cref cs j, vs => ∃ b off ws, vs = [.pointer (some ⟨b, off + j, none⟩)] ∧ c.imm b ∧ Reps c cs ws ∧ ∀ i v, ws[i]? = some v → c.cell ⟨b, off + i, none⟩ = some v
  | .slice l, vs => ∃ a cap es, vs = [.slice a l.length cap] ∧ l.length ≤ cap ∧ cap ≤ maxLen ∧
      (l = [] ∨ ∃ b off, a = some ⟨b, off, none⟩ ∧ c.imm b ∧ RepE c es b off l)
  | .fslice l, vs => ∃ a es, vs = [.slice a l.length l.length] ∧ l.length ≤ maxLen ∧
      (l = [] ∨ ∃ b off, a = some ⟨b, off, none⟩ ∧ c.imm b ∧ RepE c es b off l)
  | .vec o ver off n, vs => c.has o ∧ ∃ v, vs = [v] ∧ v.oneCell' = true ∧ ∀ k, c.key o = some k → ver ≤ k.ver ∧ (k.ver = ver → off + n ≤ k.cap ∧
      ∃ a, v = .slice a n (k.cap - off) ∧ (off < k.cap → ∃ b, k.blk = some b ∧ a = some ⟨b, off * k.es, none⟩))
  | .agg cs, vs => Reps c cs vs
  | .fn f first cap, vs => ∃ x y, vs = [.func f x.toArray y.toArray] ∧ RepVs c first x ∧ RepVs c cap y
  | .nilf, vs => vs = [.nilFunc]
  | .mapr o, vs => c.has o ∧ ∃ v, vs = [v] ∧ v.oneCell' = true ∧ ∀ k b, c.key o = some k → k.ver = 0 → k.blk = some b → v = .map (some b)
  | .nilm, vs => vs = [.map none]
  | .iface t x, vs => ∃ v, vs = [.iface t v] ∧ RepC c x v.cells.toList ∧ okAgg x v
  | .nili, vs => vs = [.nilIface]
  | .tuple xs, vs => ∃ ws, vs = [.tuple ws.toArray] ∧ RepVs c xs ws
def Reps (c : Cx) : List V → List Value → Prop
  | [], vs => vs = []
  | x :: xs, vs => ∃ v vs', vs = v :: vs' ∧ x.leaf ∧ RepC c x [v] ∧ Reps c xs vs'
def RepVs (c : Cx) : List V → List Value → Prop
  | [], vs => vs = []
  | x :: xs, vs => ∃ v vs', vs = v :: vs' ∧ RepC c x v.cells.toList ∧ okAgg x v ∧ RepVs c xs vs'
def RepE (c : Cx) (es b : Nat) : Nat → List V → Prop
  | _, [] => True
  | off, x :: xs => ∃ vs, (x.storable ∧ RepC c x vs) ∧ vs.length = es ∧ (∀ i v, vs[i]? = some v → c.cell ⟨b, off + i, none⟩ = some v) ∧ RepE c es b (off + es) xs
end

def RepV (c : Cx) : V → Value → Prop
  | .dead, _ => True
  | x, v => RepC c x v.cells.toList ∧ okAgg x v

def RepL (c : Cx) : List V → List Value → Prop
  | [], [] => True
  | x :: xs, v :: vs => RepV c x v ∧ RepL c xs vs
  | _, _ => False

structure Mono (c c' : Cx) : Prop where
  imm : ∀ b, c.imm b → c'.imm b ∧ ∀ a : Addr, a.block = b → c'.cell a = c.cell a
  key : ∀ o, o < c.nobj → ∀ k', c'.key o = some k' → (∃ k, c.key o = some k ∧ k.ver ≤ k'.ver ∧ (k'.ver = k.ver → k' = k)) ∨ c.key o = some hole
  nobj : c.nobj ≤ c'.nobj

theorem Mono.old {c c' : Cx} (m : Mono c c') {o : Nat} (ho : c.has o) {k' : Key} (hk : c'.key o = some k') : ∃ k, c.key o = some k ∧ k.ver ≤ k'.ver ∧ (k'.ver = k.ver → k' = k) := by
  rcases m.key o ho.1 k' hk with h | h
  · exact h
  · exact absurd h ho.2
theorem Mono.has {c c' : Cx} (m : Mono c c') {o : Nat} (ho : c.has o) : c'.has o := by
  refine ⟨Nat.lt_of_lt_of_le ho.1 m.nobj, fun e => ?_⟩
  obtain ⟨k, h1, h2, h3⟩ := m.old ho e
  have : k.ver = 0 := Nat.le_zero.1 h2
  exact ho.2 (by rw [h1, ← h3 (by rw [this]; rfl)])

mutual
theorem RepC.mono {c c' : Cx} (m : Mono c c') : ∀ (x : V) (vs : List Value), RepC c x vs → RepC c' x vs
  | .dead, vs, h => by simpa only [RepC] using h
  | .int k n, vs, h => by simpa only [RepC] using h
  | .bool b, vs, h => by simpa only [RepC] using h
  | .str l, vs, h => by simpa only [RepC] using h
  | .nilp, vs, h => by simpa only [RepC] using h
  | .ref o off, vs, h => by
    simp only [RepC] at h ⊢
    obtain ⟨ho, v, hv, h1c, h⟩ := h
    refine ⟨m.has ho, v, hv, h1c, fun k b hk hk0 hb => ?_⟩
    obtain ⟨k1, h1, h2, h3⟩ := m.old ho hk
    have : k = k1 := h3 (by omega)
    subst this
    exact h k b h1 hk0 hb
  | .eref o ver i j, vs, h => by
    simp only [RepC] at h ⊢
    obtain ⟨ho, v, hv, h1c, h⟩ := h
    refine ⟨m.has ho, v, hv, h1c, fun k hk => ?_⟩
    obtain ⟨k1, h1, h2, h3⟩ := m.old ho hk
    obtain ⟨g1, g2⟩ := h k1 h1
    refine ⟨Nat.le_trans g1 h2, fun b hver hb => ?_⟩
    have : k = k1 := h3 (by omega)
    subst this
    exact g2 b hver hb
  | .cref cs j, vs, h => by
    simp only [RepC] at h ⊢
    obtain ⟨b, off, ws, hv, hi, hr, hc⟩ := h
    refine ⟨b, off, ws, hv, (m.imm b hi).1, Reps.mono m cs ws hr, fun i v hw => ?_⟩
    rw [(m.imm b hi).2 _ rfl]
    exact hc i v hw
  | .slice l, vs, h => by
    simp only [RepC] at h ⊢
    obtain ⟨a, cap, es, hv, hl, hm, h⟩ := h
    refine ⟨a, cap, es, hv, hl, hm, ?_⟩
    rcases h with h | ⟨b, off, ha, hi, he⟩
    · exact .inl h
    · exact .inr ⟨b, off, ha, (m.imm b hi).1, RepE.mono m es b (m.imm b hi).2 off l he⟩
  | .fslice l, vs, h => by
    simp only [RepC] at h ⊢
    obtain ⟨a, es, hv, hm, h⟩ := h
    refine ⟨a, es, hv, hm, ?_⟩
    rcases h with h | ⟨b, off, ha, hi, he⟩
    · exact .inl h
    · exact .inr ⟨b, off, ha, (m.imm b hi).1, RepE.mono m es b (m.imm b hi).2 off l he⟩
  | .vec o ver off n, vs, h => by
    simp only [RepC] at h ⊢
    obtain ⟨ho, v, hv, h1c, h⟩ := h
    refine ⟨m.has ho, v, hv, h1c, fun k hk => ?_⟩
    obtain ⟨k1, h1, h2, h3⟩ := m.old ho hk
    obtain ⟨g1, g2⟩ := h k1 h1
    refine ⟨Nat.le_trans g1 h2, fun hver => ?_⟩
    have : k = k1 := h3 (by omega)
    subst this
    exact g2 hver
  | .agg cs, vs, h => by
    simp only [RepC] at h ⊢
    exact Reps.mono m cs vs h
  | .fn f first cap, vs, h => by
    simp only [RepC] at h ⊢
    obtain ⟨x, y, hv, h1, h2⟩ := h
    exact ⟨x, y, hv, RepVs.mono m first x h1, RepVs.mono m cap y h2⟩
  | .nilf, vs, h => by simpa only [RepC] using h
  | .mapr o, vs, h => by
    simp only [RepC] at h ⊢
    obtain ⟨ho, v, hv, h1c, h⟩ := h
    refine ⟨m.has ho, v, hv, h1c, fun k b hk hk0 hb => ?_⟩
    obtain ⟨k1, h1, h2, h3⟩ := m.old ho hk
    have : k = k1 := h3 (by omega)
    subst this
    exact h k b h1 hk0 hb
  | .nilm, vs, h => by simpa only [RepC] using h
  | .iface t x, vs, h => by
    simp only [RepC] at h ⊢
    obtain ⟨v, hv, h1, h2⟩ := h
    exact ⟨v, hv, RepC.mono m x _ h1, h2⟩
  | .nili, vs, h => by simpa only [RepC] using h
  | .tuple xs, vs, h => by
    simp only [RepC] at h ⊢
    obtain ⟨ws, hv, h1⟩ := h
    exact ⟨ws, hv, RepVs.mono m xs ws h1⟩
theorem Reps.mono {c c' : Cx} (m : Mono c c') : ∀ (xs : List V) (vs : List Value), Reps c xs vs → Reps c' xs vs
  | [], vs, h => by simpa only [Reps] using h
  | x :: xs, vs, h => by
    simp only [Reps] at h ⊢
    obtain ⟨v, vs', hv, h0, h1, h2⟩ := h
    exact ⟨v, vs', hv, h0, RepC.mono m x _ h1, Reps.mono m xs vs' h2⟩
theorem RepVs.mono {c c' : Cx} (m : Mono c c') : ∀ (xs : List V) (vs : List Value), RepVs c xs vs → RepVs c' xs vs
  | [], vs, h => by simpa only [RepVs] using h
  | x :: xs, vs, h => by
    simp only [RepVs] at h ⊢
    obtain ⟨v, vs', hv, h1, h2, h3⟩ := h
    exact ⟨v, vs', hv, RepC.mono m x _ h1, h2, RepVs.mono m xs vs' h3⟩
theorem RepE.mono {c c' : Cx} (m : Mono c c') (es b : Nat) (hb : ∀ a : Addr, a.block = b → c'.cell a = c.cell a) : ∀ (off : Nat) (xs : List V), RepE c es b off xs → RepE c' es b off xs
  | off, [], h => by simp only [RepE]
  | off, x :: xs, h => by
    simp only [RepE] at h ⊢
    obtain ⟨vs, h1, h2, h3, h4⟩ := h
    refine ⟨vs, ⟨h1.1, RepC.mono m x vs h1.2⟩, h2, fun i v hv => ?_, RepE.mono m es b hb (off + es) xs h4⟩
    rw [hb _ rfl]
    exact h3 i v hv
end

theorem RepV.mono {c c' : Cx} (m : Mono c c') {x : V} {v : Value} (h : RepV c x v) : RepV c' x v := by
  cases x <;> first | exact trivial | exact ⟨RepC.mono m _ _ h.1, h.2⟩

theorem RepL.mono {c c' : Cx} (m : Mono c c') : ∀ {xs : List V} {vs : List Value}, RepL c xs vs → RepL c' xs vs
  | [], [], _ => trivial
  | x :: xs, v :: vs, h => ⟨h.1.mono m, RepL.mono m h.2⟩
  | [], _ :: _, h => h.elim
  | _ :: _, [], h => h.elim

/-- the entries of a map -/
def RepM (c : Cx) : List (Int × Nat × V) → List MapEntry → Prop
  | [], [] => True
  | p :: l, e :: es => (e.key = .int .i64 p.1 ∧ e.born = p.2.1 ∧ p.2.2.storable ∧ RepC c p.2.2 e.val.cells.toList ∧ okAgg p.2.2 e.val) ∧ RepM c l es
  | _, _ => False
theorem RepM.mono {c c' : Cx} (m : Mono c c') : ∀ {l : List (Int × Nat × V)} {es : List MapEntry}, RepM c l es → RepM c' l es
  | [], [], _ => trivial
  | p :: l, e :: es, h => ⟨⟨h.1.1, h.1.2.1, h.1.2.2.1, RepC.mono m _ _ h.1.2.2.2.1, h.1.2.2.2.2⟩, RepM.mono m h.2⟩
  | [], _ :: _, h => h.elim
  | _ :: _, [], h => h.elim
theorem RepM.length {c : Cx} : ∀ {l : List (Int × Nat × V)} {es : List MapEntry}, RepM c l es → es.length = l.length
  | [], [], _ => rfl
  | p :: l, e :: es, h => by simp [RepM.length h.2]
  | [], _ :: _, h => h.elim
  | _ :: _, [], h => h.elim

theorem Mono.refl (c : Cx) : Mono c c := ⟨fun _ h => ⟨h, fun _ _ => rfl⟩, fun _ _ k hk => .inl ⟨k, hk, Nat.le_refl _, fun _ => rfl⟩, Nat.le_refl _⟩
theorem Mono.trans {a b c : Cx} (h : Mono a b) (g : Mono b c) : Mono a c := by
  refine ⟨fun x hx => ?_, fun o ho k hk => ?_, Nat.le_trans h.nobj g.nobj⟩
  · have h1 := h.imm x hx
    have h2 := g.imm x h1.1
    exact ⟨h2.1, fun ad had => (h2.2 ad had).trans (h1.2 ad had)⟩
  · rcases g.key o (Nat.lt_of_lt_of_le ho h.nobj) k hk with ⟨k1, h1, h2, h3⟩ | h1
    · rcases h.key o ho k1 h1 with ⟨k0, g1, g2, g3⟩ | g1
      · refine .inl ⟨k0, g1, Nat.le_trans g2 h2, fun e => ?_⟩
        have e1 : k = k1 := h3 (by omega)
        subst e1
        exact g3 e
      · exact .inr g1
    · rcases h.key o ho hole h1 with ⟨k0, g1, g2, g3⟩ | g1
      · right
        have : k0.ver = 0 := Nat.le_zero.1 g2
        rw [g1, ← g3 (by rw [this]; rfl)]
      · exact .inr g1
end Go.EL

/- The value logic, part B: a world represents an abstract heap; steps from world to world. -/
set_option linter.unusedSimpArgs false
set_option linter.unusedVariables false
namespace Go.EL
open Go

def cxOf (g : Nat → Option Key) (n : Nat) (w : World) : Cx :=
  { imm := fun b => b < w.heap.size ∧ ∀ o k, g o = some k → k.blk ≠ some b, key := g, cell := w.cell?, nobj := n }

def unfrozen (fr : Nat × Nat) (n : Nat) : Prop := ∀ j, j ≤ n → ¬ (fr.1 ≤ j ∧ j < fr.2)

def ObOK (c : Cx) (heap : Array Obj) (k : Option Key) : Option Ob → Prop
  | none => k = none
  | some .gone => k = none
  | some .hole => k = some hole
  | some (.var cs) => ∃ b cur et fr, k = some ⟨0, some b, 0, 0⟩ ∧ heap[b]? = some (.cells cur et fr) ∧ Reps c cs cur.toList ∧ unfrozen fr cur.size
  | some (.vec ver es l) => ∃ q, k = some q ∧ q.ver = ver ∧ q.es = es ∧ 1 ≤ ver ∧ q.cap ≤ maxLen ∧ l.length ≤ q.cap ∧
      ((q.blk = none ∧ q.cap = 0) ∨
       ∃ b cur et fr, q.blk = some b ∧ heap[b]? = some (.cells cur et fr) ∧ cur.size = q.cap * q.es ∧ RepE c q.es b 0 l ∧ unfrozen fr cur.size ∧ (∀ v ∈ cur.toList, v.oneCell' = true))

  | some (.raw b x vs cs) => (k = some ⟨0, some b, 0, 0⟩ ∧ heap[b]? = some x) ∧ RepL c vs cs
  | some (.map l ck) => ∃ b es, k = some ⟨0, some b, 0, 0⟩ ∧ heap[b]? = some (.map es ck) ∧ RepM c l es.toList
  | some (.iter o since seen last) => ∃ b mb, k = some ⟨0, some b, 0, 0⟩ ∧ heap[b]? = some (.mapIter (some mb) since seen.toArray last) ∧ RepC c (.mapr o) [.map (some mb)]

structure Good (g : Nat → Option Key) (H : List Ob) (w : World) : Prop where
  ob : ∀ o, ObOK (cxOf g H.length w) w.heap (g o) H[o]?
  inj : ∀ o o' k k' b, g o = some k → g o' = some k' → k.blk = some b → k'.blk = some b → o = o'

structure Ext (g : Nat → Option Key) (n : Nat) (w : World) (g' : Nat → Option Key) (n' : Nat) (w' : World) : Prop where
  os : w'.os = w.os
  output : w'.output = w.output
  tape : w'.tape = w.tape
  size : w.heap.size ≤ w'.heap.size
  frame : ∀ b, (cxOf g n w).imm b → w'.heap[b]? = w.heap[b]? ∧ (cxOf g' n' w').imm b
  key : ∀ o, o < n → ∀ k', g' o = some k' → (∃ k, g o = some k ∧ k.ver ≤ k'.ver ∧ (k'.ver = k.ver → k' = k)) ∨ g o = some hole
  nobj : n ≤ n'

theorem cell?_of_heap {w w' : World} {a : Addr} (h : w'.heap[a.block]? = w.heap[a.block]?) : w'.cell? a = w.cell? a := by simp [World.cell?, h]

theorem Ext.mono {g n w g' n' w'} (h : Ext g n w g' n' w') : Mono (cxOf g n w) (cxOf g' n' w') :=
  ⟨fun b hb => ⟨(h.frame b hb).2, fun a ha => cell?_of_heap (by rw [ha]; exact (h.frame b hb).1)⟩, h.key, h.nobj⟩

theorem Ext.refl (g n w) : Ext g n w g n w :=
  ⟨rfl, rfl, rfl, Nat.le_refl _, fun _ h => ⟨rfl, h⟩, fun _ _ k hk => .inl ⟨k, hk, Nat.le_refl _, fun _ => rfl⟩, Nat.le_refl _⟩

theorem Ext.trans {g0 n0 w0 g1 n1 w1 g2 n2 w2} (h : Ext g0 n0 w0 g1 n1 w1) (j : Ext g1 n1 w1 g2 n2 w2) : Ext g0 n0 w0 g2 n2 w2 := by
  refine ⟨j.os.trans h.os, j.output.trans h.output, j.tape.trans h.tape, Nat.le_trans h.size j.size, fun b hb => ?_, fun o ho k hk => ?_, Nat.le_trans h.nobj j.nobj⟩
  · have a := h.frame b hb
    have c := j.frame b a.2
    exact ⟨c.1.trans a.1, c.2⟩
  · rcases j.key o (Nat.lt_of_lt_of_le ho h.nobj) k hk with ⟨k1, h1, h2, h3⟩ | h1
    · rcases h.key o ho k1 h1 with ⟨k0, g1, g2, g3⟩ | g1
      · refine .inl ⟨k0, g1, Nat.le_trans g2 h2, fun e => ?_⟩
        have e1 : k = k1 := h3 (by omega)
        subst e1
        exact g3 e
      · exact .inr g1
    · rcases h.key o ho hole h1 with ⟨k0, g1, g2, g3⟩ | g1
      · right
        have : k0.ver = 0 := Nat.le_zero.1 g2
        rw [g1, ← g3 (by rw [this]; rfl)]
      · exact .inr g1

theorem Good.none_of_ge {g H w} (h : Good g H w) {o : Nat} (ho : H.length ≤ o) : g o = none := by
  have := h.ob o
  rw [List.getElem?_eq_none ho] at this
  exact this

/-- The heap's block of an object. -/
theorem Good.blk_lt {g H w} (h : Good g H w) {o k b} (hk : g o = some k) (hb : k.blk = some b) : b < w.heap.size := by
  have := h.ob o
  cases ho : H[o]? with
  | none => rw [ho] at this; simp [ObOK, hk] at this
  | some x =>
    rw [ho] at this
    cases x with
    | gone => simp [ObOK, hk] at this
    | hole => rw [hk] at this; have this : some k = some hole := this; injection this with h; subst h; cases hb
    | var cs =>
      obtain ⟨b', cur, et, fr, h1, h2, _⟩ := this
      rw [hk] at h1
      injection h1 with h1
      subst h1
      injection hb with hb
      subst hb
      exact (Array.getElem?_eq_some_iff.1 h2).1
    | vec ver es l =>
      obtain ⟨q, h1, _, _, _, _, _, h2⟩ := this
      rw [hk] at h1
      injection h1 with h1
      subst h1
      rcases h2 with ⟨h2, _⟩ | ⟨b', cur, et, fr, h3, h4, _⟩
      · rw [h2] at hb; cases hb
      · rw [h3] at hb
        injection hb with hb
        subst hb
        exact (Array.getElem?_eq_some_iff.1 h4).1
    | raw b' x' vs cs =>
      obtain ⟨⟨h1, h2⟩, _⟩ := this
      rw [hk] at h1
      injection h1 with h1
      subst h1
      injection hb with hb
      subst hb
      exact (Array.getElem?_eq_some_iff.1 h2).1
    | map l ck =>
      obtain ⟨b', es, h1, h2, _⟩ := this
      rw [hk] at h1
      injection h1 with h1
      subst h1
      injection hb with hb
      subst hb
      exact (Array.getElem?_eq_some_iff.1 h2).1
    | iter o' since seen last =>
      obtain ⟨b', mb, h1, h2, _⟩ := this
      rw [hk] at h1
      injection h1 with h1
      subst h1
      injection hb with hb
      subst hb
      exact (Array.getElem?_eq_some_iff.1 h2).1

theorem ObOK.mono {c c' : Cx} (m : Mono c c') {heap heap' : Array Obj} {k : Option Key} {x : Option Ob}
    (hh : ∀ q b, k = some q → q.blk = some b → heap'[b]? = heap[b]? ∧ ∀ a : Addr, a.block = b → c'.cell a = c.cell a) (h : ObOK c heap k x) : ObOK c' heap' k x := by
  cases x with
  | none => exact h
  | some x =>
    cases x with
    | gone => exact h
    | hole => exact h
    | var cs =>
      obtain ⟨b, cur, et, fr, h1, h2, h3, h4⟩ := h
      exact ⟨b, cur, et, fr, h1, (hh _ b h1 rfl).1.trans h2, Reps.mono m _ _ h3, h4⟩
    | vec ver es l =>
      obtain ⟨q, h1, h2, h2', h3, h4, h5, h6⟩ := h
      refine ⟨q, h1, h2, h2', h3, h4, h5, ?_⟩
      rcases h6 with h6 | ⟨b, cur, et, fr, h7, h8, h9, h10, h11⟩
      · exact .inl h6
      · exact .inr ⟨b, cur, et, fr, h7, (hh _ b h1 h7).1.trans h8, h9, RepE.mono m _ _ (hh _ b h1 h7).2 _ _ h10, h11⟩
    | raw b' x' vs cs =>
      obtain ⟨⟨h1, h2⟩, h3⟩ := h
      exact ⟨⟨h1, (hh _ b' h1 rfl).1.trans h2⟩, h3.mono m⟩
    | map l ck =>
      obtain ⟨b', es, h1, h2, h3⟩ := h
      exact ⟨b', es, h1, (hh _ b' h1 rfl).1.trans h2, h3.mono m⟩
    | iter o' since seen last =>
      obtain ⟨b', mb, h1, h2, h3⟩ := h
      exact ⟨b', mb, h1, (hh _ b' h1 rfl).1.trans h2, RepC.mono m _ _ h3⟩

/-- ONE STEP THAT TOUCHES AT MOST ONE OBJECT. -/
theorem step_oneG {g : Nat → Option Key} {H : List Ob} {w : World} (hG : Good g H w) (o0 : Nat) (g' : Nat → Option Key) (H' : List Ob) (w' : World)
    (hos : w'.os = w.os) (hout : w'.output = w.output) (htape : w'.tape = w.tape)
    (hH : ∀ o, o ≠ o0 → H'[o]? = H[o]?) (hg : ∀ o, o ≠ o0 → g' o = g o) (hn : H.length ≤ H'.length)
    (hsize : w.heap.size ≤ w'.heap.size)
    (hheap : ∀ b, b < w.heap.size → (∀ k, g o0 = some k → k.blk ≠ some b) → w'.heap[b]? = w.heap[b]?)
    (hnew : ∀ k' b, g' o0 = some k' → k'.blk = some b → w.heap.size ≤ b ∨ ∃ k, g o0 = some k ∧ k.blk = some b)
    (hver : o0 < H.length → ∀ k', g' o0 = some k' → (∃ k, g o0 = some k ∧ k.ver ≤ k'.ver ∧ (k'.ver = k.ver → k' = k)) ∨ g o0 = some hole)
    (hob : Mono (cxOf g H.length w) (cxOf g' H'.length w') → ObOK (cxOf g' H'.length w') w'.heap (g' o0) H'[o0]?) :
    Good g' H' w' ∧ Ext g H.length w g' H'.length w' := by
  have himm : ∀ b, (cxOf g H.length w).imm b → w'.heap[b]? = w.heap[b]? ∧ (cxOf g' H'.length w').imm b := by
    intro b hb
    refine ⟨hheap b hb.1 (fun k hk => hb.2 o0 k hk), Nat.lt_of_lt_of_le hb.1 hsize, fun o k hk hkb => ?_⟩
    by_cases e : o = o0
    · subst e
      rcases hnew k b hk hkb with h | ⟨q, hq, hqb⟩
      · have := hb.1; omega
      · exact hb.2 o q hq hqb
    · rw [hg o e] at hk
      exact hb.2 o k hk hkb
  have hext : Ext g H.length w g' H'.length w' := by
    refine ⟨hos, hout, htape, hsize, himm, fun o ho k' hk' => ?_, hn⟩
    by_cases e : o = o0
    · subst e
      exact hver ho k' hk'
    · rw [hg o e] at hk'
      exact .inl ⟨k', hk', Nat.le_refl _, fun _ => rfl⟩
  refine ⟨⟨fun o => ?_, fun o o' k k' b hk hk' hb hb' => ?_⟩, hext⟩
  · by_cases e : o = o0
    · subst e
      exact hob hext.mono
    · rw [hH o e, hg o e]
      refine ObOK.mono hext.mono (fun q b hq hqb => ?_) (hG.ob o)
      have hlt := hG.blk_lt hq hqb
      have hh : w'.heap[b]? = w.heap[b]? := hheap b hlt (fun k hk hkb => e (hG.inj o o0 q k b hq hk hqb hkb))
      exact ⟨hh, fun a ha => cell?_of_heap (by rw [ha]; exact hh)⟩
  · by_cases e : o = o0
    · by_cases e' : o' = o0
      · exact e.trans e'.symm
      · subst e
        rw [hg o' e'] at hk'
        rcases hnew k b hk hb with h | ⟨q, hq, hqb⟩
        · have := hG.blk_lt hk' hb'; omega
        · exact hG.inj _ _ _ _ _ hq hk' hqb hb'
    · rw [hg o e] at hk
      by_cases e' : o' = o0
      · subst e'
        rcases hnew k' b hk' hb' with h | ⟨q, hq, hqb⟩
        · have := hG.blk_lt hk hb; omega
        · exact hG.inj _ _ _ _ _ hk hq hb hqb
      · rw [hg o' e'] at hk'
        exact hG.inj _ _ _ _ _ hk hk' hb hb'

/-- ONE STEP THAT TOUCHES AT MOST ONE OBJECT. -/
theorem step_one {g : Nat → Option Key} {H : List Ob} {w : World} (hG : Good g H w) (o0 : Nat) (g' : Nat → Option Key) (H' : List Ob) (w' : World)
    (hos : w'.os = w.os) (hout : w'.output = w.output) (htape : w'.tape = w.tape)
    (hH : ∀ o, o ≠ o0 → H'[o]? = H[o]?) (hg : ∀ o, o ≠ o0 → g' o = g o) (hn : H.length ≤ H'.length)
    (hsize : w.heap.size ≤ w'.heap.size)
    (hheap : ∀ b, b < w.heap.size → (∀ k, g o0 = some k → k.blk ≠ some b) → w'.heap[b]? = w.heap[b]?)
    (hnew : ∀ k' b, g' o0 = some k' → k'.blk = some b → w.heap.size ≤ b ∨ ∃ k, g o0 = some k ∧ k.blk = some b)
    (hver : o0 < H.length → ∀ k', g' o0 = some k' → ∃ k, g o0 = some k ∧ k.ver ≤ k'.ver ∧ (k'.ver = k.ver → k' = k))
    (hob : Mono (cxOf g H.length w) (cxOf g' H'.length w') → ObOK (cxOf g' H'.length w') w'.heap (g' o0) H'[o0]?) :
    Good g' H' w' ∧ Ext g H.length w g' H'.length w' :=
  step_oneG hG o0 g' H' w' hos hout htape hH hg hn hsize hheap hnew (fun h k hk => .inl (hver h k hk)) hob

/-- a step that touches no object -/
theorem step_none {g : Nat → Option Key} {H : List Ob} {w : World} (hG : Good g H w) (w' : World)
    (hos : w'.os = w.os) (hout : w'.output = w.output) (htape : w'.tape = w.tape)
    (hsize : w.heap.size ≤ w'.heap.size) (hheap : ∀ b, b < w.heap.size → w'.heap[b]? = w.heap[b]?) :
    Good g H w' ∧ Ext g H.length w g H.length w' := by
  have hz : g H.length = none := hG.none_of_ge (Nat.le_refl _)
  exact step_one hG H.length g H w' hos hout htape (fun _ _ => rfl) (fun _ _ => rfl) (Nat.le_refl _) hsize
    (fun b hb _ => hheap b hb) (fun k b hk _ => by rw [hz] at hk; cases hk) (fun h => absurd h (Nat.lt_irrefl _))
    (fun _ => by rw [hz, List.getElem?_eq_none (Nat.le_refl _)]; exact rfl)

theorem step_drawn {g H w} (hG : Good g H w) (n : Nat) : Good g H { w with drawn := n } ∧ Ext g H.length w g H.length { w with drawn := n } :=
  step_none hG _ rfl rfl rfl (Nat.le_refl _) (fun _ _ => rfl)

def pushW (w : World) (x : Obj) : World := { w with heap := w.heap.push x }

theorem heap_pushW_old {w : World} {x : Obj} {b : Nat} (h : b < w.heap.size) : (pushW w x).heap[b]? = w.heap[b]? := by
  show (w.heap.push x)[b]? = w.heap[b]?
  rw [Array.getElem?_push, if_neg (Nat.ne_of_lt h)]
theorem heap_pushW_new (w : World) (x : Obj) : (pushW w x).heap[w.heap.size]? = some x := by
  show (w.heap.push x)[w.heap.size]? = some x
  simp
theorem size_pushW (w : World) (x : Obj) : (pushW w x).heap.size = w.heap.size + 1 := by simp [pushW]

/-- a new block that is nobody's: it does not change -/
theorem step_push {g H w} (hG : Good g H w) (x : Obj) : Good g H (pushW w x) ∧ Ext g H.length w g H.length (pushW w x) ∧ (cxOf g H.length (pushW w x)).imm w.heap.size := by
  have h := step_none hG (pushW w x) rfl rfl rfl (by rw [size_pushW]; omega) (fun b hb => heap_pushW_old hb)
  have h2 : w.heap.size < (pushW w x).heap.size ∧ ∀ o k, g o = some k → k.blk ≠ some w.heap.size := by
    refine ⟨by rw [size_pushW]; omega, fun o k hk hb => ?_⟩
    have := hG.blk_lt hk hb
    omega
  exact ⟨h.1, h.2, h2⟩

def setKey (g : Nat → Option Key) (o : Nat) (k : Option Key) : Nat → Option Key := fun x => if x = o then k else g x
theorem setKey_same (g o k) : setKey g o k o = k := by simp [setKey]
theorem setKey_other {g o k x} (h : x ≠ o) : setKey g o k x = g x := by simp [setKey, h]

theorem getElem?_snoc_ne {H : List Ob} {x : Ob} {o : Nat} (h : o ≠ H.length) : (H ++ [x])[o]? = H[o]? := by
  rcases Nat.lt_or_ge o H.length with hl | hl
  · exact List.getElem?_append_left hl
  · rw [List.getElem?_eq_none (by simp; omega), List.getElem?_eq_none hl]
theorem getElem?_snoc_eq (H : List Ob) (x : Ob) : (H ++ [x])[H.length]? = some x := by simp

/-- a new object -/
theorem step_new {g H w} (hG : Good g H w) (ob : Ob) (x : Obj) (k : Key) (hk : k.blk = some w.heap.size)
    (hob : ∀ g', g' = setKey g H.length (some k) → Mono (cxOf g H.length w) (cxOf g' (H.length + 1) (pushW w x)) → ObOK (cxOf g' (H.length + 1) (pushW w x)) (pushW w x).heap (some k) (some ob)) :
    Good (setKey g H.length (some k)) (H ++ [ob]) (pushW w x) ∧ Ext g H.length w (setKey g H.length (some k)) (H.length + 1) (pushW w x) := by
  have hz : g H.length = none := hG.none_of_ge (Nat.le_refl _)
  have := step_one hG H.length (setKey g H.length (some k)) (H ++ [ob]) (pushW w x) rfl rfl rfl
    (fun o ho => getElem?_snoc_ne ho) (fun o ho => setKey_other ho) (by simp) (by rw [size_pushW]; omega) (fun b hb _ => heap_pushW_old hb)
    (fun k' b hk' hb => by rw [setKey_same] at hk'; injection hk' with e; subst e; rw [hk] at hb; injection hb with hb; left; omega)
    (fun h => absurd h (Nat.lt_irrefl _))
    (fun m => by
      rw [setKey_same, getElem?_snoc_eq]
      rw [List.length_append] at m ⊢
      exact hob _ rfl m)
  rw [List.length_append] at this
  exact this

/-- a place for an object that is still to be made -/
theorem step_hole {g H w} (hG : Good g H w) : Good (setKey g H.length (some hole)) (H ++ [.hole]) w ∧ Ext g H.length w (setKey g H.length (some hole)) (H.length + 1) w := by
  have := step_one hG H.length (setKey g H.length (some hole)) (H ++ [.hole]) w rfl rfl rfl
    (fun o ho => getElem?_snoc_ne ho) (fun o ho => setKey_other ho) (by simp) (Nat.le_refl _) (fun b _ _ => rfl)
    (fun k' b hk' hb => by rw [setKey_same] at hk'; injection hk' with e; subst e; cases hb)
    (fun h => absurd h (Nat.lt_irrefl _))
    (fun m => by rw [setKey_same, getElem?_snoc_eq]; exact rfl)
  rw [List.length_append] at this
  exact this
/-- the object is made, in its place -/
theorem step_fill {g H w} (hG : Good g H w) {p : Nat} (hp : p < H.length) (hk0 : g p = some hole) (ob : Ob) (x : Obj) (k : Key) (hk : k.blk = some w.heap.size)
    (hob : ∀ g', g' = setKey g p (some k) → Mono (cxOf g H.length w) (cxOf g' H.length (pushW w x)) → ObOK (cxOf g' H.length (pushW w x)) (pushW w x).heap (some k) (some ob)) :
    Good (setKey g p (some k)) (H.set p ob) (pushW w x) ∧ Ext g H.length w (setKey g p (some k)) H.length (pushW w x) := by
  have := step_oneG hG p (setKey g p (some k)) (H.set p ob) (pushW w x) rfl rfl rfl
    (fun o ho => List.getElem?_set_ne (Ne.symm ho)) (fun o ho => setKey_other ho) (by simp) (by rw [size_pushW]; omega) (fun b hb _ => heap_pushW_old hb)
    (fun k' b hk' hb => by rw [setKey_same] at hk'; injection hk' with e; subst e; rw [hk] at hb; injection hb with hb; left; omega)
    (fun _ k' _ => .inr hk0)
    (fun m => by
      rw [setKey_same, List.getElem?_set_self hp]
      rw [List.length_set] at m ⊢
      exact hob _ rfl m)
  rw [List.length_set] at this
  exact this

theorem has_of {g : Nat → Option Key} {n : Nat} {w : World} {o : Nat} (h : o < n) (hk : g o ≠ some hole) : (cxOf g n w).has o := ⟨h, hk⟩
theorem has_key {g : Nat → Option Key} {n : Nat} {w : World} {o : Nat} {k : Key} (h : o < n) (hk : g o = some k) (hn : k.blk ≠ none ∨ 1 ≤ k.ver) : (cxOf g n w).has o := by
  refine ⟨h, fun e => ?_⟩
  have e : g o = some hole := e
  rw [hk] at e
  injection e with e
  subst e
  rcases hn with hn | hn
  · exact hn rfl
  · exact absurd hn (by decide)
theorem has_set {g : Nat → Option Key} {n : Nat} {w : World} {o : Nat} {k : Key} (h : o < n) (hn : k.blk ≠ none ∨ 1 ≤ k.ver) : (cxOf (setKey g o (some k)) n w).has o := has_key h (setKey_same _ _ _) hn
theorem Reps.length {c : Cx} : ∀ {xs : List V} {vs : List Value}, Reps c xs vs → vs.length = xs.length
  | [], _, h => by simp only [Reps] at h; simp [h]
  | x :: xs, _, h => by
    simp only [Reps] at h
    obtain ⟨v, vs', rfl, _, _, h⟩ := h
    simp [Reps.length h]
theorem RepC.oneCell {c : Cx} {x : V} {v : Value} (h : RepC c x [v]) (hs : x.leaf) : v.oneCell' = true := by
  cases x <;> simp only [RepC] at h
  case dead => exact hs.elim
  case tuple => exact hs.elim
  case agg => exact hs.elim
  case int => injection h with h; subst h; rfl
  case bool => injection h with h; subst h; rfl
  case str => injection h with h; subst h; rfl
  case nilp => injection h with h; subst h; rfl
  case ref => obtain ⟨_, u, h, h1, _⟩ := h; injection h with h; subst h; exact h1
  case eref => obtain ⟨_, u, h, h1, _⟩ := h; injection h with h; subst h; exact h1
  case cref => obtain ⟨_, _, _, h, _⟩ := h; injection h with h; subst h; rfl
  case slice => obtain ⟨_, _, _, h, _⟩ := h; injection h with h; subst h; rfl
  case fslice => obtain ⟨_, _, h, _⟩ := h; injection h with h; subst h; rfl
  case vec => obtain ⟨_, u, h, h1, _⟩ := h; injection h with h; subst h; exact h1
  case fn => obtain ⟨_, _, h, _⟩ := h; injection h with h; subst h; rfl
  case nilf => injection h with h; subst h; rfl
  case mapr => obtain ⟨_, u, h, h1, _⟩ := h; injection h with h; subst h; exact h1
  case nilm => injection h with h; subst h; rfl
  case iface => obtain ⟨_, h, _⟩ := h; injection h with h; subst h; rfl
  case nili => injection h with h; subst h; rfl

theorem Reps.oneCell {c : Cx} : ∀ {xs : List V} {vs : List Value}, Reps c xs vs → ∀ v ∈ vs, v.oneCell' = true
  | [], _, h, v, hv => by simp only [Reps] at h; simp [h] at hv
  | x :: xs, _, h, v, hv => by
    simp only [Reps] at h
    obtain ⟨u, vs', rfl, h1, h2, h⟩ := h
    rcases List.mem_cons.1 hv with e | hv
    · subst e; exact RepC.oneCell h2 h1
    · exact Reps.oneCell h v hv
theorem Reps.get {c : Cx} : ∀ {xs : List V} {vs : List Value}, Reps c xs vs → ∀ {i : Nat} {x : V}, xs[i]? = some x → ∃ v, vs[i]? = some v ∧ RepC c x [v] ∧ x.leaf
  | [], _, _, i, x, hx => by simp at hx
  | y :: xs, _, h, i, x, hx => by
    simp only [Reps] at h
    obtain ⟨u, vs', rfl, h1, h2, h⟩ := h
    cases i with
    | zero => simp at hx; subst hx; exact ⟨u, rfl, h2, h1⟩
    | succ i => simp at hx ⊢; exact Reps.get h hx
theorem Reps.append {c : Cx} : ∀ {xs ys : List V} {vs us : List Value}, Reps c xs vs → Reps c ys us → Reps c (xs ++ ys) (vs ++ us)
  | [], ys, vs, us, h, g => by simp only [Reps] at h; subst h; exact g
  | x :: xs, ys, vs, us, h, g => by
    simp only [Reps] at h
    obtain ⟨u, vs', rfl, h1, h2, h⟩ := h
    simp only [List.cons_append, Reps]
    exact ⟨u, vs' ++ us, rfl, h1, h2, Reps.append h g⟩
theorem Reps.take {c : Cx} : ∀ {xs : List V} {vs : List Value} (n : Nat), Reps c xs vs → Reps c (xs.take n) (vs.take n)
  | [], _, n, h => by simp only [Reps] at h; subst h; simp [Reps]
  | x :: xs, _, 0, h => by simp [Reps]
  | x :: xs, _, n + 1, h => by
    simp only [Reps] at h
    obtain ⟨u, vs', rfl, h1, h2, h⟩ := h
    simp only [List.take_succ_cons, Reps]
    exact ⟨u, vs'.take n, rfl, h1, h2, Reps.take n h⟩
theorem Reps.drop {c : Cx} : ∀ {xs : List V} {vs : List Value} (n : Nat), Reps c xs vs → Reps c (xs.drop n) (vs.drop n)
  | [], _, n, h => by simp only [Reps] at h; subst h; simp [Reps]
  | x :: xs, _, 0, h => by simpa using h
  | x :: xs, _, n + 1, h => by
    simp only [Reps] at h
    obtain ⟨u, vs', rfl, h1, h2, h⟩ := h
    simp only [List.drop_succ_cons]
    exact Reps.drop n h
end Go.EL

/- The value logic, part C: the table of types; what an operation comes to on abstract values. -/
set_option linter.unusedSimpArgs false
set_option linter.unusedVariables false
namespace Go.EL
open Go

inductive TK where
  | other | bool | int (k : IntKind) | str | slice (e : Nat) | struct (fs : List (Nat × Nat)) | array (n e : Nat) | ptr (e : Nat) | map (k e : Nat) | func | iface
  deriving DecidableEq, Inhabited

structure TD where
  kind : TK
  size : Nat
  bytes : Nat
  zero : List V
  cmp : Bool := false
  deriving Inhabited

def TK.isAgg : TK → Bool
  | .struct _ | .array _ _ => true
  | _ => false

def zEq : Value → V → Bool
  | .int k n, .int k' n' => decide (k = k') && decide (n = n')
  | .bool b, .bool b' => b == b'
  | .string s, .str [] => s.data.toList == []
  | .pointer none, .nilp => true
  | .slice none 0 0, .fslice [] => true
  | .nilFunc, .nilf => true
  | .map none, .nilm => true
  | .nilIface, .nili => true
  | _, _ => false

def zEqs : List Value → List V → Bool
  | [], [] => true
  | x :: xs, y :: ys => zEq x y && zEqs xs ys
  | _, _ => false

def kindOK : TypeDesc → TK → Bool
  | .bool, .bool => true
  | .int k, .int k' => decide (k = k')
  | .string, .str => true
  | .slice e, .slice e' => decide (e = e')
  | .struct fs, .struct l => decide ((fs.toList.map fun f => (f.type, f.offset)) = l)
  | .array n e, .array n' e' => decide (n = n') && decide (e = e')
  | .pointer e, .ptr e' => decide (e = e')
  | .map k e, .map k' e' => decide (k = k') && decide (e = e')
  | .func _ _ _, .func => true
  | .interface _, .iface => true
  | _, _ => false

def leafKind : TypeDesc → Bool
  | .bool | .int _ | .string => true
  | _ => false

def cmpOK (P : Program) (t : TypeId) : Bool :=
  !P.stoodInHeld t && !P.eqGuardType P.depth t &&
  match P.underlying t with
  | some (.struct fs) => fs.toList.zipIdx.all fun (f, i) => f.name != "_" && f.offset == i
  | _ => false

def tyCheck (P : Program) (t : TypeId) (d : TD) : Bool :=
  d.kind == .other ||
  match P.info? t, P.underlying t with
  | some i, some td => kindOK td d.kind && d.zero.length == d.size && i.size == d.size && i.bytes == d.bytes && (match i.zero with | some z => zEqs z.cells.toList d.zero | none => false) && (!d.cmp || cmpOK P t)
  | _, _ => false

/-- What a table says is so. -/
def TyOK (P : Program) (T : Nat → TD) : Prop := ∀ t, tyCheck P t (T t) = true

structure TyAt (P : Program) (t : TypeId) (d : TD) : Prop where
  info : ∃ i z, P.info? t = some i ∧ i.size = d.size ∧ i.bytes = d.bytes ∧ i.zero = some z ∧ zEqs z.cells.toList d.zero = true
  und : ∃ td, P.underlying t = some td ∧ kindOK td d.kind = true
  zlen : d.zero.length = d.size
  cmp : d.cmp = true → cmpOK P t = true

theorem TyOK.at {P T} (h : TyOK P T) {t : TypeId} (ht : (T t).kind ≠ .other) : TyAt P t (T t) := by
  have h := h t
  unfold tyCheck at h
  rw [Bool.or_eq_true] at h
  rcases h with h | h
  · exact absurd (by simpa using h) ht
  cases hi : P.info? t with
  | none => simp [hi] at h
  | some i =>
    cases hu : P.underlying t with
    | none => simp [hi, hu] at h
    | some td =>
      simp only [hi, hu, Bool.and_eq_true, beq_iff_eq] at h
      obtain ⟨⟨⟨⟨⟨h1, h0⟩, h2⟩, h3⟩, h4⟩, h5⟩ := h
      cases hz : i.zero with
      | none => simp [hz] at h4
      | some z =>
        simp only [hz] at h4
        exact ⟨⟨i, z, hi, h2, h3, hz, h4⟩, ⟨td, hu, h1⟩, h0, fun hc => by simpa [hc] using h5⟩

def mkV (d : TD) (cs : List V) : V := if d.kind.isAgg then .agg cs else cs.headD .dead

def ofLeaf : Value → V
  | .int k n => .int k n
  | .bool b => .bool b
  | .string s => .str s.data.toList
  | .pointer none => .nilp
  | .slice none 0 0 => .fslice []
  | .nilFunc => .nilf
  | .map none => .nilm
  | .nilIface => .nili
  | _ => .dead

def V.isDead : V → Bool
  | .dead => true
  | _ => false
def ofValue : Value → V
  | .agg cs => if (cs.toList.map ofLeaf).any V.isDead then .dead else .agg (cs.toList.map ofLeaf)
  | v => ofLeaf v

abbrev Env := List (Nat × V)
def eget : Env → Nat → V
  | [], _ => .dead
  | (t', v) :: e, t => if t' = t then v else eget e t
def eset : Env → Nat → V → Env
  | [], t, v => [(t, v)]
  | (t', v') :: e, t, v => if t' = t then (t, v) :: e else (t', v') :: eset e t v
def eput (e : Env) : Option Nat → V → Env
  | none, _ => e
  | some d, v => eset e d v
def evl (e : Env) : Operand → V
  | .tmp t => eget e t
  | .const v => ofValue v
  | .func f => .fn (.func f) [] []
  | .global _ => .dead

def Sized (n : Nat) (xs : List V) : Prop := ∀ x ∈ xs, x.cells.length = n
def splice (cs : List V) (off : Nat) (new : List V) : List V := cs.take off ++ new ++ cs.drop (off + new.length)
def V.withCells (x : V) (cs : List V) : V := match x with | .agg _ => .agg cs | _ => cs.headD .dead
def V.at (l : List V) (i : Nat) : V := l.getD i .dead

inductive XR where
  | val (pre : Prop) (v : V) (H : List Ob)
  | maybe (pre p : Prop) (f : Bool → V) (H : List Ob)
  | steps (it : V)
  | call (f : FuncId) (args : List V)
  | ycall (l : Nat) (args : List V)
  | bad

/-- what the elements are that a slice or a string adds -/
def elems (H : List Ob) : V → Option (List V)
  | .slice l => some l
  | .fslice l => some l
  | .str l => some (l.map fun b => .int .u8 b.toNat)
  | .vec o ver off n => match H[o]? with
    | some (.vec ver' _ l) => if ver' = ver ∧ off + n ≤ l.length then some ((l.drop off).take n) else none
    | _ => none
  | _ => none

def lenV : V → Option Nat
  | .slice l | .fslice l => some l.length
  | .str l => some l.length
  | .vec _ _ _ n => some n
  | _ => none

def limBytes : Nat := 140737488355328

def xappend (d : TD) (H : List Ob) (s x : V) : XR :=
  match elems H x with
  | none => .bad
  | some xs =>
    match s with
    | .vec o ver off n => match H[o]? with
      | some (.vec ver' es l) => .val (ver' = ver ∧ es = d.size ∧ off = 0 ∧ n = l.length ∧ (∀ x ∈ xs, x.storable) ∧ Sized d.size xs ∧ (l ++ xs).length * d.bytes ≤ limBytes ∧ 0 < d.bytes) (.vec o (ver + 1) 0 (n + xs.length)) (H.set o (.vec (ver + 1) es (l ++ xs)))
      | _ => .bad
    | .fslice l => if l.isEmpty = false ∧ xs.isEmpty = true then .val True (.fslice l) H else .val ((∀ x ∈ xs, x.storable) ∧ Sized d.size (l ++ xs) ∧ (l ++ xs).length * d.bytes ≤ limBytes ∧ 0 < d.bytes) (.vec H.length 1 0 (l.length + xs.length)) (H ++ [.vec 1 d.size (l ++ xs)])
    | _ => .bad

def cmpInt (op : BinOp) (a b : Int) : Option Bool :=
  match op with
  | .eql => some (a == b)
  | .neq => some (a != b)
  | .lss => some (a < b)
  | .leq => some (a ≤ b)
  | .gtr => some (a > b)
  | .geq => some (a ≥ b)
  | _ => none


def eqLeaf : V → V → Option Bool
  | .int k a, .int k' b => if k = k' then some (a == b) else none
  | .bool a, .bool b => some (a == b)
  | .str a, .str b => some (a == b)
  | _, _ => none
def eqLeaves : List V → List V → Option Bool
  | [], [] => some true
  | x :: xs, y :: ys => match eqLeaf x y, eqLeaves xs ys with | some a, some b => some (a && b) | _, _ => none
  | _, _ => none

def kindsOK (T : Nat → TD) : List (Nat × Nat) → List V → Prop
  | [], [] => True
  | (t, _) :: fs, x :: xs => (match x with | .int k _ => (T t).kind = .int k | .bool _ => (T t).kind = .bool | .str _ => (T t).kind = .str | _ => False) ∧ kindsOK T fs xs
  | _, _ => False
def strLess (a b : List UInt8) : Bool := Op.bytesLess a b

/-- against nil: is it? -/
def nilEq (d : TD) (H : List Ob) : V → Option (Prop × Bool)
  | .nilp => match d.kind with | .ptr _ => some (True, true) | _ => none
  | .ref o c => match d.kind with | .ptr _ => some (∃ cs, H[o]? = some (.var cs), false) | _ => none
  | .eref o ver i _ => match d.kind with | .ptr _ => some (∃ es l, H[o]? = some (.vec ver es l) ∧ i < l.length, false) | _ => none
  | .cref _ _ => match d.kind with | .ptr _ => some (True, false) | _ => none
  | _ => none
def xnil (d : TD) (H : List Ob) (op : BinOp) (x : V) : XR :=
  match nilEq d H x with
  | some (p, b) => match op with
    | .eql => .val p (.bool b) H
    | .neq => .val p (.bool (!b)) H
    | _ => .bad
  | none => .bad
def xbin (T : Nat → TD) (H : List Ob) (d : TD) (op : BinOp) (x y : V) : XR :=
  match x, y with
  | .int k a, .int k' b =>
    match op with
    | .shl => .val (0 ≤ b) (.int k (k.wrap (a * 2 ^ (min b.toNat k.bits)))) H
    | .shr => .val (0 ≤ b) (.int k (a.fdiv (2 ^ (min b.toNat k.bits)))) H
    | .add => .val (k = k') (.int k (k.wrap (a + b))) H
    | .sub => .val (k = k') (.int k (k.wrap (a - b))) H
    | .mul => .val (k = k') (.int k (k.wrap (a * b))) H
    | .quo => .val (k = k' ∧ b ≠ 0) (.int k (k.wrap (a.tdiv b))) H
    | .rem => .val (k = k' ∧ b ≠ 0) (.int k (a.tmod b)) H
    | .and => .val (k = k') (.int k (k.wrap (BitVec.ofInt k.bits a &&& BitVec.ofInt k.bits b).toNat)) H
    | .or => .val (k = k') (.int k (k.wrap (BitVec.ofInt k.bits a ||| BitVec.ofInt k.bits b).toNat)) H
    | .eql => .val (k = k') (.bool (a == b)) H
    | .neq => .val (k = k') (.bool (a != b)) H
    | .lss => .val (k = k') (.bool (a < b)) H
    | .leq => .val (k = k') (.bool (a ≤ b)) H
    | .gtr => .val (k = k') (.bool (a > b)) H
    | .geq => .val (k = k') (.bool (a ≥ b)) H
    | _ => .bad
  | .str a, .str b =>
    match op with
    | .add => .val ((a ++ b).length ≤ maxLen) (.str (a ++ b)) H
    | .eql => .val True (.bool (a == b)) H
    | .neq => .val True (.bool (!(a == b))) H
    | .lss => .val True (.bool (strLess a b)) H
    | .leq => .val True (.bool (strLess a b || a == b)) H
    | .gtr => .val True (.bool (!(strLess a b || a == b))) H
    | .geq => .val True (.bool (!strLess a b)) H
    | _ => .bad
  | .bool a, .bool b =>
    match op with
    | .eql => .val (d.kind = .bool) (.bool (a == b)) H
    | .neq => .val (d.kind = .bool) (.bool (!(a == b))) H
    | _ => .bad
  | .agg xs, .agg ys =>
    match d.kind with
    | .struct fs => match eqLeaves xs ys with
      | some b => match op with
        | .eql => .val (d.cmp = true ∧ kindsOK T fs xs ∧ kindsOK T fs ys) (.bool b) H
        | .neq => .val (d.cmp = true ∧ kindsOK T fs xs ∧ kindsOK T fs ys) (.bool (!b)) H
        | _ => .bad
      | none => .bad
    | _ => .bad
  | x, .nilp => xnil d H op x
  | .nilp, .ref o c => xnil d H op (.ref o c)
  | .nilp, .eref o v i c => xnil d H op (.eref o v i c)
  | .nilp, .cref cs c => xnil d H op (.cref cs c)
  | _, _ => .bad

def chunks (n : Nat) : Nat → List V → List V
  | 0, _ => []
  | k + 1, cs => (if n = 1 then cs.headD .dead else .agg (cs.take n)) :: chunks n k (cs.drop n)

def parts (d : TD) : Nat → List V → List V
  | 0, _ => []
  | k + 1, cs => mkV d (cs.take d.size) :: parts d k (cs.drop d.size)

/-- what a lower bound is -/
def loOf : Option V → Option Int
  | none => some 0
  | some (.int _ n) => some n
  | _ => none
def hiOf (d : Int) : Option V → Option Int
  | none => some d
  | some (.int _ n) => some n
  | _ => none
/-- an array of one's own, as a row -/
def xsliceA (d : TD) (H : List Ob) (m : Nat) (x : V) (lo hi : Option V) : XR :=
  match x, lo, hi with
  | .ref o 0, none, none => match H[o]? with
    | some (.var cs) => .val (cs.length = m * d.size ∧ m ≤ 16777216 ∧ (d.kind.isAgg = false → d.size = 1)) (.vec o 1 0 m) (H.set o (.vec 1 d.size (parts d m cs)))
    | _ => .bad
  | _, _, _ => .bad
/-- `s[lo:hi]` -/
def xslice (T : Nat → TD) (H : List Ob) (d : TD) (x : V) (lo hi : Option V) : XR :=
  match d.kind with
  | .str => match x with
    | .str l => match loOf lo, hiOf l.length hi with
      | some a, some b => .val (0 ≤ a ∧ a ≤ b ∧ b ≤ l.length) (.str ((l.take b.toNat).drop a.toNat)) H
      | _, _ => .bad
    | _ => .bad
  | .slice e => if (T e).kind = .other then .bad else match x with
    | .slice l => match loOf lo, hiOf l.length hi with
      | some a, some b => .val (0 ≤ a ∧ a ≤ b ∧ b ≤ l.length ∧ (a = 0 ∨ Sized (T e).size l)) (.slice ((l.take b.toNat).drop a.toNat)) H
      | _, _ => .bad
    | .fslice l => match loOf lo, hiOf l.length hi with
      | some a, some b => .val (0 ≤ a ∧ a ≤ b ∧ b ≤ l.length ∧ (a = 0 ∨ Sized (T e).size l)) (.slice ((l.take b.toNat).drop a.toNat)) H
      | _, _ => .bad
    | .vec o ver off n => match loOf lo, hiOf n hi, H[o]? with
      | some a, some b, some (.vec ver' es l) => .val (ver' = ver ∧ 0 ≤ a ∧ a ≤ b ∧ b ≤ n ∧ off + n ≤ l.length ∧ (a = 0 ∨ es = (T e).size)) (.vec o ver (off + a.toNat) (b.toNat - a.toNat)) H
      | _, _, _ => .bad
    | _ => .bad
  | .array m e => if (T e).kind = .other then .bad else xsliceA (T e) H m x lo hi
  | _ => .bad

/-- `s[:n:n]` -/
def xslice3 (T : Nat → TD) (H : List Ob) (d : TD) (x : V) (lo hi : Option V) (mx : V) : XR :=
  match d.kind with
  | .slice e => if (T e).kind = .other then .bad else match x, lo, hi, mx with
    | .slice l, none, some (.int _ n), .int _ m => .val (0 ≤ n ∧ n = m ∧ n ≤ l.length) (.fslice (l.take n.toNat)) H
    | .fslice l, none, some (.int _ n), .int _ m => .val (0 ≤ n ∧ n = m ∧ n ≤ l.length) (.fslice (l.take n.toNat)) H
    | _, _, _, _ => .bad
  | _ => .bad
def lens (T : Nat → TD) (ps : List (Nat × V)) (fs : List (Nat × Nat)) : Prop := ∀ p ∈ ps, ∃ f, fs[p.1]? = some f ∧ p.2.cells.length = (T f.1).size

def fillV (place : Nat → Option Nat) (cells : List V) : List (Nat × V) → List V
  | [] => cells
  | (i, v) :: rest => match place i with
    | some off => fillV place (splice cells off v.cells) rest
    | none => fillV place cells rest

def xlen (d : TD) (H : List Ob) (x : V) : XR :=
  match d.kind, x with
  | .str, .str l => .val True (.int .i64 l.length) H
  | .slice _, .slice l => .val True (.int .i64 l.length) H
  | .slice _, .fslice l => .val True (.int .i64 l.length) H
  | .slice _, .vec o ver _ n => match H[o]? with
    | some (.vec ver' _ _) => .val (ver' = ver) (.int .i64 n) H
    | _ => .bad
  | _, _ => .bad

def xload (d : TD) (H : List Ob) (a : V) : XR :=
  match a with
  | .ref o off => match H[o]? with
    | some (.var cs) => .val (off + d.size ≤ cs.length ∧ (d.kind.isAgg = false → d.size = 1)) (mkV d ((cs.drop off).take d.size)) H
    | _ => .bad
  | .cref cs c => .val (c + d.size ≤ cs.length ∧ (d.kind.isAgg = false → d.size = 1)) (mkV d ((cs.drop c).take d.size)) H
  | .eref o ver i c => match H[o]? with
    | some (.vec ver' _ l) => .val (ver' = ver ∧ i < l.length ∧ c + d.size ≤ (V.at l i).cells.length ∧ (d.kind.isAgg = false → d.size = 1)) (mkV d (((V.at l i).cells.drop c).take d.size)) H
    | _ => .bad
  | _ => .bad

def xstore (d : TD) (H : List Ob) (a x : V) : XR :=
  match a with
  | .ref o off => match H[o]? with
    | some (.var cs) => .val (x.storable ∧ x.cells.length = d.size ∧ off + d.size ≤ cs.length) .dead (H.set o (.var (splice cs off x.cells)))
    | _ => .bad
  | .eref o ver i c => match H[o]? with
    | some (.vec ver' es l) => .val (ver' = ver ∧ i < l.length ∧ x.storable ∧ x.cells.length = d.size ∧ c + d.size ≤ (V.at l i).cells.length) .dead
        (H.set o (.vec ver' es (l.set i ((V.at l i).withCells (splice (V.at l i).cells c x.cells)))))
    | _ => .bad
  | _ => .bad

/-- the pointer is one -/
def live (H : List Ob) : V → Prop
  | .ref o _ => ∃ cs, H[o]? = some (.var cs)
  | .eref o ver i _ => ∃ es l, H[o]? = some (.vec ver es l) ∧ i < l.length
  | .cref _ _ => True
  | _ => False
def xfieldAddr (T : Nat → TD) (d : TD) (H : List Ob) (a : V) (f : Nat) : XR :=
  match d.kind with
  | .struct fs => match fs[f]? with
    | some (ft, off) => match a with
      | .ref o c => .val (live H a ∧ (T ft).kind ≠ .other ∧ (T ft).size ≠ 0) (.ref o (c + off)) H
      | .cref cs c => .val (live H a ∧ (T ft).kind ≠ .other ∧ (T ft).size ≠ 0) (.cref cs (c + off)) H
      | .eref o ver i c => .val (live H a ∧ (T ft).kind ≠ .other ∧ (T ft).size ≠ 0) (.eref o ver i (c + off)) H
      | _ => .bad
    | none => .bad
  | _ => .bad

def xindexAddr (T : Nat → TD) (d : TD) (H : List Ob) (x i : V) : XR :=
  match d.kind, i with
  | .slice e, .int _ n => match x with
    | .slice l => .val ((T e).kind ≠ .other ∧ 0 ≤ n ∧ n < l.length ∧ (V.at l n.toNat).cells.length = (T e).size) (.cref (V.at l n.toNat).cells 0) H
    | .fslice l => .val ((T e).kind ≠ .other ∧ 0 ≤ n ∧ n < l.length ∧ (V.at l n.toNat).cells.length = (T e).size) (.cref (V.at l n.toNat).cells 0) H
    | .vec o ver off len => match H[o]? with
      | some (.vec ver' es l) => .val ((T e).kind ≠ .other ∧ ver' = ver ∧ 0 ≤ n ∧ n < len ∧ off + len ≤ l.length ∧ es = (T e).size) (.eref o ver (off + n.toNat) 0) H
      | _ => .bad
    | _ => .bad
  | .array m e, .int _ n => match x with
    | .ref o c => .val (live H x ∧ (T e).kind ≠ .other ∧ 2 ≤ m ∧ 0 ≤ n ∧ n < m) (.ref o (c + n.toNat * (T e).size)) H
    | .cref cs c => .val ((T e).kind ≠ .other ∧ 2 ≤ m ∧ 0 ≤ n ∧ n < m) (.cref cs (c + n.toNat * (T e).size)) H
    | _ => .bad
  | _, _ => .bad

def xindex (T : Nat → TD) (d : TD) (H : List Ob) (x i : V) : XR :=
  match d.kind, x, i with
  | .str, .str l, .int _ n => .val (0 ≤ n ∧ n < l.length) (.int .u8 (l.getD n.toNat 0).toNat) H
  | .array m e, .agg cs, .int _ n => .val ((T e).kind ≠ .other ∧ 0 ≤ n ∧ n < m ∧ m * (T e).size ≤ cs.length ∧ ((T e).kind.isAgg = false → (T e).size = 1)) (mkV (T e) ((cs.drop (n.toNat * (T e).size)).take (T e).size)) H
  | _, _, _ => .bad

def xconvert (own : Bool) (s d : TD) (e : TD) (H : List Ob) (x : V) : XR :=
  match d.kind, x with
  | .int k, .int _ n => .val True (.int k (k.wrap n)) H
  | .str, .str l => .val True (.str l) H
  | .slice _, .str l => .val (s.kind = .str ∧ e.kind = .int .u8 ∧ e.size = 1 ∧ l.length ≤ limBytes) (.slice (l.map fun b => .int .u8 b.toNat)) H
  | _, _ => .bad

def xmin (isMin : Bool) (H : List Ob) : V → V → XR
  | .int k a, .int k' b => .val (k = k') (.int k (if isMin then min a b else max a b)) H
  | _, _ => .bad

def toByte : V → UInt8
  | .int _ n => UInt8.ofNat n.toNat
  | _ => 0
def AllBytes (xs : List V) : Prop := ∀ x ∈ xs, ∃ n, x = .int .u8 n
def V.isSlice : V → Bool
  | .slice _ | .fslice _ | .vec _ _ _ _ => true
  | _ => false
def xtoStr (H : List Ob) (x : V) : XR :=
  if x.isSlice = false then .bad else
  match elems H x with
  | some xs => .val (AllBytes xs ∧ xs.length ≤ maxLen) (.str (xs.map toByte)) H
  | none => .bad

def partAt (d : TD) (ps : List (Nat × V)) (i : Nat) : V := match ps.find? (fun p => p.1 == i) with | some p => p.2 | none => mkV d d.zero

def xmake (d : TD) (H : List Ob) : V → V → XR
  | .int _ n, .int _ n' => .val (n = n' ∧ 0 ≤ n ∧ n * d.bytes ≤ limBytes ∧ n ≤ 9223372036854775807 ∧ (d.kind.isAgg = false → d.size = 1)) (.vec H.length 1 0 n.toNat) (H ++ [.vec 1 d.size (List.replicate n.toNat (mkV d d.zero))])
  | _, _ => .bad
def xclear (d : TD) (H : List Ob) : V → XR
  | .vec o ver off n => match H[o]? with
    | some (.vec ver' es l) => .val (ver' = ver ∧ off + n ≤ l.length ∧ es = d.size ∧ (d.kind.isAgg = false → d.size = 1)) (.tuple []) (H.set o (.vec ver' es (l.take off ++ List.replicate n (mkV d d.zero) ++ l.drop (off + n))))
    | _ => .bad
  | .fslice [] => .val True (.tuple []) H
  | _ => .bad
/-! ### maps -/
def mget : List (Int × Nat × V) → Int → Option V
  | [], _ => none
  | p :: l, n => if n = p.1 then some p.2.2 else mget l n
def mset : List (Int × Nat × V) → Int → V → List (Int × Nat × V)
  | [], _, _ => []
  | p :: l, n, x => if n = p.1 then (p.1, p.2.1, x) :: l else p :: mset l n x
def mdel : List (Int × Nat × V) → Int → List (Int × Nat × V)
  | [], _ => []
  | p :: l, n => if n = p.1 then l else p :: mdel l n
/-- an entry is put: the entries, and the clock -/
def mput (l : List (Int × Nat × V)) (ck : Nat) (n : Int) (x : V) : List (Int × Nat × V) := if (mget l n).isSome = true then mset l n x else l ++ [(n, ck, x)]
def mclk (l : List (Int × Nat × V)) (ck : Nat) (n : Int) : Nat := if (mget l n).isSome = true then ck else ck + 1
def xfound (d : TD) (ok : Bool) (r : Option V) : V := if ok = true then .tuple [r.getD (mkV d d.zero), .bool r.isSome] else r.getD (mkV d d.zero)
def xlookup (T : Nat → TD) (d : TD) (H : List Ob) (ok : Bool) (x i : V) : XR :=
  match d.kind with
  | .map k e => match x, i with
    | .mapr o, .int .i64 n => match H[o]? with
      | some (.map l _) => .val ((T k).kind = .int .i64 ∧ (T e).kind ≠ .other ∧ (T e).kind.isAgg = true ∧ (T e).size ≠ 1) (xfound (T e) ok (mget l n)) H
      | _ => .bad
    | .nilm, .int .i64 n => .val ((T k).kind = .int .i64 ∧ (T e).kind ≠ .other ∧ (T e).kind.isAgg = true ∧ (T e).size ≠ 1) (xfound (T e) ok none) H
    | _, _ => .bad
  | _ => .bad
def xmapUpdate (T : Nat → TD) (d : TD) (H : List Ob) (m i x : V) : XR :=
  match d.kind with
  | .map k e => match m, i with
    | .mapr o, .int .i64 n => match H[o]? with
      | some (.map l ck) => .val ((T k).kind = .int .i64 ∧ x.storable) .dead (H.set o (.map (mput l ck n x) (mclk l ck n)))
      | _ => .bad
    | _, _ => .bad
  | _ => .bad
def xdelete (T : Nat → TD) (d : TD) (H : List Ob) (m i : V) : XR :=
  match d.kind with
  | .map k e => match m, i with
    | .mapr o, .int .i64 n => match H[o]? with
      | some (.map l ck) => .val ((T k).kind = .int .i64) (.tuple []) (H.set o (.map (mdel l n) ck))
      | _ => .bad
    | _, _ => .bad
  | _ => .bad
def xmakeMap (d : TD) (H : List Ob) : XR :=
  match d.kind with
  | .map _ _ => .val True (.mapr H.length) (H ++ [.map [] 0])
  | _ => .bad
def xrange (d : TD) (H : List Ob) (m : V) : XR :=
  match d.kind with
  | .map _ _ => match m with
    | .mapr o => match H[o]? with
      | some (.map _ ck) => .val True (.ref H.length 0) (H ++ [.iter o ck [] ck])
      | _ => .bad
    | _ => .bad
  | _ => .bad
def xentry (H : List Ob) : V → XR
  | .ref it 0 => match H[it]? with
    | some (.iter o _ seen last) => match H[o]? with
      | some (.map l ck) => match l.find? (fun p => p.2.1 == seen.getLastD 0) with
        | some p => .val (ck = last ∧ seen ≠ []) (.tuple [.int .i64 p.1, p.2.2]) H
        | none => .bad
      | _ => .bad
    | _ => .bad
  | _ => .bad
def xmapLen (H : List Ob) : V → XR
  | .mapr o => match H[o]? with
    | some (.map l _) => .val True (.int .i64 l.length) H
    | _ => .bad
  | .nilm => .val True (.int .i64 0) H
  | _ => .bad
def isNilS : Operand → Bool
  | .const (.slice none _ _) => true
  | _ => false
def xmaybe (op : BinOp) (pre p : Prop) (H : List Ob) : XR :=
  match op with
  | .eql => .maybe pre p (fun b => .bool b) H
  | .neq => .maybe pre p (fun b => .bool (!b)) H
  | _ => .bad
/-- a list against nil: an empty one may be nil, or not -/
def xnils (d : TD) (H : List Ob) (op : BinOp) (x : V) : XR :=
  match d.kind with
  | .slice _ => match x with
    | .slice l => xmaybe op True (l ≠ []) H
    | .fslice l => xmaybe op True (l ≠ []) H
    | .vec o ver off n => xmaybe op (∃ es l, H[o]? = some (.vec ver es l)) (n ≠ 0) H
    | _ => .bad
  | _ => .bad
def xnilm (d : TD) (H : List Ob) (op : BinOp) (x : V) : XR :=
  match d.kind with
  | .map _ _ => match x with
    | .mapr o => match op with
      | .eql => .val (∃ l ck, H[o]? = some (.map l ck)) (.bool false) H
      | .neq => .val (∃ l ck, H[o]? = some (.map l ck)) (.bool true) H
      | _ => .bad
    | .nilm => match op with
      | .eql => .val True (.bool true) H
      | .neq => .val True (.bool false) H
      | _ => .bad
    | _ => .bad
  | _ => .bad
def xbuiltin (T : Nat → TD) (H : List Ob) (b : Builtin) (ts : List TypeId) (args : List V) : XR :=
  match b, ts, args with
  | .len, [t], [x] => match (T t).kind with
    | .map _ _ => xmapLen H x
    | _ => xlen (T t) H x
  | .append, [t, u], [s, x] => match (T t).kind, (T u).kind with
    | .slice e, .slice _ => if (T e).kind ≠ .other then xappend (T e) H s x else .bad
    | .slice e, .str => if (T e).kind ≠ .other then xappend (T e) H s x else .bad
    | _, _ => .bad
  | .min, _, [x, y] => xmin true H x y
  | .max, _, [x, y] => xmin false H x y
  | .delete, t :: _, [m, i] => xdelete T (T t) H m i
  | .clear, [t], [x] => match (T t).kind with
    | .slice e => if (T e).kind ≠ .other then xclear (T e) H x else .bad
    | _ => .bad
  | _, _, _ => .bad

/-- a part of a value -/
def xpart (d : TD) (H : List Ob) (off : Nat) : V → XR
  | .agg cs => .val (d.kind ≠ .other ∧ off + d.size ≤ cs.length ∧ (d.kind.isAgg = false → d.size = 1)) (mkV d ((cs.drop off).take d.size)) H
  | _ => .bad

def xop (T : Nat → TD) (own : Bool) (ρ : Operand → V) (H : List Ob) : Op → XR
  | .move x => .val True (ρ x) H
  | .assign x => .val True (ρ x) H
  | .pick c a b => match ρ c with
    | .bool q => .val True (if q then ρ a else ρ b) H
    | _ => .bad
  | .alloc e => .val ((T e).kind ≠ .other) (.ref H.length 0) (H ++ [.var (T e).zero])
  | .box _ x => .val (ρ x).storable (.ref H.length 0) (H ++ [.var (ρ x).cells])
  | .build t ps => match (T t).kind with
    | .struct fs => .val ((∀ f ∈ fs, (T f.1).kind ≠ .other) ∧ ∀ p ∈ ps.toList, (ρ p.2).storable ∧ ∃ f, fs[p.1]? = some f ∧ (T f.1).kind ≠ .other ∧ (ρ p.2).cells.length = (T f.1).size ∧ f.2 + (T f.1).size ≤ (T t).zero.length)
        (.agg (fillV (fun i => (fs[i]?).map (·.2)) (T t).zero (ps.toList.map fun p => (p.1, ρ p.2)))) H
    | .array _ e => .val ((T e).kind ≠ .other ∧ ∀ p ∈ ps.toList, (ρ p.2).storable ∧ (ρ p.2).cells.length = (T e).size ∧ p.1 * (T e).size + (T e).size ≤ (T t).zero.length)
        (.agg (fillV (fun i => some (i * (T e).size)) (T t).zero (ps.toList.map fun p => (p.1, ρ p.2)))) H
    | _ => .bad
  | .buildSlice t n ps => match (T t).kind with
    | .slice e => .val ((T e).kind ≠ .other ∧ n ≤ 16777216 ∧ n * (T e).size ≤ 16777216 ∧ ps.toList.map (·.1) = List.range n ∧ ∀ p ∈ ps.toList, (ρ p.2).storable ∧ (ρ p.2).cells.length = (T e).size)
        (match own with | false => .fslice (ps.toList.map fun p => ρ p.2) | true => .vec H.length 1 0 (ps.toList.map fun p => ρ p.2).length) (match own with | false => H | true => H ++ [.vec 1 (T e).size (ps.toList.map fun p => ρ p.2)])
    | _ => .bad
  | .load t a => if (T t).kind = .other then .bad else xload (T t) H (ρ a)
  | .store t a x => if (T t).kind = .other then .bad else xstore (T t) H (ρ a) (ρ x)
  | .fieldAddr t a f => xfieldAddr T (T t) H (ρ a) f
  | .indexAddr t x i => xindexAddr T (T t) H (ρ x) (ρ i)
  | .index t x i => xindex T (T t) H (ρ x) (ρ i)
  | .slice t x lo hi mx => match mx with
    | none => xslice T H (T t) (ρ x) (lo.map ρ) (hi.map ρ)
    | some m => xslice3 T H (T t) (ρ x) (lo.map ρ) (hi.map ρ) (ρ m)
  | .nilCheck x => match ρ x with
    | .ref o c => .val (live H (.ref o c)) (.ref o c) H
    | .cref cs c => .val True (.cref cs c) H
    | .eref o ver i c => .val (live H (.eref o ver i c)) (.eref o ver i c) H
    | _ => .bad
  | .binOp op t x y _ => if isNilS y = true then xnils (T t) H op (ρ x) else match ρ y with
    | .nilm => xnilm (T t) H op (ρ x)
    | _ => xbin T H (T t) op (ρ x) (ρ y)
  | .unOp .not _ x => match ρ x with
    | .bool b => .val True (.bool (!b)) H
    | _ => .bad
  | .unOp .neg _ x => match ρ x with
    | .int k n => .val True (.int k (k.wrap (0 - n))) H
    | _ => .bad
  | .convert s d x => match (T s).kind, (T d).kind with
    | .slice e, .str => if (T e).kind = .int .u8 then xtoStr H (ρ x) else .bad
    | .other, _ => .bad
    | _, .slice e => xconvert own (T s) (T d) (T e) H (ρ x)
    | _, _ => xconvert own (T s) (T d) (T d) H (ρ x)
  | .makeFunc f first cap => .val (∀ x ∈ first.toList ++ cap.toList, (ρ x).storable) (.fn f (first.toList.map ρ) (cap.toList.map ρ)) H
  | .extract t i => match ρ t with
    | .tuple vs => .val (i < vs.length) (V.at vs i) H
    | _ => .bad
  | .call c => match c.callee with
    | .value f => match ρ f with
      | .fn (.func k) first cap => .call k (first ++ c.args.toList.map ρ ++ cap)
      | .fn (.yield l) [] [] => .ycall l (c.args.toList.map ρ)
      | _ => .bad
    | .builtin b => xbuiltin T H b c.argTypes.toList (c.args.toList.map ρ)
    | _ => .bad
  | .makeSlice t n c => match (T t).kind with
    | .slice e => if (T e).kind ≠ .other then xmake (T e) H (ρ n) (ρ c) else .bad
    | _ => .bad
  | .field t x f => match (T t).kind with
    | .struct fs => match fs[f]? with
      | some (ft, off) => xpart (T ft) H off (ρ x)
      | none => .bad
    | _ => .bad
  | .makeMap t r => if r.isSome = true then .bad else xmakeMap (T t) H
  | .lookup t x i ok => xlookup T (T t) H ok (ρ x) (ρ i)
  | .mapUpdate t m k x => xmapUpdate T (T t) H (ρ m) (ρ k) (ρ x)
  | .range t x => xrange (T t) H (ρ x)
  | .entry x => xentry H (ρ x)
  | .makeInterface t x => .val ((T t).kind ≠ .other ∧ (T t).kind ≠ .iface ∧ (ρ x).storable) (.iface t (ρ x)) H
  | .typeAssert x _ t ok => match ρ x with
    | .iface t' v => if ok = true then .bad else .val (t' = t ∧ (T t).kind ≠ .other ∧ (T t).kind ≠ .iface) v H
    | _ => .bad
  | .next x s => if s = true then .bad else .steps (ρ x)
  | _ => .bad
end Go.EL

/- The value logic, part D: what the operations do in a world is what they come to on abstract values. -/
set_option linter.unusedSimpArgs false
set_option linter.unusedVariables false
namespace Go.EL
open Go
variable {P : Program} {T : Nat → TD} {g : Nat → Option Key} {H : List Ob} {w : World}

def Done (P : Program) (g : Nat → Option Key) (H : List Ob) (w : World) (s : Sem Next) (v : V) (H' : List Ob) : Prop :=
  ∃ w' g' cv nx, s.run P w = .ok nx w' ∧ (nx = .value cv ∨ (nx = .skip ∧ cv = undef)) ∧ Good g' H' w' ∧ Ext g H.length w g' H'.length w' ∧ RepV (cxOf g' H'.length w') v cv

def DoneV (P : Program) (g : Nat → Option Key) (H : List Ob) (w : World) (s : Sem Value) (v : V) (H' : List Ob) : Prop :=
  ∃ w' g' cv, s.run P w = .ok cv w' ∧ Good g' H' w' ∧ Ext g H.length w g' H'.length w' ∧ RepV (cxOf g' H'.length w') v cv

theorem DoneV.done {s : Sem Value} {v H'} (h : DoneV P g H w s v H') : Done P g H w (do pure (Next.value (← s))) v H' := by
  obtain ⟨w', g', cv, h1, h2⟩ := h
  exact ⟨w', g', cv, _, by simp [h1], .inl rfl, h2⟩

theorem DoneV.pure_ {s : Sem Value} {v : V} {cv : Value} (hG : Good g H w) (hr : s.run P w = .ok cv w) (hv : RepV (cxOf g H.length w) v cv) : DoneV P g H w s v H :=
  ⟨w, g, cv, hr, hG, Ext.refl _ _ _, hv⟩

/-! Inversions -/
section
variable {c : Cx} {cv : Value}
theorem cells_leaf {v : Value} (h : ∀ cs, v ≠ .agg cs) : v.cells.toList = [v] := by cases v <;> first | rfl | exact absurd rfl (h _)
theorem RepV.leaf {x : V} (h : RepV c x cv) (hx : ∀ cs, x ≠ .agg cs) (hd : x ≠ .dead) : RepC c x [cv] := by
  have hne : ∀ cs, cv ≠ .agg cs := by
    intro cs e
    subst e
    cases x <;> first | exact absurd rfl hd | exact absurd rfl (hx _) | exact h.2
  have := cells_leaf hne
  cases x <;> first | exact absurd rfl hd | exact absurd rfl (hx _) | (have h1 := h.1; rwa [this] at h1)
theorem RepV.agg {cs : List V} (h : RepV c (.agg cs) cv) : ∃ arr, cv = .agg arr ∧ Reps c cs arr.toList := by
  obtain ⟨h1, h2⟩ := h
  cases cv <;> first | exact h2.elim | exact ⟨_, rfl, by simp only [RepC] at h1; exact h1⟩
theorem RepV.mk_leaf {x : V} (h : RepC c x [cv]) (hx : ∀ cs, x ≠ .agg cs) (hv : ∀ cs, cv ≠ .agg cs) : RepV c x cv := by
  have := cells_leaf hv
  cases x <;> first
    | trivial
    | exact absurd rfl (hx _)
    | exact ⟨by rw [this]; exact h, by cases cv <;> first | trivial | exact absurd rfl (hv _)⟩
theorem RepV.mk_agg {cs : List V} {arr : Array Value} (h : Reps c cs arr.toList) : RepV c (.agg cs) (.agg arr) := ⟨by simp only [RepC]; exact h, trivial⟩
theorem RepV.int {k n} (h : RepV c (.int k n) cv) : cv = .int k n := by have := h.leaf (by simp) (by simp); simpa [RepC] using this
theorem RepV.bool {b} (h : RepV c (.bool b) cv) : cv = .bool b := by have := h.leaf (by simp) (by simp); simpa [RepC] using this
theorem RepV.str {l} (h : RepV c (.str l) cv) : cv = .string ⟨l.toArray⟩ ∧ True := ⟨by have := h.leaf (by simp) (by simp); simpa [RepC] using this, trivial⟩
theorem RepV.mk_int {k n} : RepV c (.int k n) (.int k n) := ⟨by simp [RepC, Value.cells], trivial⟩
theorem RepV.mk_bool {b} : RepV c (.bool b) (.bool b) := ⟨by simp [RepC, Value.cells], trivial⟩
theorem RepV.mk_str {l : List UInt8} : RepV c (.str l) (.string ⟨l.toArray⟩) := ⟨by simp [RepC, Value.cells], trivial⟩
theorem RepV.mk_str' {s : ByteArray} : RepV c (.str s.data.toList) (.string s) := RepV.mk_str
theorem RepV.tuple {xs} (h : RepV c (.tuple xs) cv) : ∃ ws, cv = .tuple ws.toArray ∧ RepVs c xs ws := by
  have := h.leaf (by simp) (by simp); simpa [RepC] using this
theorem RepVs.get {c : Cx} : ∀ {xs : List V} {vs : List Value}, RepVs c xs vs → ∀ {i : Nat} {x : V}, xs[i]? = some x → ∃ v, vs[i]? = some v ∧ RepC c x v.cells.toList ∧ okAgg x v
  | [], _, _, i, x, hx => by simp at hx
  | y :: xs, _, h, i, x, hx => by
    simp only [RepVs] at h
    obtain ⟨u, vs', rfl, h1, h2, h⟩ := h
    cases i with
    | zero => simp at hx; subst hx; exact ⟨u, rfl, h1, h2⟩
    | succ i => simp at hx ⊢; exact RepVs.get h hx
theorem RepVs.length {c : Cx} : ∀ {xs : List V} {vs : List Value}, RepVs c xs vs → vs.length = xs.length
  | [], _, h => by simp only [RepVs] at h; simp [h]
  | x :: xs, _, h => by
    simp only [RepVs] at h
    obtain ⟨v, vs', rfl, _, _, h⟩ := h
    simp [RepVs.length h]
theorem RepV.of_parts {x : V} {v : Value} (h1 : RepC c x v.cells.toList) (h2 : okAgg x v) : RepV c x v := by
  cases x <;> first | trivial | exact ⟨h1, h2⟩
end


/-- cells of a value that may be stored -/
theorem cells_of {c : Cx} {x : V} {cv : Value} (h : RepV c x cv) (hs : x.storable) : Reps c x.cells cv.cells.toList := by
  cases x with
  | agg cs =>
    obtain ⟨arr, e, h'⟩ := h.agg
    subst e
    exact h'
  | dead => exact hs.elim
  | tuple vs => exact hs.elim
  | _ =>
    have hl := h.leaf (by simp) (by simp)
    have hne : ∀ cs, cv ≠ .agg cs := by intro cs e; subst e; exact h.2
    rw [cells_leaf hne]
    simp only [V.cells, Reps]
    exact ⟨cv, [], rfl, hs, hl, rfl⟩

theorem RepC.of_cells {c : Cx} {x : V} {vs : List Value} (h : Reps c x.cells vs) (hs : x.storable) : RepC c x vs := by
  cases x with
  | agg cs => simp only [RepC]; exact h
  | dead => exact hs.elim
  | tuple vs => exact hs.elim
  | _ =>
    simp only [V.cells, Reps] at h
    obtain ⟨v, vs', rfl, _, h, rfl⟩ := h
    exact h

theorem RepC.to_cells {c : Cx} {x : V} {vs : List Value} (h : RepC c x vs) (hs : x.storable) : Reps c x.cells vs := by
  cases x with
  | agg cs => simp only [RepC] at h; exact h
  | dead => exact hs.elim
  | tuple vs => exact hs.elim
  | _ =>
    obtain ⟨v, rfl⟩ : ∃ v, vs = [v] := by
      simp only [RepC] at h
      first
        | exact ⟨_, h⟩
        | exact ⟨_, h.1⟩
        | (obtain ⟨_, u, rfl, _⟩ := h; exact ⟨_, rfl⟩)
        | (obtain ⟨_, _, _, rfl, _⟩ := h; exact ⟨_, rfl⟩)
        | (obtain ⟨_, _, rfl, _⟩ := h; exact ⟨_, rfl⟩)
        | (obtain ⟨_, rfl, _⟩ := h; exact ⟨_, rfl⟩)
    simp only [V.cells, Reps]
    exact ⟨v, [], rfl, hs, h, rfl⟩

theorem RepC.length {c : Cx} {x : V} {vs : List Value} (h : RepC c x vs) : vs.length = x.cells.length := by
  cases x <;> simp only [RepC] at h
  case dead => obtain ⟨_, rfl⟩ := h; rfl
  case tuple => obtain ⟨_, rfl, _⟩ := h; rfl
  case agg => exact h.length
  case int => subst h; rfl
  case bool => subst h; rfl
  case str => subst h; rfl
  case nilp => subst h; rfl
  case ref => obtain ⟨_, u, rfl, _⟩ := h; rfl
  case eref => obtain ⟨_, u, rfl, _⟩ := h; rfl
  case cref => obtain ⟨_, _, _, rfl, _⟩ := h; rfl
  case slice => obtain ⟨_, _, _, rfl, _⟩ := h; rfl
  case fslice => obtain ⟨_, _, rfl, _⟩ := h; rfl
  case vec => obtain ⟨_, u, rfl, _⟩ := h; rfl
  case fn => obtain ⟨_, _, rfl, _⟩ := h; rfl
  case nilf => subst h; rfl
  case mapr => obtain ⟨_, u, rfl, _⟩ := h; rfl
  case nilm => subst h; rfl
  case iface => obtain ⟨_, rfl, _⟩ := h; rfl
  case nili => subst h; rfl

theorem RepE.get {c : Cx} {es b : Nat} : ∀ {xs : List V} {off : Nat}, RepE c es b off xs → ∀ {i : Nat} {x : V}, xs[i]? = some x →
    ∃ vs, (x.storable ∧ RepC c x vs) ∧ vs.length = es ∧ ∀ j v, vs[j]? = some v → c.cell ⟨b, off + i * es + j, none⟩ = some v
  | [], off, _, i, x, hx => by simp at hx
  | y :: xs, off, h, i, x, hx => by
    simp only [RepE] at h
    obtain ⟨vs, h1, h2, h3, h4⟩ := h
    cases i with
    | zero => simp at hx; subst hx; exact ⟨vs, h1, h2, by simpa using h3⟩
    | succ i =>
      simp at hx
      obtain ⟨us, g1, g2, g3⟩ := RepE.get h4 hx
      exact ⟨us, g1, g2, fun j v hj => by rw [← g3 j v hj, show off + (i + 1) * es + j = off + es + i * es + j by rw [Nat.add_mul]; omega]⟩

theorem RepE.drop {c : Cx} {es b : Nat} : ∀ {xs : List V} {off : Nat} (n : Nat), RepE c es b off xs → RepE c es b (off + n * es) (xs.drop n)
  | [], off, n, _ => by simp [RepE]
  | x :: xs, off, 0, h => by simpa using h
  | x :: xs, off, n + 1, h => by
    simp only [RepE] at h
    obtain ⟨vs, h1, h2, h3, h4⟩ := h
    have := RepE.drop n h4
    rw [show off + (n + 1) * es = off + es + n * es by rw [Nat.add_mul]; omega]
    simpa using this
theorem RepE.take {c : Cx} {es b : Nat} : ∀ {xs : List V} {off : Nat} (n : Nat), RepE c es b off xs → RepE c es b off (xs.take n)
  | [], off, n, _ => by simp [RepE]
  | x :: xs, off, 0, h => by simp [RepE]
  | x :: xs, off, n + 1, h => by
    simp only [RepE] at h
    obtain ⟨vs, h1, h2, h3, h4⟩ := h
    simp only [List.take_succ_cons, RepE]
    exact ⟨vs, h1, h2, h3, RepE.take n h4⟩

end Go.EL

/- The value logic, part E: loads, stores, addresses. -/
set_option linter.unusedSimpArgs false
set_option linter.unusedVariables false
namespace Go.EL
open Go
variable {P : Program} {T : Nat → TD} {g : Nat → Option Key} {H : List Ob} {w : World}

theorem kindOK_agg {td : TypeDesc} {k : TK} (h : kindOK td k = true) : (match td with | .struct _ | .array _ _ => true | _ => false) = k.isAgg := by
  cases td <;> cases k <;> first | rfl | (simp [kindOK] at h)

theorem TyAt.run_und {t : TypeId} {d : TD} (h : TyAt P t d) (w : World) : ∃ td, kindOK td d.kind = true ∧ (underlying t).run P w = .ok td w ∧ P.underlying t = some td := by
  obtain ⟨td, h1, h2⟩ := h.und
  exact ⟨td, h2, run_underlying h1 w, h1⟩
theorem TyAt.run_isAgg {t : TypeId} {d : TD} (h : TyAt P t d) (w : World) : (isAgg t).run P w = .ok d.kind.isAgg w := by
  obtain ⟨td, h1, h2, _⟩ := h.run_und w
  have := kindOK_agg h1
  unfold isAgg
  rw [Sem.run_bind, h2]
  cases td <;> simp_all
theorem TyAt.run_typeInfo {t : TypeId} {d : TD} (h : TyAt P t d) (w : World) : ∃ i, (typeInfo t).run P w = .ok i w ∧ i.size = d.size ∧ i.bytes = d.bytes ∧ P.info? t = some i ∧ ∃ z, i.zero = some z ∧ zEqs z.cells.toList d.zero = true := by
  obtain ⟨i, z, h1, h2, h3, h4, h5⟩ := h.info
  exact ⟨i, by simp [typeInfo, h1], h2, h3, h1, z, h4, h5⟩
theorem TyAt.run_sizeOf {t : TypeId} {d : TD} (h : TyAt P t d) (w : World) : (sizeOf t).run P w = .ok d.size w := by
  obtain ⟨i, h1, h2, _⟩ := h.run_typeInfo w
  simp [sizeOf, h1, h2]
theorem TyAt.run_zeroValue {t : TypeId} {d : TD} (h : TyAt P t d) (w : World) : ∃ z, (zeroValue t).run P w = .ok z w ∧ zEqs z.cells.toList d.zero = true := by
  obtain ⟨i, h1, _, _, _, z, h2, h3⟩ := h.run_typeInfo w
  exact ⟨z, by simp [zeroValue, h1, h2], h3⟩

theorem addr_add (b off n : Nat) : (⟨b, off, none⟩ : Addr).add n = ⟨b, off + n, none⟩ := by
  unfold Addr.add; split <;> simp_all

theorem run_loadVar {t : TypeId} {d : TD} (hT : TyAt P t d) {b off : Nat} {vs : List Value} (hl : vs.length = d.size)
    (hc : ∀ j v, vs[j]? = some v → w.cell? ⟨b, off + j, none⟩ = some v) (h1 : d.kind.isAgg = false → d.size = 1) :
    (loadVar t ⟨b, off, none⟩).run P w = .ok (if d.kind.isAgg then .agg vs.toArray else vs.headD undef) w := by
  unfold loadVar
  rw [Sem.run_bind, hT.run_isAgg w]
  simp only [Result.andThen_ok]
  cases hk : d.kind.isAgg with
  | true =>
    have : (loadCells ⟨b, off, none⟩ vs.length).run P w = .ok vs.toArray w :=
      run_loadCells_list w _ vs (fun j v hv => by rw [addr_add]; exact hc j v hv)
    simp [hT.run_sizeOf w, ← hl, this]
  | false =>
    have hs := h1 hk
    rw [hs] at hl
    match vs, hl with
    | [v], _ =>
      have := hc 0 v rfl
      simp only [Nat.add_zero] at this
      simp [this]

theorem mkV_rep {c : Cx} {d : TD} {xs : List V} {vs : List Value} (h : Reps c xs vs) (hl : xs.length = d.size) (h1 : d.kind.isAgg = false → d.size = 1) :
    RepV c (mkV d xs) (if d.kind.isAgg then .agg vs.toArray else vs.headD undef) := by
  unfold mkV
  cases hk : d.kind.isAgg with
  | true => simp only [if_true]; exact RepV.mk_agg h
  | false =>
    have hs := h1 hk
    rw [hs] at hl
    match xs, hl with
    | [x], _ =>
      simp only [Reps] at h
      obtain ⟨v, vs', rfl, ho, hr, rfl⟩ := h
      simp only [List.headD_cons, if_false, Bool.false_eq_true]
      have ho' := RepC.oneCell hr ho
      refine RepV.mk_leaf hr (fun cs e => by subst e; exact ho) (fun cs e => by subst e; simp [Value.oneCell'] at ho')

theorem cell?_row {b j : Nat} {cur : Array Value} {et : TypeId} {fr : Nat × Nat} (h : w.heap[b]? = some (.cells cur et fr)) : w.cell? ⟨b, j, none⟩ = cur.toList[j]? := by
  simp [World.cell?, h]

theorem Good.var (hG : Good g H w) {o : Nat} {cs : List V} (h : H[o]? = some (.var cs)) :
    ∃ b cur et fr, g o = some ⟨0, some b, 0, 0⟩ ∧ w.heap[b]? = some (.cells cur et fr) ∧ Reps (cxOf g H.length w) cs cur.toList ∧ unfrozen fr cur.size := by
  have := hG.ob o; rw [h] at this; exact this
theorem Good.vec (hG : Good g H w) {o : Nat} {ver es : Nat} {l : List V} (h : H[o]? = some (.vec ver es l)) :
    ∃ q, g o = some q ∧ q.ver = ver ∧ q.es = es ∧ 1 ≤ ver ∧ q.cap ≤ maxLen ∧ l.length ≤ q.cap ∧
      ((q.blk = none ∧ q.cap = 0) ∨
       ∃ b cur et fr, q.blk = some b ∧ w.heap[b]? = some (.cells cur et fr) ∧ cur.size = q.cap * q.es ∧ RepE (cxOf g H.length w) q.es b 0 l ∧ unfrozen fr cur.size ∧ (∀ v ∈ cur.toList, v.oneCell' = true)) := by
  have := hG.ob o; rw [h] at this; exact this

theorem take_drop_get {α : Type} {l : List α} {off n j : Nat} {x : α} (h : ((l.drop off).take n)[j]? = some x) : l[off + j]? = some x := by
  rw [List.getElem?_take] at h
  split at h
  · rwa [List.getElem?_drop] at h
  · cases h

theorem xload_exact {t : TypeId} {d : TD} (hT : TyAt P t d) {a : V} {ca : Value} (hG : Good g H w) (ha : RepV (cxOf g H.length w) a ca) {pre : Prop} {v : V} {H' : List Ob}
    (h : xload d H a = .val pre v H') (hp : pre) : H' = H ∧ ∃ cv, (Instr.loadAt t ca).run P w = .ok cv w ∧ RepV (cxOf g H.length w) v cv := by
  unfold xload at h
  split at h
  · rename_i o off
    split at h
    · rename_i cs ho
      injection h with e1 e2 e3
      subst e1 e2 e3
      obtain ⟨hp1, hp2⟩ := hp
      obtain ⟨b, cur, et, fr, hk, hh, hr, _⟩ := hG.var ho
      have hl := ha.leaf (by simp) (by simp)
      simp only [RepC] at hl
      obtain ⟨_, u, hu, _, hv⟩ := hl
      injection hu with hu
      subst hu
      have := hv _ b hk rfl rfl
      subst this
      have hlen := hr.length
      refine ⟨rfl, if d.kind.isAgg then .agg ((cur.toList.drop off).take d.size).toArray else ((cur.toList.drop off).take d.size).headD undef, ?_, ?_⟩
      · simp only [Instr.loadAt, Instr.sureAddr, Sem.run_bind, Sem.run_pure, Result.andThen_ok]
        refine run_loadVar hT ?_ (fun j v hj => ?_) hp2
        · rw [List.length_take, List.length_drop]; omega
        · rw [cell?_row hh]; exact take_drop_get hj
      · exact mkV_rep ((hr.drop off).take d.size) (by rw [List.length_take, List.length_drop]; omega) hp2
    · cases h
  · rename_i cs c
    injection h with e1 e2 e3
    subst e1 e2 e3
    obtain ⟨hp1, hp2⟩ := hp
    have hl := ha.leaf (by simp) (by simp)
    simp only [RepC] at hl
    obtain ⟨b, off, ws, hu, himm, hr, hc⟩ := hl
    injection hu with hu
    subst hu
    have hlen := hr.length
    refine ⟨rfl, if d.kind.isAgg then .agg ((ws.drop c).take d.size).toArray else ((ws.drop c).take d.size).headD undef, ?_, ?_⟩
    · simp only [Instr.loadAt, Instr.sureAddr, Sem.run_bind, Sem.run_pure, Result.andThen_ok]
      refine run_loadVar hT ?_ (fun j v hj => ?_) hp2
      · rw [List.length_take, List.length_drop]; omega
      · rw [Nat.add_assoc]; exact hc _ v (take_drop_get hj)
    · exact mkV_rep ((hr.drop c).take d.size) (by rw [List.length_take, List.length_drop]; omega) hp2
  · rename_i o ver i c
    split at h
    · rename_i ver' es l ho
      injection h with e1 e2 e3
      subst e1 e2 e3
      obtain ⟨rfl, hi, hp1, hp2⟩ := hp
      obtain ⟨q, hk, hver, _, _, _, hcap, hb⟩ := hG.vec ho
      have hl := ha.leaf (by simp) (by simp)
      simp only [RepC] at hl
      obtain ⟨_, u, hu, _, hv⟩ := hl
      injection hu with hu
      subst hu
      have hv := (hv q hk).2
      rcases hb with ⟨_, h0⟩ | ⟨b, cur, et, fr, hblk, hh, hsz, hr, _⟩
      · omega
      have := hv b hver hblk
      subst this
      have hx : l[i]? = some (V.at l i) := by simp [V.at, List.getD, hi]
      obtain ⟨ws, g1, g2, g3⟩ := hr.get hx
      have hlen := g1.2.length
      have hreps : Reps (cxOf g H.length w) (V.at l i).cells ws := RepC.to_cells g1.2 g1.1
      refine ⟨rfl, if d.kind.isAgg then .agg ((ws.drop c).take d.size).toArray else ((ws.drop c).take d.size).headD undef, ?_, ?_⟩
      · simp only [Instr.loadAt, Instr.sureAddr, Sem.run_bind, Sem.run_pure, Result.andThen_ok]
        refine run_loadVar hT ?_ (fun j v hj => ?_) hp2
        · rw [List.length_take, List.length_drop]; omega
        · have := g3 _ v (take_drop_get hj)
          rw [← this]
          simp only [Nat.zero_add, Nat.add_assoc]
          rfl
      · exact mkV_rep ((hreps.drop c).take d.size) (by rw [List.length_take, List.length_drop]; omega) hp2
    · cases h
  · cases h

theorem xload_sound {t : TypeId} {d : TD} (hT : TyAt P t d) {a : V} {ca : Value} (hG : Good g H w) (ha : RepV (cxOf g H.length w) a ca) {pre : Prop} {v : V} {H' : List Ob}
    (h : xload d H a = .val pre v H') (hp : pre) : DoneV P g H w (Instr.loadAt t ca) v H' := by
  obtain ⟨rfl, cv, h1, h2⟩ := xload_exact hT hG ha h hp
  exact DoneV.pure_ hG h1 h2

theorem heap_setCell {b i : Nat} {v : Value} {cs : Array Value} {t : TypeId} {fr : Nat × Nat} (hg : w.heap[b]? = some (.cells cs t fr)) :
    (w.setCell ⟨b, i, none⟩ v).heap[b]? = some (.cells (cs.setIfInBounds i v) t fr) := by
  simp [World.setCell, Array.getElem?_modify, hg]
theorem heap_setCell_ne {a : Addr} {k : Nat} {v : Value} (h : k ≠ a.block) : (w.setCell a v).heap[k]? = w.heap[k]? := by
  simp [World.setCell, Array.getElem?_modify, Ne.symm h]
theorem size_setCell (a : Addr) (v : Value) : (w.setCell a v).heap.size = w.heap.size := by simp [World.setCell]

theorem list_set_splice (l : List Value) (o : Nat) (v : Value) (vs : List Value) (h : o + (vs.length + 1) ≤ l.length) :
    (l.set o v).take (o + 1) ++ vs ++ (l.set o v).drop (o + 1 + vs.length) = l.take o ++ (v :: vs) ++ l.drop (o + (v :: vs).length) := by
  rw [List.take_set, List.drop_set_of_lt (by omega)]
  rw [List.take_succ_eq_append_getElem (by omega), List.set_append_right _ _ (by simp; omega)]
  simp [Nat.min_eq_left (show o ≤ l.length by omega)]
  omega

theorem heap_setCells {b : Nat} {t : TypeId} {fr : Nat × Nat} : ∀ (vs : List Value) (o : Nat) (w : World) (cs : Array Value), w.heap[b]? = some (.cells cs t fr) → o + vs.length ≤ cs.size →
    (w.setCells b o vs).heap[b]? = some (.cells (cs.toList.take o ++ vs ++ cs.toList.drop (o + vs.length)).toArray t fr)
  | [], o, w, cs, h, _ => by simp [World.setCells, h]
  | v :: vs, o, w, cs, h, hl => by
    rw [World.setCells, heap_setCells vs (o + 1) _ _ (heap_setCell h) (by simp at hl ⊢; omega)]
    congr 2
    congr 1
    rw [Array.toList_setIfInBounds]
    exact list_set_splice _ _ _ _ (by simpa using hl)
theorem heap_setCells_ne {b k : Nat} (h : k ≠ b) : ∀ (vs : List Value) (o : Nat) (w : World), (w.setCells b o vs).heap[k]? = w.heap[k]?
  | [], _, _ => rfl
  | v :: vs, o, w => by rw [World.setCells, heap_setCells_ne h vs, heap_setCell_ne h]
theorem size_setCells (b : Nat) : ∀ (vs : List Value) (o : Nat) (w : World), (w.setCells b o vs).heap.size = w.heap.size
  | [], _, _ => rfl
  | v :: vs, o, w => by rw [World.setCells, size_setCells b vs, size_setCell]
theorem rest_setCells (b : Nat) : ∀ (vs : List Value) (o : Nat) (w : World), (w.setCells b o vs).os = w.os ∧ (w.setCells b o vs).output = w.output ∧ (w.setCells b o vs).tape = w.tape ∧ (w.setCells b o vs).drawn = w.drawn
  | [], _, _ => ⟨rfl, rfl, rfl, rfl⟩
  | v :: vs, o, w => by rw [World.setCells]; exact rest_setCells b vs (o + 1) (w.setCell ⟨b, o, none⟩ v)

theorem run_store_row {t : TypeId} {d : TD} (hT : TyAt P t d) {b off : Nat} {cur : Array Value} {et : TypeId} {fr : Nat × Nat} {cv : Value} (hh : w.heap[b]? = some (.cells cur et fr))
    (hu : unfrozen fr cur.size) (hs : cv.cells.size = d.size) (hl : off + d.size ≤ cur.size) (h1 : ∀ v ∈ cv.cells.toList, v.oneCell' = true) :
    (Instr.storeAt t (.pointer (some ⟨b, off, none⟩)) cv).run P w = .ok () (w.setCells b off cv.cells.toList) := by
  have hlen : cv.cells.toList.length = d.size := by simpa using hs
  have := run_storeCells_cells (P := P) b off cv.cells.toList 0 w
    (fun j hj => by rw [Nat.add_zero, cell?_row hh]; simp; omega)
    (fun j hj => by
      have := hu (off + j) (by omega)
      simp only [World.frozen?, hh, Nat.add_zero]
      simpa using this) h1
  simp [Instr.storeAt, Instr.sureAddr, storeVar, hT.run_sizeOf, hs, this]

theorem set_get_ne {H : List Ob} {o o' : Nat} {x : Ob} (h : o' ≠ o) : (H.set o x)[o']? = H[o']? := by rw [List.getElem?_set_ne (Ne.symm h)]
theorem set_get_eq {H : List Ob} {o : Nat} {x y : Ob} (h : H[o]? = some y) : (H.set o x)[o]? = some x := by
  rw [List.getElem?_set_self (List.getElem?_eq_some_iff.1 h).1]

theorem lt_of_get {H : List Ob} {o : Nat} {y : Ob} (h : H[o]? = some y) : o < H.length := (List.getElem?_eq_some_iff.1 h).1

/-- the block of one object is rewritten in place -/
theorem step_rewrite (hG : Good g H w) {o b : Nat} {k : Key} {x y : Ob} (ho : H[o]? = some x) (hk : g o = some k) (hb : k.blk = some b) (vs : List Value) (off : Nat)
    (hob : Mono (cxOf g H.length w) (cxOf g (H.set o y).length (w.setCells b off vs)) → ObOK (cxOf g (H.set o y).length (w.setCells b off vs)) (w.setCells b off vs).heap (some k) (some y)) :
    Good g (H.set o y) (w.setCells b off vs) ∧ Ext g H.length w g (H.set o y).length (w.setCells b off vs) := by
  have hr := rest_setCells b vs off w
  refine step_one hG o g (H.set o y) (w.setCells b off vs) hr.1 hr.2.1 hr.2.2.1 (fun o' h => set_get_ne h) (fun _ _ => rfl) (by simp) (by rw [size_setCells]; exact Nat.le_refl _)
    (fun b' hb' hne => heap_setCells_ne (fun e => hne k hk (by rw [e]; exact hb)) _ _ _) (fun k' b' hk' hb' => .inr ⟨k', hk', hb'⟩)
    (fun _ k' hk' => ⟨k', hk', Nat.le_refl _, fun _ => rfl⟩) (fun m => ?_)
  rw [hk, set_get_eq ho]
  exact hob m

theorem splice_reps {c : Cx} {xs ys : List V} {vs us : List Value} (off : Nat) (h : Reps c xs vs) (g : Reps c ys us) : Reps c (splice xs off ys) (vs.take off ++ us ++ vs.drop (off + us.length)) := by
  unfold splice
  rw [g.length]
  exact ((h.take off).append g).append (h.drop _)

theorem xstore_var_sound {t : TypeId} {d : TD} (hT : TyAt P t d) {o off : Nat} {x : V} {ca cx : Value} (hG : Good g H w) (ha : RepV (cxOf g H.length w) (.ref o off) ca) (hx : RepV (cxOf g H.length w) x cx)
    {cs : List V} (ho : H[o]? = some (.var cs)) (hs : x.storable) (hl : x.cells.length = d.size) (hb : off + d.size ≤ cs.length) :
    ∃ w', (Instr.storeAt t ca cx).run P w = .ok () w' ∧ Good g (H.set o (.var (splice cs off x.cells))) w' ∧ Ext g H.length w g (H.set o (.var (splice cs off x.cells))).length w' := by
  obtain ⟨b, cur, et, fr, hk, hh, hr, hu⟩ := hG.var ho
  have hleaf := ha.leaf (by simp) (by simp)
  simp only [RepC] at hleaf
  obtain ⟨_, u, hu', _, hv⟩ := hleaf
  injection hu' with hu'
  subst hu'
  have := hv _ b hk rfl rfl
  subst this
  have hcells := cells_of hx hs
  have hlen := hr.length
  have hlc := hcells.length
  refine ⟨w.setCells b off cx.cells.toList, run_store_row hT hh hu (by simpa [hl] using hlc) (by simp at hlen; omega) hcells.oneCell, ?_⟩
  have hsz : (cur.toList.take off ++ cx.cells.toList ++ cur.toList.drop (off + cx.cells.toList.length)).length = cur.size := by
    have : cur.toList.length = cur.size := by simp
    simp only [List.length_append, List.length_take, List.length_drop]; omega
  refine step_rewrite hG ho hk rfl _ _ (fun m => ?_)
  refine ⟨b, _, et, fr, rfl, heap_setCells _ _ _ _ hh (by rw [hlc, hl]; simp at hlen; omega), ?_, ?_⟩
  · simp only []
    exact splice_reps off (Reps.mono m _ _ hr) (Reps.mono m _ _ hcells)
  · rw [List.size_toArray, hsz]; exact hu


theorem RepE.of_get {c : Cx} {es b : Nat} : ∀ {xs : List V} {off : Nat}, (∀ (i : Nat) (x : V), xs[i]? = some x →
    ∃ vs, (x.storable ∧ RepC c x vs) ∧ vs.length = es ∧ ∀ j v, vs[j]? = some v → c.cell ⟨b, off + i * es + j, none⟩ = some v) → RepE c es b off xs
  | [], _, _ => by simp [RepE]
  | x :: xs, off, h => by
    simp only [RepE]
    obtain ⟨vs, h1, h2, h3⟩ := h 0 x rfl
    refine ⟨vs, h1, h2, by simpa using h3, RepE.of_get (fun i y hy => ?_)⟩
    obtain ⟨us, g1, g2, g3⟩ := h (i + 1) y (by simpa using hy)
    exact ⟨us, g1, g2, fun j v hj => by rw [← g3 j v hj, show off + (i + 1) * es + j = off + es + i * es + j by rw [Nat.add_mul]; omega]⟩

theorem mul_gap {i j es c : Nat} (h : i < j) (hc : c < es) : i * es + c < j * es := by
  have : (i + 1) * es ≤ j * es := Nat.mul_le_mul_right _ h
  rw [Nat.add_mul] at this
  omega

theorem withCells_cells {x : V} {cs : List V} (hx : x.storable) (h : cs.length = x.cells.length) : (∀ y ∈ cs, V.leaf y) → (x.withCells cs).cells = cs ∧ (x.withCells cs).storable := by
  intro hl
  cases x with
  | agg _ => exact ⟨rfl, trivial⟩
  | dead => exact hx.elim
  | tuple _ => exact hx.elim
  | _ =>
    simp only [V.cells, List.length_cons, List.length_nil] at h
    match cs, h with
    | [y], _ =>
      have := hl y (by simp)
      simp only [V.withCells, List.headD_cons]
      cases y <;> first | exact this.elim | exact ⟨rfl, this⟩

theorem Reps.leaf {c : Cx} : ∀ {xs : List V} {vs : List Value}, Reps c xs vs → ∀ x ∈ xs, V.leaf x
  | [], _, _, x, hx => by simp at hx
  | y :: xs, _, h, x, hx => by
    simp only [Reps] at h
    obtain ⟨u, vs', rfl, h1, _, h⟩ := h
    rcases List.mem_cons.1 hx with e | hx
    · subst e; exact h1
    · exact h.leaf x hx

theorem splice_get {α : Type} (cur ws us : List α) (B c : Nat) (hB : ∀ n, n < ws.length → cur[B + n]? = ws[n]?) (h1 : c + us.length ≤ ws.length) (h2 : B + c + us.length ≤ cur.length) (k : Nat) (hk : k < ws.length) :
    (cur.take (B + c) ++ us ++ cur.drop (B + c + us.length))[B + k]? = (ws.take c ++ us ++ ws.drop (c + us.length))[k]? := by
  have e1 : (cur.take (B + c)).length = B + c := by rw [List.length_take]; omega
  have e2 : (ws.take c).length = c := by rw [List.length_take]; omega
  rcases Nat.lt_or_ge k c with h | h
  · rw [List.getElem?_append_left (by simp; omega), List.getElem?_append_left (by omega), List.getElem?_append_left (by simp; omega), List.getElem?_append_left (by omega),
      List.getElem?_take, List.getElem?_take, if_pos (by omega), if_pos h]
    exact hB k hk
  · rcases Nat.lt_or_ge k (c + us.length) with h' | h'
    · rw [List.getElem?_append_left (by simp; omega), List.getElem?_append_right (by omega), List.getElem?_append_left (by simp; omega), List.getElem?_append_right (by omega), e1, e2]
      congr 1; omega
    · rw [List.getElem?_append_right (by simp; omega), List.getElem?_append_right (by simp; omega), List.getElem?_drop, List.getElem?_drop, List.length_append, List.length_append, e1, e2]
      rw [show B + c + us.length + (B + k - (B + c + us.length)) = B + k by omega, show c + us.length + (k - (c + us.length)) = k by omega]
      exact hB k hk

theorem xstore_vec_sound {t : TypeId} {d : TD} (hT : TyAt P t d) {o ver es i c : Nat} {x : V} {ca cx : Value} (hG : Good g H w) (ha : RepV (cxOf g H.length w) (.eref o ver i c) ca) (hx : RepV (cxOf g H.length w) x cx)
    {l : List V} (ho : H[o]? = some (.vec ver es l)) (hi : i < l.length) (hs : x.storable) (hl : x.cells.length = d.size) (hb : c + d.size ≤ (V.at l i).cells.length) :
    ∃ w', (Instr.storeAt t ca cx).run P w = .ok () w' ∧ Good g (H.set o (.vec ver es (l.set i ((V.at l i).withCells (splice (V.at l i).cells c x.cells))))) w' ∧
      Ext g H.length w g (H.set o (.vec ver es (l.set i ((V.at l i).withCells (splice (V.at l i).cells c x.cells))))).length w' := by
  obtain ⟨q, hk, hver, hes, hv1, hcm, hcap, hbk⟩ := hG.vec ho
  have hleaf := ha.leaf (by simp) (by simp)
  simp only [RepC] at hleaf
  obtain ⟨_, u, hu', _, hv⟩ := hleaf
  injection hu' with hu'
  subst hu'
  rcases hbk with ⟨_, h0⟩ | ⟨b, cur, et, fr, hblk, hh, hsz, hr, hu, hone⟩
  · omega
  have := (hv q hk).2 b hver hblk
  subst this
  have hcells := cells_of hx hs
  have hlc := hcells.length
  have hx0 : l[i]? = some (V.at l i) := by simp [V.at, List.getD, hi]
  obtain ⟨ws, g1, g2, g3⟩ := hr.get hx0
  have hws := g1.2.length
  have hreps := RepC.to_cells g1.2 g1.1
  have hie : i * q.es + q.es ≤ cur.size := by
    rw [hsz]
    have : (i + 1) * q.es ≤ q.cap * q.es := Nat.mul_le_mul_right _ (by omega)
    rw [Nat.add_mul] at this; omega
  have hlen : cx.cells.toList.length = d.size := by omega
  refine ⟨w.setCells b (i * q.es + c) cx.cells.toList, run_store_row hT hh hu (by simpa using hlen) (by omega) hcells.oneCell, ?_⟩
  have hcs : ∀ j, (w.setCells b (i * q.es + c) cx.cells.toList).cell? ⟨b, j, none⟩ = (cur.toList.take (i * q.es + c) ++ cx.cells.toList ++ cur.toList.drop (i * q.es + c + cx.cells.toList.length))[j]? := by
    intro j
    rw [cell?_row (heap_setCells _ _ _ _ hh (by omega))]
  have hcsz : cur.toList.length = cur.size := by simp
  refine step_rewrite hG ho hk hblk _ _ (fun m => ?_)
  refine ⟨q, rfl, hver, hes, hv1, hcm, by simpa using hcap, .inr ⟨b, _, et, fr, hblk, heap_setCells _ _ _ _ hh (by omega), ?_, ?_, ?_, ?_⟩⟩
  · rw [← hsz]
    simp only [List.size_toArray, List.length_append, List.length_take, List.length_drop]; omega
  · refine RepE.of_get (fun j y hy => ?_)
    show ∃ vs, _ ∧ _ ∧ ∀ (k : Nat) (v : Value), vs[k]? = some v → (w.setCells b (i * q.es + c) cx.cells.toList).cell? ⟨b, 0 + j * q.es + k, none⟩ = some v
    by_cases e : j = i
    · subst e
      rw [List.getElem?_set_self hi] at hy
      injection hy with hy
      subst hy
      have hsp := splice_reps c (Reps.mono m _ _ hreps) (Reps.mono m _ _ hcells)
      have hspl : (splice (V.at l j).cells c x.cells).length = (V.at l j).cells.length := by
        unfold splice; simp only [List.length_append, List.length_take, List.length_drop]; omega
      obtain ⟨k1, k2⟩ := withCells_cells g1.1 hspl hsp.leaf
      refine ⟨_, ⟨k2, RepC.of_cells (by rw [k1]; exact hsp) k2⟩, ?_, fun k v hk' => ?_⟩
      · rw [hsp.length, hspl]; omega
      · rw [hcs]
        have hkl : k < ws.length := by
          have := (List.getElem?_eq_some_iff.1 hk').1
          rw [hsp.length, hspl] at this; omega
        have hold : ∀ n, n < ws.length → cur.toList[j * q.es + n]? = ws[n]? := by
          intro n hn
          have := g3 n ws[n] (List.getElem?_eq_getElem hn)
          simp only [Nat.zero_add] at this
          rw [show (cxOf g H.length w).cell = w.cell? from rfl, cell?_row hh] at this
          rw [this, List.getElem?_eq_getElem hn]
        simp only [Nat.zero_add]
        rw [← hk']
        exact splice_get _ _ _ _ _ hold (by omega) (by omega) k hkl
    · rw [List.getElem?_set_ne (Ne.symm e)] at hy
      obtain ⟨us, k1, k2, k3⟩ := hr.get hy
      refine ⟨us, ⟨k1.1, RepC.mono m _ _ k1.2⟩, k2, fun k v hk' => ?_⟩
      have hkl : k < q.es := by have := (List.getElem?_eq_some_iff.1 hk').1; omega
      have := k3 k v hk'
      rw [show (cxOf g H.length w).cell = w.cell? from rfl] at this
      rw [World.cell?_setCells_out]
      · exact this
      · intro _ _
        simp only [Nat.zero_add]
        rcases Nat.lt_or_gt_of_ne e with h | h
        · have := mul_gap (es := q.es) h hkl; left; omega
        · have := mul_gap (es := q.es) h (show q.es - 1 < q.es by omega); right; omega
  · simp only [List.size_toArray, List.length_append, List.length_take, List.length_drop]
    intro j hj
    exact hu j (by omega)
  · intro v hv
    simp only [List.mem_append] at hv
    rcases hv with (hv | hv) | hv
    · exact hone v (List.mem_of_mem_take hv)
    · exact hcells.oneCell v hv
    · exact hone v (List.mem_of_mem_drop hv)

end Go.EL

/- The value logic, part F: addresses, numbers, strings. -/
set_option linter.unusedSimpArgs false
set_option linter.unusedVariables false
namespace Go.EL
open Go
variable {P : Program} {T : Nat → TD} {g : Nat → Option Key} {H : List Ob} {w : World}

theorem kind_slice {td : TypeDesc} {k : TK} {e : Nat} (h : kindOK td k = true) (hk : k = .slice e) : td = .slice e := by
  subst hk; cases td <;> simp [kindOK] at h; subst h; rfl
theorem kind_array {td : TypeDesc} {k : TK} {n e : Nat} (h : kindOK td k = true) (hk : k = .array n e) : td = .array n e := by
  subst hk; cases td <;> simp [kindOK] at h; obtain ⟨rfl, rfl⟩ := h; rfl
theorem kind_str {td : TypeDesc} {k : TK} (h : kindOK td k = true) (hk : k = .str) : td = .string := by
  subst hk; cases td <;> simp [kindOK] at h; rfl
theorem kind_bool {td : TypeDesc} {k : TK} (h : kindOK td k = true) (hk : k = .bool) : td = .bool := by
  subst hk; cases td <;> simp [kindOK] at h; rfl
theorem kind_int {td : TypeDesc} {k : TK} {i : IntKind} (h : kindOK td k = true) (hk : k = .int i) : td = .int i := by
  subst hk; cases td <;> simp [kindOK] at h; subst h; rfl
theorem kind_struct {td : TypeDesc} {k : TK} {l} (h : kindOK td k = true) (hk : k = .struct l) : ∃ fs, td = .struct fs ∧ (fs.toList.map fun f => (f.type, f.offset)) = l := by
  subst hk; cases td <;> simp [kindOK] at h; exact ⟨_, rfl, h⟩

theorem ref_addr {o off : Nat} {ca : Value} {c : Cx} (ha : RepV c (.ref o off) ca) : c.has o ∧ ca.oneCell' = true ∧ ∀ k b, c.key o = some k → k.ver = 0 → k.blk = some b → ca = .pointer (some ⟨b, off, none⟩) := by
  have hl := ha.leaf (by simp) (by simp)
  simp only [RepC] at hl
  obtain ⟨h1, u, hu, h2, h3⟩ := hl
  injection hu with hu
  subst hu
  exact ⟨h1, h2, h3⟩

theorem run_fieldAt {t : TypeId} {d : TD} {fs : List (Nat × Nat)} {f ft off : Nat} {b o : Nat} (hT : TyAt P t d) (hd : d.kind = .struct fs) (hf : fs[f]? = some (ft, off)) {dt : TD} (hF : TyAt P ft dt) (hz : dt.size ≠ 0) :
    (Instr.fieldAt t (.pointer (some ⟨b, o, none⟩)) f).run P w = .ok (.pointer (some ⟨b, o + off, none⟩)) w := by
  obtain ⟨td, h1, h2, _⟩ := hT.run_und w
  obtain ⟨l, rfl, hl⟩ := kind_struct h1 hd
  have hf' : ∃ x, l[f]? = some x ∧ x.type = ft ∧ x.offset = off := by
    rw [← hl, List.getElem?_map] at hf
    simp only [Array.getElem?_toList] at hf
    cases hx : l[f]? with
    | none => rw [hx] at hf; cases hf
    | some x =>
      rw [hx] at hf
      simp only [Option.map_some, Option.some.injEq, Prod.mk.injEq] at hf
      exact ⟨x, rfl, hf.1, hf.2⟩
  obtain ⟨x, hx, rfl, rfl⟩ := hf'
  have := hF.run_sizeOf w
  unfold Instr.fieldAt
  rw [Sem.run_bind, h2]
  simp only [Result.andThen_ok]
  rw [hx]
  simp only []
  rw [Sem.run_bind]
  simp only [Instr.sureAddr, Sem.run_pure, Result.andThen_ok, Sem.run_bind]
  unfold fieldPlace
  rw [Sem.run_bind, this]
  simp [hz, addr_add]


/-- a live pointer is an address, and moved it is the pointer that is moved -/
theorem live_addr {a : V} {ca : Value} (hG : Good g H w) (ha : RepV (cxOf g H.length w) a ca) (h : live H a) :
    ∃ b off, ca = .pointer (some ⟨b, off, none⟩) ∧ ∀ n, RepV (cxOf g H.length w) (match a with | .ref o c => .ref o (c + n) | .cref cs c => .cref cs (c + n) | .eref o ver i c => .eref o ver i (c + n) | x => x) (.pointer (some ⟨b, off + n, none⟩)) := by
  unfold live at h
  split at h
  · rename_i o c
    obtain ⟨cs, ho⟩ := h
    obtain ⟨b, cur, et, fr, k1, _⟩ := hG.var ho
    have hh := ref_addr ha
    have := hh.2.2 _ b k1 rfl rfl
    subst this
    refine ⟨b, c, rfl, fun n => RepV.mk_leaf ?_ (by simp) (by simp)⟩
    simp only [RepC]
    refine ⟨hh.1, _, rfl, rfl, fun k' b' h1 h2 h3 => ?_⟩
    have : g o = some k' := h1
    rw [k1] at this
    injection this with this
    subst this
    injection h3 with h3
    subst h3
    rfl
  · rename_i o ver i c
    obtain ⟨es, l, ho, hi⟩ := h
    obtain ⟨q, hk, hver, hes, hv1, hcm, hcap, hbk⟩ := hG.vec ho
    rcases hbk with ⟨_, h0⟩ | ⟨b, cur, et, fr, hblk, hh, hsz, hr, hu, hone⟩
    · omega
    have hl := ha.leaf (by simp) (by simp)
    simp only [RepC] at hl
    obtain ⟨h1, u, hu, h2, h3⟩ := hl
    injection hu with hu
    subst hu
    have := (h3 q hk).2 b hver hblk
    subst this
    refine ⟨b, i * q.es + c, rfl, fun n => RepV.mk_leaf ?_ (by simp) (by simp)⟩
    simp only [RepC]
    refine ⟨h1, _, rfl, rfl, fun k' g1 => ?_⟩
    have : g o = some k' := g1
    rw [hk] at this
    injection this with this
    subst this
    refine ⟨(h3 q hk).1, fun b' _ g3 => ?_⟩
    rw [hblk] at g3
    injection g3 with g3
    subst g3
    rw [Nat.add_assoc]
  · rename_i cs c
    have hl := ha.leaf (by simp) (by simp)
    simp only [RepC] at hl
    obtain ⟨b, o, ws, hu, h1, h2, h3⟩ := hl
    injection hu with hu
    subst hu
    refine ⟨b, o + c, rfl, fun n => RepV.mk_leaf ?_ (by simp) (by simp)⟩
    simp only [RepC]
    exact ⟨b, o, ws, by rw [Nat.add_assoc], h1, h2, h3⟩
  · exact h.elim

theorem xfieldAddr_sound (hTO : TyOK P T) {t : TypeId} {a : V} {ca : Value} {f : Nat} (hG : Good g H w) (ha : RepV (cxOf g H.length w) a ca) {pre : Prop} {v : V} {H' : List Ob}
    (h : xfieldAddr T (T t) H a f = .val pre v H') (hp : pre) : DoneV P g H w (Instr.fieldAt t ca f) v H' := by
  unfold xfieldAddr at h
  split at h
  · rename_i fs hk
    have hT := hTO.at (t := t) (by rw [hk]; simp)
    split at h
    · rename_i ft off hf
      split at h
      case h_4 => cases h
      all_goals
        injection h with e1 e2 e3
        subst e1 e2 e3
        have hF := hTO.at hp.2.1
        obtain ⟨b, o, rfl, hn⟩ := live_addr hG ha hp.1
        exact DoneV.pure_ hG (run_fieldAt hT hk hf hF hp.2.2) (hn off)
    · cases h
  · cases h

theorem at_get {l : List V} {i : Nat} (h : i < l.length) : l[i]? = some (V.at l i) := by simp [V.at, List.getD, h]

theorem slice_cref {c : Cx} {es b off : Nat} {l : List V} {i : Nat} (hi : c.imm b) (hr : RepE c es b off l) (h : i < l.length) (hsz : (V.at l i).cells.length = es) :
    RepV c (.cref (V.at l i).cells 0) (.pointer (some ⟨b, off + i * es, none⟩)) := by
  obtain ⟨vs, h1, h2, h3⟩ := hr.get (at_get h)
  refine RepV.mk_leaf ?_ (by simp) (by simp)
  simp only [RepC]
  exact ⟨b, off + i * es, vs, by simp, hi, RepC.to_cells h1.2 h1.1, h3⟩

theorem run_indexAt_slice {t e : TypeId} {d : TD} (hT : TyAt P t d) (hd : d.kind = .slice e) {de : TD} (hE : TyAt P e de) {b off len cap : Nat} {k : IntKind} {n : Int} (h0 : 0 ≤ n) (h1 : n < len) :
    (Instr.indexAt t (.slice (some ⟨b, off, none⟩) len cap) (.int k n)).run P w = .ok (.pointer (some ⟨b, off + n.toNat * de.size, none⟩)) w := by
  obtain ⟨td, g1, g2, _⟩ := hT.run_und w
  have := kind_slice g1 hd
  subst this
  unfold Instr.indexAt
  simp [asIntOf, g2, h0, h1, hE.run_sizeOf, addr_add]

theorem run_indexAt_array {t e m : TypeId} {d : TD} (hT : TyAt P t d) (hd : d.kind = .array m e) (hm : 2 ≤ m) {de : TD} (hE : TyAt P e de) {b off : Nat} {k : IntKind} {n : Int} (h0 : 0 ≤ n) (h1 : n < m) :
    (Instr.indexAt t (.pointer (some ⟨b, off, none⟩)) (.int k n)).run P w = .ok (.pointer (some ⟨b, off + n.toNat * de.size, none⟩)) w := by
  obtain ⟨td, g1, g2, _⟩ := hT.run_und w
  have := kind_array g1 hd
  subst this
  unfold Instr.indexAt
  simp [asIntOf, g2, h0, h1, hE.run_sizeOf, addr_add, Instr.sureAddr]

theorem es_of_head {c : Cx} {es b off : Nat} {l : List V} {i : Nat} (hr : RepE c es b off l) (h : i < l.length) : (V.at l i).cells.length = es := by
  obtain ⟨vs, h1, h2, h3⟩ := hr.get (at_get h)
  rw [← h2, h1.2.length]

theorem xindexAddr_sound (hTO : TyOK P T) {t : TypeId} {x i : V} {cx ci : Value} (hG : Good g H w) (hx : RepV (cxOf g H.length w) x cx) (hi : RepV (cxOf g H.length w) i ci) {pre : Prop} {v : V} {H' : List Ob}
    (h : xindexAddr T (T t) H x i = .val pre v H') (hp : pre) : DoneV P g H w (Instr.indexAt t cx ci) v H' := by
  unfold xindexAddr at h
  split at h
  · rename_i e k n hk
    have hT := hTO.at (t := t) (by rw [hk]; simp)
    have := hi.int
    subst this
    split at h
    · rename_i l
      injection h with e1 e2 e3
      subst e1 e2 e3
      obtain ⟨he, h0, h1, hs⟩ := hp
      have hE := hTO.at he
      have hl := hx.leaf (by simp) (by simp)
      simp only [RepC] at hl
      obtain ⟨a, cap, es, hu, _, _, hr⟩ := hl
      injection hu with hu
      subst hu
      rcases hr with hr | ⟨b, off, rfl, himm, hr⟩
      · subst hr; simp at h1; omega
      have hln : n.toNat < l.length := by omega
      have hes := es_of_head hr hln
      refine DoneV.pure_ hG (run_indexAt_slice hT hk hE h0 h1) ?_
      rw [show (T e).size = es by omega]
      exact slice_cref himm hr hln hes
    · rename_i l
      injection h with e1 e2 e3
      subst e1 e2 e3
      obtain ⟨he, h0, h1, hs⟩ := hp
      have hE := hTO.at he
      have hl := hx.leaf (by simp) (by simp)
      simp only [RepC] at hl
      obtain ⟨a, es, hu, _, hr⟩ := hl
      injection hu with hu
      subst hu
      rcases hr with hr | ⟨b, off, rfl, himm, hr⟩
      · subst hr; simp at h1; omega
      have hln : n.toNat < l.length := by omega
      have hes := es_of_head hr hln
      refine DoneV.pure_ hG (run_indexAt_slice hT hk hE h0 h1) ?_
      rw [show (T e).size = es by omega]
      exact slice_cref himm hr hln hes
    · rename_i o ver off len
      split at h
      · rename_i ver' es l ho
        injection h with e1 e2 e3
        subst e1 e2 e3
        obtain ⟨he, rfl, h0, h1, h2, hs⟩ := hp
        have hE := hTO.at he
        obtain ⟨q, hq, hver, hqes, hv1, hcm, hcap, hbk⟩ := hG.vec ho
        rcases hbk with ⟨_, h0'⟩ | ⟨b, cur, et, fr, hblk, hh, hsz, hr, hu, hone⟩
        · omega
        have hl := hx.leaf (by simp) (by simp)
        simp only [RepC] at hl
        obtain ⟨g1, u, hu', g2, g3⟩ := hl
        injection hu' with hu'
        subst hu'
        obtain ⟨g4, g5⟩ := g3 q hq
        obtain ⟨g6, a, rfl, g7⟩ := g5 hver
        obtain ⟨b', g8, rfl⟩ := g7 (by omega)
        rw [hblk] at g8
        injection g8 with g8
        subst g8
        have hln : off + n.toNat < l.length := by omega
        have hes := es_of_head hr hln
        refine DoneV.pure_ hG (run_indexAt_slice hT hk hE h0 h1) ?_
        refine RepV.mk_leaf ?_ (by simp) (by simp)
        simp only [RepC]
        refine ⟨g1, _, rfl, rfl, fun k' hk' => ?_⟩
        have : g o = some k' := hk'
        rw [hq] at this
        injection this with this
        subst this
        refine ⟨g4, fun b'' _ h4 => ?_⟩
        rw [hblk] at h4
        injection h4 with h4
        subst h4
        rw [show (T e).size = q.es by omega, Nat.add_mul, Nat.add_zero]
      · cases h
    · cases h
  · rename_i m e k n hk
    have hT := hTO.at (t := t) (by rw [hk]; simp)
    have := hi.int
    subst this
    split at h
    · injection h with e1 e2 e3
      subst e1 e2 e3
      obtain ⟨hlive, he, hm, h0, h1⟩ := hp
      have hE := hTO.at he
      obtain ⟨b, o, rfl, hn⟩ := live_addr hG hx hlive
      exact DoneV.pure_ hG (run_indexAt_array hT hk hm hE h0 h1) (hn _)
    · injection h with e1 e2 e3
      subst e1 e2 e3
      obtain ⟨he, hm, h0, h1⟩ := hp
      have hE := hTO.at he
      obtain ⟨b, o, rfl, hn⟩ := live_addr hG hx trivial
      exact DoneV.pure_ hG (run_indexAt_array hT hk hm hE h0 h1) (hn _)
    · cases h
  · cases h
end Go.EL

/- The value logic, part G: indexes, slices, structs, boxes. -/
set_option linter.unusedVariables false
set_option linter.unusedSimpArgs false
namespace Go.EL
open Go
variable {P : Program} {T : Nat → TD} {g : Nat → Option Key} {H : List Ob} {w : World}

theorem str_get {l : List UInt8} {i : Nat} : (ByteArray.mk l.toArray)[i]? = l[i]? := by
  by_cases h : i < l.length
  · rw [List.getElem?_eq_getElem h]
    rw [getElem?_pos (ByteArray.mk l.toArray) i (by simpa [ByteArray.size] using h)]
    rfl
  · rw [List.getElem?_eq_none (by omega)]
    rw [getElem?_neg (ByteArray.mk l.toArray) i (by simpa [ByteArray.size] using h)]

theorem part_rep {e : TypeId} {de : TD} (hE : TyAt P e de) {cs : List V} {arr : Array Value} {off : Nat} (hr : Reps (cxOf g H.length w) cs arr.toList) (hl : off + de.size ≤ cs.length) (h1 : de.kind.isAgg = false → de.size = 1) :
    ∃ cv, (part e arr off).run P w = .ok cv w ∧ RepV (cxOf g H.length w) (mkV de ((cs.drop off).take de.size)) cv := by
  have hlen := hr.length
  refine ⟨_, ?_, mkV_rep ((hr.drop off).take de.size) (by rw [List.length_take, List.length_drop]; omega) h1⟩
  unfold part
  rw [Sem.run_bind, hE.run_isAgg w]
  simp only [Result.andThen_ok]
  cases hk : de.kind.isAgg with
  | true =>
    simp only [if_true, Sem.run_bind, hE.run_sizeOf, Result.andThen_ok, Sem.run_pure]
    congr 2
    apply Array.toList_inj.1
    simp [List.extract_eq_take_drop]
  | false =>
    have hs := h1 hk
    have hlt : off < arr.size := by have : arr.toList.length = arr.size := by simp
                                    omega
    have : arr[off]? = some arr[off] := by simp [hlt]
    simp only [if_false, Bool.false_eq_true, this, Sem.run_pure]
    congr 1
    rw [hs]
    have : arr.toList.drop off = arr[off] :: arr.toList.drop (off + 1) := by
      rw [List.drop_eq_getElem_cons (by simpa using hlt)]; simp
    rw [this]
    rfl

theorem xindex_sound (hTO : TyOK P T) {t : TypeId} {x i : V} {cx ci : Value} (hG : Good g H w) (hx : RepV (cxOf g H.length w) x cx) (hi : RepV (cxOf g H.length w) i ci) {pre : Prop} {v : V} {H' : List Ob}
    (h : xindex T (T t) H x i = .val pre v H') (hp : pre) : DoneV P g H w (Instr.index t cx ci) v H' := by
  unfold xindex at h
  split at h
  · rename_i l k n hk
    have hT := hTO.at (t := t) (by rw [hk]; simp)
    injection h with e1 e2 e3
    subst e1 e2 e3
    obtain ⟨h0, h1⟩ := hp
    have := hi.int
    subst this
    obtain ⟨rfl, hl⟩ := hx.str
    obtain ⟨td, g1, g2, _⟩ := hT.run_und w
    have := kind_str g1 hk
    subst this
    have hlt : n.toNat < l.length := by omega
    refine DoneV.pure_ hG (cv := .int .u8 (l.getD n.toNat 0).toNat) ?_ RepV.mk_int
    unfold Instr.index
    simp only [asIntOf, Sem.run_bind, Sem.run_pure, Result.andThen_ok, g2]
    rw [if_pos h0, str_get, List.getElem?_eq_getElem hlt]
    simp [List.getD, hlt]
  · rename_i m e cs k n hk
    have hT := hTO.at (t := t) (by rw [hk]; simp)
    injection h with e1 e2 e3
    subst e1 e2 e3
    obtain ⟨he, h0, h1, h2, h3⟩ := hp
    have hE := hTO.at he
    have := hi.int
    subst this
    obtain ⟨arr, rfl, hr⟩ := hx.agg
    obtain ⟨td, g1, g2, _⟩ := hT.run_und w
    have := kind_array g1 hk
    subst this
    have hb : n.toNat * (T e).size + (T e).size ≤ cs.length := by
      have : (n.toNat + 1) * (T e).size ≤ m * (T e).size := Nat.mul_le_mul_right _ (by omega)
      rw [Nat.add_mul] at this; omega
    obtain ⟨cv, k1, k2⟩ := part_rep hE hr hb h3
    refine DoneV.pure_ hG (cv := cv) ?_ k2
    unfold Instr.index
    simp only [asIntOf, Sem.run_bind, Sem.run_pure, Result.andThen_ok, g2]
    rw [if_pos ⟨h0, h1⟩]
    simp [hE.run_sizeOf, k1]
  · cases h

theorem str_extract (l : List UInt8) (a b : Nat) : (ByteArray.mk l.toArray).extract a b = ByteArray.mk ((l.take b).drop a).toArray := by
  apply ByteArray.ext
  apply Array.toList_inj.1
  simp [ByteArray.data_extract, List.extract_eq_take_drop, List.drop_take]

theorem sliceV_rep {c : Cx} {l : List V} {es b off : Nat} (himm : c.imm b) (hr : RepE c es b off l) {a b' cap : Nat} (h1 : a ≤ b') (h2 : b' ≤ l.length) (hc : l.length ≤ cap) (hm : cap ≤ maxLen) :
    RepV c (.slice ((l.take b').drop a)) (.slice (if cap = a then some ⟨b, off, none⟩ else some ⟨b, off + a * es, none⟩) (b' - a) (cap - a)) := by
  refine RepV.mk_leaf ?_ (by simp) (by simp)
  simp only [RepC]
  have hlen : ((l.take b').drop a).length = b' - a := by simp; omega
  refine ⟨_, cap - a, es, by rw [hlen], by omega, by omega, ?_⟩
  by_cases e : cap = a
  · left
    apply List.eq_nil_of_length_eq_zero
    omega
  · right
    rw [if_neg e]
    exact ⟨b, off + a * es, rfl, himm, (hr.take b').drop a⟩

def RepO (c : Cx) : Option V → Option Value → Prop
  | none, none => True
  | some x, some v => RepV c x v
  | _, _ => False

theorem run_sliceBound_ok {k : IntKind} {i : Int} {y : Nat} {code : BoundsCode} (h0 : 0 ≤ i) (h1 : i ≤ y) : (Instr.sliceBound (.int k i) y code).run P w = .ok i.toNat w := by
  simp [Instr.sliceBound, asIntOf, h0, h1]

theorem run_sliceBounds {c : Cx} (isS : Bool) (len cap : Nat) {lo hi : Option V} {clo chi : Option Value} (hl : RepO c lo clo) (hh : RepO c hi chi) {a b : Int} (ha : loOf lo = some a) (hb : hiOf len hi = some b)
    (h0 : 0 ≤ a) (h1 : a ≤ b) (h2 : b ≤ cap) : (Instr.sliceBounds isS len cap clo chi none).run P w = .ok (a.toNat, b.toNat, cap) w := by
  have hb0 : 0 ≤ b := by omega
  have e1 : ∀ m : Nat, b ≤ m → (match chi with | some v => Instr.sliceBound v m (if isS then .sliceAcap else .sliceAlen) | none => pure len : Sem Nat).run P w = .ok b.toNat w := by
    intro m hm
    cases hi with
    | none =>
      cases chi with
      | none => injection hb with hb; subst hb; rfl
      | some _ => exact hh.elim
    | some x =>
      cases chi with
      | none => exact hh.elim
      | some v =>
        cases x <;> first | cases hb | skip
        have := RepV.int hh
        subst this
        exact run_sliceBound_ok hb0 hm
  have e2 : (match clo with | some v => Instr.sliceBound v b.toNat .sliceB | none => pure 0 : Sem Nat).run P w = .ok a.toNat w := by
    cases lo with
    | none =>
      cases clo with
      | none => injection ha with ha; subst ha; rfl
      | some _ => exact hl.elim
    | some x =>
      cases clo with
      | none => exact hl.elim
      | some v =>
        cases x <;> first | cases ha | skip
        have := RepV.int hl
        subst this
        exact run_sliceBound_ok h0 (by omega)
  have e1' := e1 cap h2
  unfold Instr.sliceBounds
  cases chi <;> cases clo <;> simp only [] at e1' e2 ⊢ <;> simp_all

theorem sliceH_rep {c : Cx} {l : List V} {ad : Option Addr} {es cap : Nat} (hr : l = [] ∨ ∃ b off, ad = some ⟨b, off, none⟩ ∧ c.imm b ∧ RepE c es b off l) {a b' size : Nat} (hsz : l ≠ [] → size = es) (h1 : a ≤ b') (h2 : b' ≤ l.length) (hc : l.length ≤ cap) (hm : cap ≤ maxLen) :
    RepV c (.slice ((l.take b').drop a)) (.slice (if cap = a then ad else ad.map (·.add (a * size))) (b' - a) (cap - a)) := by
  rcases hr with rfl | ⟨b, off, rfl, hi, hr⟩
  · have : b' = 0 := by simpa using h2
    subst this
    have hlen : ((([] : List V).take 0).drop a).length = 0 - a := by simp
    refine RepV.mk_leaf ?_ (by simp) (by simp)
    simp only [RepC]
    exact ⟨_, cap - a, es, by rw [hlen], by omega, by omega, .inl (by simp)⟩
  · by_cases hn : l = []
    · subst hn
      have : b' = 0 := by simpa using h2
      subst this
      have hlen : ((([] : List V).take 0).drop a).length = 0 - a := by simp
      refine RepV.mk_leaf ?_ (by simp) (by simp)
      simp only [RepC]
      exact ⟨_, cap - a, es, by rw [hlen], by omega, by omega, .inl (by simp)⟩
    · rw [hsz hn]
      have := sliceV_rep hi hr h1 h2 hc hm
      simpa [addr_add] using this

theorem hiOf_none {d : Int} : hiOf d none = some d := rfl

theorem parts_repE {c : Cx} {d : TD} {b : Nat} (h1 : d.kind.isAgg = false → d.size = 1) : ∀ (m : Nat) (cs : List V) (vs : List Value) (off : Nat), Reps c cs vs → cs.length = m * d.size → (∀ i v, vs[i]? = some v → c.cell ⟨b, off + i, none⟩ = some v) → RepE c d.size b off (parts d m cs)
  | 0, _, _, _, _, _, _ => by simp [parts, RepE]
  | m + 1, cs, vs, off, hr, hl, hc => by
    have hvl := hr.length
    have e : (m + 1) * d.size = d.size + m * d.size := by rw [Nat.add_mul]; omega
    have hz : (cs.take d.size).length = d.size := by rw [List.length_take]; omega
    have key : (mkV d (cs.take d.size)).storable ∧ RepC c (mkV d (cs.take d.size)) (vs.take d.size) := by
      have hr' := hr.take d.size
      unfold mkV
      cases hk : d.kind.isAgg with
      | true => exact ⟨trivial, by simp only [if_true, RepC]; exact hr'⟩
      | false =>
        have h1 := h1 hk
        rw [h1] at hz hr' ⊢
        match hzz : cs.take 1, hz with
        | [x], _ =>
          rw [hzz] at hr'
          simp only [Reps] at hr'
          obtain ⟨v, vs', e2, h2, h3, h4⟩ := hr'
          subst h4
          simp only [Bool.false_eq_true, if_false, List.headD_cons]
          rw [e2]
          exact ⟨by cases x <;> first | exact h2 | exact h2.elim, h3⟩
    simp only [parts, RepE]
    refine ⟨vs.take d.size, key, by rw [List.length_take]; omega, fun i v hv => hc i v ?_, parts_repE h1 m _ (vs.drop d.size) (off + d.size) (hr.drop d.size) (by rw [List.length_drop]; omega) (fun i v hv => ?_)⟩
    · rw [List.getElem?_take] at hv
      split at hv
      · exact hv
      · cases hv
    · rw [List.getElem?_drop] at hv
      rw [Nat.add_assoc]
      exact hc _ v hv
theorem parts_len (d : TD) : ∀ (m : Nat) (cs : List V), (parts d m cs).length = m
  | 0, _ => rfl
  | m + 1, cs => by simp [parts, parts_len d m]

theorem array_slice_sound (hTO : TyOK P T) {t m e : Nat} (hk : (T t).kind = .array m e) {x : V} {cx : Value} {lo hi : Option V} {clo chi : Option Value} (hG : Good g H w) (hx : RepV (cxOf g H.length w) x cx)
    (hlo : RepO (cxOf g H.length w) lo clo) (hhi : RepO (cxOf g H.length w) hi chi) {pre : Prop} {v : V} {H' : List Ob}
    (h : (if (T e).kind = .other then XR.bad else xsliceA (T e) H m x lo hi) = .val pre v H') (hp : pre) : DoneV P g H w (Instr.sliceAt t cx clo chi none) v H' := by
  have hT := hTO.at (t := t) (by rw [hk]; simp)
  obtain ⟨td, g1, g2, _⟩ := hT.run_und w
  have := kind_array g1 hk
  subst this
  split at h
  · cases h
  rename_i hek
  have hE := hTO.at hek
  obtain ⟨o, rfl, rfl, rfl⟩ : ∃ o, x = .ref o 0 ∧ lo = none ∧ hi = none := by
    unfold xsliceA at h
    split at h
    · exact ⟨_, rfl, rfl, rfl⟩
    · cases h
  unfold xsliceA at h
  simp only at h
  split at h
  case h_2 => cases h
  rename_i cs ho
  injection h with e1 e2 e3
  subst e1 e2 e3
  obtain ⟨hl, hm, h1⟩ := hp
  cases clo with
  | some _ => exact hlo.elim
  | none =>
  cases chi with
  | some _ => exact hhi.elim
  | none =>
  obtain ⟨b, cur, et, fr, hq, hh, hr, hu⟩ := hG.var ho
  obtain ⟨_, _, ha⟩ := ref_addr hx
  have := ha _ b hq rfl rfl
  subst this
  have hlt := lt_of_get ho
  have hcl := hr.length
  have hrun : (Instr.sliceAt t (.pointer (some ⟨b, 0, none⟩)) none none none).run P w = .ok (.slice (some ⟨b, 0, none⟩) m m) w := by
    unfold Instr.sliceAt
    simp only [Sem.run_bind, g2, Result.andThen_ok]
    simp [Instr.sureAddr, Instr.sliceBounds, hE.run_sizeOf, addr_add]
  have hob := step_one hG o (setKey g o (some ⟨1, some b, (T e).size, m⟩)) (H.set o (.vec 1 (T e).size (parts (T e) m cs))) w rfl rfl rfl
    (fun o' ho' => set_get_ne ho') (fun o' ho' => setKey_other ho') (by simp) (Nat.le_refl _) (fun _ _ _ => rfl)
    (fun k' bb hk' hb => by rw [setKey_same] at hk'; injection hk' with e; subst e; exact .inr ⟨_, hq, hb⟩)
    (fun _ k' hk' => by rw [setKey_same] at hk'; injection hk' with e; subst e; exact ⟨_, hq, by simp, fun e => by simp at e⟩)
    (fun mo => by
      rw [setKey_same, set_get_eq ho]
      refine ⟨_, rfl, rfl, rfl, Nat.le_refl _, by unfold maxLen; simp only; omega, by rw [parts_len]; exact Nat.le_refl _, .inr ⟨b, cur, et, fr, rfl, hh, ?_, ?_, hu, fun v hv => hr.oneCell v hv⟩⟩
      · simp only; rw [← hl, ← hcl]; simp
      · refine parts_repE h1 m cs cur.toList 0 (Reps.mono mo _ _ hr) hl (fun i v hv => ?_)
        show w.cell? _ = some v
        rw [cell?_row hh, Nat.zero_add]
        exact hv)
  refine ⟨w, _, _, hrun, hob.1, hob.2, RepV.mk_leaf ?_ (by simp) (by simp)⟩
  simp only [RepC]
  refine ⟨has_set (by simpa using hlt) (.inr (Nat.le_refl _)), _, rfl, rfl, fun k hk' => ?_⟩
  have hk' : setKey g o (some ⟨1, some b, (T e).size, m⟩) o = some k := hk'
  rw [setKey_same] at hk'
  injection hk' with hk'
  subst hk'
  exact ⟨Nat.le_refl _, fun _ => ⟨by simp, _, rfl, fun _ => ⟨b, rfl, by simp⟩⟩⟩

theorem repE_take' {c : Cx} (es b : Nat) : ∀ (n off : Nat) (l : List V), RepE c es b off l → RepE c es b off (l.take n)
  | 0, _, _, _ => by simp [RepE]
  | n + 1, _, [], _ => by simp [RepE]
  | n + 1, off, x :: l, h => by
    simp only [List.take_succ_cons, RepE] at h ⊢
    obtain ⟨vs, h1, h2, h3, h4⟩ := h
    exact ⟨vs, h1, h2, h3, repE_take' es b n _ l h4⟩
theorem xslice3_sound (hTO : TyOK P T) {t : TypeId} {x : V} {cx : Value} {lo hi : Option V} {clo chi : Option Value} {m : V} {cm : Value} (hG : Good g H w) (hx : RepV (cxOf g H.length w) x cx) (hlo : RepO (cxOf g H.length w) lo clo) (hhi : RepO (cxOf g H.length w) hi chi) (hm : RepV (cxOf g H.length w) m cm)
    {pre : Prop} {v : V} {H' : List Ob}
    (h : xslice3 T H (T t) x lo hi m = .val pre v H') (hp : pre) : DoneV P g H w (Instr.sliceAt t cx clo chi (some cm)) v H' := by
  unfold xslice3 at h
  split at h
  case h_2 => cases h
  rename_i e hk
  have hT := hTO.at (t := t) (by rw [hk]; simp)
  obtain ⟨td, g1, g2, _⟩ := hT.run_und w
  have := kind_slice g1 hk
  subst this
  split at h
  case isTrue => cases h
  rename_i hek
  have hE := hTO.at hek
  have key : ∀ (a : Option Addr) (len cap es : Nat) (l : List V) (k k' : IntKind) (n : Int), len = l.length → len ≤ cap → cap ≤ maxLen → 0 ≤ n → n ≤ l.length → chi = some (.int k n) → clo = none → (l = [] ∨ ∃ b off, a = some ⟨b, off, none⟩ ∧ (cxOf g H.length w).imm b ∧ RepE (cxOf g H.length w) es b off l) →
      DoneV P g H w (Instr.sliceAt t (.slice a len cap) clo chi (some (.int k' n))) (.fslice (l.take n.toNat)) H := by
    rintro a len cap es l k k' n rfl hc hmx h0 h1 rfl rfl hr
    refine DoneV.pure_ hG (cv := .slice (if n.toNat = 0 then a else a.map (·.add 0)) n.toNat n.toNat) ?_ (RepV.mk_leaf ?_ (by simp) (by simp))
    · unfold Instr.sliceAt Instr.slice
      simp only [Sem.run_bind, g2, Result.andThen_ok]
      have b1 : (0 ≤ n ∧ n ≤ (cap : Int)) := ⟨h0, by omega⟩
      have b2 : (0 ≤ n ∧ n ≤ ((n.toNat : Nat) : Int)) := ⟨h0, by omega⟩
      simp [g2, Instr.sliceBounds, Instr.sliceBound, asIntOf, b1, b2, hE.run_sizeOf]
      try omega
    · simp only [RepC]
      have hlen : (l.take n.toNat).length = n.toNat := by rw [List.length_take]; omega
      refine ⟨if n.toNat = 0 then a else a.map (·.add 0), es, by rw [hlen], by rw [hlen]; omega, ?_⟩
      by_cases hn : n.toNat = 0
      · left; rw [hn]; simp
      · rw [if_neg hn]
        rcases hr with rfl | ⟨b, off, rfl, hi, hr⟩
        · left; simp
        · right
          exact ⟨b, off, by simp [addr_add], hi, repE_take' es b _ _ _ hr⟩
  split at h
  · rename_i l k n k' m'
    injection h with e1 e2 e3
    subst e1 e2 e3
    obtain ⟨h0, rfl, h1⟩ := hp
    have hl := hx.leaf (by simp) (by simp)
    simp only [RepC] at hl
    obtain ⟨ad, cap, es, hu, hc, hmx, hr⟩ := hl
    injection hu with hu
    subst hu
    have := hm.int
    subst this
    cases chi with
    | none => exact hhi.elim
    | some ci =>
      have := RepV.int (show RepV _ (.int k n) ci from hhi)
      subst this
      cases clo with
      | some _ => exact hlo.elim
      | none => exact key ad _ cap es l k k' n rfl hc hmx h0 h1 rfl rfl hr
  · rename_i l k n k' m'
    injection h with e1 e2 e3
    subst e1 e2 e3
    obtain ⟨h0, rfl, h1⟩ := hp
    have hl := hx.leaf (by simp) (by simp)
    simp only [RepC] at hl
    obtain ⟨ad, es, hu, hmx, hr⟩ := hl
    injection hu with hu
    subst hu
    have := hm.int
    subst this
    cases chi with
    | none => exact hhi.elim
    | some ci =>
      have := RepV.int (show RepV _ (.int k n) ci from hhi)
      subst this
      cases clo with
      | some _ => exact hlo.elim
      | none => exact key ad _ _ es l k k' n rfl (Nat.le_refl _) hmx h0 h1 rfl rfl hr
  · cases h

theorem xslice_sound (hTO : TyOK P T) {t : TypeId} {x : V} {cx : Value} {lo hi : Option V} {clo chi : Option Value} (hG : Good g H w) (hx : RepV (cxOf g H.length w) x cx) (hlo : RepO (cxOf g H.length w) lo clo) (hhi : RepO (cxOf g H.length w) hi chi)
    {pre : Prop} {v : V} {H' : List Ob}
    (h : xslice T H (T t) x lo hi = .val pre v H') (hp : pre) : DoneV P g H w (Instr.sliceAt t cx clo chi none) v H' := by
  unfold xslice at h
  split at h
  case h_4 => cases h
  case h_3 m e hk =>
    exact array_slice_sound hTO hk hG hx hlo hhi h hp
  · rename_i hk
    have hT := hTO.at (t := t) (by rw [hk]; simp)
    obtain ⟨td, g1, g2, _⟩ := hT.run_und w
    have := kind_str g1 hk
    subst this
    split at h
    case h_2 => cases h
    rename_i l
    split at h
    case h_2 => cases h
    rename_i a b ha hb
    injection h with e1 e2 e3
    subst e1 e2 e3
    obtain ⟨h0, h1, h2⟩ := hp
    obtain ⟨rfl, hl⟩ := hx.str
    have hsz : (ByteArray.mk l.toArray).size = l.length := by simp [ByteArray.size]
    have hb' := run_sliceBounds (P := P) (w := w) false (ByteArray.mk l.toArray).size (ByteArray.mk l.toArray).size hlo hhi ha (by rw [hsz]; exact hb) h0 h1 (by rw [hsz]; exact h2)
    refine DoneV.pure_ hG (cv := .string ⟨((l.take b.toNat).drop a.toNat).toArray⟩) ?_ RepV.mk_str
    unfold Instr.sliceAt Instr.slice
    simp only [Sem.run_bind, g2, Result.andThen_ok]
    simp [hb', str_extract, g2]
  · rename_i e hk
    have hT := hTO.at (t := t) (by rw [hk]; simp)
    obtain ⟨td, g1, g2, _⟩ := hT.run_und w
    have := kind_slice g1 hk
    subst this
    split at h
    case h_2 => cases h
    rename_i hek
    have hE := hTO.at hek
    have hrun : ∀ (ad : Option Addr) (len cap : Nat) (a b : Int), loOf lo = some a → hiOf len hi = some b → 0 ≤ a → a ≤ b → b ≤ cap →
        (Instr.sliceAt t (.slice ad len cap) clo chi none).run P w = .ok (.slice (if cap = a.toNat then ad else ad.map (·.add (a.toNat * (T e).size))) (b.toNat - a.toNat) (cap - a.toNat)) w := by
      intro ad len cap a b ha hb h0 h1 h2
      have hb' := run_sliceBounds (P := P) (w := w) true len cap hlo hhi ha hb h0 h1 h2
      unfold Instr.sliceAt Instr.slice
      simp only [Sem.run_bind, g2, Result.andThen_ok]
      simp [hb', g2, hE.run_sizeOf]
    split at h
    · rename_i l
      split at h
      case h_2 => cases h
      rename_i a b ha hb
      injection h with e1 e2 e3
      subst e1 e2 e3
      obtain ⟨h0, h1, h2, hs⟩ := hp
      have hl := hx.leaf (by simp) (by simp)
      simp only [RepC] at hl
      obtain ⟨ad, cap, es, hu, hc, hm, hr⟩ := hl
      injection hu with hu
      subst hu
      refine DoneV.pure_ hG (hrun ad l.length cap a b ha hb h0 h1 (by omega)) ?_
      rcases hs with hs | hs
      · subst hs
        have := sliceH_rep (size := es) hr (a := 0) (b' := b.toNat) (fun _ => rfl) (by omega) (by omega) hc hm
        simp only [Int.toNat_zero, Nat.zero_mul] at this ⊢
        exact this
      · exact sliceH_rep hr (fun hne => by
          rcases hr with hr | ⟨bb, off, _, _, hr⟩
          · exact absurd hr hne
          · have hpos : 0 < l.length := List.length_pos_iff.2 hne
            have := es_of_head hr hpos
            have h3 := hs (V.at l 0) (List.mem_of_getElem? (at_get hpos))
            omega) (by omega) (by omega) hc hm
    · rename_i l
      split at h
      case h_2 => cases h
      rename_i a b ha hb
      injection h with e1 e2 e3
      subst e1 e2 e3
      obtain ⟨h0, h1, h2, hs⟩ := hp
      have hl := hx.leaf (by simp) (by simp)
      simp only [RepC] at hl
      obtain ⟨ad, es, hu, hm, hr⟩ := hl
      injection hu with hu
      subst hu
      refine DoneV.pure_ hG (hrun ad l.length l.length a b ha hb h0 h1 (by omega)) ?_
      rcases hs with hs | hs
      · subst hs
        have := sliceH_rep (size := es) hr (a := 0) (b' := b.toNat) (fun _ => rfl) (by omega) (by omega) (Nat.le_refl _) hm
        simp only [Int.toNat_zero, Nat.zero_mul] at this ⊢
        exact this
      · exact sliceH_rep hr (fun hne => by
          rcases hr with hr | ⟨bb, off, _, _, hr⟩
          · exact absurd hr hne
          · have hpos : 0 < l.length := List.length_pos_iff.2 hne
            have := es_of_head hr hpos
            have h3 := hs (V.at l 0) (List.mem_of_getElem? (at_get hpos))
            omega) (by omega) (by omega) (Nat.le_refl _) hm
    · rename_i o ver off n
      split at h
      case h_2 => cases h
      rename_i a b ver' es l ha hb ho
      injection h with e1 e2 e3
      subst e1 e2 e3
      obtain ⟨rfl, h0, h1, h2, h3, hs⟩ := hp
      have hl := hx.leaf (by simp) (by simp)
      simp only [RepC] at hl
      obtain ⟨k1, u, hu, k2, k3⟩ := hl
      injection hu with hu
      subst hu
      obtain ⟨q, hq, hver, hqes, hv1, hcm, hcap, hbk⟩ := hG.vec ho
      obtain ⟨k4, k5⟩ := k3 q hq
      obtain ⟨k6, ad, rfl, k7⟩ := k5 hver
      refine DoneV.pure_ hG (hrun ad n (q.cap - off) a b ha hb h0 h1 (by omega)) ?_
      refine RepV.mk_leaf ?_ (by simp) (by simp)
      simp only [RepC]
      refine ⟨k1, _, rfl, rfl, fun k' hk' => ?_⟩
      have : g o = some k' := hk'
      rw [hq] at this
      injection this with this
      subst this
      refine ⟨k4, fun _ => ⟨by omega, _, by rw [Nat.sub_sub], fun hlt => ?_⟩⟩
      obtain ⟨bb, m1, rfl⟩ := k7 (by omega)
      refine ⟨bb, m1, ?_⟩
      rw [if_neg (by omega)]
      simp only [Option.map_some, addr_add]
      rcases hs with hs | hs
      · subst hs; simp
      · rw [← hs, ← hqes, Nat.add_mul]
    · cases h
end Go.EL

/- The value logic, part I: what is built, and boxes. -/
set_option linter.unusedVariables false
set_option linter.unusedSimpArgs false
namespace Go.EL
open Go
variable {P : Program} {T : Nat → TD} {g : Nat → Option Key} {H : List Ob} {w : World}

theorem zEqs_reps {c : Cx} : ∀ {vs : List Value} {xs : List V}, zEqs vs xs = true → Reps c xs vs
  | [], [], _ => by simp [Reps]
  | v :: vs, [], h => by simp [zEqs] at h
  | [], x :: xs, h => by simp [zEqs] at h
  | v :: vs, x :: xs, h => by
    simp only [zEqs, Bool.and_eq_true] at h
    simp only [Reps]
    refine ⟨v, vs, rfl, ?_, ?_, zEqs_reps h.2⟩
    · have := h.1
      unfold zEq at this
      split at this <;> first | trivial | cases this
    · have := h.1
      unfold zEq at this
      split at this
      · simp only [Bool.and_eq_true, decide_eq_true_eq] at this
        obtain ⟨rfl, rfl⟩ := this
        simp [RepC]
      · have e := eq_of_beq this
        subst e
        simp [RepC]
      · rename_i s
        have e : s.data.toList = [] := eq_of_beq this
        simp only [RepC]
        congr 2
        exact ByteArray.ext (Array.toList_inj.1 (by simpa using e))
      · simp [RepC]
      · simp only [RepC]
        exact ⟨none, 0, rfl, by simp [maxLen], by simp⟩
      · simp [RepC]
      · simp [RepC]
      · simp [RepC]
      · cases this

theorem foldl_set (off : Nat) : ∀ (vs : List Value) (k : Nat) (cells : Array Value), off + k + vs.length ≤ cells.size →
    ((vs.zipIdx k).foldl (fun (cs : Array Value) (p : Value × Nat) => cs.setIfInBounds (off + p.2) p.1) cells).toList = cells.toList.take (off + k) ++ vs ++ cells.toList.drop (off + k + vs.length)
  | [], k, cells, _ => by simp
  | v :: vs, k, cells, h => by
    simp only [List.length_cons] at h
    rw [List.zipIdx_cons, List.foldl_cons, foldl_set off vs (k + 1) _ (by simp; omega), Array.toList_setIfInBounds]
    have := list_set_splice cells.toList (off + k) v vs (by simp; omega)
    rw [← Nat.add_assoc]
    exact this

theorem fill_reps {c : Cx} {place : Nat → Option (Nat × Nat)} {placeV : Nat → Option Nat} {ρ : Operand → V} {ρc : Operand → Value} : ∀ (ps : List (Nat × Operand)) (xs : List V) (cells : Array Value),
    Reps c xs cells.toList →
    (∀ p ∈ ps, ∃ off, placeV p.1 = some off ∧ place p.1 = some (off, (ρ p.2).cells.length) ∧ off + (ρ p.2).cells.length ≤ xs.length ∧ Reps c (ρ p.2).cells (ρc p.2).cells.toList) →
    ∃ cells', Instr.fill place cells (ps.map fun p => (p.1, ρc p.2)) = some cells' ∧ Reps c (fillV placeV xs (ps.map fun p => (p.1, ρ p.2))) cells'.toList
  | [], xs, cells, hr, _ => ⟨cells, rfl, hr⟩
  | p :: ps, xs, cells, hr, h => by
    obtain ⟨off, h1, h2, h3, h4⟩ := h p (by simp)
    have hlen := h4.length
    have hrl := hr.length
    simp only [Array.length_toList] at hlen hrl
    have hsz : (ρc p.2).cells.size = (ρ p.2).cells.length := by omega
    simp only [List.map_cons]
    unfold Instr.fill fillV
    simp only [h1, h2]
    rw [if_neg (by simp only [Bool.or_eq_true, decide_eq_true_eq, not_or]; exact ⟨by simpa using hsz, by omega⟩)]
    have key : Reps c (splice xs off (ρ p.2).cells) ((ρc p.2).cells.zipIdx.foldl (fun cs (c, j) => cs.setIfInBounds (off + j) c) cells).toList := by
      have hf := foldl_set off (ρc p.2).cells.toList 0 cells (by simp; omega)
      rw [← Array.foldl_toList, Array.toList_zipIdx]
      have e := splice_reps off hr h4
      simp only [Nat.add_zero] at hf
      rw [← hf] at e
      exact e
    refine fill_reps ps _ _ key (fun q hq => ?_)
    have hl : (splice xs off (ρ p.2).cells).length = xs.length := by unfold splice; simp; omega
    rw [hl]
    exact h q (by simp [hq])

theorem mem_map_toList {α β : Type} {a : Array α} {f : α → β} : (a.map f).toList = a.toList.map f := by simp

/-- the fields of a struct type, as the model's places -/
theorem places_of (hTO : TyOK P T) : ∀ (l : List Field), (∀ f ∈ l, (T f.type).kind ≠ .other) →
    l.mapM (fun f => (P.info? f.type).map fun i => (f.offset, i.size)) = some (l.map fun f => (f.offset, (T f.type).size))
  | [], _ => rfl
  | f :: l, h => by
    obtain ⟨i, z, h1, h2, _⟩ := (hTO.at (h f (by simp))).info
    have ih := places_of hTO l (fun f hf => h f (by simp [hf]))
    simp [List.mapM_cons, h1, ih, h2]

theorem build_struct_sound (hTO : TyOK P T) {t : TypeId} {fs : List (Nat × Nat)} (hk : (T t).kind = .struct fs) {ρ : Operand → V} {ρc : Operand → Value} (hρ : ∀ x, RepV (cxOf g H.length w) (ρ x) (ρc x)) (hG : Good g H w)
    {ps : Array (Nat × Operand)} (h0 : ∀ f ∈ fs, (T f.1).kind ≠ .other)
    (hp : ∀ p ∈ ps.toList, (ρ p.2).storable ∧ ∃ f, fs[p.1]? = some f ∧ (T f.1).kind ≠ .other ∧ (ρ p.2).cells.length = (T f.1).size ∧ f.2 + (T f.1).size ≤ (T t).zero.length) :
    DoneV P g H w (Instr.build t (ps.map fun (i, x) => (i, ρc x))) (.agg (fillV (fun i => (fs[i]?).map (·.2)) (T t).zero (ps.toList.map fun p => (p.1, ρ p.2)))) H := by
  have hT := hTO.at (t := t) (by rw [hk]; simp)
  obtain ⟨td, g1, g2, g3⟩ := hT.run_und w
  obtain ⟨l, rfl, hl⟩ := kind_struct g1 hk
  obtain ⟨i, z, i1, i2, i3, i4, i5⟩ := hT.info
  have hz : Reps (cxOf g H.length w) (T t).zero z.cells.toList := zEqs_reps i5
  have hpl := places_of (P := P) hTO l.toList (fun f hf => h0 (f.type, f.offset) (by rw [← hl]; exact List.mem_map.2 ⟨f, hf, rfl⟩))
  obtain ⟨cells, c1, c2⟩ := fill_reps (place := fun i => (l.toList.map fun f => (f.offset, (T f.type).size))[i]?) (placeV := fun i => (fs[i]?).map (·.2)) (ρ := ρ) (ρc := ρc) ps.toList (T t).zero z.cells hz (fun p hp' => by
    obtain ⟨hs, f, f1, f2, f3, f4⟩ := hp p hp'
    refine ⟨f.2, by simp [f1], ?_, by omega, cells_of (hρ p.2) hs⟩
    rw [← hl, List.getElem?_map] at f1
    cases hx : l.toList[p.1]? with
    | none => rw [hx] at f1; cases f1
    | some y =>
      rw [hx] at f1
      simp only [Option.map_some, Option.some.injEq] at f1
      subst f1
      simp [List.getElem?_map, hx, f3])
  refine DoneV.pure_ hG (cv := .agg cells) (run_build w t _ cells ?_) (RepV.mk_agg c2)
  unfold Program.built
  simp only [i1, g3, i4, hpl]
  rw [← c1]
  congr 1
  · funext i; simp
  · simp

theorem build_array_sound (hTO : TyOK P T) {t n e : Nat} (hk : (T t).kind = .array n e) (he : (T e).kind ≠ .other) {ρ : Operand → V} {ρc : Operand → Value} (hρ : ∀ x, RepV (cxOf g H.length w) (ρ x) (ρc x)) (hG : Good g H w)
    {ps : Array (Nat × Operand)}
    (hp : ∀ p ∈ ps.toList, (ρ p.2).storable ∧ (ρ p.2).cells.length = (T e).size ∧ p.1 * (T e).size + (T e).size ≤ (T t).zero.length) :
    DoneV P g H w (Instr.build t (ps.map fun (i, x) => (i, ρc x))) (.agg (fillV (fun i => some (i * (T e).size)) (T t).zero (ps.toList.map fun p => (p.1, ρ p.2)))) H := by
  have hT := hTO.at (t := t) (by rw [hk]; simp)
  obtain ⟨td, g1, g2, g3⟩ := hT.run_und w
  have := kind_array g1 hk
  subst this
  obtain ⟨i, z, i1, i2, i3, i4, i5⟩ := hT.info
  obtain ⟨ie, ze, j1, j2, _⟩ := (hTO.at he).info
  have hz : Reps (cxOf g H.length w) (T t).zero z.cells.toList := zEqs_reps i5
  obtain ⟨cells, c1, c2⟩ := fill_reps (place := fun i => some (i * (T e).size, (T e).size)) (placeV := fun i => some (i * (T e).size)) (ρ := ρ) (ρc := ρc) ps.toList (T t).zero z.cells hz (fun p hp' => by
    obtain ⟨hs, f3, f4⟩ := hp p hp'
    exact ⟨_, rfl, by rw [f3], by omega, cells_of (hρ p.2) hs⟩)
  refine DoneV.pure_ hG (cv := .agg cells) (run_build w t _ cells ?_) (RepV.mk_agg c2)
  unfold Program.built
  simp only [i1, g3, i4, j1, j2]
  rw [← c1]
  congr 1
  simp

theorem new_var_sound (hG : Good g H w) {cs : List V} {vs : Array Value} (hr : Reps (cxOf g H.length w) cs vs.toList) (t : TypeId) :
    ∃ g', Good g' (H ++ [.var cs]) (pushW w (.cells vs t)) ∧ Ext g H.length w g' (H ++ [Ob.var cs]).length (pushW w (.cells vs t)) ∧ RepV (cxOf g' (H ++ [Ob.var cs]).length (pushW w (.cells vs t))) (.ref H.length 0) (.pointer (some ⟨w.heap.size, 0, none⟩)) := by
  have := step_new hG (.var cs) (.cells vs t) ⟨0, some w.heap.size, 0, 0⟩ rfl (fun g' hg' m => ⟨w.heap.size, vs, t, (0, 0), rfl, heap_pushW_new _ _, Reps.mono m _ _ hr, fun j hj => by simp⟩)
  rw [List.length_append]
  refine ⟨_, this.1, this.2, RepV.mk_leaf ?_ (by simp) (by simp)⟩
  simp only [RepC]
  refine ⟨has_set (Nat.lt_succ_self _) (.inl (by simp)), _, rfl, rfl, fun k b hk _ hb => ?_⟩
  have hk : setKey g H.length (some ⟨0, some w.heap.size, 0, 0⟩) H.length = some k := hk
  rw [setKey_same] at hk
  injection hk with hk
  subst hk
  injection hb with hb
  subst hb
  rfl

theorem alloc_sound (hTO : TyOK P T) {t : TypeId} (hk : (T t).kind ≠ .other) (hG : Good g H w) :
    DoneV P g H w (Instr.alloc t true (.tuple #[])) (.ref H.length 0) (H ++ [.var (T t).zero]) := by
  obtain ⟨z, h1, h2⟩ := (hTO.at hk).run_zeroValue w
  obtain ⟨g', a, b, c⟩ := new_var_sound hG (zEqs_reps (c := cxOf g H.length w) h2) t
  refine ⟨_, g', _, ?_, a, b, c⟩
  simp [Instr.alloc, h1, newVar, newRow, pushW]

theorem box_sound {t : TypeId} {x : V} {cx : Value} (hx : RepV (cxOf g H.length w) x cx) (hs : x.storable) (hG : Good g H w) :
    DoneV P g H w (Instr.box t cx) (.ref H.length 0) (H ++ [.var x.cells]) := by
  obtain ⟨g', a, b, c⟩ := new_var_sound hG (cells_of hx hs) t
  refine ⟨_, g', _, ?_, a, b, c⟩
  simp [Instr.box, newVar, newRow, pushW]
end Go.EL

/- The value logic, part J: append, buildSlice, conversions. -/
set_option linter.unusedVariables false
set_option linter.unusedSimpArgs false
namespace Go.EL
open Go
variable {P : Program} {T : Nat → TD} {g : Nat → Option Key} {H : List Ob} {w : World}

/-- elements, as one row of cells -/
def RepF (c : Cx) (es : Nat) : List V → List Value → Prop
  | [], cl => cl = []
  | x :: xs, cl => ∃ vs cl', cl = vs ++ cl' ∧ (x.storable ∧ RepC c x vs) ∧ vs.length = es ∧ RepF c es xs cl'

theorem RepF.mono {c c' : Cx} (m : Mono c c') {es : Nat} : ∀ {l : List V} {cl : List Value}, RepF c es l cl → RepF c' es l cl
  | [], _, h => h
  | x :: xs, _, ⟨vs, cl', h1, h2, h3, h4⟩ => ⟨vs, cl', h1, ⟨h2.1, RepC.mono m _ _ h2.2⟩, h3, h4.mono m⟩
theorem RepF.length {c : Cx} {es : Nat} : ∀ {l : List V} {cl : List Value}, RepF c es l cl → cl.length = l.length * es
  | [], _, h => by simp only [RepF] at h; subst h; simp
  | x :: xs, _, ⟨vs, cl', h1, h2, h3, h4⟩ => by subst h1; rw [List.length_append, h3, h4.length, List.length_cons, Nat.add_mul]; omega
theorem RepF.append {c : Cx} {es : Nat} : ∀ {l m : List V} {cl cm : List Value}, RepF c es l cl → RepF c es m cm → RepF c es (l ++ m) (cl ++ cm)
  | [], m, _, cm, h, k => by simp only [RepF] at h; subst h; exact k
  | x :: xs, m, _, cm, ⟨vs, cl', h1, h2, h3, h4⟩, k => ⟨vs, cl' ++ cm, by rw [h1, List.append_assoc], h2, h3, h4.append k⟩
theorem RepF.oneCell {c : Cx} {es : Nat} : ∀ {l : List V} {cl : List Value}, RepF c es l cl → ∀ v ∈ cl, v.oneCell' = true
  | [], _, h, v, hv => by simp only [RepF] at h; subst h; simp at hv
  | x :: xs, _, ⟨vs, cl', h1, h2, h3, h4⟩, v, hv => by
    subst h1
    rcases List.mem_append.1 hv with hv | hv
    · exact (RepC.to_cells h2.2 h2.1).oneCell v hv
    · exact h4.oneCell v hv

theorem RepF.repE {c : Cx} {es b : Nat} : ∀ {l : List V} {cl : List Value} {off : Nat}, RepF c es l cl → (∀ j v, cl[j]? = some v → c.cell ⟨b, off + j, none⟩ = some v) → RepE c es b off l
  | [], _, off, h, hc => by simp [RepE]
  | x :: xs, _, off, ⟨vs, cl', h1, h2, h3, h4⟩, hc => by
    subst h1
    simp only [RepE]
    refine ⟨vs, h2, h3, fun i v hv => hc i v ?_, h4.repE (fun j v hv => ?_)⟩
    · rw [List.getElem?_append_left (List.getElem?_eq_some_iff.1 hv).1]; exact hv
    · rw [show off + es + j = off + (es + j) by omega]
      refine hc (es + j) v ?_
      rw [List.getElem?_append_right (by omega), h3, Nat.add_sub_cancel_left]
      exact hv

theorem RepE.flat {c : Cx} {es b : Nat} : ∀ {l : List V} {off : Nat}, RepE c es b off l → ∃ cl, RepF c es l cl ∧ ∀ j v, cl[j]? = some v → c.cell ⟨b, off + j, none⟩ = some v
  | [], off, _ => ⟨[], rfl, fun j v h => by simp at h⟩
  | x :: xs, off, h => by
    simp only [RepE] at h
    obtain ⟨vs, h1, h2, h3, h4⟩ := h
    obtain ⟨cl, k1, k2⟩ := h4.flat
    refine ⟨vs ++ cl, ⟨vs, cl, rfl, h1, h2, k1⟩, fun j v hj => ?_⟩
    by_cases hlt : j < vs.length
    · rw [List.getElem?_append_left hlt] at hj
      exact h3 j v hj
    · rw [List.getElem?_append_right (by omega)] at hj
      have := k2 _ v hj
      rwa [h2, show off + es + (j - es) = off + j by omega] at this

theorem RepF.of_sized {c : Cx} {es : Nat} : ∀ {l : List V} {es' : Nat} {cl : List Value}, RepF c es' l cl → Sized es l → RepF c es l cl
  | [], _, _, h, _ => h
  | x :: xs, _, _, ⟨vs, cl', h1, h2, h3, h4⟩, hs => ⟨vs, cl', h1, h2, by rw [h2.2.length]; exact hs x (by simp), h4.of_sized (fun y hy => hs y (by simp [hy]))⟩

/-- what firstCells reads of what is added -/
def FirstOK (P : Program) (size n : Nat) (x : Value) (cl : List Value) (w : World) : Prop := ∀ w', w'.heap = w.heap → (Builtin.firstCells size n x).run P w' = .ok cl.toArray w'

theorem lenOf_slice (a : Option Addr) (n c : Nat) : Builtin.lenOf (.slice a n c) = Sem.pure n := rfl

theorem first_slice {b off n cap size : Nat} {cl : List Value} (hl : cl.length = n * size) (hc : ∀ j v, cl[j]? = some v → w.cell? ⟨b, off + j, none⟩ = some v) :
    FirstOK P size n (.slice (some ⟨b, off, none⟩) n cap) cl w := by
  intro w' hw'
  refine run_firstCells_some w' size n ⟨b, off, none⟩ n cap cl hl (fun j v hj => ?_)
  rw [addr_add, ← hc j v hj]
  simp [World.cell?, hw']
theorem first_empty {a : Option Addr} {cap size : Nat} : FirstOK P size 0 (.slice a 0 cap) [] w := by
  intro w' _
  cases a with
  | none => simp [Builtin.firstCells]
  | some a => 
    have := run_firstCells_some (P := P) w' size 0 a 0 cap [] (by simp) (fun j v h => by simp at h)
    simpa using this

def vbyte (b : UInt8) : V := .int .u8 b.toNat
theorem bytes_repF {c : Cx} : ∀ (l : List UInt8), RepF c 1 (l.map fun b => V.int .u8 b.toNat) (l.map fun b => Value.int .u8 b.toNat)
  | [] => rfl
  | b :: l => ⟨[.int .u8 b.toNat], _, rfl, ⟨trivial, by simp [RepC]⟩, rfl, bytes_repF l⟩

theorem elems_sound {x : V} {cx : Value} {xs : List V} (hG : Good g H w) (hx : RepV (cxOf g H.length w) x cx) (h : elems H x = some xs) {size : Nat} (hs : Sized size xs) (hst : ∀ x ∈ xs, x.storable) :
    ∃ cl, RepF (cxOf g H.length w) size xs cl ∧ Builtin.lenOf cx = Sem.pure xs.length ∧ FirstOK P size xs.length cx cl w := by
  unfold elems at h
  split at h
  · rename_i l
    injection h with h
    subst h
    have hl := hx.leaf (by simp) (by simp)
    simp only [RepC] at hl
    obtain ⟨a, cap, es, hu, hc, hm, hr⟩ := hl
    injection hu with hu
    subst hu
    rcases hr with hr | ⟨b, off, rfl, himm, hr⟩
    · subst hr
      exact ⟨[], rfl, rfl, first_empty⟩
    · obtain ⟨cl, k1, k2⟩ := hr.flat
      have k1' := k1.of_sized hs
      exact ⟨cl, k1', rfl, first_slice k1'.length k2⟩
  · rename_i l
    injection h with h
    subst h
    have hl := hx.leaf (by simp) (by simp)
    simp only [RepC] at hl
    obtain ⟨a, es, hu, hm, hr⟩ := hl
    injection hu with hu
    subst hu
    rcases hr with hr | ⟨b, off, rfl, himm, hr⟩
    · subst hr
      exact ⟨[], rfl, rfl, first_empty⟩
    · obtain ⟨cl, k1, k2⟩ := hr.flat
      have k1' := k1.of_sized hs
      exact ⟨cl, k1', rfl, first_slice k1'.length k2⟩
  · rename_i l
    injection h with h
    subst h
    obtain ⟨rfl, hm⟩ := hx.str
    have hsz : (ByteArray.mk l.toArray).size = l.length := by simp [ByteArray.size]
    refine ⟨l.map fun b => Value.int .u8 b.toNat, ?_, by simp [Builtin.lenOf, hsz]; rfl, ?_⟩
    · exact (bytes_repF l).of_sized hs
    · intro w' _
      simp [Builtin.firstCells]
  · rename_i o ver off n
    split at h
    · rename_i ver' es l ho
      split at h
      · rename_i hc
        injection h with h
        subst h
        obtain ⟨rfl, hlen⟩ := hc
        obtain ⟨q, hq, hver, hes, hv1, hcm, hcap, hbk⟩ := hG.vec ho
        have hl := hx.leaf (by simp) (by simp)
        simp only [RepC] at hl
        obtain ⟨k1, u, hu, k2, k3⟩ := hl
        injection hu with hu
        subst hu
        obtain ⟨k4, k5⟩ := k3 q hq
        obtain ⟨k6, a, rfl, k7⟩ := k5 hver
        have hln : ((l.drop off).take n).length = n := by simp; omega
        by_cases hn : n = 0
        · subst hn
          exact ⟨[], by simp [RepF], by simp [Builtin.lenOf]; rfl, by simpa using first_empty⟩
        · obtain ⟨b, m1, rfl⟩ := k7 (by omega)
          rcases hbk with ⟨h0, _⟩ | ⟨b', cur, et, fr, hblk, hh, hsz, hr, hu, hone⟩
          · rw [h0] at m1; cases m1
          rw [hblk] at m1
          injection m1 with m1
          subst m1
          have hr' := (hr.drop off).take n
          rw [Nat.zero_add] at hr'
          obtain ⟨cl, c1, c2⟩ := hr'.flat
          have c1' := c1.of_sized hs
          refine ⟨cl, c1', by rw [hln]; rfl, ?_⟩
          have := c1'.length
          rw [hln] at this ⊢
          exact first_slice this c2
      · cases h
    · cases h
  · cases h

section
variable {t u ty e : TypeId} {td : TypeDesc} {i : TypeInfo} {z x : Value} {n sLen sCap : Nat} {cl : List Value} {base : Option Addr}
theorem run_append_in (hT : P.underlying t = some (.slice e)) (hU : P.underlying u = some td) (hd : ∀ k, td ≠ .int k) (hi : P.info? e = some i)
    (hlen : Builtin.lenOf x = Sem.pure n) (hf : FirstOK P i.size n x cl w) (hroom : sLen + n ≤ sCap) :
    (Builtin.append_ #[t, u] ty #[.slice base sLen sCap, x]).run P w =
      ((match base with | some a => storeCells (a.add (sLen * i.size)) cl | none => pure () : Sem Unit).run P w).andThen fun _ w' => .ok (.slice base (sLen + n) sCap) w' := by
  have hf' := hf w rfl
  have hz : (match td with | .int _ => true | _ => false) = false := by cases td <;> first | rfl | exact absurd rfl (hd _)
  cases base <;> simp [Builtin.append_, run_underlying hT, run_underlying hU, sizeOf, typeInfo, hi, hz, hlen, hroom, hf']

theorem run_append_out (hT : P.underlying t = some (.slice e)) (hU : P.underlying u = some td) (hd : ∀ k, td ≠ .int k) (hi : P.info? e = some i) (hz : i.zero = some z)
    (hlen : Builtin.lenOf x = Sem.pure n) (hf : FirstOK P i.size n x cl w) {co : List Value} (ho : FirstOK P i.size sLen (.slice base sLen sCap) co w) (hroom : sCap < sLen + n)
    (h63 : ((sLen + n : Nat) : Int) ≤ 9223372036854775807) (hfit : Builtin.nextslicecap (sLen + n) sCap * i.bytes ≤ 281474976710656) :
    ∃ cap w', sLen + n ≤ cap ∧ cap ≤ maxLen ∧ w' = pushW { w with drawn := w.drawn + 1 } (.cells ((co ++ cl).toArray ++ Builtin.zeroCells z.cells (cap - (sLen + n))) e) ∧
    (Builtin.append_ #[t, u] ty #[.slice base sLen sCap, x]).run P w = .ok (.slice (some ⟨w.heap.size, 0, none⟩) (sLen + n) cap) w' := by
  have hf' := hf w.drew rfl
  have ho' := ho w.drew rfl
  have hzz : (match td with | .int _ => true | _ => false) = false := by cases td <;> first | rfl | exact absurd rfl (hd _)
  have hn : ¬ (sLen + n ≤ sCap) := by omega
  have h63' : ¬ (9223372036854775807 < ((sLen : Int) + (n : Int))) := by omega
  have h48' : ¬ (281474976710656 < Builtin.nextslicecap (sLen + n) sCap * i.bytes) := by omega
  refine ⟨grownCap w (sLen + n) sCap e, _, grownCap_ge _ _ _ _, grownCap_le_maxLen _ _ _ _ (by unfold maxLen; omega), rfl, ?_⟩
  simp [Builtin.append_, run_underlying hT, run_underlying hU, sizeOf, typeInfo, zeroValue, hi, hz, hzz, hlen, hn, h63', h48', Question.forced, hf', ho', newRow, grownCap]
  show pushW w.drew _ = pushW w.drew _
  congr 2
  apply Array.ext'
  simp
end

theorem size_zeroCells' (z : Array Value) (n : Nat) : (Builtin.zeroCells z n).size = n * z.size := by simp [Builtin.zeroCells]
theorem mem_zeroCells {z : Array Value} {n : Nat} {v : Value} (h : v ∈ (Builtin.zeroCells z n).toList) : v ∈ z.toList := by
  simp only [Builtin.zeroCells, Array.toList_map, List.mem_map] at h
  obtain ⟨i, hi, rfl⟩ := h
  simp only [Array.mem_toList_iff, Array.mem_range] at hi
  have hz : 0 < z.size := by
    rcases Nat.eq_zero_or_pos z.size with h0 | h0
    · rw [h0, Nat.mul_zero] at hi; omega
    · exact h0
  have hlt := Nat.mod_lt i hz
  rw [getElem!_pos z _ hlt]
  exact Array.mem_toList_iff.2 (Array.getElem_mem hlt)

/-- a row that grows, made anew -/
theorem step_vec_new (hG : Good g H w) {o : Nat} (ver es : Nat) (l : List V) (hver : 1 ≤ ver) (ho : o = H.length ∨ ∃ k, g o = some k ∧ o < H.length ∧ k.ver < ver) {cl : List Value} {rest : Array Value} {cap : Nat} (et : TypeId) (fr : Nat × Nat) (hfr : unfrozen fr (cl.length + rest.size))
    (hr : RepF (cxOf g H.length w) es l cl) (hcap : l.length ≤ cap) (hm : cap ≤ maxLen) (hsz : cl.length + rest.size = cap * es) (hone : ∀ v ∈ rest.toList, v.oneCell' = true) (H' : List Ob)
    (hH' : (o = H.length ∧ H' = H ++ [.vec ver es l]) ∨ (o < H.length ∧ H' = H.set o (.vec ver es l))) :
    Good (setKey g o (some ⟨ver, some w.heap.size, es, cap⟩)) H' (pushW w (.cells (cl.toArray ++ rest) et fr)) ∧
    Ext g H.length w (setKey g o (some ⟨ver, some w.heap.size, es, cap⟩)) H'.length (pushW w (.cells (cl.toArray ++ rest) et fr)) ∧
    RepV (cxOf (setKey g o (some ⟨ver, some w.heap.size, es, cap⟩)) H'.length (pushW w (.cells (cl.toArray ++ rest) et fr))) (.vec o ver 0 l.length) (.slice (some ⟨w.heap.size, 0, none⟩) l.length cap) := by
  have hn : H.length ≤ H'.length := by rcases hH' with ⟨_, h⟩ | ⟨_, h⟩ <;> subst h <;> simp
  have hoH : o < H'.length := by rcases hH' with ⟨h1, h⟩ | ⟨h1, h⟩ <;> subst h <;> simp <;> omega
  have hget : H'[o]? = some (.vec ver es l) := by
    rcases hH' with ⟨h1, h⟩ | ⟨h1, h⟩
    · subst h; subst h1; simp
    · subst h; simp [h1]
  have := step_one hG o (setKey g o (some ⟨ver, some w.heap.size, es, cap⟩)) H' (pushW w (.cells (cl.toArray ++ rest) et fr)) rfl rfl rfl
    (fun o' ho' => by
      rcases hH' with ⟨h1, h⟩ | ⟨h1, h⟩
      · subst h; subst h1; exact getElem?_snoc_ne ho'
      · subst h; exact set_get_ne ho')
    (fun o' ho' => setKey_other ho') hn (by rw [size_pushW]; omega) (fun b hb _ => heap_pushW_old hb)
    (fun k' b hk' hb => by rw [setKey_same] at hk'; injection hk' with e; subst e; injection hb with hb; left; omega)
    (fun hlt k' hk' => by
      rw [setKey_same] at hk'; injection hk' with e; subst e
      rcases ho with ho | ⟨k, h1, h2, h3⟩
      · omega
      · exact ⟨k, h1, Nat.le_of_lt h3, fun e => by simp only [] at e; omega⟩)
    (fun m => by
      rw [setKey_same, hget]
      refine ⟨_, rfl, rfl, rfl, hver, hm, hcap, .inr ⟨w.heap.size, _, et, fr, rfl, heap_pushW_new _ _, by simp [hsz], ?_, by simpa using hfr, ?_⟩⟩
      · refine (hr.mono m).repE (fun j v hj => ?_)
        show (pushW w _).cell? _ = some v
        rw [cell?_row (heap_pushW_new _ _)]
        simp only [Array.toList_append, Nat.zero_add]
        rw [List.getElem?_append_left (by simpa using (List.getElem?_eq_some_iff.1 hj).1)]
        exact hj
      · intro v hv
        simp only [Array.toList_append, List.mem_append] at hv
        rcases hv with hv | hv
        · exact hr.oneCell v hv
        · exact hone v hv)
  refine ⟨this.1, this.2, RepV.mk_leaf ?_ (by simp) (by simp)⟩
  simp only [RepC]
  refine ⟨has_set hoH (.inl (by simp)), _, rfl, rfl, fun k hk => ?_⟩
  have hk : setKey g o (some ⟨ver, some w.heap.size, es, cap⟩) o = some k := hk
  rw [setKey_same] at hk
  injection hk with hk
  subst hk
  exact ⟨Nat.le_refl _, fun _ => ⟨by simpa using hcap, _, rfl, fun _ => ⟨w.heap.size, rfl, by simp⟩⟩⟩

theorem kind_notint {td : TypeDesc} {k : TK} (h : kindOK td k = true) (hk : ∀ i, k ≠ .int i) : ∀ i, td ≠ .int i := by
  intro i e; subst e; cases k <;> simp [kindOK] at h; exact hk _ rfl

theorem fits_of {need cap bytes : Nat} (h : cap < need) (hb : need * bytes ≤ limBytes) (h0 : 0 < bytes) : ((need : Nat) : Int) ≤ 9223372036854775807 ∧ Builtin.nextslicecap need cap * bytes ≤ 281474976710656 := by
  unfold limBytes at hb
  refine ⟨?_, growslice_fits h hb⟩
  have : need ≤ need * bytes := Nat.le_mul_of_pos_right _ h0
  omega

theorem xappend_sound (hTO : TyOK P T) {t u e ty : TypeId} (hk : (T t).kind = .slice e) (he : (T e).kind ≠ .other) (hu0 : (T u).kind ≠ .other) (hu : ∀ i, (T u).kind ≠ .int i) {s x : V} {cs cx : Value} (hG : Good g H w)
    (hs : RepV (cxOf g H.length w) s cs) (hx : RepV (cxOf g H.length w) x cx) {pre : Prop} {v : V} {H' : List Ob} (h : xappend (T e) H s x = .val pre v H') (hp : pre) :
    DoneV P g H w (Builtin.append_ #[t, u] ty #[cs, cx]) v H' := by
  have hT := hTO.at (t := t) (by rw [hk]; simp)
  obtain ⟨td, g1, _, g3⟩ := hT.run_und w
  have := kind_slice g1 hk
  subst this
  obtain ⟨ud, u1, _, u3⟩ := (hTO.at hu0).run_und w
  have hud := kind_notint u1 hu
  have hE := hTO.at he
  obtain ⟨i, z, i1, i2, i3, i4, i5⟩ := hE.info
  have hzr : Reps (cxOf g H.length w) (T e).zero z.cells.toList := zEqs_reps i5
  have hzl : z.cells.size = (T e).size := by have := hzr.length; rw [hE.zlen] at this; simpa using this
  unfold xappend at h
  split at h
  · cases h
  rename_i xs hxs
  split at h
  · rename_i o ver off n
    split at h
    · rename_i ver' es l ho
      injection h with e1 e2 e3
      subst e1 e2 e3
      obtain ⟨rfl, hes, rfl, rfl, hst, hsz, hlim, hb0⟩ := hp
      obtain ⟨q, hq, hver, hqes, hv1, hcm, hcap, hbk⟩ := hG.vec ho
      have hl := hs.leaf (by simp) (by simp)
      simp only [RepC] at hl
      obtain ⟨k1, uu, huu, k2, k3⟩ := hl
      injection huu with huu
      subst huu
      obtain ⟨k4, k5⟩ := k3 q hq
      obtain ⟨k6, ad, rfl, k7⟩ := k5 hver
      obtain ⟨cl, c1, c2, c3⟩ := elems_sound hG hx hxs hsz hst
      rw [← i2] at c1 c3
      have hlo := lt_of_get ho
      simp only [Nat.sub_zero]
      by_cases hroom : l.length + xs.length ≤ q.cap
      · have hrun := run_append_in (P := P) (w := w) (ty := ty) (base := ad) g3 u3 hud i1 c2 c3 hroom
        by_cases hxe : xs = []
        · subst hxe
          simp only [RepF] at c1
          subst c1
          rw [List.append_nil]
          have hw' : (Builtin.append_ #[t, u] ty #[.slice ad l.length q.cap, cx]).run P w = .ok (.slice ad l.length q.cap) w := by
            rw [hrun]; cases ad <;> simp [storeCells]
          have hstep := step_one hG o (setKey g o (some { q with ver := q.ver + 1 })) (H.set o (.vec (ver' + 1) es l)) w rfl rfl rfl
            (fun o' ho' => set_get_ne ho') (fun o' ho' => setKey_other ho') (by simp) (Nat.le_refl _) (fun _ _ _ => rfl)
            (fun k' b hk' hb => by rw [setKey_same] at hk'; injection hk' with e; subst e; exact .inr ⟨q, hq, hb⟩)
            (fun _ k' hk' => by rw [setKey_same] at hk'; injection hk' with e; subst e; exact ⟨q, hq, by simp, fun e => by simp at e⟩)
            (fun m => by
              rw [setKey_same, set_get_eq ho]
              have := ObOK.mono m (heap := w.heap) (heap' := w.heap) (fun q' b _ _ => ⟨rfl, fun _ _ => rfl⟩) (hG.ob o)
              rw [ho, hq] at this
              obtain ⟨q0, a1, a2, a3, a4, a5, a6, a7⟩ := this
              injection a1 with a1
              subst a1
              refine ⟨_, rfl, by simp [hver], hqes, by omega, hcm, by simpa using hcap, ?_⟩
              exact a7)
          refine ⟨w, _, _, hw', hstep.1, hstep.2, RepV.mk_leaf ?_ (by simp) (by simp)⟩
          simp only [RepC]
          refine ⟨has_set (by simpa using hlo) (.inr (by simp)), _, rfl, rfl, fun k hk => ?_⟩
          have hk : setKey g o (some { q with ver := q.ver + 1 }) o = some k := hk
          rw [setKey_same] at hk
          injection hk with hk
          subst hk
          exact ⟨by simp [hver], fun _ => ⟨by simpa using hcap, ad, by simp, fun h0 => k7 h0⟩⟩
        · have hxl : 0 < xs.length := List.length_pos_iff.2 hxe
          obtain ⟨b, m1, rfl⟩ := k7 (by omega)
          rcases hbk with ⟨h0, _⟩ | ⟨b', cur, et, fr, hblk, hh, hcsz, hr, hun, hone⟩
          · rw [h0] at m1; cases m1
          rw [hblk] at m1
          injection m1 with m1
          subst m1
          have hsize : i.size = q.es := by omega
          rw [hsize] at hrun c1 c3
          have hcl := c1.length
          have hfit : l.length * q.es + cl.length ≤ cur.size := by
            rw [hcsz, hcl, ← Nat.add_mul]; exact Nat.mul_le_mul_right _ hroom
          have hstore := run_storeCells_cells (P := P) b' (l.length * q.es) cl 0 w
            (fun j hj => by rw [Nat.add_zero, cell?_row hh]; simp; omega)
            (fun j hj => by
              have := hun (l.length * q.es + j) (by omega)
              simp only [World.frozen?, hh, Nat.add_zero]
              simpa using this) c1.oneCell
          have hw' : (Builtin.append_ #[t, u] ty #[.slice (some ⟨b', 0 * q.es, none⟩) l.length q.cap, cx]).run P w = .ok (.slice (some ⟨b', 0 * q.es, none⟩) (l.length + xs.length) q.cap) (w.setCells b' (l.length * q.es) cl) := by
            rw [hrun]; simp only [addr_add, Nat.zero_mul, Nat.zero_add]; rw [hstore]; simp
          have hrest := rest_setCells b' cl (l.length * q.es) w
          have hheap := heap_setCells cl (l.length * q.es) w cur hh hfit
          have hstep := step_one hG o (setKey g o (some { q with ver := q.ver + 1 })) (H.set o (.vec (ver' + 1) es (l ++ xs))) (w.setCells b' (l.length * q.es) cl) hrest.1 hrest.2.1 hrest.2.2.1
            (fun o' ho' => set_get_ne ho') (fun o' ho' => setKey_other ho') (by simp) (by rw [size_setCells]; exact Nat.le_refl _)
            (fun bb _ hne => heap_setCells_ne (fun e => hne q hq (by rw [e]; exact hblk)) _ _ _)
            (fun k' bb hk' hb => by rw [setKey_same] at hk'; injection hk' with e; subst e; exact .inr ⟨q, hq, hb⟩)
            (fun _ k' hk' => by rw [setKey_same] at hk'; injection hk' with e; subst e; exact ⟨q, hq, by simp, fun e => by simp at e⟩)
            (fun m => by
              rw [setKey_same, set_get_eq ho]
              refine ⟨_, rfl, by simp [hver], hqes, by omega, hcm, by simpa using hroom, .inr ⟨b', _, et, fr, hblk, hheap, ?_, ?_, ?_, ?_⟩⟩
              · rw [← hcsz]; simp only [List.size_toArray, List.length_append, List.length_take, List.length_drop, Array.length_toList]; omega
              · obtain ⟨clo, d1, d2⟩ := hr.flat
                have hlo' := d1.length
                refine ((d1.append c1).mono m).repE (fun j v hj => ?_)
                show (w.setCells b' (l.length * q.es) cl).cell? _ = some v
                rw [cell?_row hheap]
                simp only [Nat.zero_add]
                have htk : cur.toList.take (l.length * q.es) = clo := by
                  apply List.ext_getElem?
                  intro k
                  rw [List.getElem?_take]
                  split
                  · rename_i hk
                    have := d2 k clo[k] (List.getElem?_eq_getElem (by omega))
                    rw [show (cxOf g H.length w).cell = w.cell? from rfl, cell?_row hh] at this
                    simp only [Nat.zero_add] at this
                    rw [this, List.getElem?_eq_getElem (by omega)]
                  · rw [List.getElem?_eq_none (by omega)]
                rw [htk]
                rw [List.getElem?_append_left (List.getElem?_eq_some_iff.1 hj).1]
                exact hj
              · simp only [List.size_toArray, List.length_append, List.length_take, List.length_drop, Array.length_toList]
                intro j hj
                exact hun j (by omega)
              · intro v hv
                simp only [List.mem_append] at hv
                rcases hv with (hv | hv) | hv
                · exact hone v (List.mem_of_mem_take hv)
                · exact c1.oneCell v hv
                · exact hone v (List.mem_of_mem_drop hv))
          refine ⟨_, _, _, hw', hstep.1, hstep.2, RepV.mk_leaf ?_ (by simp) (by simp)⟩
          simp only [RepC]
          refine ⟨has_set (by simpa using hlo) (.inr (by simp)), _, rfl, rfl, fun k hk => ?_⟩
          have hk : setKey g o (some { q with ver := q.ver + 1 }) o = some k := hk
          rw [setKey_same] at hk
          injection hk with hk
          subst hk
          exact ⟨by simp [hver], fun _ => ⟨by simpa using hroom, _, by simp, fun h0 => ⟨b', hblk, rfl⟩⟩⟩
      · have hco : ∃ co, RepF (cxOf g H.length w) i.size l co ∧ FirstOK P i.size l.length (.slice ad l.length q.cap) co w := by
          rcases hbk with ⟨h0, h1⟩ | ⟨b', cur, et, fr, hblk, hh, hcsz, hr, hun, hone⟩
          · have : l = [] := List.eq_nil_of_length_eq_zero (by omega)
            subst this
            exact ⟨[], rfl, first_empty⟩
          · by_cases hle : l = []
            · subst hle
              exact ⟨[], rfl, first_empty⟩
            · have hpos := List.length_pos_iff.2 hle
              obtain ⟨b, m1, rfl⟩ := k7 (by omega)
              rw [hblk] at m1
              injection m1 with m1
              subst m1
              obtain ⟨clo, d1, d2⟩ := hr.flat
              rw [show q.es = i.size by omega] at d1
              refine ⟨clo, d1, ?_⟩
              rw [Nat.zero_mul]
              exact first_slice d1.length d2
        obtain ⟨co, d1, d2⟩ := hco
        rw [List.length_append] at hlim
        obtain ⟨f1, f2⟩ := fits_of (Nat.lt_of_not_le hroom) hlim hb0
        rw [← i3] at f2
        obtain ⟨cap, w', w1, w2, rfl, w4⟩ := run_append_out (P := P) (w := w) (ty := ty) g3 u3 hud i1 i4 c2 c3 d2 (Nat.lt_of_not_le hroom) f1 f2
        have hd := step_drawn hG (w.drawn + 1)
        have hrf : RepF (cxOf g H.length { w with drawn := w.drawn + 1 }) es (l ++ xs) (co ++ cl) := by
          rw [hes, ← i2]; exact d1.append c1
        have hst2 := step_vec_new hd.1 (o := o) (ver' + 1) es (l ++ xs) (by omega) (.inr ⟨q, hq, hlo, by omega⟩) (rest := Builtin.zeroCells z.cells (cap - (l.length + xs.length))) (cap := cap) e (0, 0) (fun j _ => by simp) hrf (by rw [List.length_append]; exact w1) w2
          (by rw [hrf.length, size_zeroCells', hzl, ← hes, List.length_append, ← Nat.add_mul]; congr 1; omega)
          (fun v hv => hzr.oneCell v (mem_zeroCells hv)) (H.set o (.vec (ver' + 1) es (l ++ xs))) (.inr ⟨hlo, rfl⟩)
        refine ⟨_, _, _, w4, hst2.1, hd.2.trans hst2.2.1, ?_⟩
        have := hst2.2.2
        rw [show (l ++ xs).length = l.length + xs.length from List.length_append] at this
        exact this
    · cases h
  · rename_i l
    split at h
    · rename_i hcc
      injection h with e1 e2 e3
      subst e1 e2 e3
      have hxe : xs = [] := List.isEmpty_iff.1 hcc.2
      subst hxe
      obtain ⟨cl, c1, c2, c3⟩ := elems_sound (size := (T e).size) hG hx hxs (fun y hy => by cases hy) (fun y hy => by cases hy)
      rw [← i2] at c1 c3
      have hl := hs.leaf (by simp) (by simp)
      simp only [RepC] at hl
      obtain ⟨a, es, hu', hm, hr⟩ := hl
      injection hu' with hu'
      subst hu'
      simp only [RepF] at c1
      subst c1
      have hrun := run_append_in (P := P) (w := w) (ty := ty) (base := a) (sLen := l.length) (sCap := l.length) g3 u3 hud i1 c2 c3 (Nat.le_refl _)
      have hw' : (Builtin.append_ #[t, u] ty #[.slice a l.length l.length, cx]).run P w = .ok (.slice a l.length l.length) w := by
        rw [hrun]; cases a <;> simp [storeCells]
      exact ⟨w, g, _, hw', hG, Ext.refl _ _ _, hs⟩
    rename_i hcc
    injection h with e1 e2 e3
    subst e1 e2 e3
    obtain ⟨hst, hsz, hlim, hb0⟩ := hp
    have hne : l = [] ∨ xs ≠ [] := by
      by_cases hx0 : xs = []
      · left
        subst hx0
        cases l with
        | nil => rfl
        | cons a l => exact absurd ⟨rfl, rfl⟩ hcc
      · exact .inr hx0
    obtain ⟨cl, c1, c2, c3⟩ := elems_sound hG hx hxs (fun y hy => hsz y (List.mem_append_right _ hy)) hst
    rw [← i2] at c1 c3
    have hl := hs.leaf (by simp) (by simp)
    simp only [RepC] at hl
    obtain ⟨a, es, hu', hm, hr⟩ := hl
    injection hu' with hu'
    subst hu'
    by_cases hxe : xs = []
    · have hle : l = [] := by rcases hne with h | h; exact h; exact absurd hxe h
      subst hxe
      subst hle
      simp only [RepF] at c1
      subst c1
      have hrun := run_append_in (P := P) (w := w) (ty := ty) (base := a) (sLen := 0) (sCap := 0) g3 u3 hud i1 c2 c3 (Nat.le_refl _)
      have hw' : (Builtin.append_ #[t, u] ty #[.slice a 0 0, cx]).run P w = .ok (.slice a 0 0) w := by
        rw [List.length_nil] at hrun
        rw [hrun]; cases a <;> simp [storeCells]
      have hz : g H.length = none := hG.none_of_ge (Nat.le_refl _)
      have hstep := step_one hG H.length (setKey g H.length (some ⟨1, none, (T e).size, 0⟩)) (H ++ [.vec 1 (T e).size ([] ++ [])]) w rfl rfl rfl
        (fun o' ho' => getElem?_snoc_ne ho') (fun o' ho' => setKey_other ho') (by simp) (Nat.le_refl _) (fun _ _ _ => rfl)
        (fun k' b hk' hb => by rw [setKey_same] at hk'; injection hk' with e; subst e; cases hb)
        (fun hlt => absurd hlt (Nat.lt_irrefl _))
        (fun m => by
          rw [setKey_same, getElem?_snoc_eq]
          exact ⟨_, rfl, rfl, rfl, Nat.le_refl _, by simp, by simp, .inl ⟨rfl, rfl⟩⟩)
      refine ⟨w, _, _, hw', hstep.1, hstep.2, RepV.mk_leaf ?_ (by simp) (by simp)⟩
      simp only [RepC]
      refine ⟨has_set (by simp) (.inr (Nat.le_refl _)), _, rfl, rfl, fun k hk => ?_⟩
      have hk : setKey g H.length (some ⟨1, none, (T e).size, 0⟩) H.length = some k := hk
      rw [setKey_same] at hk
      injection hk with hk
      subst hk
      exact ⟨Nat.le_refl _, fun _ => ⟨by simp, a, by simp, fun h0 => absurd h0 (Nat.lt_irrefl _)⟩⟩
    · have hxl : 0 < xs.length := List.length_pos_iff.2 hxe
      have hco : ∃ co, RepF (cxOf g H.length w) i.size l co ∧ FirstOK P i.size l.length (.slice a l.length l.length) co w := by
        rcases hr with hr | ⟨b, off, rfl, himm, hr⟩
        · subst hr
          exact ⟨[], rfl, first_empty⟩
        · obtain ⟨clo, d1, d2⟩ := hr.flat
          have d1' := d1.of_sized (fun y hy => hsz y (List.mem_append_left _ hy))
          rw [← i2] at d1'
          exact ⟨clo, d1', first_slice d1'.length d2⟩
      obtain ⟨co, d1, d2⟩ := hco
      rw [List.length_append] at hlim
      obtain ⟨f1, f2⟩ := fits_of (show l.length < l.length + xs.length by omega) hlim hb0
      rw [← i3] at f2
      obtain ⟨cap, w', w1, w2, rfl, w4⟩ := run_append_out (P := P) (w := w) (ty := ty) g3 u3 hud i1 i4 c2 c3 d2 (show l.length < l.length + xs.length by omega) f1 f2
      have hd := step_drawn hG (w.drawn + 1)
      have hrf : RepF (cxOf g H.length { w with drawn := w.drawn + 1 }) (T e).size (l ++ xs) (co ++ cl) := by
        rw [← i2]; exact d1.append c1
      have hst2 := step_vec_new hd.1 (o := H.length) 1 (T e).size (l ++ xs) (Nat.le_refl _) (.inl rfl) (rest := Builtin.zeroCells z.cells (cap - (l.length + xs.length))) (cap := cap) e (0, 0) (fun j _ => by simp) hrf (by rw [List.length_append]; exact w1) w2
        (by rw [hrf.length, size_zeroCells', hzl, List.length_append, ← Nat.add_mul]; congr 1; omega)
        (fun v hv => hzr.oneCell v (mem_zeroCells hv)) (H ++ [.vec 1 (T e).size (l ++ xs)]) (.inl ⟨rfl, rfl⟩)
      refine ⟨_, _, _, w4, hst2.1, hd.2.trans hst2.2.1, ?_⟩
      have := hst2.2.2
      rw [show (l ++ xs).length = l.length + xs.length from List.length_append] at this
      exact this
  · cases h
end Go.EL

/- The value logic, part K: numbers, comparisons, conversions, lengths. -/
set_option linter.unusedVariables false
set_option linter.unusedSimpArgs false
namespace Go.EL
open Go
variable {P : Program} {T : Nat → TD} {g : Nat → Option Key} {H : List Ob} {w : World}

theorem maxLen_val : maxLen = 9223372036854775807 := rfl

theorem eqGuard_ok {op : BinOp} {t : TypeId} {x y : Operand} {a b : Value} (h1 : ∀ c, a ≠ .agg c) (h2 : a ≠ .nilIface) : (eqGuard op t x y a b).run P w = .ok () w := by
  unfold eqGuard
  cases op <;> first
    | rfl
    | (cases a <;> first | exact absurd rfl (h1 _) | exact absurd rfl h2 | (cases b <;> rfl))

theorem toList_byte (l : List UInt8) : (ByteArray.mk l.toArray).toList = l := ByteArray.toList_mk l

theorem part_leaf {c : Cx} {t : TypeId} {d : TD} (hT : TyAt P t d) (hd : d.kind.isAgg = false) {arr : Array Value} {i : Nat} {v : Value} (h : arr[i]? = some v) : (part t arr i).run P w = .ok v w := by
  unfold part
  simp [hT.run_isAgg, hd, h]

theorem eqFields_run (hTO : TyOK P T) {c : Cx} {ax ay : Array Value} {xs0 ys0 : List V} (hx : Reps c xs0 ax.toList) (hy : Reps c ys0 ay.toList) (n : Nat) : ∀ (fs : List Field) (k : Nat) (xs ys : List V) (b : Bool),
    (∀ p ∈ fs.zipIdx k, p.1.name ≠ "_" ∧ p.1.offset = p.2) → xs0.drop k = xs → ys0.drop k = ys → eqLeaves xs ys = some b →
    kindsOK T (fs.map fun f => (f.type, f.offset)) xs → kindsOK T (fs.map fun f => (f.type, f.offset)) ys → (Op.eqFields (n + 1) ax ay fs).run P w = .ok b w
  | [], k, xs, ys, b, _, _, _, he, h1, h2 => by
    cases xs with
    | nil => cases ys with
      | nil => simp [eqLeaves] at he; subst he; simp [Op.eqFields]
      | cons y ys => exact h2.elim
    | cons x xs => exact h1.elim
  | f :: fs, k, xs, ys, b, hp, dx, dy, he, h1, h2 => by
    cases xs with
    | nil => exact h1.elim
    | cons x xs =>
    cases ys with
    | nil => exact h2.elim
    | cons y ys =>
    obtain ⟨h1a, h1b⟩ := h1
    obtain ⟨h2a, h2b⟩ := h2
    have hp0 := hp (f, k) (by simp [List.zipIdx_cons])
    simp only [] at hp0
    have gx : xs0[k]? = some x := by have := congrArg (fun l => l[0]?) dx; simpa using this
    have gy : ys0[k]? = some y := by have := congrArg (fun l => l[0]?) dy; simpa using this
    obtain ⟨vx, ex, rx, -⟩ := hx.get gx
    obtain ⟨vy, ey, ry, -⟩ := hy.get gy
    have ex' : ax[k]? = some vx := by simpa using ex
    have ey' : ay[k]? = some vy := by simpa using ey
    have dx' : xs0.drop (k + 1) = xs := by rw [← List.tail_drop, dx]; rfl
    have dy' : ys0.drop (k + 1) = ys := by rw [← List.tail_drop, dy]; rfl
    simp only [eqLeaves] at he
    cases e1 : eqLeaf x y with
    | none => simp [e1] at he
    | some q =>
      cases e2 : eqLeaves xs ys with
      | none => simp [e1, e2] at he
      | some r =>
        simp only [e1, e2, Option.some.injEq] at he
        have ih := eqFields_run hTO hx hy n fs (k + 1) xs ys r (fun p hp' => hp p (by simp [List.zipIdx_cons, hp'])) dx' dy' e2 h1b h2b
        have key : (Op.equalIn (n + 1) f.type vx vy).run P w = .ok q w ∧ (T f.type).kind ≠ .other ∧ (T f.type).kind.isAgg = false := by
          cases x <;> cases y <;> simp only [eqLeaf] at e1 <;> (try cases e1)
          · rename_i k1 a k2 b'
            simp only [RepC, List.cons.injEq, and_true] at rx ry
            subst rx ry
            have hk : (T f.type).kind = .int k1 := h1a
            split at e1
            · rename_i hkk
              injection e1 with e1
              subst hkk e1
              obtain ⟨td, g1, _, g3⟩ := (hTO.at (t := f.type) (by rw [hk]; simp)).run_und w
              have := kind_int g1 hk
              subst this
              exact ⟨run_equalIn_int w n f.type k1 k1 a b' g3, by rw [hk]; simp, by rw [hk]; rfl⟩
            · cases e1
          · rename_i a b'
            simp only [RepC, List.cons.injEq, and_true] at rx ry
            subst rx ry
            have hk : (T f.type).kind = .bool := h1a
            obtain ⟨td, g1, _, g3⟩ := (hTO.at (t := f.type) (by rw [hk]; simp)).run_und w
            have := kind_bool g1 hk
            subst this
            exact ⟨run_equalIn_bool w n f.type a b' g3, by rw [hk]; simp, by rw [hk]; rfl⟩
          · rename_i a b'
            simp only [RepC, List.cons.injEq, and_true] at rx ry
            subst rx ry
            have hk : (T f.type).kind = .str := h1a
            obtain ⟨td, g1, _, g3⟩ := (hTO.at (t := f.type) (by rw [hk]; simp)).run_und w
            have := kind_str g1 hk
            subst this
            have := run_equalIn_string w n f.type ⟨a.toArray⟩ ⟨b'.toArray⟩ g3
            rw [toList_byte, toList_byte] at this
            exact ⟨this, by rw [hk]; simp, by rw [hk]; rfl⟩
        obtain ⟨q1, q2, q3⟩ := key
        have hT := hTO.at q2
        have p1 := part_leaf (P := P) (w := w) (c := c) hT q3 (i := f.offset) (by rw [hp0.2]; exact ex')
        have p2 := part_leaf (P := P) (w := w) (c := c) hT q3 (i := f.offset) (by rw [hp0.2]; exact ey')
        simp only [Op.eqFields]
        rw [if_pos hp0.1]
        simp only [Sem.run_bind, p1, p2, q1, Result.andThen_ok]
        cases q with
        | true => simp [ih, ← he]
        | false => simp [← he]

theorem run_eq_ptr_nil (d : Nat) (t e : TypeId) (p : Option Addr) (h : P.underlying t = some (.pointer e)) : (Op.equalIn (d + 1) t (.pointer p) (.pointer none)).run P w = .ok p.isNone w := by
  simp only [Op.equalIn, Sem.run_bind, run_underlying h, Result.andThen_ok]
  cases p <;> rfl
theorem run_eq_nil_ptr (d : Nat) (t e : TypeId) (p : Option Addr) (h : P.underlying t = some (.pointer e)) : (Op.equalIn (d + 1) t (.pointer none) (.pointer p)).run P w = .ok p.isNone w := by
  simp only [Op.equalIn, Sem.run_bind, run_underlying h, Result.andThen_ok]
  cases p <;> rfl
theorem kind_ptr {td : TypeDesc} {k : TK} {e : Nat} (h : kindOK td k = true) (hk : k = .ptr e) : td = .pointer e := by
  subst hk; cases td <;> simp [kindOK] at h; subst h; rfl
theorem nilEq_value {d : TD} {x : V} {cx : Value} (hG : Good g H w) (hx : RepV (cxOf g H.length w) x cx) {p : Prop} {b : Bool} (h : nilEq d H x = some (p, b)) (hp : p) : ∃ e a, d.kind = .ptr e ∧ cx = .pointer a ∧ a.isNone = b := by
  cases x
  case nilp =>
    simp only [nilEq] at h
    split at h
    · rename_i e hk
      injection h with h; injection h with h1 h2; subst h1 h2
      have := hx.leaf (by simp) (by simp)
      simp only [RepC] at this
      injection this with this
      subst this
      exact ⟨e, _, hk, rfl, rfl⟩
    · cases h
  case ref o c =>
    simp only [nilEq] at h
    split at h
    · rename_i e hk
      injection h with h; injection h with h1 h2; subst h1 h2
      obtain ⟨b, off, rfl, _⟩ := live_addr hG hx (by simpa only [live] using hp)
      exact ⟨e, _, hk, rfl, rfl⟩
    · cases h
  case eref o ver i c =>
    simp only [nilEq] at h
    split at h
    · rename_i e hk
      injection h with h; injection h with h1 h2; subst h1 h2
      obtain ⟨b, off, rfl, _⟩ := live_addr hG hx (by simpa only [live] using hp)
      exact ⟨e, _, hk, rfl, rfl⟩
    · cases h
  case cref cs c =>
    simp only [nilEq] at h
    split at h
    · rename_i e hk
      injection h with h; injection h with h1 h2; subst h1 h2
      obtain ⟨b, off, rfl, _⟩ := live_addr hG hx (by simp only [live])
      exact ⟨e, _, hk, rfl, rfl⟩
    · cases h
  all_goals simp [nilEq] at h
theorem xnil_sound (hTO : TyOK P T) {t : TypeId} {op : BinOp} {x : V} {cx cy : Value} {ox oy : Operand} (hG : Good g H w) (hx : RepV (cxOf g H.length w) x cx) {pre : Prop} {v : V} {H' : List Ob}
    (h : xnil (T t) H op x = .val pre v H') (hp : pre) (hy : cy = .pointer none) : DoneV P g H w (do eqGuard op t ox oy cx cy; binOp op t cx cy) v H' ∧ DoneV P g H w (do eqGuard op t oy ox cy cx; binOp op t cy cx) v H' := by
  subst hy
  unfold xnil at h
  split at h
  case h_2 => cases h
  rename_i p b hb
  have key : p → ∃ e a, (T t).kind = .ptr e ∧ cx = .pointer a ∧ a.isNone = b := nilEq_value hG hx hb
  split at h
  case h_3 => cases h
  all_goals
    injection h with e1 e2 e3
    subst e1 e2 e3
    obtain ⟨e, a, hk, rfl, rfl⟩ := key hp
    have hT := hTO.at (t := t) (by rw [hk]; simp)
    obtain ⟨td, g1, g2, g3⟩ := hT.run_und w
    have := kind_ptr g1 hk
    subst this
    have q1 : (Op.equal t (.pointer a) (.pointer none)).run P w = .ok a.isNone w := run_eq_ptr_nil 9999 t e a g3
    have q2 : (Op.equal t (.pointer none) (.pointer a)).run P w = .ok a.isNone w := run_eq_nil_ptr 9999 t e a g3
    refine ⟨⟨w, g, _, ?_, hG, Ext.refl _ _ _, RepV.mk_bool⟩, ⟨w, g, _, ?_, hG, Ext.refl _ _ _, RepV.mk_bool⟩⟩
    · rw [Sem.run_bind, eqGuard_ok (by simp) (by simp)]
      simp [binOp, q1]
    · rw [Sem.run_bind, eqGuard_ok (by simp) (by simp)]
      simp [binOp, q2]

theorem xbin_sound (hTO : TyOK P T) {t : TypeId} {op : BinOp} {x y : V} {cx cy : Value} {ox oy : Operand} (hG : Good g H w) (hx : RepV (cxOf g H.length w) x cx) (hy : RepV (cxOf g H.length w) y cy) {pre : Prop} {v : V} {H' : List Ob}
    (h : xbin T H (T t) op x y = .val pre v H') (hp : pre) : DoneV P g H w (do eqGuard op t ox oy cx cy; binOp op t cx cy) v H' := by
  unfold xbin at h
  split at h
  · rename_i k a k' b
    have := hx.int
    subst this
    have := hy.int
    subst this
    have hg := eqGuard_ok (P := P) (w := w) (op := op) (t := t) (x := ox) (y := oy) (a := .int k a) (b := .int k' b) (by simp) (by simp)
    split at h
    case h_16 => cases h
    all_goals
      injection h with e1 e2 e3
      subst e1 e2 e3
      refine ⟨w, g, _, ?_, hG, Ext.refl _ _ _, (by first | exact RepV.mk_int | exact RepV.mk_bool)⟩
      rw [Sem.run_bind, hg]
      simp only [Result.andThen_ok]
      first
        | (obtain ⟨rfl, hb⟩ := hp; simp only [binOp, Op.intDiv, hb, if_false, ne_eq, not_true_eq_false]; rfl)
        | (subst hp; simp only [binOp, Op.intArith, Op.intBits, Op.intCmp, ne_eq, not_true_eq_false, if_false]; rfl)
        | (simp only [binOp, Op.shift]; rw [if_neg (by omega)]; rfl)
  · rename_i a b
    obtain ⟨rfl, ha⟩ := hx.str
    obtain ⟨rfl, hb⟩ := hy.str
    have hg := eqGuard_ok (P := P) (w := w) (op := op) (t := t) (x := ox) (y := oy) (a := .string ⟨a.toArray⟩) (b := .string ⟨b.toArray⟩) (by simp) (by simp)
    split at h
    case h_8 => cases h
    · injection h with e1 e2 e3
      subst e1 e2 e3
      refine DoneV.pure_ hG (cv := .string ⟨(a ++ b).toArray⟩) ?_ RepV.mk_str
      rw [Sem.run_bind, hg]
      simp only [Result.andThen_ok, binOp, Op.stringOp]
      have : ((ByteArray.mk a.toArray).size + (ByteArray.mk b.toArray).size : Nat) = (a ++ b).length := by simp [ByteArray.size]
      rw [if_neg (by rw [this]; rw [maxLen_val] at hp; rw [show IntKind.i64.max = 9223372036854775807 from rfl]; omega)]
      simp only [Sem.run_pure]
      congr 2
    all_goals
      injection h with e1 e2 e3
      subst e1 e2 e3
      refine ⟨w, g, _, ?_, hG, Ext.refl _ _ _, RepV.mk_bool⟩
      rw [Sem.run_bind, hg]
      simp only [Result.andThen_ok, binOp, Op.stringOp, toList_byte, Sem.run_pure, strLess]
  · rename_i a b
    have := hx.bool
    subst this
    have := hy.bool
    subst this
    have hg := eqGuard_ok (P := P) (w := w) (op := op) (t := t) (x := ox) (y := oy) (a := .bool a) (b := .bool b) (by simp) (by simp)
    split at h
    case h_3 => cases h
    all_goals
      injection h with e1 e2 e3
      subst e1 e2 e3
      have hT := hTO.at (t := t) (by rw [hp]; simp)
      obtain ⟨td, g1, g2, g3⟩ := hT.run_und w
      have := kind_bool g1 hp
      subst this
      refine ⟨w, g, _, ?_, hG, Ext.refl _ _ _, RepV.mk_bool⟩
      rw [Sem.run_bind, hg]
      simp [binOp, run_equal_bool w t a b g3]
  · rename_i xs ys
    obtain ⟨ax, rfl, hrx⟩ := hx.agg
    obtain ⟨ay, rfl, hry⟩ := hy.agg
    split at h
    case h_2 => cases h
    rename_i fs hk
    split at h
    case h_2 => cases h
    rename_i b hb
    have hT := hTO.at (t := t) (by rw [hk]; simp)
    obtain ⟨td, g1, g2, g3⟩ := hT.run_und w
    obtain ⟨fl, rfl, hl⟩ := kind_struct g1 hk
    have key : (T t).cmp = true → kindsOK T fs xs → kindsOK T fs ys → (eqGuard op t ox oy (.agg ax) (.agg ay)).run P w = .ok () w ∧ (Op.equalIn 10000 t (.agg ax) (.agg ay)).run P w = .ok b w := by
      intro hc k1 k2
      have hc := hT.cmp hc
      unfold cmpOK at hc
      simp only [g3, Bool.and_eq_true, Bool.not_eq_true'] at hc
      obtain ⟨⟨c1, c2⟩, c3⟩ := hc
      refine ⟨run_eqGuard_agg w op t ox oy ax ay c2, ?_⟩
      have hf : P.fieldsOf t = fl := by simp [Program.fieldsOf, g3]
      rw [show (10000 : Nat) = 9999 + 1 from rfl, run_equalIn_struct w 9999 t ax ay (by rw [hf]; exact g3) c1, hf]
      rw [← hl] at k1 k2
      refine eqFields_run hTO hrx hry 9998 fl.toList 0 xs ys b (fun p hp => ?_) rfl rfl hb k1 k2
      have := List.all_eq_true.1 c3 p hp
      simpa using this
    split at h
    case h_3 => cases h
    all_goals
      injection h with e1 e2 e3
      subst e1 e2 e3
      obtain ⟨m1, m2⟩ := key hp.1 hp.2.1 hp.2.2
      refine ⟨w, g, _, ?_, hG, Ext.refl _ _ _, RepV.mk_bool⟩
      rw [Sem.run_bind, m1]
      simp only [Result.andThen_ok]
      first
        | (rw [run_eql_struct, m2]; rfl)
        | (rw [run_neq_struct, m2]; rfl)
  · have hn := hy.leaf (by simp) (by simp)
    simp only [RepC] at hn
    injection hn with hn
    exact (xnil_sound (ox := ox) (oy := oy) hTO hG hx h hp hn).1
  · have hn := hx.leaf (by simp) (by simp)
    simp only [RepC] at hn
    injection hn with hn
    exact (xnil_sound (ox := oy) (oy := ox) hTO hG hy h hp hn).2
  · have hn := hx.leaf (by simp) (by simp)
    simp only [RepC] at hn
    injection hn with hn
    exact (xnil_sound (ox := oy) (oy := ox) hTO hG hy h hp hn).2
  · have hn := hx.leaf (by simp) (by simp)
    simp only [RepC] at hn
    injection hn with hn
    exact (xnil_sound (ox := oy) (oy := ox) hTO hG hy h hp hn).2
  · cases h
end Go.EL

/- The value logic, part L: conversions, lengths, literals; all operations. -/
set_option linter.unusedVariables false
set_option linter.unusedSimpArgs false
namespace Go.EL
open Go
variable {P : Program} {T : Nat → TD} {g : Nat → Option Key} {H : List Ob} {w : World}

theorem freeze_new (w : World) (c : Array Value) (e : TypeId) : (pushW w (.cells c e)).freeze ⟨w.heap.size, c.size, none⟩ 1 = pushW w (.cells c e (c.size, c.size + 1)) := by
  unfold World.freeze pushW
  simp only [Nat.one_ne_zero, if_false]
  congr 1
  apply Array.ext
  · simp
  · intro i h1 h2
    rw [Array.getElem_modify]
    simp only [Array.size_modify, Array.size_push] at h1
    by_cases hi : w.heap.size = i
    · subst hi; simp
    · rw [if_neg hi, Array.getElem_push, Array.getElem_push]
      have : i < w.heap.size := by omega
      simp [this]

theorem run_stringToBytes (e : TypeId) (l : List UInt8) (hl : l.length ≤ maxLen) :
    ∃ cap, l.length ≤ cap ∧ cap ≤ maxLen ∧
    (Conv.stringToBytes e ⟨l.toArray⟩).run P w = .ok (.slice (some ⟨w.heap.size, 0, none⟩) l.length cap)
      (pushW { w with drawn := w.drawn + 1 } (.cells ((l.map fun b => Value.int .u8 b.toNat).toArray ++ Array.replicate (cap - l.length) (.int .u8 0)) e (l.length + (cap - l.length), l.length + (cap - l.length) + 1))) := by
  have hsz : (ByteArray.mk l.toArray).size = l.length := by simp [ByteArray.size]
  refine ⟨grownCap w l.length 0 e, grownCap_ge _ _ _ _, grownCap_le_maxLen _ _ _ _ hl, ?_⟩
  have hf := freeze_new { w with drawn := w.drawn + 1 } ((l.map fun b => Value.int .u8 b.toNat).toArray ++ Array.replicate (grownCap w l.length 0 e - l.length) (.int .u8 0)) e
  have hs : ((l.map fun b => Value.int .u8 b.toNat).toArray ++ Array.replicate (grownCap w l.length 0 e - l.length) (Value.int .u8 0)).size = l.length + (grownCap w l.length 0 e - l.length) := by simp
  rw [hs] at hf
  unfold Conv.stringToBytes
  simp only [Sem.run_bind, run_choose, Question.forced, hsz, Bool.false_eq_true, if_false, Result.andThen_ok]
  simp only [newRow, Sem.run_bind, run_newObj, Result.andThen_ok, Sem.run_pure]
  unfold markStringish
  simp only [Sem.run_bind, run_shape, Result.andThen_ok]
  have hsh : World.shape? { w with heap := w.heap.push (Obj.cells ((Array.map (fun b : UInt8 => Value.int IntKind.u8 (b.toNat : Int)) l.toArray) ++ Array.replicate (grownCap w l.length 0 e - l.length) (Value.int IntKind.u8 0)) e), drawn := w.drawn + 1 } w.heap.size = some (e, l.length + (grownCap w l.length 0 e - l.length)) := by
    simp [World.shape?]
  have hgc : (Question.appendCap l.length 0 e).cut (w.tape w.drawn (Question.appendCap l.length 0 e)) = grownCap w l.length 0 e := rfl
  rw [hgc]
  rw [hsh]
  simp only [run_freeze, Result.andThen_ok, Sem.run_pure]
  congr 1
  have : (Array.map (fun b : UInt8 => Value.int IntKind.u8 (b.toNat : Int)) l.toArray) = (l.map fun b => Value.int .u8 b.toNat).toArray := by simp
  rw [this]
  exact hf

theorem xconvert_sound (hTO : TyOK P T) {own : Bool} {s d : TypeId} {x : V} {cx : Value} {ed : TD} (hG : Good g H w) (hx : RepV (cxOf g H.length w) x cx) (hs : (T s).kind ≠ .other) (hed : ∀ e, (T d).kind = .slice e → ed = T e) {pre : Prop} {v : V} {H' : List Ob}
    (h : xconvert own (T s) (T d) ed H x = .val pre v H') (hp : pre) : DoneV P g H w (convert s d cx) v H' := by
  obtain ⟨sd, s1, s2, s3⟩ := (hTO.at hs).run_und w
  unfold xconvert at h
  split at h
  · rename_i k k' n hk
    injection h with e1 e2 e3
    subst e1 e2 e3
    have hT := hTO.at (t := d) (by rw [hk]; simp)
    obtain ⟨td, g1, g2, g3⟩ := hT.run_und w
    have := kind_int g1 hk
    subst this
    have := hx.int
    subst this
    exact DoneV.pure_ hG (cv := .int k (k.wrap n)) (by simp [convert, s2, g2, Conv.intToInt]) RepV.mk_int
  · rename_i l hk
    injection h with e1 e2 e3
    subst e1 e2 e3
    have hT := hTO.at (t := d) (by rw [hk]; simp)
    obtain ⟨td, g1, g2, g3⟩ := hT.run_und w
    have := kind_str g1 hk
    subst this
    obtain ⟨rfl, hl⟩ := hx.str
    exact DoneV.pure_ hG (cv := .string ⟨l.toArray⟩) (by simp [convert, s2, g2]) RepV.mk_str
  · rename_i e l hk
    have he := hed e hk
    subst he
    have hT := hTO.at (t := d) (by rw [hk]; simp)
    obtain ⟨td, g1, g2, g3⟩ := hT.run_und w
    have := kind_slice g1 hk
    subst this
    obtain ⟨rfl, hl⟩ := hx.str
    have hl : l.length ≤ maxLen := by
      injection h with e1 e2 e3; subst e1 e2 e3
      have := hp.2.2.2; rw [maxLen_val]; unfold limBytes at this; omega
    obtain ⟨cap, c1, c2, c3⟩ := run_stringToBytes (P := P) (w := w) e l hl
    have hd := step_drawn hG (w.drawn + 1)
    have hrun : (T s).kind = .str → (T e).kind = .int .u8 → (convert s d (.string ⟨l.toArray⟩)).run P w = (Conv.stringToBytes e ⟨l.toArray⟩).run P w := by
      intro k1 k2
      have := kind_str s1 k1
      subst this
      obtain ⟨ted, f1, f2, f3⟩ := (hTO.at (t := e) (by rw [k2]; simp)).run_und w
      have := kind_int f1 k2
      subst this
      simp [convert, s2, g2, f2]
    injection h with e1 e2 e3
    subst e1 e2 e3
    obtain ⟨p1, p2, p3, p5⟩ := hp
    have hst := step_push hd.1 (.cells ((l.map fun b => Value.int .u8 b.toNat).toArray ++ Array.replicate (cap - l.length) (.int .u8 0)) e (l.length + (cap - l.length), l.length + (cap - l.length) + 1))
    refine ⟨_, _, _, (hrun p1 p2).trans c3, hst.1, hd.2.trans hst.2.1, RepV.mk_leaf ?_ (by simp) (by simp)⟩
    simp only [RepC]
    refine ⟨_, cap, 1, by rw [List.length_map], by simpa using c1, c2, .inr ⟨_, 0, rfl, hst.2.2, (bytes_repF l).repE (fun j v hj => ?_)⟩⟩
    show (pushW _ _).cell? _ = some v
    rw [cell?_row (heap_pushW_new _ _)]
    simp only [Array.toList_append, Nat.zero_add]
    rw [List.getElem?_append_left (by simpa using (List.getElem?_eq_some_iff.1 hj).1)]
    exact hj
  · cases h

theorem xtoStr_sound (hTO : TyOK P T) {s d e : TypeId} {x : V} {cx : Value} (hG : Good g H w) (hx : RepV (cxOf g H.length w) x cx) (hs : (T s).kind = .slice e) (he : (T e).kind = .int .u8) (hd : (T d).kind = .str) {pre : Prop} {v : V} {H' : List Ob}
    (h : xtoStr H x = .val pre v H') (hp : pre) : DoneV P g H w (convert s d cx) v H' := by
  unfold xtoStr at h
  split at h
  · cases h
  rename_i hisS
  split at h
  · rename_i xs hxs
    injection h with e1 e2 e3
    subst e1 e2 e3
    obtain ⟨hb, hm⟩ := hp
    obtain ⟨sd, s1, s2, s3⟩ := (hTO.at (t := s) (by rw [hs]; simp)).run_und w
    have := kind_slice s1 hs
    subst this
    obtain ⟨dd, d1, d2, d3⟩ := (hTO.at (t := d) (by rw [hd]; simp)).run_und w
    have := kind_str d1 hd
    subst this
    obtain ⟨ee, f1, f2, f3⟩ := (hTO.at (t := e) (by rw [he]; simp)).run_und w
    have := kind_int f1 he
    subst this
    have hsized : Sized 1 xs := fun y hy => by obtain ⟨n, rfl⟩ := hb y hy; rfl
    have hstor : ∀ y ∈ xs, y.storable := fun y hy => by obtain ⟨n, rfl⟩ := hb y hy; trivial
    obtain ⟨cl, c1, c2, c3⟩ := elems_sound hG hx hxs hsized hstor
    have hcl : ∀ (ys : List V) (cl : List Value), AllBytes ys → RepF (cxOf g H.length w) 1 ys cl → ∃ ns : List Int, ys = ns.map (V.int .u8) ∧ cl = ns.map (Value.int .u8) := by
      intro ys
      induction ys with
      | nil => intro cl _ h; simp only [RepF] at h; subst h; exact ⟨[], rfl, rfl⟩
      | cons y ys ih =>
        intro cl hb h
        obtain ⟨vs, cl', rfl, h2, h3, h4⟩ := h
        obtain ⟨n, rfl⟩ := hb y (by simp)
        obtain ⟨ns, rfl, rfl⟩ := ih cl' (fun z hz => hb z (by simp [hz])) h4
        have := h2.2
        simp only [RepC] at this
        subst this
        exact ⟨n :: ns, rfl, rfl⟩
    obtain ⟨ns, rfl, rfl⟩ := hcl xs cl hb c1
    have hslice : ∃ a len cap, cx = .slice a len cap := by
      cases x with
      | slice l =>
        have hl := hx.leaf (by simp) (by simp)
        simp only [RepC] at hl
        obtain ⟨a, cap, es, hu, _⟩ := hl
        injection hu with hu
        exact ⟨_, _, _, hu⟩
      | fslice l =>
        have hl := hx.leaf (by simp) (by simp)
        simp only [RepC] at hl
        obtain ⟨a, es, hu, _⟩ := hl
        injection hu with hu
        exact ⟨_, _, _, hu⟩
      | vec o ver off n =>
        simp only [elems] at hxs
        cases ho : H[o]? with
        | none => simp [ho] at hxs
        | some ob =>
          cases ob with
          | gone => simp [ho] at hxs
          | hole => simp [ho] at hxs
          | var _ => simp [ho] at hxs
          | raw _ _ _ _ => simp [ho] at hxs
          | map _ _ => simp [ho] at hxs
          | iter _ _ _ _ => simp [ho] at hxs
          | vec ver' es l =>
            simp only [ho] at hxs
            by_cases hc : ver' = ver ∧ off + n ≤ l.length
            · obtain ⟨rfl, hlen⟩ := hc
              obtain ⟨q, hq, hver, _⟩ := hG.vec ho
              have hl := hx.leaf (by simp) (by simp)
              simp only [RepC] at hl
              obtain ⟨k1, u, hu, k2, k3⟩ := hl
              injection hu with hu
              subst hu
              obtain ⟨k6, a, rfl, k7⟩ := (k3 q hq).2 hver
              exact ⟨_, _, _, rfl⟩
            · rw [if_neg hc] at hxs; cases hxs
      | _ => exact absurd rfl hisS
    obtain ⟨a, len, cap, rfl⟩ := hslice
    have hlen : len = ns.length := by
      have := c2
      simp only [Builtin.lenOf] at this
      injection this with this
      simpa using this
    subst hlen
    have hfin : (convert s d (.slice a ns.length cap)).run P w = .ok (.string ⟨((ns.map (V.int .u8)).map toByte).toArray⟩) w := by
      rw [run_convert_bytes_string w s d e a ns.length cap s3 f3 d3]
      have hfold : ∀ (ns : List Int) (r : ByteArray), ns.foldl (fun r n => r.push (UInt8.ofNat n.toNat)) r = ⟨(r.data.toList ++ ns.map fun n => UInt8.ofNat n.toNat).toArray⟩ := by
        intro ns
        induction ns with
        | nil => intro r; simp
        | cons n ns ih => intro r; rw [List.foldl_cons, ih]; congr 1; apply Array.ext'; simp [ByteArray.push]
      cases a with
      | none =>
        have := c3 w rfl
        simp only [Builtin.firstCells, Sem.run_pure] at this
        injection this with this _
        have h0 : ns = [] := by
          have := congrArg Array.size this
          simpa using this.symm
        subst h0
        simp [Conv.bytesToString]
        try rfl
      | some a =>
        have hl := c3 w rfl
        simp only [Builtin.firstCells, List.length_map, Nat.mul_one] at hl
        rw [run_bytesToString w a ns.length cap ns (by simpa using hl), hfold]
        congr 4
        simp [toByte, Function.comp_def]
        try rfl
    exact DoneV.pure_ hG hfin RepV.mk_str
  · cases h
end Go.EL

/- The value logic, part LA: rows that are made, cleared, copied into; an array that becomes a row. -/
set_option linter.unusedVariables false
set_option linter.unusedSimpArgs false
namespace Go.EL
open Go
variable {P : Program} {T : Nat → TD} {g : Nat → Option Key} {H : List Ob} {w : World}

theorem RepF.split {c : Cx} {es : Nat} : ∀ {l : List V} {cl : List Value} (n : Nat), RepF c es l cl → RepF c es (l.take n) (cl.take (n * es)) ∧ RepF c es (l.drop n) (cl.drop (n * es))
  | [], _, n, h => by simp only [RepF] at h; subst h; simp [RepF]
  | x :: xs, cl, 0, h => by simp only [Nat.zero_mul, List.take_zero, List.drop_zero]; exact ⟨rfl, h⟩
  | x :: xs, _, n + 1, ⟨vs, cl', h1, h2, h3, h4⟩ => by
    subst h1
    obtain ⟨k1, k2⟩ := h4.split n
    have e : (n + 1) * es = vs.length + n * es := by rw [h3, Nat.add_mul]; omega
    rw [e, List.take_succ_cons, List.drop_succ_cons, List.take_length_add_append, List.drop_length_add_append]
    exact ⟨⟨vs, _, rfl, h2, h3, k1⟩, k2⟩

/-- elements of a row of one's own are written anew -/
theorem vec_write (hG : Good g H w) {o ver es off : Nat} {l ys : List V} (ho : H[o]? = some (.vec ver es l)) (hle : off + ys.length ≤ l.length) {cl : List Value} (hr : RepF (cxOf g H.length w) es ys cl) (hne : ys ≠ []) :
    ∃ q b cur et fr, g o = some q ∧ q.ver = ver ∧ q.es = es ∧ q.blk = some b ∧ w.heap[b]? = some (.cells cur et fr) ∧ unfrozen fr cur.size ∧ off * es + cl.length ≤ cur.size ∧
      Good g (H.set o (.vec ver es (l.take off ++ ys ++ l.drop (off + ys.length)))) (w.setCells b (off * es) cl) ∧
      Ext g H.length w g (H.set o (.vec ver es (l.take off ++ ys ++ l.drop (off + ys.length)))).length (w.setCells b (off * es) cl) := by
  obtain ⟨q, hk, hver, hes, hv1, hcm, hcap, hbk⟩ := hG.vec ho
  have hpos := List.length_pos_iff.2 hne
  rcases hbk with ⟨_, h0⟩ | ⟨b, cur, et, fr, hblk, hh, hsz, hE, hu, hone⟩
  · omega
  have hcl := hr.length
  have hfit : off * es + cl.length ≤ cur.size := by
    rw [hsz, hcl, ← Nat.add_mul, hes]
    exact Nat.mul_le_mul_right _ (by omega)
  obtain ⟨clo, d1, d2⟩ := hE.flat
  have hlo := d1.length
  have hcur : cur.toList.take (l.length * es) = clo := by
    rw [hes] at hlo
    apply List.ext_getElem?
    intro k
    rw [List.getElem?_take]
    split
    · rename_i hk'
      have := d2 k clo[k] (List.getElem?_eq_getElem (by omega))
      rw [show (cxOf g H.length w).cell = w.cell? from rfl, cell?_row hh] at this
      simp only [Nat.zero_add] at this
      rw [this, List.getElem?_eq_getElem (by omega)]
    · rw [List.getElem?_eq_none (by omega)]
  refine ⟨q, b, cur, et, fr, hk, hver, hes, hblk, hh, hu, hfit, ?_⟩
  have hheap := heap_setCells cl (off * es) w cur hh hfit
  refine step_rewrite hG ho hk hblk _ _ (fun m => ?_)
  refine ⟨q, rfl, hver, hes, hv1, hcm, ?_, .inr ⟨b, _, et, fr, hblk, hheap, ?_, ?_, ?_, ?_⟩⟩
  · simp only [List.length_append, List.length_take, List.length_drop]; omega
  · rw [← hsz]
    simp only [List.size_toArray, List.length_append, List.length_take, List.length_drop, Array.length_toList]; omega
  · rw [hes] at d1 ⊢
    obtain ⟨a1, _⟩ := d1.split off
    obtain ⟨_, a2⟩ := d1.split (off + ys.length)
    refine (((a1.append hr).append a2).mono m).repE (fun j v hj => ?_)
    show (w.setCells b (off * es) cl).cell? _ = some v
    rw [cell?_row hheap, Nat.zero_add]
    have e1 : clo.take (off * es) = cur.toList.take (off * es) := by
      rw [← hcur, List.take_take, Nat.min_eq_left (Nat.mul_le_mul_right _ (by omega))]
    have e2 : clo.drop ((off + ys.length) * es) = (cur.toList.drop (off * es + cl.length)).take (l.length * es - (off * es + cl.length)) := by
      rw [← hcur, List.drop_take, hcl, ← Nat.add_mul]
    rw [e1, e2] at hj
    show (cur.toList.take (off * es) ++ cl ++ cur.toList.drop (off * es + cl.length))[j]? = some v
    by_cases hlt : j < (cur.toList.take (off * es) ++ cl).length
    · rw [List.getElem?_append_left hlt] at hj ⊢
      exact hj
    · rw [List.getElem?_append_right (by omega)] at hj ⊢
      rw [List.getElem?_take] at hj
      split at hj
      · exact hj
      · cases hj
  · simp only [List.size_toArray, List.length_append, List.length_take, List.length_drop, Array.length_toList]
    intro j hj
    exact hu j (by omega)
  · intro v hv
    simp only [List.mem_append] at hv
    rcases hv with (hv | hv) | hv
    · exact hone v (List.mem_of_mem_take hv)
    · exact hr.oneCell v hv
    · exact hone v (List.mem_of_mem_drop hv)

theorem zeros_eq (z : Array Value) (n : Nat) : ((Array.range (n * z.size)).map (z[· % z.size]!)).toList = (List.replicate n z.toList).flatten := by
  induction n with
  | zero => simp
  | succ n ih =>
    rw [List.replicate_succ, List.flatten_cons, ← ih]
    simp only [Array.toList_map, Array.toList_range]
    rw [show (n + 1) * z.size = z.size + n * z.size by rw [Nat.add_mul]; omega, List.range_add, List.map_append, List.map_map]
    congr 1
    · apply List.ext_getElem?
      intro i
      rw [List.getElem?_map]
      by_cases h : i < z.size
      · rw [List.getElem?_range h]
        simp only [Option.map_some, Nat.mod_eq_of_lt h]
        rw [getElem!_pos z i h]
        simp [h]
      · rw [List.getElem?_eq_none (by simpa using h), List.getElem?_eq_none (by simpa using h)]
        rfl
    · apply List.map_congr_left
      intro i _
      simp [Function.comp, Nat.add_mod_left]

theorem repF_replicate {c : Cx} {es : Nat} {x : V} {vs : List Value} (hs : x.storable) (hr : RepC c x vs) (hl : vs.length = es) : ∀ n, RepF c es (List.replicate n x) (List.replicate n vs).flatten
  | 0 => rfl
  | n + 1 => ⟨vs, _, rfl, ⟨hs, hr⟩, hl, repF_replicate hs hr hl n⟩

theorem mkV_zero {c : Cx} {d : TD} {vs : List Value} (h : Reps c d.zero vs) (hl : d.zero.length = d.size) (h1 : d.kind.isAgg = false → d.size = 1) : (mkV d d.zero).storable ∧ RepC c (mkV d d.zero) vs := by
  unfold mkV
  cases hk : d.kind.isAgg with
  | true => exact ⟨trivial, by simp only [if_true, RepC]; exact h⟩
  | false =>
    have h1 := h1 hk
    rw [h1] at hl
    match hz : d.zero, hl with
    | [x], _ =>
      rw [hz] at h
      simp only [Reps] at h
      obtain ⟨v, vs', rfl, h2, h3, h4⟩ := h
      subst h4
      simp only [Bool.false_eq_true, if_false, List.headD_cons]
      exact ⟨by cases x <;> first | exact h2 | exact h2.elim, h3⟩

theorem xmake_sound (hTO : TyOK P T) {t e : TypeId} (hk : (T t).kind = .slice e) (he : (T e).kind ≠ .other) {x y : V} {cx cy : Value} (hG : Good g H w)
    (hx : RepV (cxOf g H.length w) x cx) (hy : RepV (cxOf g H.length w) y cy) {pre : Prop} {v : V} {H' : List Ob} (h : xmake (T e) H x y = .val pre v H') (hp : pre) :
    DoneV P g H w (Instr.makeSlice t cx cy) v H' := by
  have hT := hTO.at (t := t) (by rw [hk]; simp)
  obtain ⟨td, g1, _, g3⟩ := hT.run_und w
  have := kind_slice g1 hk
  subst this
  have hE := hTO.at he
  obtain ⟨i, z, i1, i2, i3, i4, i5⟩ := hE.info
  have hzr : Reps (cxOf g H.length w) (T e).zero z.cells.toList := zEqs_reps i5
  have hzl : z.cells.size = (T e).size := by have := hzr.length; rw [hE.zlen] at this; simpa using this
  unfold xmake at h
  split at h
  case h_2 => cases h
  rename_i k n k' n'
  injection h with e1 e2 e3
  subst e1 e2 e3
  obtain ⟨rfl, h0, hlim, h63, h1⟩ := hp
  have := hx.int
  subst this
  have := hy.int
  subst this
  unfold limBytes at hlim
  have hrun := run_make (P := P) w t e i z g3 i1 i4 k k' n n h0 (Int.le_refl _) (by rw [i3, Int.mul_comm]; omega) h63
  obtain ⟨z1, z2⟩ := mkV_zero (c := cxOf g H.length w) hzr hE.zlen h1
  have hcl := repF_replicate (es := (T e).size) z1 z2 (by simpa using hzl) n.toNat
  have hmade : (madeCells z.cells (n.toNat * i.size)).toList = (List.replicate n.toNat z.cells.toList).flatten := by
    rw [← zeros_eq, i2, ← hzl]; rfl
  have hst := step_vec_new hG (o := H.length) 1 (T e).size (List.replicate n.toNat (mkV (T e) (T e).zero)) (Nat.le_refl _) (.inl rfl) (cl := (List.replicate n.toNat z.cells.toList).flatten) (rest := #[]) (cap := n.toNat) e (0, 0) (fun j _ => by simp)
    hcl (by simp) (by unfold maxLen; omega) (by rw [hcl.length]; simp) (fun v hv => by simp at hv) (H ++ [.vec 1 (T e).size (List.replicate n.toNat (mkV (T e) (T e).zero))]) (.inl ⟨rfl, rfl⟩)
  have hw : w.alloc (.cells (madeCells z.cells (n.toNat * i.size)) e) = pushW w (.cells ((List.replicate n.toNat z.cells.toList).flatten.toArray ++ #[]) e (0, 0)) := by
    have : madeCells z.cells (n.toNat * i.size) = (List.replicate n.toNat z.cells.toList).flatten.toArray ++ #[] := by
      apply Array.ext'
      rw [hmade]; simp
    rw [this]; rfl
  rw [hw] at hrun
  refine ⟨_, _, _, hrun, hst.1, hst.2.1, ?_⟩
  have := hst.2.2
  rwa [List.length_replicate] at this

theorem xpart_sound (hTO : TyOK P T) {t f ft off : Nat} {fs : List (Nat × Nat)} (hk : (T t).kind = .struct fs) (hf : fs[f]? = some (ft, off)) {x : V} {cx : Value} (hG : Good g H w)
    (hx : RepV (cxOf g H.length w) x cx) {pre : Prop} {v : V} {H' : List Ob} (h : xpart (T ft) H off x = .val pre v H') (hp : pre) :
    DoneV P g H w (Instr.field t cx f) v H' := by
  have hT := hTO.at (t := t) (by rw [hk]; simp)
  obtain ⟨td, g1, g2, g3⟩ := hT.run_und w
  obtain ⟨fds, rfl, hfs⟩ := kind_struct g1 hk
  unfold xpart at h
  split at h
  case h_2 => cases h
  rename_i cs
  injection h with e1 e2 e3
  subst e1 e2 e3
  obtain ⟨h1, h2, h3⟩ := hp
  obtain ⟨arr, rfl, hr⟩ := hx.agg
  obtain ⟨cv, k1, k2⟩ := part_rep (hTO.at h1) hr h2 h3
  refine DoneV.pure_ hG (cv := cv) ?_ k2
  have hfd : ∃ fd, fds[f]? = some fd ∧ fd.type = ft ∧ fd.offset = off := by
    rw [← hfs, List.getElem?_map, Array.getElem?_toList] at hf
    cases hx : fds[f]? with
    | none => rw [hx] at hf; simp at hf
    | some fd =>
      rw [hx] at hf
      simp at hf
      exact ⟨fd, rfl, hf.1, hf.2⟩
  obtain ⟨fd, f1, f2, f3⟩ := hfd
  unfold Instr.field
  simp only [Sem.run_bind, g2, Result.andThen_ok]
  simp [f1, f2, f3, asAgg, k1]

theorem xclear_sound (hTO : TyOK P T) {t e ty : TypeId} (hk : (T t).kind = .slice e) (he : (T e).kind ≠ .other) {x : V} {cx : Value} (hG : Good g H w)
    (hx : RepV (cxOf g H.length w) x cx) {pre : Prop} {v : V} {H' : List Ob} (h : xclear (T e) H x = .val pre v H') (hp : pre) :
    DoneV P g H w (Builtin.clear_ #[t] ty #[cx]) v H' := by
  have hT := hTO.at (t := t) (by rw [hk]; simp)
  obtain ⟨td, g1, g2, g3⟩ := hT.run_und w
  have := kind_slice g1 hk
  subst this
  have hE := hTO.at he
  obtain ⟨z, hzv, hzq⟩ := hE.run_zeroValue w
  have hzr : Reps (cxOf g H.length w) (T e).zero z.cells.toList := zEqs_reps hzq
  have hzl : z.cells.size = (T e).size := by have := hzr.length; rw [hE.zlen] at this; simpa using this
  have hnil : RepV (cxOf g H.length w) (.tuple []) (.tuple #[]) := RepV.mk_leaf (by simp [RepC, RepVs]) (by simp) (by simp)
  unfold xclear at h
  split at h
  · rename_i o ver off n
    split at h
    case h_2 => cases h
    rename_i ver' es l ho
    injection h with e1 e2 e3
    subst e1 e2 e3
    obtain ⟨rfl, hle, rfl, h1⟩ := hp
    obtain ⟨q, hq, hver, hqes, hv1, hcm, hcap, hbk⟩ := hG.vec ho
    have hl := hx.leaf (by simp) (by simp)
    simp only [RepC] at hl
    obtain ⟨k1, uu, huu, k2, k3⟩ := hl
    injection huu with huu
    subst huu
    obtain ⟨k6, ad, rfl, k7⟩ := (k3 q hq).2 hver
    by_cases hn : n = 0
    · subst hn
      have hr : (Builtin.clear_ #[t] ty #[.slice ad 0 (q.cap - off)]).run P w = .ok (.tuple #[]) w := by
        unfold Builtin.clear_
        cases ad <;> simp [g2]
      have hH : H.set o (.vec ver' (T e).size (l.take off ++ List.replicate 0 (mkV (T e) (T e).zero) ++ l.drop (off + 0))) = H := by
        simp only [List.replicate_zero, List.append_nil, Nat.add_zero, List.take_append_drop]
        apply List.ext_getElem?
        intro i
        by_cases hi : i = o
        · subst hi; rw [set_get_eq ho, ho]
        · rw [set_get_ne hi]
      rw [hH]
      exact DoneV.pure_ hG hr hnil
    · have hne : List.replicate n (mkV (T e) (T e).zero) ≠ [] := by
        intro h0; have := congrArg List.length h0; simp at this; exact hn this
      obtain ⟨z1, z2⟩ := mkV_zero (c := cxOf g H.length w) hzr hE.zlen h1
      have hcl := repF_replicate (es := (T e).size) z1 z2 (by simpa using hzl) n
      obtain ⟨q', b, cur, et, fr, w1, w2, w3, w4, w5, w6, w7, w8, w9⟩ := vec_write hG ho (off := off) (ys := List.replicate n (mkV (T e) (T e).zero)) (by simpa using hle) hcl hne
      rw [hq] at w1
      injection w1 with w1
      subst w1
      obtain ⟨b', m1, rfl⟩ := k7 (by omega)
      rw [w4] at m1
      injection m1 with m1
      subst m1
      have hstore := run_storeCells_cells (P := P) b (off * (T e).size) (List.replicate n z.cells.toList).flatten 0 w
        (fun j hj => by rw [Nat.add_zero, cell?_row w5]; simp; omega)
        (fun j hj => by
          have := w6 (off * (T e).size + j) (by omega)
          simp only [World.frozen?, w5, Nat.add_zero]
          simpa using this) hcl.oneCell
      have hzc : (Builtin.zeroCells z.cells n).toList = (List.replicate n z.cells.toList).flatten := zeros_eq z.cells n
      have hr : (Builtin.clear_ #[t] ty #[.slice (some ⟨b, off * q.es, none⟩) n (q.cap - off)]).run P w = .ok (.tuple #[]) (w.setCells b (off * (T e).size) (List.replicate n z.cells.toList).flatten) := by
        obtain ⟨n', rfl⟩ : ∃ n', n = n' + 1 := ⟨n - 1, by omega⟩
        unfold Builtin.clear_
        rw [hqes]
        simp [g2, hzv, hzc, hstore]
      simp only [List.length_replicate] at w8 w9
      exact ⟨_, _, _, hr, w8, w9, RepV.mk_leaf (by simp [RepC, RepVs]) (by simp) (by simp)⟩
  · injection h with e1 e2 e3
    subst e1 e2 e3
    have hl := hx.leaf (by simp) (by simp)
    simp only [RepC] at hl
    obtain ⟨a, es, hu, _⟩ := hl
    injection hu with hu
    subst hu
    refine DoneV.pure_ hG ?_ hnil
    unfold Builtin.clear_
    cases a <;> simp [g2]
  · cases h

end Go.EL

/- The value logic, part LM: maps. -/
set_option linter.unusedVariables false
set_option linter.unusedSimpArgs false
namespace Go.EL
open Go
variable {P : Program} {T : Nat → TD} {g : Nat → Option Key} {H : List Ob} {w : World}

theorem kind_map {td : TypeDesc} {k : TK} {a b : Nat} (h : kindOK td k = true) (hk : k = .map a b) : td = .map a b := by
  subst hk; cases td <;> simp [kindOK] at h; obtain ⟨rfl, rfl⟩ := h; rfl
theorem Good.map (hG : Good g H w) {o : Nat} {l : List (Int × Nat × V)} {ck : Nat} (h : H[o]? = some (.map l ck)) : ∃ b es, g o = some ⟨0, some b, 0, 0⟩ ∧ w.heap[b]? = some (.map es ck) ∧ RepM (cxOf g H.length w) l es.toList := by
  have := hG.ob o; rw [h] at this; exact this
theorem mapr_val {c : Cx} {o b : Nat} {cv : Value} (h : RepV c (.mapr o) cv) (hk : c.key o = some ⟨0, some b, 0, 0⟩) : cv = .map (some b) := by
  have hl := h.leaf (by simp) (by simp)
  simp only [RepC] at hl
  obtain ⟨_, v, hv, _, h⟩ := hl
  injection hv with hv
  subst hv
  exact h _ b hk rfl rfl
theorem getObj_run {b : Nat} {es : Array MapEntry} {ck : Nat} (hb : w.heap[b]? = some (.map es ck)) : (getObj b).run P w = .ok (.map es ck) w := by simp [getObj, Sem.run, hb]
theorem setObj_run {b : Nat} {es : Array MapEntry} {ck : Nat} (y : Obj) (hb : w.heap[b]? = some (.map es ck)) : (setObj b y).run P w = .ok () (w.putObj b y) := by simp [setObj, Sem.run, hb, World.putObj]
theorem checkKey_int {e : Bool} {n : Nat} {k : TypeId} {v : Value} {ik : IntKind} (h : P.underlying k = some (.int ik)) : (Instr.checkKey e (n + 1) k v).run P w = .ok () w := by
  simp only [Instr.checkKey, Sem.run_bind, run_underlying h, Result.andThen_ok]
  cases v <;> rfl

/-- where a key stands -/
theorem find_rep {c : Cx} (n : Int) : ∀ (l : List (Int × Nat × V)) (es : List MapEntry) (i : Nat), RepM c l es →
    (mget l n = none → Instr.findNow (.int .i64) (.int .i64 n) es i = some none) ∧
    (∀ x, mget l n = some x → ∃ j e, es[j]? = some e ∧ Instr.findNow (.int .i64) (.int .i64 n) es i = some (some (i + j, e.val)) ∧ e.key = .int .i64 n ∧ x.storable ∧ RepC c x e.val.cells.toList ∧ okAgg x e.val ∧
      (∀ y v, y.storable → RepC c y v.cells.toList → okAgg y v → RepM c (mset l n y) (es.modify j fun e => { e with key := .int .i64 n, val := v })) ∧ RepM c (mdel l n) (es.eraseIdx j))
  | [], [], i, _ => ⟨fun _ => rfl, fun x h => by cases h⟩
  | p :: l, e :: es, i, h => by
    obtain ⟨⟨h1, h2, h3, h4, h5⟩, h6⟩ := h
    have hs : Instr.sameNow (.int .i64) (.int .i64 n) e.key = some (n == p.1) := by rw [h1]; simp [Instr.sameNow]
    by_cases hn : n = p.1
    · refine ⟨fun hm => by simp [mget, hn] at hm, fun x hx => ?_⟩
      simp only [mget, if_pos hn, Option.some.injEq] at hx
      subst hx
      refine ⟨0, e, rfl, ?_, by rw [h1, hn], h3, h4, h5, fun y v k1 k2 k3 => ?_, ?_⟩
      · simp only [Instr.findNow, hs]; simp [hn]
      · simp only [mset, if_pos hn, List.modify_zero_cons]
        exact ⟨⟨by rw [hn], h2, k1, k2, k3⟩, h6⟩
      · simp only [mdel, if_pos hn, List.eraseIdx_cons_zero]
        exact h6
    · obtain ⟨k1, k2⟩ := find_rep n l es (i + 1) h6
      have hb : (n == p.1) = false := by simpa using hn
      refine ⟨fun hm => ?_, fun x hx => ?_⟩
      · simp only [mget, if_neg hn] at hm
        simp only [Instr.findNow, hs, hb]
        exact k1 hm
      · simp only [mget, if_neg hn] at hx
        obtain ⟨j, e', q1, q2, q3, q4, q5, q6, q7, q8⟩ := k2 x hx
        refine ⟨j + 1, e', by simpa using q1, ?_, q3, q4, q5, q6, fun y v r1 r2 r3 => ?_, ?_⟩
        · simp only [Instr.findNow, hs, hb]
          rw [q2]
          congr 3
          omega
        · simp only [mset, if_neg hn, List.modify_succ_cons]
          exact ⟨⟨h1, h2, h3, h4, h5⟩, q7 y v r1 r2 r3⟩
        · simp only [mdel, if_neg hn, List.eraseIdx_cons_succ]
          exact ⟨⟨h1, h2, h3, h4, h5⟩, q8⟩
  | [], _ :: _, _, h => h.elim
  | _ :: _, [], _, h => h.elim

theorem findKey_run {k : TypeId} (hk : P.underlying k = some (.int .i64)) {n : Int} {es : List MapEntry} {r : Option (Nat × Value)} (h : Instr.findNow (.int .i64) (.int .i64 n) es 0 = some r) :
    (Instr.findKey k (.int .i64 n) es).run P w = .ok r w := by
  unfold Instr.findKey
  simp only [Sem.run_bind, run_underlying hk, Result.andThen_ok, h, Sem.run_pure]

theorem found_rep {c : Cx} {d : TD} {r : Option V} {v : Value} {b ok : Bool} (hb : r.isSome = b) (h : RepC c (r.getD (mkV d d.zero)) v.cells.toList ∧ okAgg (r.getD (mkV d d.zero)) v) :
    RepV c (xfound d ok r) (if ok = true then .tuple #[v, .bool b] else v) := by
  unfold xfound
  cases ok
  · simp only [Bool.false_eq_true, if_false]; exact RepV.of_parts h.1 h.2
  · simp only [if_true]
    refine ⟨?_, by trivial⟩
    simp only [RepC]
    refine ⟨[v, .bool b], rfl, ?_⟩
    simp only [RepVs]
    exact ⟨_, _, rfl, h.1, h.2, .bool b, [], rfl, by simp [RepC, Value.cells, hb], by trivial, rfl⟩

theorem zero_big {d : TD} {z : Value} {c : Cx} (h : zEqs z.cells.toList d.zero = true) (hl : d.zero.length = d.size) (ha : d.kind.isAgg = true) (hs : d.size ≠ 1) : RepC c (mkV d d.zero) z.cells.toList ∧ okAgg (mkV d d.zero) z := by
  have hr : Reps c d.zero z.cells.toList := zEqs_reps h
  unfold mkV
  rw [if_pos ha]
  refine ⟨by simp only [RepC]; exact hr, ?_⟩
  cases z with
  | agg cs => trivial
  | _ => have := hr.length; simp [Value.cells] at this; omega

theorem xlookup_sound (hTO : TyOK P T) {t : TypeId} {x i : V} {cx ci : Value} {ok : Bool} (hG : Good g H w) (hx : RepV (cxOf g H.length w) x cx) (hi : RepV (cxOf g H.length w) i ci) {pre : Prop} {v : V} {H' : List Ob}
    (h : xlookup T (T t) H ok x i = .val pre v H') (hp : pre) : DoneV P g H w (Instr.lookup t cx ci ok) v H' := by
  unfold xlookup at h
  split at h
  case h_2 => cases h
  rename_i k e hk
  have hT := hTO.at (t := t) (by rw [hk]; simp)
  obtain ⟨td, g1, _, g3⟩ := hT.run_und w
  have := kind_map g1 hk
  subst this
  split at h
  case h_3 => cases h
  · rename_i o n
    split at h
    case h_2 => cases h
    rename_i l ck ho
    injection h with e1 e2 e3
    subst e1 e2 e3
    obtain ⟨p1, p2, p3, p4⟩ := hp
    have hK := hTO.at (t := k) (by rw [p1]; simp)
    obtain ⟨tk, k1, _, k3⟩ := hK.run_und w
    have := kind_int k1 p1
    subst this
    have := hi.int
    subst this
    obtain ⟨b, es, q1, q2, q3⟩ := hG.map ho
    have := mapr_val hx q1
    subst this
    have hE := hTO.at p2
    obtain ⟨z, z1, z2⟩ := hE.run_zeroValue w
    obtain ⟨f1, f2⟩ := find_rep n l es.toList 0 q3
    unfold Instr.lookup
    cases hm : mget l n with
    | none =>
      have hf := findKey_run (P := P) (w := w) k3 (f1 hm)
      refine DoneV.pure_ hG (cv := if ok = true then .tuple #[z, .bool false] else z) ?_ (found_rep rfl (by exact zero_big z2 hE.zlen p3 p4))
      simp only [Sem.run_bind, run_underlying g3, Result.andThen_ok, getObj_run q2, Sem.run_pure, checkKey_int k3, hf, z1]
    | some x =>
      obtain ⟨j, en, r1, r2, r3, r4, r5, r6, _⟩ := f2 x hm
      have hf := findKey_run (P := P) (w := w) k3 r2
      refine DoneV.pure_ hG (cv := if ok = true then .tuple #[en.val, .bool true] else en.val) ?_ (found_rep rfl ⟨r5, r6⟩)
      simp only [Sem.run_bind, run_underlying g3, Result.andThen_ok, getObj_run q2, Sem.run_pure, checkKey_int k3, hf]
  · rename_i n
    injection h with e1 e2 e3
    subst e1 e2 e3
    obtain ⟨p1, p2, p3, p4⟩ := hp
    have hK := hTO.at (t := k) (by rw [p1]; simp)
    obtain ⟨tk, k1, _, k3⟩ := hK.run_und w
    have := kind_int k1 p1
    subst this
    have := hi.int
    subst this
    have hn := hx.leaf (by simp) (by simp)
    simp only [RepC] at hn
    injection hn with hn
    subst hn
    have hE := hTO.at p2
    obtain ⟨z, z1, z2⟩ := hE.run_zeroValue w
    have hf := findKey_run (P := P) (w := w) (n := n) (es := []) (r := none) k3 rfl
    unfold Instr.lookup
    refine DoneV.pure_ hG (cv := if ok = true then .tuple #[z, .bool false] else z) ?_ (found_rep rfl (by exact zero_big z2 hE.zlen p3 p4))
    simp only [Sem.run_bind, run_underlying g3, Result.andThen_ok, Sem.run_pure, checkKey_int k3, hf, z1]

/-- a map is written -/
theorem step_map (hG : Good g H w) {o b : Nat} {l : List (Int × Nat × V)} {ck : Nat} {es : Array MapEntry} (ho : H[o]? = some (.map l ck)) (hk : g o = some ⟨0, some b, 0, 0⟩) (hb : w.heap[b]? = some (.map es ck)) (l' : List (Int × Nat × V)) (ck' : Nat) (es' : Array MapEntry)
    (hr : ∀ c', Mono (cxOf g H.length w) c' → RepM c' l' es'.toList) :
    Good g (H.set o (.map l' ck')) (w.putObj b (.map es' ck')) ∧ Ext g H.length w g (H.set o (.map l' ck')).length (w.putObj b (.map es' ck')) := by
  have hlt := (Array.getElem?_eq_some_iff.1 hb).1
  have hlo := (List.getElem?_eq_some_iff.1 ho).1
  exact step_one hG o g (H.set o (.map l' ck')) (w.putObj b (.map es' ck')) rfl rfl rfl
    (fun o' ho' => List.getElem?_set_ne (Ne.symm ho')) (fun _ _ => rfl) (by simp) (by simp [World.putObj])
    (fun b' _ hb' => World.putObj_heap_other (fun e => hb' _ hk (by rw [e])))
    (fun k' b' hk' hb' => .inr ⟨k', hk', hb'⟩)
    (fun _ k' hk' => ⟨k', hk', Nat.le_refl _, fun _ => rfl⟩)
    (fun m => by
      rw [List.getElem?_set_self hlo]
      exact ⟨b, es', hk, by simp [World.putObj, hlt], hr _ m⟩)

theorem xmapUpdate_sound (hTO : TyOK P T) {t : TypeId} {m i x : V} {cm ci cx : Value} (hG : Good g H w) (hm : RepV (cxOf g H.length w) m cm) (hi : RepV (cxOf g H.length w) i ci) (hx : RepV (cxOf g H.length w) x cx) {pre : Prop} {v : V} {H' : List Ob}
    (h : xmapUpdate T (T t) H m i x = .val pre v H') (hp : pre) : v = .dead ∧ ∃ w' g', (Instr.mapUpdate t cm ci cx).run P w = .ok () w' ∧ Good g' H' w' ∧ Ext g H.length w g' H'.length w' := by
  unfold xmapUpdate at h
  split at h
  case h_2 => cases h
  rename_i k e hk
  have hT := hTO.at (t := t) (by rw [hk]; simp)
  obtain ⟨td, g1, _, g3⟩ := hT.run_und w
  have := kind_map g1 hk
  subst this
  split at h
  case h_2 => cases h
  rename_i o n
  split at h
  case h_2 => cases h
  rename_i l ck ho
  injection h with e1 e2 e3
  subst e1 e2 e3
  obtain ⟨p1, p2⟩ := hp
  have hK := hTO.at (t := k) (by rw [p1]; simp)
  obtain ⟨tk, k1, _, k3⟩ := hK.run_und w
  have := kind_int k1 p1
  subst this
  have := hi.int
  subst this
  obtain ⟨b, es, q1, q2, q3⟩ := hG.map ho
  have := mapr_val hm q1
  subst this
  obtain ⟨f1, f2⟩ := find_rep n l es.toList 0 q3
  have hxr : RepC (cxOf g H.length w) x cx.cells.toList ∧ okAgg x cx := by cases x <;> first | exact p2.elim | exact hx
  refine ⟨rfl, ?_⟩
  unfold Instr.mapUpdate mput mclk
  cases hg : mget l n with
  | none =>
    have hf := findKey_run (P := P) (w := w) k3 (f1 hg)
    obtain ⟨s1, s2⟩ := step_map hG ho q1 q2 (l ++ [(n, ck, x)]) (ck + 1) (es.push { key := .int .i64 n, val := cx, born := ck }) (fun c' mo => by
      rw [Array.toList_push]
      have key : ∀ (l : List (Int × Nat × V)) (es : List MapEntry), RepM (cxOf g H.length w) l es → RepM c' (l ++ [(n, ck, x)]) (es ++ [{ key := .int .i64 n, val := cx, born := ck }]) := by
        intro l
        induction l with
        | nil => intro es h; cases es with
          | nil => exact ⟨⟨rfl, rfl, p2, RepC.mono mo _ _ hxr.1, hxr.2⟩, trivial⟩
          | cons _ _ => exact h.elim
        | cons p l ih => intro es h; cases es with
          | nil => exact h.elim
          | cons e es => exact ⟨⟨h.1.1, h.1.2.1, h.1.2.2.1, RepC.mono mo _ _ h.1.2.2.2.1, h.1.2.2.2.2⟩, ih es h.2⟩
      exact key l es.toList q3)
    refine ⟨_, g, ?_, s1, s2⟩
    simp only [Sem.run_bind, run_underlying g3, Result.andThen_ok, getObj_run q2, checkKey_int k3, hf]
    exact setObj_run _ q2
  | some y =>
    obtain ⟨j, en, r1, r2, r3, r4, r5, r6, r7, r8⟩ := f2 y hg
    have hf := findKey_run (P := P) (w := w) k3 r2
    obtain ⟨s1, s2⟩ := step_map hG ho q1 q2 (mset l n x) ck (es.modify j fun e => { e with key := .int .i64 n, val := cx }) (fun c' mo => by
      rw [Array.toList_modify]
      exact (r7 x cx p2 hxr.1 hxr.2).mono mo)
    refine ⟨_, g, ?_, s1, s2⟩
    have hke : Instr.keyThatStays (.int .i64 n) (.int .i64 n) = pure (.int .i64 n) := by
      unfold Instr.keyThatStays
      rw [if_pos]
      simp [Instr.sameBits]
    have hes : es[j]? = some en := by rw [← Array.getElem?_toList]; exact r1
    simp only [Sem.run_bind, run_underlying g3, Result.andThen_ok, getObj_run q2, checkKey_int k3, hf, Nat.zero_add, hes, Option.map_some, Option.getD_some, r3, hke, Sem.run_pure]
    exact setObj_run _ q2

theorem xdelete_sound (hTO : TyOK P T) {ts : Array TypeId} {t ty : TypeId} (ht : ts[0]? = some t) {m i : V} {cm ci : Value} (hG : Good g H w) (hm : RepV (cxOf g H.length w) m cm) (hi : RepV (cxOf g H.length w) i ci) {pre : Prop} {v : V} {H' : List Ob}
    (h : xdelete T (T t) H m i = .val pre v H') (hp : pre) : DoneV P g H w (Builtin.delete_ ts ty #[cm, ci]) v H' := by
  unfold xdelete at h
  split at h
  case h_2 => cases h
  rename_i k e hk
  have hT := hTO.at (t := t) (by rw [hk]; simp)
  obtain ⟨td, g1, _, g3⟩ := hT.run_und w
  have := kind_map g1 hk
  subst this
  split at h
  case h_2 => cases h
  rename_i o n
  split at h
  case h_2 => cases h
  rename_i l ck ho
  injection h with e1 e2 e3
  subst e1 e2 e3
  have hK := hTO.at (t := k) (by rw [hp]; simp)
  obtain ⟨tk, k1, _, k3⟩ := hK.run_und w
  have := kind_int k1 hp
  subst this
  have := hi.int
  subst this
  obtain ⟨b, es, q1, q2, q3⟩ := hG.map ho
  have := mapr_val hm q1
  subst this
  obtain ⟨f1, f2⟩ := find_rep n l es.toList 0 q3
  have hdel : ∀ l : List (Int × Nat × V), mget l n = none → mdel l n = l := by
    intro l
    induction l with
    | nil => intro _; rfl
    | cons p l ih =>
      intro h
      by_cases e : n = p.1
      · simp [mget, e] at h
      · simp only [mget, if_neg e] at h
        simp only [mdel, if_neg e, ih h]
  have hu : ∀ {g' n' w'}, RepV (cxOf g' n' w') (.tuple []) (.tuple #[]) := ⟨by simp only [RepC]; exact ⟨[], rfl, rfl⟩, trivial⟩
  unfold Builtin.delete_
  cases hg : mget l n with
  | none =>
    have hf := findKey_run (P := P) (w := w) k3 (f1 hg)
    obtain ⟨s1, s2⟩ := step_map hG ho q1 q2 (mdel l n) ck es (fun c' mo => by rw [hdel l hg]; exact q3.mono mo)
    refine ⟨_, g, .tuple #[], ?_, s1, s2, hu⟩
    simp only [ht, List.getElem?_toArray, List.getElem?_cons_zero, List.getElem?_cons_succ, Sem.run_bind, run_underlying g3, Result.andThen_ok, getObj_run q2, checkKey_int k3, hf, setObj_run _ q2, Sem.run_pure]
  | some y =>
    obtain ⟨j, en, r1, r2, r3, r4, r5, r6, r7, r8⟩ := f2 y hg
    have hf := findKey_run (P := P) (w := w) k3 r2
    obtain ⟨s1, s2⟩ := step_map hG ho q1 q2 (mdel l n) ck (es.eraseIdxIfInBounds j) (fun c' mo => by
      rw [Array.toList_eraseIdxIfInBounds]
      exact r8.mono mo)
    refine ⟨_, g, .tuple #[], ?_, s1, s2, hu⟩
    simp only [ht, List.getElem?_toArray, List.getElem?_cons_zero, List.getElem?_cons_succ, Sem.run_bind, run_underlying g3, Result.andThen_ok, getObj_run q2, checkKey_int k3, hf, Nat.zero_add, setObj_run _ q2, Sem.run_pure]

theorem mapr_new {o b n : Nat} {w' : World} (ho : o < n) (hk : g o = some ⟨0, some b, 0, 0⟩) : RepV (cxOf g n w') (.mapr o) (.map (some b)) := by
  refine RepV.mk_leaf ?_ (by simp) (by simp)
  simp only [RepC]
  refine ⟨has_key ho hk (.inl (by simp)), _, rfl, rfl, fun k b' h1 _ h3 => ?_⟩
  have h1 : g o = some k := h1
  rw [hk] at h1
  injection h1 with h1
  subst h1
  injection h3 with h3
  subst h3
  rfl
theorem ref_new {o b n : Nat} {w' : World} (ho : o < n) (hk : g o = some ⟨0, some b, 0, 0⟩) : RepV (cxOf g n w') (.ref o 0) (.pointer (some ⟨b, 0, none⟩)) := by
  refine RepV.mk_leaf ?_ (by simp) (by simp)
  simp only [RepC]
  refine ⟨has_key ho hk (.inl (by simp)), _, rfl, rfl, fun k b' h1 _ h3 => ?_⟩
  have h1 : g o = some k := h1
  rw [hk] at h1
  injection h1 with h1
  subst h1
  injection h3 with h3
  subst h3
  rfl

theorem makeMap_sound {t : TypeId} (hG : Good g H w) : DoneV P g H w (Instr.makeMap t none) (.mapr H.length) (H ++ [.map [] 0]) := by
  have := step_new hG (.map [] 0) (.map #[] 0) ⟨0, some w.heap.size, 0, 0⟩ rfl (fun g' hg' m => ⟨w.heap.size, #[], rfl, heap_pushW_new _ _, trivial⟩)
  refine ⟨_, _, .map (some w.heap.size), ?_, this.1, by rw [List.length_append]; exact this.2, mapr_new (by simp) (setKey_same _ _ _)⟩
  simp [Instr.makeMap, run_newObj, pushW]

/-- a copy of a map, as a new one -/
theorem step_map_new (hG : Good g H w) {l : List (Int × Nat × V)} {ck : Nat} {es : Array MapEntry} (hr : RepM (cxOf g H.length w) l es.toList) :
    Good (setKey g H.length (some ⟨0, some w.heap.size, 0, 0⟩)) (H ++ [.map l ck]) (pushW w (.map es ck)) ∧ Ext g H.length w (setKey g H.length (some ⟨0, some w.heap.size, 0, 0⟩)) (H ++ [Ob.map l ck]).length (pushW w (.map es ck)) ∧
    RepV (cxOf (setKey g H.length (some ⟨0, some w.heap.size, 0, 0⟩)) (H ++ [Ob.map l ck]).length (pushW w (.map es ck))) (.mapr H.length) (.map (some w.heap.size)) := by
  have := step_new hG (.map l ck) (.map es ck) ⟨0, some w.heap.size, 0, 0⟩ rfl (fun g' hg' m => ⟨w.heap.size, es, rfl, heap_pushW_new _ _, hr.mono m⟩)
  exact ⟨this.1, by rw [List.length_append]; exact this.2, mapr_new (by simp) (setKey_same _ _ _)⟩

theorem xrange_sound (hTO : TyOK P T) {t : TypeId} {m : V} {cm : Value} (hG : Good g H w) (hm : RepV (cxOf g H.length w) m cm) {pre : Prop} {v : V} {H' : List Ob}
    (h : xrange (T t) H m = .val pre v H') (hp : pre) : DoneV P g H w (Instr.range t cm) v H' := by
  unfold xrange at h
  split at h
  case h_2 => cases h
  rename_i k e hk
  have hT := hTO.at (t := t) (by rw [hk]; simp)
  obtain ⟨td, g1, _, g3⟩ := hT.run_und w
  have := kind_map g1 hk
  subst this
  split at h
  case h_2 => cases h
  rename_i o
  split at h
  case h_2 => cases h
  rename_i l ck ho
  injection h with e1 e2 e3
  subst e1 e2 e3
  obtain ⟨b, es, q1, q2, q3⟩ := hG.map ho
  have hv := mapr_val hm q1
  subst hv
  have := step_new hG (.iter o ck [] ck) (.mapIter (some b) ck #[] ck) ⟨0, some w.heap.size, 0, 0⟩ rfl (fun g' hg' mo => ⟨w.heap.size, b, rfl, heap_pushW_new _ _, RepC.mono mo _ _ (hm.leaf (by simp) (by simp))⟩)
  refine ⟨_, _, .pointer (some ⟨w.heap.size, 0, none⟩), ?_, this.1, by rw [List.length_append]; exact this.2, ref_new (by simp) (setKey_same _ _ _)⟩
  unfold Instr.range
  simp only [Sem.run_bind, run_underlying g3, Result.andThen_ok, getObj_run q2, Sem.run_pure, run_newObj, pushW]

theorem Good.iter (hG : Good g H w) {it o since last : Nat} {seen : List Nat} (h : H[it]? = some (.iter o since seen last)) : ∃ b mb, g it = some ⟨0, some b, 0, 0⟩ ∧ w.heap[b]? = some (.mapIter (some mb) since seen.toArray last) ∧ RepC (cxOf g H.length w) (.mapr o) [.map (some mb)] := by
  have := hG.ob it; rw [h] at this; exact this
theorem ref_val {c : Cx} {o b : Nat} {cv : Value} (h : RepV c (.ref o 0) cv) (hk : c.key o = some ⟨0, some b, 0, 0⟩) : cv = .pointer (some ⟨b, 0, none⟩) := by
  have hl := h.leaf (by simp) (by simp)
  simp only [RepC] at hl
  obtain ⟨_, v, hv, _, h⟩ := hl
  injection hv with hv
  subst hv
  exact h _ b hk rfl rfl
theorem mapr_blk {c : Cx} {o b mb : Nat} (h : RepC c (.mapr o) [.map (some mb)]) (hk : c.key o = some ⟨0, some b, 0, 0⟩) : mb = b := by
  simp only [RepC] at h
  obtain ⟨_, v, hv, _, h⟩ := h
  injection hv with hv
  subst hv
  have := h _ b hk rfl rfl
  injection this with this
  injection this with this
theorem getObj_iter {b : Nat} {m : Option Nat} {s l : Nat} {seen : Array Nat} (hb : w.heap[b]? = some (.mapIter m s seen l)) : (getObj b).run P w = .ok (.mapIter m s seen l) w := by simp [getObj, Sem.run, hb]
theorem setObj_iter {b : Nat} {m : Option Nat} {s l : Nat} {seen : Array Nat} (y : Obj) (hb : w.heap[b]? = some (.mapIter m s seen l)) : (setObj b y).run P w = .ok () (w.putObj b y) := by simp [setObj, Sem.run, hb, World.putObj]

theorem find_born {c : Cx} (k : Nat) : ∀ (l : List (Int × Nat × V)) (es : List MapEntry), RepM c l es → (l.find? (fun p => p.2.1 == k) = none → es.find? (fun e => e.born == k) = none) ∧
    ∀ p, l.find? (fun p => p.2.1 == k) = some p → ∃ e, es.find? (fun e => e.born == k) = some e ∧ e.key = .int .i64 p.1 ∧ p.2.2.storable ∧ RepC c p.2.2 e.val.cells.toList ∧ okAgg p.2.2 e.val
  | [], [], _ => ⟨fun _ => rfl, fun p h => by simp at h⟩
  | q :: l, e :: es, h => by
    obtain ⟨⟨h1, h2, h3, h4, h5⟩, h6⟩ := h
    obtain ⟨k1, k2⟩ := find_born k l es h6
    by_cases hb : q.2.1 = k
    · refine ⟨fun hn => by simp [hb] at hn, fun p hp => ?_⟩
      rw [List.find?_cons_of_pos (by simpa using hb)] at hp
      injection hp with hp
      subst hp
      exact ⟨e, by rw [List.find?_cons_of_pos (by rw [h2]; simpa using hb)], h1, h3, h4, h5⟩
    · have n1 : (q :: l).find? (fun p => p.2.1 == k) = l.find? (fun p => p.2.1 == k) := by simp [List.find?_cons, hb]
      have n2 : (e :: es).find? (fun e => e.born == k) = es.find? (fun e => e.born == k) := by simp [List.find?_cons, h2, hb]
      rw [n1, n2]
      exact ⟨k1, k2⟩
  | [], _ :: _, h => h.elim
  | _ :: _, [], h => h.elim

theorem xentry_sound {x : V} {cx : Value} (hG : Good g H w) (hx : RepV (cxOf g H.length w) x cx) {pre : Prop} {v : V} {H' : List Ob}
    (h : xentry H x = .val pre v H') (hp : pre) : DoneV P g H w (Instr.entry cx) v H' := by
  unfold xentry at h
  split at h
  case h_2 => cases h
  rename_i it
  split at h
  case h_2 => cases h
  rename_i o since seen last hit
  split at h
  case h_2 => cases h
  rename_i l ck ho
  split at h
  case h_2 => cases h
  rename_i p hf
  injection h with e1 e2 e3
  subst e1 e2 e3
  obtain ⟨b, es, q1, q2, q3⟩ := hG.map ho
  obtain ⟨bi, mb, i1, i2, i3⟩ := hG.iter hit
  have := ref_val hx i1
  subst this
  have := mapr_blk i3 q1
  subst this
  obtain ⟨e, r1, r2, r3, r4, r5⟩ := (find_born _ l es.toList q3).2 p hf
  have hback : seen.toArray.back? = some (seen.getLastD 0) := by
    obtain ⟨_, hne⟩ := hp
    rw [List.back?_toArray, List.getLast?_eq_some_getLast hne, List.getLastD_eq_getLast?, List.getLast?_eq_some_getLast hne]
    rfl
  have hfind : es.find? (fun e => e.born == seen.getLastD 0) = some e := by rw [← Array.find?_toList]; exact r1
  refine DoneV.pure_ hG (cv := .tuple #[.int .i64 p.1, e.val]) ?_ ⟨?_, trivial⟩
  · unfold Instr.entry
    simp only [Sem.run_bind, getObj_iter i2, Result.andThen_ok, hback, Sem.run_pure, getObj_run q2]
    have : (ck != last) = false := by simp [hp.1]
    simp only [this, hfind, Bool.false_eq_true, if_false, Sem.run_pure, r2, Sem.run_bind, Result.andThen_ok]
  · simp only [RepC]
    refine ⟨[.int .i64 p.1, e.val], rfl, ?_⟩
    simp only [RepVs]
    exact ⟨_, _, rfl, by simp [RepC, Value.cells], trivial, _, _, rfl, r4, r5, rfl⟩

/-- the step of an iterator -/
theorem next_sound (hG : Good g H w) {it o since last ck : Nat} {seen : List Nat} {l : List (Int × Nat × V)} (hit : H[it]? = some (.iter o since seen last)) (ho : H[o]? = some (.map l ck)) (hok : seen = [] ∨ l = [] ∨ ∃ p ∈ l, p.2.1 < last)
    {cx : Value} (hx : RepV (cxOf g H.length w) (.ref it 0) cx) (ty : TypeId) :
    ∃ cv w' g' v H', (Instr.next cx false ty).run P w = .ok cv w' ∧ Good g' H' w' ∧ Ext g H.length w g' H'.length w' ∧ RepV (cxOf g' H'.length w') v cv ∧
      ((∃ p ∈ l, p.2.1 ∉ seen ∧ v = .tuple [.bool true, .int .i64 p.1, p.2.2] ∧ H' = H.set it (.iter o since (seen ++ [p.2.1]) ck)) ∨ ((∀ p ∈ l, p.2.1 < since → p.2.1 ∈ seen) ∧ v = .tuple [.bool false] ∧ H' = H)) := by
  obtain ⟨b, es, q1, q2, q3⟩ := hG.map ho
  obtain ⟨bi, mb, i1, i2, i3⟩ := hG.iter hit
  have := ref_val hx i1
  subst this
  have := mapr_blk i3 q1
  subst this
  have hmem : ∀ e ∈ es.toList, ∃ p ∈ l, e.key = .int .i64 p.1 ∧ e.born = p.2.1 ∧ RepC (cxOf g H.length w) p.2.2 e.val.cells.toList ∧ okAgg p.2.2 e.val := by
    have key : ∀ (l : List (Int × Nat × V)) (es : List MapEntry), RepM (cxOf g H.length w) l es → ∀ e ∈ es, ∃ p ∈ l, e.key = .int .i64 p.1 ∧ e.born = p.2.1 ∧ RepC (cxOf g H.length w) p.2.2 e.val.cells.toList ∧ okAgg p.2.2 e.val := by
      intro l
      induction l with
      | nil => intro es h e he; cases es with
        | nil => cases he
        | cons _ _ => exact h.elim
      | cons p l ih => intro es h e he; cases es with
        | nil => cases he
        | cons e' es =>
          rcases List.mem_cons.1 he with rfl | he
          · exact ⟨p, by simp, h.1.1, h.1.2.1, h.1.2.2.2.1, h.1.2.2.2.2⟩
          · obtain ⟨p', k1, k2⟩ := ih es h.2 e he
            exact ⟨p', by simp [k1], k2⟩
    exact key l es.toList q3
  have hmem2 : ∀ p ∈ l, ∃ e ∈ es.toList, e.born = p.2.1 := by
    have key : ∀ (l : List (Int × Nat × V)) (es : List MapEntry), RepM (cxOf g H.length w) l es → ∀ p ∈ l, ∃ e ∈ es, e.born = p.2.1 := by
      intro l
      induction l with
      | nil => intro es h p hp; cases hp
      | cons p l ih => intro es h p' hp; cases es with
        | nil => exact h.elim
        | cons e' es =>
          rcases List.mem_cons.1 hp with rfl | hp
          · exact ⟨e', by simp, h.1.2.1⟩
          · obtain ⟨e, k1, k2⟩ := ih es h.2 p' hp
            exact ⟨e, by simp [k1], k2⟩
    exact key l es.toList q3
  let left := es.filter fun e => !seen.toArray.contains e.born
  let old := left.filter (·.born < since)
  let new := left.filter (·.born ≥ since)
  let cand : Array (Option MapEntry) := (if old.isEmpty then #[none] else #[]) ++ (old ++ new).map some
  have hpos : 0 < cand.size := by
    show 0 < ((if old.isEmpty then #[none] else #[]) ++ (old ++ new).map some : Array (Option MapEntry)).size
    cases ho' : old.isEmpty with
    | true => rw [if_pos rfl, Array.size_append]; show 0 < 1 + _; omega
    | false =>
      have : 0 < old.size := by
        rw [Nat.pos_iff_ne_zero]
        intro e
        rw [Array.isEmpty_iff_size_eq_zero.2 e] at ho'; cases ho'
      simp; omega
  have hun : (!seen.toArray.isEmpty && !es.isEmpty && es.all (·.born ≥ last)) = false := by
    rcases hok with rfl | rfl | ⟨p, hp, hlt⟩
    · rfl
    · have : es.toList = [] := by
        cases h : es.toList with
        | nil => rfl
        | cons _ _ => rw [h] at q3; exact q3.elim
      have : es = #[] := by cases es; simp at this; subst this; rfl
      subst this; simp
    · obtain ⟨e, he, hb⟩ := hmem2 p hp
      have : es.all (·.born ≥ last) = false := by
        rw [Bool.eq_false_iff]
        intro hall
        rw [← Array.all_toList, List.all_eq_true] at hall
        have := hall e he
        simp [hb] at this
        omega
      rw [this, Bool.and_false]
  obtain ⟨k, w1, hch, hk, hw1⟩ : ∃ k w1, (choose (.mapNext cand.size)).run P w = .ok k w1 ∧ k < cand.size ∧ (w1 = w ∨ ∃ n, w1 = { w with drawn := n }) := by
    rw [run_choose]
    split
    · exact ⟨0, w, rfl, hpos, .inl rfl⟩
    · exact ⟨_, _, rfl, Nat.mod_lt _ hpos, .inr ⟨_, rfl⟩⟩
  have hd : Good g H w1 ∧ Ext g H.length w g H.length w1 := by
    rcases hw1 with rfl | ⟨n, rfl⟩
    · exact ⟨hG, Ext.refl _ _ _⟩
    · exact step_drawn hG n
  have i2' : w1.heap[bi]? = some (.mapIter (some mb) since seen.toArray last) := by rcases hw1 with rfl | ⟨n, rfl⟩ <;> exact i2
  have hrun : ∀ c, cand[k]? = some c → (Instr.next (.pointer (some ⟨bi, 0, none⟩)) false ty).run P w =
      (match c with
       | some e => (do setObj bi (.mapIter (some mb) since (seen.toArray.push e.born) ck); pure (Value.tuple #[.bool true, e.key, e.val]) : Sem Value).run P w1
       | none => .ok (.tuple #[.bool false]) w1) := by
    intro c hc
    unfold Instr.next
    simp only [Sem.run_bind, getObj_iter i2, Result.andThen_ok, getObj_run q2, hun, Bool.false_eq_true, if_false, Sem.run_pure]
    have hch' := hch
    simp only [cand, old, new, left] at hch' hc
    rw [hch']
    simp only [Result.andThen_ok, hc]
    cases c <;> simp
  have hc : cand[k]? = some cand[k] := Array.getElem?_eq_getElem hk
  have hr := hrun _ hc
  cases hck : cand[k] with
  | none =>
    rw [hck] at hr
    have hold : old.isEmpty = true := by
      cases ho' : old.isEmpty with
      | true => rfl
      | false =>
        exfalso
        have hm : (none : Option MapEntry) ∈ cand := by rw [← hck]; exact Array.getElem_mem hk
        simp only [cand, ho', Bool.false_eq_true, if_false] at hm
        simp at hm
    refine ⟨_, w1, g, .tuple [.bool false], H, hr, hd.1, hd.2, ⟨by simp only [RepC]; exact ⟨[.bool false], rfl, by simp only [RepVs]; exact ⟨_, _, rfl, by simp [RepC, Value.cells], trivial, rfl⟩⟩, trivial⟩, .inr ⟨fun p hp hlt => ?_, rfl, rfl⟩⟩
    obtain ⟨e, he, hb⟩ := hmem2 p hp
    by_cases hs : p.2.1 ∈ seen
    · exact hs
    · exfalso
      have hin : e ∈ old := by
        simp only [old, left, Array.mem_filter]
        exact ⟨⟨by simpa using he, by simpa [hb] using hs⟩, by simpa [hb] using hlt⟩
      have h0 : old.size = 0 := Array.isEmpty_iff_size_eq_zero.1 hold
      have := Array.size_pos_of_mem hin
      omega
  | some e =>
    rw [hck] at hr
    have hin : e ∈ left := by
      have hm : some e ∈ cand := by rw [← hck]; exact Array.getElem_mem hk
      simp only [cand, Array.mem_append, Array.mem_map] at hm
      rcases hm with hm | ⟨e', hm, he'⟩
      · split at hm <;> simp at hm
      · injection he' with he'
        subst he'
        rcases hm with hm | hm
        · simp only [old, Array.mem_filter] at hm; exact hm.1
        · simp only [new, Array.mem_filter] at hm; exact hm.1
    simp only [left, Array.mem_filter] at hin
    obtain ⟨p, hp, r1, r2, r3, r4⟩ := hmem e (by simpa using hin.1)
    have hns : p.2.1 ∉ seen := by have := hin.2; simpa [r2] using this
    have hlt := (Array.getElem?_eq_some_iff.1 i2').1
    have hlo := (List.getElem?_eq_some_iff.1 hit).1
    have hst := step_one hd.1 it g (H.set it (.iter o since (seen ++ [p.2.1]) ck)) (w1.putObj bi (.mapIter (some mb) since (seen ++ [p.2.1]).toArray ck)) rfl rfl rfl
      (fun o' ho' => List.getElem?_set_ne (Ne.symm ho')) (fun _ _ => rfl) (by simp) (by simp [World.putObj])
      (fun b' _ hb' => World.putObj_heap_other (fun e => hb' _ i1 (by rw [e])))
      (fun k' b' hk' hb' => .inr ⟨k', hk', hb'⟩)
      (fun _ k' hk' => ⟨k', hk', Nat.le_refl _, fun _ => rfl⟩)
      (fun m => by
        rw [List.getElem?_set_self hlo]
        refine ⟨bi, mb, i1, by simp [World.putObj, hlt], RepC.mono (hd.2.mono.trans m) _ _ i3⟩)
    refine ⟨.tuple #[.bool true, .int .i64 p.1, e.val], _, g, .tuple [.bool true, .int .i64 p.1, p.2.2], _, ?_, hst.1, hd.2.trans hst.2, ?_, .inl ⟨p, hp, hns, rfl, rfl⟩⟩
    · rw [hr]
      simp only [Sem.run_bind, setObj_iter _ i2', Result.andThen_ok, Sem.run_pure, r1, r2, List.push_toArray]
    · have m := (hd.2.trans hst.2).mono
      refine ⟨?_, trivial⟩
      simp only [RepC]
      refine ⟨[.bool true, .int .i64 p.1, e.val], rfl, ?_⟩
      simp only [RepVs]
      exact ⟨_, _, rfl, by simp [RepC, Value.cells], trivial, _, _, rfl, by simp [RepC, Value.cells], trivial, _, _, rfl, RepC.mono m _ _ r3, r4, rfl⟩

theorem xmapLen_sound (hTO : TyOK P T) {t ty : TypeId} {k e : Nat} (hk : (T t).kind = .map k e) {x : V} {cx : Value} (hG : Good g H w) (hx : RepV (cxOf g H.length w) x cx) {pre : Prop} {v : V} {H' : List Ob}
    (h : xmapLen H x = .val pre v H') (hp : pre) : DoneV P g H w (Builtin.len_ #[t] ty #[cx]) v H' := by
  have hT := hTO.at (t := t) (by rw [hk]; simp)
  obtain ⟨td, g1, _, g3⟩ := hT.run_und w
  have := kind_map g1 hk
  subst this
  unfold xmapLen at h
  split at h
  case h_3 => cases h
  · rename_i o
    split at h
    case h_2 => cases h
    rename_i l ck ho
    injection h with e1 e2 e3
    subst e1 e2 e3
    obtain ⟨b, es, q1, q2, q3⟩ := hG.map ho
    have hv := mapr_val hx q1
    subst hv
    refine DoneV.pure_ hG (cv := .int .i64 l.length) ?_ RepV.mk_int
    unfold Builtin.len_
    have : es.size = l.length := by have := q3.length; simpa using this
    simp only [List.getElem?_toArray, List.getElem?_cons_zero, Sem.run_bind, run_underlying g3, Result.andThen_ok, getObj_run q2, Sem.run_pure, this]
    rfl
  · injection h with e1 e2 e3
    subst e1 e2 e3
    have hn := hx.leaf (by simp) (by simp)
    simp only [RepC] at hn
    injection hn with hn
    subst hn
    refine DoneV.pure_ hG (cv := .int .i64 0) ?_ RepV.mk_int
    unfold Builtin.len_
    simp only [List.getElem?_toArray, List.getElem?_cons_zero, Sem.run_bind, run_underlying g3, Result.andThen_ok, Sem.run_pure]
    rfl

/-! ### against nil -/
theorem run_eq_map_nil (d : Nat) (t a b : TypeId) (p : Option Nat) (h : P.underlying t = some (.map a b)) : (Op.equalIn (d + 1) t (.map p) (.map none)).run P w = .ok p.isNone w := by
  simp only [Op.equalIn, Sem.run_bind, run_underlying h, Result.andThen_ok]
  cases p <;> rfl
theorem run_eq_slice_nil (d : Nat) (t e : TypeId) (p : Option Addr) (n c n' c' : Nat) (h : P.underlying t = some (.slice e)) : (Op.equalIn (d + 1) t (.slice p n c) (.slice none n' c')).run P w = .ok p.isNone w := by
  simp only [Op.equalIn, Sem.run_bind, run_underlying h, Result.andThen_ok]
  cases p <;> rfl

theorem xnilm_sound (hTO : TyOK P T) {t : TypeId} {op : BinOp} {x : V} {cx cy : Value} {ox oy : Operand} (hG : Good g H w) (hx : RepV (cxOf g H.length w) x cx) (hy : RepV (cxOf g H.length w) .nilm cy) {pre : Prop} {v : V} {H' : List Ob}
    (h : xnilm (T t) H op x = .val pre v H') (hp : pre) : DoneV P g H w (do eqGuard op t ox oy cx cy; binOp op t cx cy) v H' := by
  have hn := hy.leaf (by simp) (by simp)
  simp only [RepC] at hn
  injection hn with hn
  subst hn
  unfold xnilm at h
  split at h
  case h_2 => cases h
  rename_i k e hk
  have hT := hTO.at (t := t) (by rw [hk]; simp)
  obtain ⟨td, g1, _, g3⟩ := hT.run_und w
  have := kind_map g1 hk
  subst this
  have key : ∀ p : Option Nat, ∀ q, p.isNone = q → DoneV P g H w (do eqGuard .eql t ox oy (.map p) (.map none); binOp .eql t (.map p) (.map none)) (.bool q) H ∧ DoneV P g H w (do eqGuard .neq t ox oy (.map p) (.map none); binOp .neq t (.map p) (.map none)) (.bool (!q)) H := by
    rintro p q rfl
    have q1 : (Op.equal t (.map p) (.map none)).run P w = .ok p.isNone w := run_eq_map_nil 9999 t k e p g3
    refine ⟨⟨w, g, _, ?_, hG, Ext.refl _ _ _, RepV.mk_bool⟩, ⟨w, g, _, ?_, hG, Ext.refl _ _ _, RepV.mk_bool⟩⟩
    · rw [Sem.run_bind, eqGuard_ok (by simp) (by simp)]
      simp [binOp, q1]
    · rw [Sem.run_bind, eqGuard_ok (by simp) (by simp)]
      simp [binOp, q1]
  split at h
  case h_3 => cases h
  · rename_i o
    have hv : (∃ l ck, H[o]? = some (.map l ck)) → ∃ b, cx = .map (some b) := by
      rintro ⟨l, ck, ho⟩
      obtain ⟨b, es, q1, q2, q3⟩ := hG.map ho
      exact ⟨b, mapr_val hx q1⟩
    split at h
    case h_3 => cases h
    · injection h with e1 e2 e3
      subst e1 e2 e3
      obtain ⟨b, rfl⟩ := hv hp
      exact (key _ _ rfl).1
    · injection h with e1 e2 e3
      subst e1 e2 e3
      obtain ⟨b, rfl⟩ := hv hp
      exact (key _ _ rfl).2
  · have hn := hx.leaf (by simp) (by simp)
    simp only [RepC] at hn
    injection hn with hn
    subst hn
    split at h
    case h_3 => cases h
    · injection h with e1 e2 e3
      subst e1 e2 e3
      exact (key _ _ rfl).1
    · injection h with e1 e2 e3
      subst e1 e2 e3
      exact (key _ _ rfl).2

theorem xnils_val {d : TD} {op : BinOp} {x : V} {pre : Prop} {v : V} {H' : List Ob} : xnils d H op x ≠ .val pre v H' := by
  unfold xnils xmaybe; (repeat' split) <;> simp
theorem xnils_call {d : TD} {op : BinOp} {x : V} {f args} : xnils d H op x ≠ .call f args := by
  unfold xnils xmaybe; (repeat' split) <;> simp
theorem xnils_ycall {d : TD} {op : BinOp} {x : V} {f args} : xnils d H op x ≠ .ycall f args := by
  unfold xnils xmaybe; (repeat' split) <;> simp

theorem xmaybe_inv {op : BinOp} {a b : Prop} {pre p : Prop} {f : Bool → V} {H' : List Ob} (h : xmaybe op a b H = .maybe pre p f H') : pre = a ∧ p = b ∧ H' = H ∧ ((op = .eql ∧ f = fun b => .bool b) ∨ (op = .neq ∧ f = fun b => .bool (!b))) := by
  unfold xmaybe at h
  split at h
  · injection h with e1 e2 e3 e4; exact ⟨e1.symm, e2.symm, e4.symm, .inl ⟨rfl, e3.symm⟩⟩
  · injection h with e1 e2 e3 e4; exact ⟨e1.symm, e2.symm, e4.symm, .inr ⟨rfl, e3.symm⟩⟩
  · cases h
theorem xnils_sound (hTO : TyOK P T) {t : TypeId} {op : BinOp} {x : V} {cx : Value} {ox oy : Operand} {n' c' : Nat} (hG : Good g H w) (hx : RepV (cxOf g H.length w) x cx) {pre p : Prop} {f : Bool → V} {H' : List Ob}
    (h : xnils (T t) H op x = .maybe pre p f H') (hp : pre) : ∃ b, (p → b = false) ∧ DoneV P g H w (do eqGuard op t ox oy cx (.slice none n' c'); binOp op t cx (.slice none n' c')) (f b) H' := by
  unfold xnils at h
  split at h
  case h_2 => cases h
  rename_i e hk
  have hT := hTO.at (t := t) (by rw [hk]; simp)
  obtain ⟨td, g1, _, g3⟩ := hT.run_und w
  have := kind_slice g1 hk
  subst this
  have key : ∀ (a : Option Addr) (n c : Nat), ((op = .eql ∧ f = fun b => .bool b) ∨ (op = .neq ∧ f = fun b => .bool (!b))) → DoneV P g H w (do eqGuard op t ox oy (.slice a n c) (.slice none n' c'); binOp op t (.slice a n c) (.slice none n' c')) (f a.isNone) H := by
    intro a n c hop
    have q1 : (Op.equal t (.slice a n c) (.slice none n' c')).run P w = .ok a.isNone w := run_eq_slice_nil 9999 t e a n c n' c' g3
    rcases hop with ⟨rfl, rfl⟩ | ⟨rfl, rfl⟩
    · refine ⟨w, g, .bool a.isNone, ?_, hG, Ext.refl _ _ _, RepV.mk_bool⟩
      rw [Sem.run_bind, eqGuard_ok (by simp) (by simp)]
      simp [binOp, q1]
    · refine ⟨w, g, .bool (!a.isNone), ?_, hG, Ext.refl _ _ _, RepV.mk_bool⟩
      rw [Sem.run_bind, eqGuard_ok (by simp) (by simp)]
      simp [binOp, q1]
  split at h
  · rename_i l
    obtain ⟨rfl, rfl, rfl, h4⟩ := xmaybe_inv h
    have hl := hx.leaf (by simp) (by simp)
    simp only [RepC] at hl
    obtain ⟨a, cap, es, hu, _, _, hh⟩ := hl
    injection hu with hu
    subst hu
    refine ⟨a.isNone, fun hne => ?_, key a _ _ h4⟩
    rcases hh with hh | ⟨b, off, rfl, _⟩
    · exact absurd hh hne
    · rfl
  · rename_i l
    obtain ⟨rfl, rfl, rfl, h4⟩ := xmaybe_inv h
    have hl := hx.leaf (by simp) (by simp)
    simp only [RepC] at hl
    obtain ⟨a, es, hu, _, hh⟩ := hl
    injection hu with hu
    subst hu
    refine ⟨a.isNone, fun hne => ?_, key a _ _ h4⟩
    rcases hh with hh | ⟨b, off, rfl, _⟩
    · exact absurd hh hne
    · rfl
  · rename_i o ver off n
    obtain ⟨rfl, rfl, rfl, h4⟩ := xmaybe_inv h
    obtain ⟨es, l, ho⟩ := hp
    obtain ⟨q, hq, hver, _⟩ := hG.vec ho
    have hl := hx.leaf (by simp) (by simp)
    simp only [RepC] at hl
    obtain ⟨k1, u, hu, k2, k3⟩ := hl
    injection hu with hu
    subst hu
    obtain ⟨k5, a, rfl, k7⟩ := (k3 q hq).2 hver
    refine ⟨a.isNone, fun hne => ?_, key a _ _ h4⟩
    obtain ⟨b, _, rfl⟩ := k7 (by omega)
    rfl
  · cases h

theorem makeInterface_sound (hTO : TyOK P T) {t : TypeId} {x : V} {cx : Value} (hG : Good g H w) (hx : RepV (cxOf g H.length w) x cx) (h1 : (T t).kind ≠ .other) (h2 : (T t).kind ≠ .iface) (h3 : x.storable) : DoneV P g H w (Instr.makeInterface t cx) (.iface t x) H := by
  obtain ⟨td, g1, g2, g3⟩ := (hTO.at h1).run_und w
  have hxr : RepC (cxOf g H.length w) x cx.cells.toList ∧ okAgg x cx := by cases x <;> first | exact h3.elim | exact hx
  refine DoneV.pure_ hG (cv := .iface t cx) ?_ (RepV.mk_leaf (by simp only [RepC]; exact ⟨cx, rfl, hxr.1, hxr.2⟩) (by simp) (by simp))
  unfold Instr.makeInterface
  simp only [Sem.run_bind, g2, Result.andThen_ok]
  cases td <;> first | rfl | (exfalso; cases hk : (T t).kind <;> rw [hk] at g1 <;> first | exact h1 hk | exact h2 hk | (simp [kindOK] at g1; done))
theorem typeAssert_sound (hTO : TyOK P T) {xt t : TypeId} {v : V} {cx : Value} (hG : Good g H w) (hx : RepV (cxOf g H.length w) (.iface t v) cx) (h1 : (T t).kind ≠ .other) (h2 : (T t).kind ≠ .iface) : DoneV P g H w (Instr.typeAssert cx xt t false) v H := by
  obtain ⟨td, g1, g2, g3⟩ := (hTO.at h1).run_und w
  have hl := hx.leaf (by simp) (by simp)
  simp only [RepC] at hl
  obtain ⟨cv, hu, k1, k2⟩ := hl
  injection hu with hu
  subst hu
  refine DoneV.pure_ hG (cv := cv) ?_ (RepV.of_parts k1 k2)
  unfold Instr.typeAssert
  simp only [Sem.run_bind, g2, Result.andThen_ok]
  cases td <;> first | (simp; done) | (exfalso; cases hk : (T t).kind <;> rw [hk] at g1 <;> first | exact h1 hk | exact h2 hk | (simp [kindOK] at g1; done))
end Go.EL

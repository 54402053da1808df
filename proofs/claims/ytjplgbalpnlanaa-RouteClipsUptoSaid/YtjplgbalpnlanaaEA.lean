/- The value logic, part A: abstract values, abstract heaps, and what it is that a world represents them. -/
import Derived.ProofKit
import Derived.WalkKit
import Derived.Laws.Rows
import Derived.KernelRfl
import Derived.Laws.AppendOwn
import Derived.Laws.CopyRow
import Derived.Laws.IdiomCopy
import Derived.OrdersIn
import Derived.TacticsIn
import Derived.LoopIn
import Derived.RangeFuncLeaves
import Derived.RangeFuncCalls
import Derived.RangeFuncNested
set_option linter.unusedSimpArgs false
set_option linter.unusedVariables false
namespace Go.EL
open Go

inductive V where
  | dead
  | int (k : IntKind) (n : Int)
  | bool (b : Bool)
  | str (l : List UInt8)
  | nilp
  | ref (o off : Nat)
  | eref (o ver i c : Nat)
  | cref (cs : List V) (c : Nat)
  | slice (l : List V)
  | fslice (l : List V)
  | vec (o ver off n : Nat)
  | agg (cs : List V)
  | fn (f : Fn) (first cap : List V)
  | nilf
  | mapr (o : Nat)
  | nilm
  | iface (t : TypeId) (v : V)
  | nili
  | tuple (vs : List V)
  deriving Inhabited

def V.cells : V → List V
  | .agg cs => cs
  | v => [v]

/-- a value of one cell -/
def V.leaf : V → Prop
  | .dead | .tuple _ | .agg _ => False
  | _ => True
def V.storable : V → Prop
  | .agg _ => True
  | v => v.leaf

/-- An abstract object: a boxed variable, a row that grows, or none any more. -/
inductive Ob where
  | gone
  | hole
  | var (cs : List V)
  | vec (ver es : Nat) (l : List V)
  | raw (b : Nat) (x : Obj) (vs : List V) (cs : List Value)
  | map (l : List (Int × Nat × V)) (clock : Nat)
  | iter (o since : Nat) (seen : List Nat) (last : Nat)
  deriving Inhabited

structure Key where
  ver : Nat
  blk : Option Nat
  es : Nat
  cap : Nat

/-- the key of an object that is still to be made -/
def hole : Key := ⟨0, none, 0, 0⟩

structure Cx where
  imm : Nat → Prop
  key : Nat → Option Key
  cell : Addr → Option Value
  nobj : Nat
def Cx.has (c : Cx) (o : Nat) : Prop := o < c.nobj ∧ c.key o ≠ some hole

def okAgg : V → Value → Prop
  | .agg _, .agg _ => True
  | .agg _, _ => False
  | _, .agg _ => False
  | _, _ => True

mutual
def RepC (c : Cx) : V → List Value → Prop
  | .dead, vs => ∃ v, vs = [v]
  | .int k n, vs => vs = [.int k n]
  | .bool b, vs => vs = [.bool b]
  | .str l, vs => vs = [.string ⟨l.toArray⟩]
  | .nilp, vs => vs = [.pointer none]
  | .ref o off, vs => c.has o ∧ ∃ v, vs = [v] ∧ v.oneCell' = true ∧ ∀ k b, c.key o = some k → k.ver = 0 → k.blk = some b → v = .pointer (some ⟨b, off, none⟩)
  | .eref o ver i j, vs => c.has o ∧ ∃ v, vs = [v] ∧ v.oneCell' = true ∧ ∀ k, c.key o = some k → ver ≤ k.ver ∧ ∀ b, k.ver = ver → k.blk = some b → v = .pointer (some ⟨b, i * k.es + j, none⟩)
  | .cref cs j, vs => ∃ b off ws, vs = [.pointer (some ⟨b, off + j, none⟩)] ∧ c.imm b ∧ Reps c cs ws ∧ ∀ i v, ws[i]? = some v → c.cell ⟨b, off + i, none⟩ = some v
  | .slice l, vs => ∃ a cap es, vs = [.slice a l.length cap] ∧ l.length ≤ cap ∧ cap ≤ maxLen ∧
      (l = [] ∨ ∃ b off, a = some ⟨b, off, none⟩ ∧ c.imm b ∧ RepE c es b off l)
  | .fslice l, vs => ∃ a es, vs = [.slice a l.length l.length] ∧ l.length ≤ maxLen ∧
      (l = [] ∨ ∃ b off, a = some ⟨b, off, none⟩ ∧ c.imm b ∧ RepE c es b off l)
  | .vec o ver off n, vs => c.has o ∧ ∃ v, vs = [v] ∧ v.oneCell' = true ∧ ∀ k, c.key o = some k → ver ≤ k.ver ∧ (k.ver = ver → off + n ≤ k.cap ∧
      ∃ a, v = .slice a n (k.cap - off) ∧ (off < k.cap → ∃ b, k.blk = some b ∧ a = some ⟨b, off * k.es, none⟩))
  | .agg cs, vs => Reps c cs vs
  | .fn f first cap, vs => ∃ x y, vs = [.func f x.toArray y.toArray] ∧ RepVs c first x ∧ RepVs c cap y
  | .nilf, vs => vs = [.nilFunc]
  | .mapr o, vs => c.has o ∧ ∃ v, vs = [v] ∧ v.oneCell' = true ∧ ∀ k b, c.key o = some k → k.ver = 0 → k.blk = some b → v = .map (some b)
  | .nilm, vs => vs = [.map none]
  | .iface t x, vs => ∃ v, vs = [.iface t v] ∧ RepC c x v.cells.toList ∧ okAgg x v
  | .nili, vs => vs = [.nilIface]
  | .tuple xs, vs => ∃ ws, vs = [.tuple ws.toArray] ∧ RepVs c xs ws
def Reps (c : Cx) : List V → List Value → Prop
  | [], vs => vs = []
  | x :: xs, vs => ∃ v vs', vs = v :: vs' ∧ x.leaf ∧ RepC c x [v] ∧ Reps c xs vs'
def RepVs (c : Cx) : List V → List Value → Prop
  | [], vs => vs = []
  | x :: xs, vs => ∃ v vs', vs = v :: vs' ∧ RepC c x v.cells.toList ∧ okAgg x v ∧ RepVs c xs vs'
def RepE (c : Cx) (es b : Nat) : Nat → List V → Prop
  | _, [] => True
  | off, x :: xs => ∃ vs, (x.storable ∧ RepC c x vs) ∧ vs.length = es ∧ (∀ i v, vs[i]? = some v → c.cell ⟨b, off + i, none⟩ = some v) ∧ RepE c es b (off + es) xs
end

def RepV (c : Cx) : V → Value → Prop
  | .dead, _ => True
  | x, v => RepC c x v.cells.toList ∧ okAgg x v

def RepL (c : Cx) : List V → List Value → Prop
  | [], [] => True
  | x :: xs, v :: vs => RepV c x v ∧ RepL c xs vs
  | _, _ => False

structure Mono (c c' : Cx) : Prop where
  imm : ∀ b, c.imm b → c'.imm b ∧ ∀ a : Addr, a.block = b → c'.cell a = c.cell a
  key : ∀ o, o < c.nobj → ∀ k', c'.key o = some k' → (∃ k, c.key o = some k ∧ k.ver ≤ k'.ver ∧ (k'.ver = k.ver → k' = k)) ∨ c.key o = some hole
  nobj : c.nobj ≤ c'.nobj

theorem Mono.old {c c' : Cx} (m : Mono c c') {o : Nat} (ho : c.has o) {k' : Key} (hk : c'.key o = some k') : ∃ k, c.key o = some k ∧ k.ver ≤ k'.ver ∧ (k'.ver = k.ver → k' = k) := by
  rcases m.key o ho.1 k' hk with h | h
  · exact h
  · exact absurd h ho.2
theorem Mono.has {c c' : Cx} (m : Mono c c') {o : Nat} (ho : c.has o) : c'.has o := by
  refine ⟨Nat.lt_of_lt_of_le ho.1 m.nobj, fun e => ?_⟩
  obtain ⟨k, h1, h2, h3⟩ := m.old ho e
  have : k.ver = 0 := Nat.le_zero.1 h2
  exact ho.2 (by rw [h1, ← h3 (by rw [this]; rfl)])

mutual
theorem RepC.mono {c c' : Cx} (m : Mono c c') : ∀ (x : V) (vs : List Value), RepC c x vs → RepC c' x vs
  | .dead, vs, h => by simpa only [RepC] using h
  | .int k n, vs, h => by simpa only [RepC] using h
  | .bool b, vs, h => by simpa only [RepC] using h
  | .str l, vs, h => by simpa only [RepC] using h
  | .nilp, vs, h => by simpa only [RepC] using h
  | .ref o off, vs, h => by
    simp only [RepC] at h ⊢
    obtain ⟨ho, v, hv, h1c, h⟩ := h
    refine ⟨m.has ho, v, hv, h1c, fun k b hk hk0 hb => ?_⟩
    obtain ⟨k1, h1, h2, h3⟩ := m.old ho hk
    have : k = k1 := h3 (by omega)
    subst this
    exact h k b h1 hk0 hb
  | .eref o ver i j, vs, h => by
    simp only [RepC] at h ⊢
    obtain ⟨ho, v, hv, h1c, h⟩ := h
    refine ⟨m.has ho, v, hv, h1c, fun k hk => ?_⟩
    obtain ⟨k1, h1, h2, h3⟩ := m.old ho hk
    obtain ⟨g1, g2⟩ := h k1 h1
    refine ⟨Nat.le_trans g1 h2, fun b hver hb => ?_⟩
    have : k = k1 := h3 (by omega)
    subst this
    exact g2 b hver hb
  | .cref cs j, vs, h => by
    simp only [RepC] at h ⊢
    obtain ⟨b, off, ws, hv, hi, hr, hc⟩ := h
    refine ⟨b, off, ws, hv, (m.imm b hi).1, Reps.mono m cs ws hr, fun i v hw => ?_⟩
    rw [(m.imm b hi).2 _ rfl]
    exact hc i v hw
  | .slice l, vs, h => by
    simp only [RepC] at h ⊢
    obtain ⟨a, cap, es, hv, hl, hm, h⟩ := h
    refine ⟨a, cap, es, hv, hl, hm, ?_⟩
    rcases h with h | ⟨b, off, ha, hi, he⟩
    · exact .inl h
    · exact .inr ⟨b, off, ha, (m.imm b hi).1, RepE.mono m es b (m.imm b hi).2 off l he⟩
  | .fslice l, vs, h => by
    simp only [RepC] at h ⊢
    obtain ⟨a, es, hv, hm, h⟩ := h
    refine ⟨a, es, hv, hm, ?_⟩
    rcases h with h | ⟨b, off, ha, hi, he⟩
    · exact .inl h
    · exact .inr ⟨b, off, ha, (m.imm b hi).1, RepE.mono m es b (m.imm b hi).2 off l he⟩
  | .vec o ver off n, vs, h => by
    simp only [RepC] at h ⊢
    obtain ⟨ho, v, hv, h1c, h⟩ := h
    refine ⟨m.has ho, v, hv, h1c, fun k hk => ?_⟩
    obtain ⟨k1, h1, h2, h3⟩ := m.old ho hk
    obtain ⟨g1, g2⟩ := h k1 h1
    refine ⟨Nat.le_trans g1 h2, fun hver => ?_⟩
    have : k = k1 := h3 (by omega)
    subst this
    exact g2 hver
  | .agg cs, vs, h => by
    simp only [RepC] at h ⊢
    exact Reps.mono m cs vs h
  | .fn f first cap, vs, h => by
    simp only [RepC] at h ⊢
    obtain ⟨x, y, hv, h1, h2⟩ := h
    exact ⟨x, y, hv, RepVs.mono m first x h1, RepVs.mono m cap y h2⟩
  | .nilf, vs, h => by simpa only [RepC] using h
  | .mapr o, vs, h => by
    simp only [RepC] at h ⊢
    obtain ⟨ho, v, hv, h1c, h⟩ := h
    refine ⟨m.has ho, v, hv, h1c, fun k b hk hk0 hb => ?_⟩
    obtain ⟨k1, h1, h2, h3⟩ := m.old ho hk
    have : k = k1 := h3 (by omega)
    subst this
    exact h k b h1 hk0 hb
  | .nilm, vs, h => by simpa only [RepC] using h
  | .iface t x, vs, h => by
    simp only [RepC] at h ⊢
    obtain ⟨v, hv, h1, h2⟩ := h
    exact ⟨v, hv, RepC.mono m x _ h1, h2⟩
  | .nili, vs, h => by simpa only [RepC] using h
  | .tuple xs, vs, h => by
    simp only [RepC] at h ⊢
    obtain ⟨ws, hv, h1⟩ := h
    exact ⟨ws, hv, RepVs.mono m xs ws h1⟩
theorem Reps.mono {c c' : Cx} (m : Mono c c') : ∀ (xs : List V) (vs : List Value), Reps c xs vs → Reps c' xs vs
  | [], vs, h => by simpa only [Reps] using h
  | x :: xs, vs, h => by
    simp only [Reps] at h ⊢
    obtain ⟨v, vs', hv, h0, h1, h2⟩ := h
    exact ⟨v, vs', hv, h0, RepC.mono m x _ h1, Reps.mono m xs vs' h2⟩
theorem RepVs.mono {c c' : Cx} (m : Mono c c') : ∀ (xs : List V) (vs : List Value), RepVs c xs vs → RepVs c' xs vs
  | [], vs, h => by simpa only [RepVs] using h
  | x :: xs, vs, h => by
    simp only [RepVs] at h ⊢
    obtain ⟨v, vs', hv, h1, h2, h3⟩ := h
    exact ⟨v, vs', hv, RepC.mono m x _ h1, h2, RepVs.mono m xs vs' h3⟩
theorem RepE.mono {c c' : Cx} (m : Mono c c') (es b : Nat) (hb : ∀ a : Addr, a.block = b → c'.cell a = c.cell a) : ∀ (off : Nat) (xs : List V), RepE c es b off xs → RepE c' es b off xs
  | off, [], h => by simp only [RepE]
  | off, x :: xs, h => by
    simp only [RepE] at h ⊢
    obtain ⟨vs, h1, h2, h3, h4⟩ := h
    refine ⟨vs, ⟨h1.1, RepC.mono m x vs h1.2⟩, h2, fun i v hv => ?_, RepE.mono m es b hb (off + es) xs h4⟩
    rw [hb _ rfl]
    exact h3 i v hv
end

theorem RepV.mono {c c' : Cx} (m : Mono c c') {x : V} {v : Value} (h : RepV c x v) : RepV c' x v := by
  cases x <;> first | exact trivial | exact ⟨RepC.mono m _ _ h.1, h.2⟩

theorem RepL.mono {c c' : Cx} (m : Mono c c') : ∀ {xs : List V} {vs : List Value}, RepL c xs vs → RepL c' xs vs
  | [], [], _ => trivial
  | x :: xs, v :: vs, h => ⟨h.1.mono m, RepL.mono m h.2⟩
  | [], _ :: _, h => h.elim
  | _ :: _, [], h => h.elim

/-- the entries of a map -/
def RepM (c : Cx) : List (Int × Nat × V) → List MapEntry → Prop
  | [], [] => True
  | p :: l, e :: es => (e.key = .int .i64 p.1 ∧ e.born = p.2.1 ∧ p.2.2.storable ∧ RepC c p.2.2 e.val.cells.toList ∧ okAgg p.2.2 e.val) ∧ RepM c l es
  | _, _ => False
theorem RepM.mono {c c' : Cx} (m : Mono c c') : ∀ {l : List (Int × Nat × V)} {es : List MapEntry}, RepM c l es → RepM c' l es
  | [], [], _ => trivial
  | p :: l, e :: es, h => ⟨⟨h.1.1, h.1.2.1, h.1.2.2.1, RepC.mono m _ _ h.1.2.2.2.1, h.1.2.2.2.2⟩, RepM.mono m h.2⟩
  | [], _ :: _, h => h.elim
  | _ :: _, [], h => h.elim
theorem RepM.length {c : Cx} : ∀ {l : List (Int × Nat × V)} {es : List MapEntry}, RepM c l es → es.length = l.length
  | [], [], _ => rfl
  | p :: l, e :: es, h => by simp [RepM.length h.2]
  | [], _ :: _, h => h.elim
  | _ :: _, [], h => h.elim

theorem Mono.refl (c : Cx) : Mono c c := ⟨fun _ h => ⟨h, fun _ _ => rfl⟩, fun _ _ k hk => .inl ⟨k, hk, Nat.le_refl _, fun _ => rfl⟩, Nat.le_refl _⟩
theorem Mono.trans {a b c : Cx} (h : Mono a b) (g : Mono b c) : Mono a c := by
  refine ⟨fun x hx => ?_, fun o ho k hk => ?_, Nat.le_trans h.nobj g.nobj⟩
  · have h1 := h.imm x hx
    have h2 := g.imm x h1.1
    exact ⟨h2.1, fun ad had => (h2.2 ad had).trans (h1.2 ad had)⟩
  · rcases g.key o (Nat.lt_of_lt_of_le ho h.nobj) k hk with ⟨k1, h1, h2, h3⟩ | h1
    · rcases h.key o ho k1 h1 with ⟨k0, g1, g2, g3⟩ | g1
      · refine .inl ⟨k0, g1, Nat.le_trans g2 h2, fun e => ?_⟩
        have e1 : k = k1 := h3 (by omega)
        subst e1
        exact g3 e
      · exact .inr g1
    · rcases h.key o ho hole h1 with ⟨k0, g1, g2, g3⟩ | g1
      · right
        have : k0.ver = 0 := Nat.le_zero.1 g2
        rw [g1, ← g3 (by rw [this]; rfl)]
      · exact .inr g1
end Go.EL

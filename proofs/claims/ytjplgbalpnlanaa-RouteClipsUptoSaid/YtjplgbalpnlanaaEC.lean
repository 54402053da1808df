/- The value logic, part C: the table of types; what an operation comes to on abstract values. -/
import Derived.Test.YtjplgbalpnlanaaEB
set_option linter.unusedSimpArgs false
set_option linter.unusedVariables false
namespace Go.EL
open Go

inductive TK where
  | other | bool | int (k : IntKind) | str | slice (e : Nat) | struct (fs : List (Nat × Nat)) | array (n e : Nat) | ptr (e : Nat) | map (k e : Nat) | func | iface
  deriving DecidableEq, Inhabited

structure TD where
  kind : TK
  size : Nat
  bytes : Nat
  zero : List V
  cmp : Bool := false
  deriving Inhabited

def TK.isAgg : TK → Bool
  | .struct _ | .array _ _ => true
  | _ => false

def zEq : Value → V → Bool
  | .int k n, .int k' n' => decide (k = k') && decide (n = n')
  | .bool b, .bool b' => b == b'
  | .string s, .str [] => s.data.toList == []
  | .pointer none, .nilp => true
  | .slice none 0 0, .fslice [] => true
  | .nilFunc, .nilf => true
  | .map none, .nilm => true
  | .nilIface, .nili => true
  | _, _ => false

def zEqs : List Value → List V → Bool
  | [], [] => true
  | x :: xs, y :: ys => zEq x y && zEqs xs ys
  | _, _ => false

def kindOK : TypeDesc → TK → Bool
  | .bool, .bool => true
  | .int k, .int k' => decide (k = k')
  | .string, .str => true
  | .slice e, .slice e' => decide (e = e')
  | .struct fs, .struct l => decide ((fs.toList.map fun f => (f.type, f.offset)) = l)
  | .array n e, .array n' e' => decide (n = n') && decide (e = e')
  | .pointer e, .ptr e' => decide (e = e')
  | .map k e, .map k' e' => decide (k = k') && decide (e = e')
  | .func _ _ _, .func => true
  | .interface _, .iface => true
  | _, _ => false

def leafKind : TypeDesc → Bool
  | .bool | .int _ | .string => true
  | _ => false

def cmpOK (P : Program) (t : TypeId) : Bool :=
  !P.stoodInHeld t && !P.eqGuardType P.depth t &&
  match P.underlying t with
  | some (.struct fs) => fs.toList.zipIdx.all fun (f, i) => f.name != "_" && f.offset == i
  | _ => false

def tyCheck (P : Program) (t : TypeId) (d : TD) : Bool :=
  d.kind == .other ||
  match P.info? t, P.underlying t with
  | some i, some td => kindOK td d.kind && d.zero.length == d.size && i.size == d.size && i.bytes == d.bytes && (match i.zero with | some z => zEqs z.cells.toList d.zero | none => false) && (!d.cmp || cmpOK P t)
  | _, _ => false

/-- What a table says is so. -/
def TyOK (P : Program) (T : Nat → TD) : Prop := ∀ t, tyCheck P t (T t) = true

structure TyAt (P : Program) (t : TypeId) (d : TD) : Prop where
  info : ∃ i z, P.info? t = some i ∧ i.size = d.size ∧ i.bytes = d.bytes ∧ i.zero = some z ∧ zEqs z.cells.toList d.zero = true
  und : ∃ td, P.underlying t = some td ∧ kindOK td d.kind = true
  zlen : d.zero.length = d.size
  cmp : d.cmp = true → cmpOK P t = true

theorem TyOK.at {P T} (h : TyOK P T) {t : TypeId} (ht : (T t).kind ≠ .other) : TyAt P t (T t) := by
  have h := h t
  unfold tyCheck at h
  rw [Bool.or_eq_true] at h
  rcases h with h | h
  · exact absurd (by simpa using h) ht
  cases hi : P.info? t with
  | none => simp [hi] at h
  | some i =>
    cases hu : P.underlying t with
    | none => simp [hi, hu] at h
    | some td =>
      simp only [hi, hu, Bool.and_eq_true, beq_iff_eq] at h
      obtain ⟨⟨⟨⟨⟨h1, h0⟩, h2⟩, h3⟩, h4⟩, h5⟩ := h
      cases hz : i.zero with
      | none => simp [hz] at h4
      | some z =>
        simp only [hz] at h4
        exact ⟨⟨i, z, hi, h2, h3, hz, h4⟩, ⟨td, hu, h1⟩, h0, fun hc => by simpa [hc] using h5⟩

def mkV (d : TD) (cs : List V) : V := if d.kind.isAgg then .agg cs else cs.headD .dead

def ofLeaf : Value → V
  | .int k n => .int k n
  | .bool b => .bool b
  | .string s => .str s.data.toList
  | .pointer none => .nilp
  | .slice none 0 0 => .fslice []
  | .nilFunc => .nilf
  | .map none => .nilm
  | .nilIface => .nili
  | _ => .dead

def V.isDead : V → Bool
  | .dead => true
  | _ => false
def ofValue : Value → V
  | .agg cs => if (cs.toList.map ofLeaf).any V.isDead then .dead else .agg (cs.toList.map ofLeaf)
  | v => ofLeaf v

abbrev Env := List (Nat × V)
def eget : Env → Nat → V
  | [], _ => .dead
  | (t', v) :: e, t => if t' = t then v else eget e t
def eset : Env → Nat → V → Env
  | [], t, v => [(t, v)]
  | (t', v') :: e, t, v => if t' = t then (t, v) :: e else (t', v') :: eset e t v
def eput (e : Env) : Option Nat → V → Env
  | none, _ => e
  | some d, v => eset e d v
def evl (e : Env) : Operand → V
  | .tmp t => eget e t
  | .const v => ofValue v
  | .func f => .fn (.func f) [] []
  | .global _ => .dead

def Sized (n : Nat) (xs : List V) : Prop := ∀ x ∈ xs, x.cells.length = n
def splice (cs : List V) (off : Nat) (new : List V) : List V := cs.take off ++ new ++ cs.drop (off + new.length)
def V.withCells (x : V) (cs : List V) : V := match x with | .agg _ => .agg cs | _ => cs.headD .dead
def V.at (l : List V) (i : Nat) : V := l.getD i .dead

inductive XR where
  | val (pre : Prop) (v : V) (H : List Ob)
  | maybe (pre p : Prop) (f : Bool → V) (H : List Ob)
  | steps (it : V)
  | call (f : FuncId) (args : List V)
  | ycall (l : Nat) (args : List V)
  | bad

/-- what the elements are that a slice or a string adds -/
def elems (H : List Ob) : V → Option (List V)
  | .slice l => some l
  | .fslice l => some l
  | .str l => some (l.map fun b => .int .u8 b.toNat)
  | .vec o ver off n => match H[o]? with
    | some (.vec ver' _ l) => if ver' = ver ∧ off + n ≤ l.length then some ((l.drop off).take n) else none
    | _ => none
  | _ => none

def lenV : V → Option Nat
  | .slice l | .fslice l => some l.length
  | .str l => some l.length
  | .vec _ _ _ n => some n
  | _ => none

def limBytes : Nat := 140737488355328

def xappend (d : TD) (H : List Ob) (s x : V) : XR :=
  match elems H x with
  | none => .bad
  | some xs =>
    match s with
    | .vec o ver off n => match H[o]? with
      | some (.vec ver' es l) => .val (ver' = ver ∧ es = d.size ∧ off = 0 ∧ n = l.length ∧ (∀ x ∈ xs, x.storable) ∧ Sized d.size xs ∧ (l ++ xs).length * d.bytes ≤ limBytes ∧ 0 < d.bytes) (.vec o (ver + 1) 0 (n + xs.length)) (H.set o (.vec (ver + 1) es (l ++ xs)))
      | _ => .bad
    | .fslice l => if l.isEmpty = false ∧ xs.isEmpty = true then .val True (.fslice l) H else .val ((∀ x ∈ xs, x.storable) ∧ Sized d.size (l ++ xs) ∧ (l ++ xs).length * d.bytes ≤ limBytes ∧ 0 < d.bytes) (.vec H.length 1 0 (l.length + xs.length)) (H ++ [.vec 1 d.size (l ++ xs)])
    | _ => .bad

def cmpInt (op : BinOp) (a b : Int) : Option Bool :=
  match op with
  | .eql => some (a == b)
  | .neq => some (a != b)
  | .lss => some (a < b)
  | .leq => some (a ≤ b)
  | .gtr => some (a > b)
  | .geq => some (a ≥ b)
  | _ => none


def eqLeaf : V → V → Option Bool
  | .int k a, .int k' b => if k = k' then some (a == b) else none
  | .bool a, .bool b => some (a == b)
  | .str a, .str b => some (a == b)
  | _, _ => none
def eqLeaves : List V → List V → Option Bool
  | [], [] => some true
  | x :: xs, y :: ys => match eqLeaf x y, eqLeaves xs ys with | some a, some b => some (a && b) | _, _ => none
  | _, _ => none

def kindsOK (T : Nat → TD) : List (Nat × Nat) → List V → Prop
  | [], [] => True
  | (t, _) :: fs, x :: xs => (match x with | .int k _ => (T t).kind = .int k | .bool _ => (T t).kind = .bool | .str _ => (T t).kind = .str | _ => False) ∧ kindsOK T fs xs
  | _, _ => False
def strLess (a b : List UInt8) : Bool := Op.bytesLess a b

/-- against nil: is it? -/
def nilEq (d : TD) (H : List Ob) : V → Option (Prop × Bool)
  | .nilp => match d.kind with | .ptr _ => some (True, true) | _ => none
  | .ref o c => match d.kind with | .ptr _ => some (∃ cs, H[o]? = some (.var cs), false) | _ => none
  | .eref o ver i _ => match d.kind with | .ptr _ => some (∃ es l, H[o]? = some (.vec ver es l) ∧ i < l.length, false) | _ => none
  | .cref _ _ => match d.kind with | .ptr _ => some (True, false) | _ => none
  | _ => none
def xnil (d : TD) (H : List Ob) (op : BinOp) (x : V) : XR :=
  match nilEq d H x with
  | some (p, b) => match op with
    | .eql => .val p (.bool b) H
    | .neq => .val p (.bool (!b)) H
    | _ => .bad
  | none => .bad
def xbin (T : Nat → TD) (H : List Ob) (d : TD) (op : BinOp) (x y : V) : XR :=
  match x, y with
  | .int k a, .int k' b =>
    match op with
    | .shl => .val (0 ≤ b) (.int k (k.wrap (a * 2 ^ (min b.toNat k.bits)))) H
    | .shr => .val (0 ≤ b) (.int k (a.fdiv (2 ^ (min b.toNat k.bits)))) H
    | .add => .val (k = k') (.int k (k.wrap (a + b))) H
    | .sub => .val (k = k') (.int k (k.wrap (a - b))) H
    | .mul => .val (k = k') (.int k (k.wrap (a * b))) H
    | .quo => .val (k = k' ∧ b ≠ 0) (.int k (k.wrap (a.tdiv b))) H
    | .rem => .val (k = k' ∧ b ≠ 0) (.int k (a.tmod b)) H
    | .and => .val (k = k') (.int k (k.wrap (BitVec.ofInt k.bits a &&& BitVec.ofInt k.bits b).toNat)) H
    | .or => .val (k = k') (.int k (k.wrap (BitVec.ofInt k.bits a ||| BitVec.ofInt k.bits b).toNat)) H
    | .eql => .val (k = k') (.bool (a == b)) H
    | .neq => .val (k = k') (.bool (a != b)) H
    | .lss => .val (k = k') (.bool (a < b)) H
    | .leq => .val (k = k') (.bool (a ≤ b)) H
    | .gtr => .val (k = k') (.bool (a > b)) H
    | .geq => .val (k = k') (.bool (a ≥ b)) H
    | _ => .bad
  | .str a, .str b =>
    match op with
    | .add => .val ((a ++ b).length ≤ maxLen) (.str (a ++ b)) H
    | .eql => .val True (.bool (a == b)) H
    | .neq => .val True (.bool (!(a == b))) H
    | .lss => .val True (.bool (strLess a b)) H
    | .leq => .val True (.bool (strLess a b || a == b)) H
    | .gtr => .val True (.bool (!(strLess a b || a == b))) H
    | .geq => .val True (.bool (!strLess a b)) H
    | _ => .bad
  | .bool a, .bool b =>
    match op with
    | .eql => .val (d.kind = .bool) (.bool (a == b)) H
    | .neq => .val (d.kind = .bool) (.bool (!(a == b))) H
    | _ => .bad
  | .agg xs, .agg ys =>
    match d.kind with
    | .struct fs => match eqLeaves xs ys with
      | some b => match op with
        | .eql => .val (d.cmp = true ∧ kindsOK T fs xs ∧ kindsOK T fs ys) (.bool b) H
        | .neq => .val (d.cmp = true ∧ kindsOK T fs xs ∧ kindsOK T fs ys) (.bool (!b)) H
        | _ => .bad
      | none => .bad
    | _ => .bad
  | x, .nilp => xnil d H op x
  | .nilp, .ref o c => xnil d H op (.ref o c)
  | .nilp, .eref o v i c => xnil d H op (.eref o v i c)
  | .nilp, .cref cs c => xnil d H op (.cref cs c)
  | _, _ => .bad

def chunks (n : Nat) : Nat → List V → List V
  | 0, _ => []
  | k + 1, cs => (if n = 1 then cs.headD .dead else .agg (cs.take n)) :: chunks n k (cs.drop n)

def parts (d : TD) : Nat → List V → List V
  | 0, _ => []
  | k + 1, cs => mkV d (cs.take d.size) :: parts d k (cs.drop d.size)

/-- what a lower bound is -/
def loOf : Option V → Option Int
  | none => some 0
  | some (.int _ n) => some n
  | _ => none
def hiOf (d : Int) : Option V → Option Int
  | none => some d
  | some (.int _ n) => some n
  | _ => none
/-- an array of one's own, as a row -/
def xsliceA (d : TD) (H : List Ob) (m : Nat) (x : V) (lo hi : Option V) : XR :=
  match x, lo, hi with
  | .ref o 0, none, none => match H[o]? with
    | some (.var cs) => .val (cs.length = m * d.size ∧ m ≤ 16777216 ∧ (d.kind.isAgg = false → d.size = 1)) (.vec o 1 0 m) (H.set o (.vec 1 d.size (parts d m cs)))
    | _ => .bad
  | _, _, _ => .bad
/-- `s[lo:hi]` -/
def xslice (T : Nat → TD) (H : List Ob) (d : TD) (x : V) (lo hi : Option V) : XR :=
  match d.kind with
  | .str => match x with
    | .str l => match loOf lo, hiOf l.length hi with
      | some a, some b => .val (0 ≤ a ∧ a ≤ b ∧ b ≤ l.length) (.str ((l.take b.toNat).drop a.toNat)) H
      | _, _ => .bad
    | _ => .bad
  | .slice e => if (T e).kind = .other then .bad else match x with
    | .slice l => match loOf lo, hiOf l.length hi with
      | some a, some b => .val (0 ≤ a ∧ a ≤ b ∧ b ≤ l.length ∧ (a = 0 ∨ Sized (T e).size l)) (.slice ((l.take b.toNat).drop a.toNat)) H
      | _, _ => .bad
    | .fslice l => match loOf lo, hiOf l.length hi with
      | some a, some b => .val (0 ≤ a ∧ a ≤ b ∧ b ≤ l.length ∧ (a = 0 ∨ Sized (T e).size l)) (.slice ((l.take b.toNat).drop a.toNat)) H
      | _, _ => .bad
    | .vec o ver off n => match loOf lo, hiOf n hi, H[o]? with
      | some a, some b, some (.vec ver' es l) => .val (ver' = ver ∧ 0 ≤ a ∧ a ≤ b ∧ b ≤ n ∧ off + n ≤ l.length ∧ (a = 0 ∨ es = (T e).size)) (.vec o ver (off + a.toNat) (b.toNat - a.toNat)) H
      | _, _, _ => .bad
    | _ => .bad
  | .array m e => if (T e).kind = .other then .bad else xsliceA (T e) H m x lo hi
  | _ => .bad

/-- `s[:n:n]` -/
def xslice3 (T : Nat → TD) (H : List Ob) (d : TD) (x : V) (lo hi : Option V) (mx : V) : XR :=
  match d.kind with
  | .slice e => if (T e).kind = .other then .bad else match x, lo, hi, mx with
    | .slice l, none, some (.int _ n), .int _ m => .val (0 ≤ n ∧ n = m ∧ n ≤ l.length) (.fslice (l.take n.toNat)) H
    | .fslice l, none, some (.int _ n), .int _ m => .val (0 ≤ n ∧ n = m ∧ n ≤ l.length) (.fslice (l.take n.toNat)) H
    | _, _, _, _ => .bad
  | _ => .bad
def lens (T : Nat → TD) (ps : List (Nat × V)) (fs : List (Nat × Nat)) : Prop := ∀ p ∈ ps, ∃ f, fs[p.1]? = some f ∧ p.2.cells.length = (T f.1).size

def fillV (place : Nat → Option Nat) (cells : List V) : List (Nat × V) → List V
  | [] => cells
  | (i, v) :: rest => match place i with
    | some off => fillV place (splice cells off v.cells) rest
    | none => fillV place cells rest

def xlen (d : TD) (H : List Ob) (x : V) : XR :=
  match d.kind, x with
  | .str, .str l => .val True (.int .i64 l.length) H
  | .slice _, .slice l => .val True (.int .i64 l.length) H
  | .slice _, .fslice l => .val True (.int .i64 l.length) H
  | .slice _, .vec o ver _ n => match H[o]? with
    | some (.vec ver' _ _) => .val (ver' = ver) (.int .i64 n) H
    | _ => .bad
  | _, _ => .bad

def xload (d : TD) (H : List Ob) (a : V) : XR :=
  match a with
  | .ref o off => match H[o]? with
    | some (.var cs) => .val (off + d.size ≤ cs.length ∧ (d.kind.isAgg = false → d.size = 1)) (mkV d ((cs.drop off).take d.size)) H
    | _ => .bad
  | .cref cs c => .val (c + d.size ≤ cs.length ∧ (d.kind.isAgg = false → d.size = 1)) (mkV d ((cs.drop c).take d.size)) H
  | .eref o ver i c => match H[o]? with
    | some (.vec ver' _ l) => .val (ver' = ver ∧ i < l.length ∧ c + d.size ≤ (V.at l i).cells.length ∧ (d.kind.isAgg = false → d.size = 1)) (mkV d (((V.at l i).cells.drop c).take d.size)) H
    | _ => .bad
  | _ => .bad

def xstore (d : TD) (H : List Ob) (a x : V) : XR :=
  match a with
  | .ref o off => match H[o]? with
    | some (.var cs) => .val (x.storable ∧ x.cells.length = d.size ∧ off + d.size ≤ cs.length) .dead (H.set o (.var (splice cs off x.cells)))
    | _ => .bad
  | .eref o ver i c => match H[o]? with
    | some (.vec ver' es l) => .val (ver' = ver ∧ i < l.length ∧ x.storable ∧ x.cells.length = d.size ∧ c + d.size ≤ (V.at l i).cells.length) .dead
        (H.set o (.vec ver' es (l.set i ((V.at l i).withCells (splice (V.at l i).cells c x.cells)))))
    | _ => .bad
  | _ => .bad

/-- the pointer is one -/
def live (H : List Ob) : V → Prop
  | .ref o _ => ∃ cs, H[o]? = some (.var cs)
  | .eref o ver i _ => ∃ es l, H[o]? = some (.vec ver es l) ∧ i < l.length
  | .cref _ _ => True
  | _ => False
def xfieldAddr (T : Nat → TD) (d : TD) (H : List Ob) (a : V) (f : Nat) : XR :=
  match d.kind with
  | .struct fs => match fs[f]? with
    | some (ft, off) => match a with
      | .ref o c => .val (live H a ∧ (T ft).kind ≠ .other ∧ (T ft).size ≠ 0) (.ref o (c + off)) H
      | .cref cs c => .val (live H a ∧ (T ft).kind ≠ .other ∧ (T ft).size ≠ 0) (.cref cs (c + off)) H
      | .eref o ver i c => .val (live H a ∧ (T ft).kind ≠ .other ∧ (T ft).size ≠ 0) (.eref o ver i (c + off)) H
      | _ => .bad
    | none => .bad
  | _ => .bad

def xindexAddr (T : Nat → TD) (d : TD) (H : List Ob) (x i : V) : XR :=
  match d.kind, i with
  | .slice e, .int _ n => match x with
    | .slice l => .val ((T e).kind ≠ .other ∧ 0 ≤ n ∧ n < l.length ∧ (V.at l n.toNat).cells.length = (T e).size) (.cref (V.at l n.toNat).cells 0) H
    | .fslice l => .val ((T e).kind ≠ .other ∧ 0 ≤ n ∧ n < l.length ∧ (V.at l n.toNat).cells.length = (T e).size) (.cref (V.at l n.toNat).cells 0) H
    | .vec o ver off len => match H[o]? with
      | some (.vec ver' es l) => .val ((T e).kind ≠ .other ∧ ver' = ver ∧ 0 ≤ n ∧ n < len ∧ off + len ≤ l.length ∧ es = (T e).size) (.eref o ver (off + n.toNat) 0) H
      | _ => .bad
    | _ => .bad
  | .array m e, .int _ n => match x with
    | .ref o c => .val (live H x ∧ (T e).kind ≠ .other ∧ 2 ≤ m ∧ 0 ≤ n ∧ n < m) (.ref o (c + n.toNat * (T e).size)) H
    | .cref cs c => .val ((T e).kind ≠ .other ∧ 2 ≤ m ∧ 0 ≤ n ∧ n < m) (.cref cs (c + n.toNat * (T e).size)) H
    | _ => .bad
  | _, _ => .bad

def xindex (T : Nat → TD) (d : TD) (H : List Ob) (x i : V) : XR :=
  match d.kind, x, i with
  | .str, .str l, .int _ n => .val (0 ≤ n ∧ n < l.length) (.int .u8 (l.getD n.toNat 0).toNat) H
  | .array m e, .agg cs, .int _ n => .val ((T e).kind ≠ .other ∧ 0 ≤ n ∧ n < m ∧ m * (T e).size ≤ cs.length ∧ ((T e).kind.isAgg = false → (T e).size = 1)) (mkV (T e) ((cs.drop (n.toNat * (T e).size)).take (T e).size)) H
  | _, _, _ => .bad

def xconvert (own : Bool) (s d : TD) (e : TD) (H : List Ob) (x : V) : XR :=
  match d.kind, x with
  | .int k, .int _ n => .val True (.int k (k.wrap n)) H
  | .str, .str l => .val True (.str l) H
  | .slice _, .str l => .val (s.kind = .str ∧ e.kind = .int .u8 ∧ e.size = 1 ∧ l.length ≤ limBytes) (.slice (l.map fun b => .int .u8 b.toNat)) H
  | _, _ => .bad

def xmin (isMin : Bool) (H : List Ob) : V → V → XR
  | .int k a, .int k' b => .val (k = k') (.int k (if isMin then min a b else max a b)) H
  | _, _ => .bad

def toByte : V → UInt8
  | .int _ n => UInt8.ofNat n.toNat
  | _ => 0
def AllBytes (xs : List V) : Prop := ∀ x ∈ xs, ∃ n, x = .int .u8 n
def V.isSlice : V → Bool
  | .slice _ | .fslice _ | .vec _ _ _ _ => true
  | _ => false
def xtoStr (H : List Ob) (x : V) : XR :=
  if x.isSlice = false then .bad else
  match elems H x with
  | some xs => .val (AllBytes xs ∧ xs.length ≤ maxLen) (.str (xs.map toByte)) H
  | none => .bad

def partAt (d : TD) (ps : List (Nat × V)) (i : Nat) : V := match ps.find? (fun p => p.1 == i) with | some p => p.2 | none => mkV d d.zero

def xmake (d : TD) (H : List Ob) : V → V → XR
  | .int _ n, .int _ n' => .val (n = n' ∧ 0 ≤ n ∧ n * d.bytes ≤ limBytes ∧ n ≤ 9223372036854775807 ∧ (d.kind.isAgg = false → d.size = 1)) (.vec H.length 1 0 n.toNat) (H ++ [.vec 1 d.size (List.replicate n.toNat (mkV d d.zero))])
  | _, _ => .bad
def xclear (d : TD) (H : List Ob) : V → XR
  | .vec o ver off n => match H[o]? with
    | some (.vec ver' es l) => .val (ver' = ver ∧ off + n ≤ l.length ∧ es = d.size ∧ (d.kind.isAgg = false → d.size = 1)) (.tuple []) (H.set o (.vec ver' es (l.take off ++ List.replicate n (mkV d d.zero) ++ l.drop (off + n))))
    | _ => .bad
  | .fslice [] => .val True (.tuple []) H
  | _ => .bad
/-! ### maps -/
def mget : List (Int × Nat × V) → Int → Option V
  | [], _ => none
  | p :: l, n => if n = p.1 then some p.2.2 else mget l n
def mset : List (Int × Nat × V) → Int → V → List (Int × Nat × V)
  | [], _, _ => []
  | p :: l, n, x => if n = p.1 then (p.1, p.2.1, x) :: l else p :: mset l n x
def mdel : List (Int × Nat × V) → Int → List (Int × Nat × V)
  | [], _ => []
  | p :: l, n => if n = p.1 then l else p :: mdel l n
/-- an entry is put: the entries, and the clock -/
def mput (l : List (Int × Nat × V)) (ck : Nat) (n : Int) (x : V) : List (Int × Nat × V) := if (mget l n).isSome = true then mset l n x else l ++ [(n, ck, x)]
def mclk (l : List (Int × Nat × V)) (ck : Nat) (n : Int) : Nat := if (mget l n).isSome = true then ck else ck + 1
def xfound (d : TD) (ok : Bool) (r : Option V) : V := if ok = true then .tuple [r.getD (mkV d d.zero), .bool r.isSome] else r.getD (mkV d d.zero)
def xlookup (T : Nat → TD) (d : TD) (H : List Ob) (ok : Bool) (x i : V) : XR :=
  match d.kind with
  | .map k e => match x, i with
    | .mapr o, .int .i64 n => match H[o]? with
      | some (.map l _) => .val ((T k).kind = .int .i64 ∧ (T e).kind ≠ .other ∧ (T e).kind.isAgg = true ∧ (T e).size ≠ 1) (xfound (T e) ok (mget l n)) H
      | _ => .bad
    | .nilm, .int .i64 n => .val ((T k).kind = .int .i64 ∧ (T e).kind ≠ .other ∧ (T e).kind.isAgg = true ∧ (T e).size ≠ 1) (xfound (T e) ok none) H
    | _, _ => .bad
  | _ => .bad
def xmapUpdate (T : Nat → TD) (d : TD) (H : List Ob) (m i x : V) : XR :=
  match d.kind with
  | .map k e => match m, i with
    | .mapr o, .int .i64 n => match H[o]? with
      | some (.map l ck) => .val ((T k).kind = .int .i64 ∧ x.storable) .dead (H.set o (.map (mput l ck n x) (mclk l ck n)))
      | _ => .bad
    | _, _ => .bad
  | _ => .bad
def xdelete (T : Nat → TD) (d : TD) (H : List Ob) (m i : V) : XR :=
  match d.kind with
  | .map k e => match m, i with
    | .mapr o, .int .i64 n => match H[o]? with
      | some (.map l ck) => .val ((T k).kind = .int .i64) (.tuple []) (H.set o (.map (mdel l n) ck))
      | _ => .bad
    | _, _ => .bad
  | _ => .bad
def xmakeMap (d : TD) (H : List Ob) : XR :=
  match d.kind with
  | .map _ _ => .val True (.mapr H.length) (H ++ [.map [] 0])
  | _ => .bad
def xrange (d : TD) (H : List Ob) (m : V) : XR :=
  match d.kind with
  | .map _ _ => match m with
    | .mapr o => match H[o]? with
      | some (.map _ ck) => .val True (.ref H.length 0) (H ++ [.iter o ck [] ck])
      | _ => .bad
    | _ => .bad
  | _ => .bad
def xentry (H : List Ob) : V → XR
  | .ref it 0 => match H[it]? with
    | some (.iter o _ seen last) => match H[o]? with
      | some (.map l ck) => match l.find? (fun p => p.2.1 == seen.getLastD 0) with
        | some p => .val (ck = last ∧ seen ≠ []) (.tuple [.int .i64 p.1, p.2.2]) H
        | none => .bad
      | _ => .bad
    | _ => .bad
  | _ => .bad
def xmapLen (H : List Ob) : V → XR
  | .mapr o => match H[o]? with
    | some (.map l _) => .val True (.int .i64 l.length) H
    | _ => .bad
  | .nilm => .val True (.int .i64 0) H
  | _ => .bad
def isNilS : Operand → Bool
  | .const (.slice none _ _) => true
  | _ => false
def xmaybe (op : BinOp) (pre p : Prop) (H : List Ob) : XR :=
  match op with
  | .eql => .maybe pre p (fun b => .bool b) H
  | .neq => .maybe pre p (fun b => .bool (!b)) H
  | _ => .bad
/-- a list against nil: an empty one may be nil, or not -/
def xnils (d : TD) (H : List Ob) (op : BinOp) (x : V) : XR :=
  match d.kind with
  | .slice _ => match x with
    | .slice l => xmaybe op True (l ≠ []) H
    | .fslice l => xmaybe op True (l ≠ []) H
    | .vec o ver off n => xmaybe op (∃ es l, H[o]? = some (.vec ver es l)) (n ≠ 0) H
    | _ => .bad
  | _ => .bad
def xnilm (d : TD) (H : List Ob) (op : BinOp) (x : V) : XR :=
  match d.kind with
  | .map _ _ => match x with
    | .mapr o => match op with
      | .eql => .val (∃ l ck, H[o]? = some (.map l ck)) (.bool false) H
      | .neq => .val (∃ l ck, H[o]? = some (.map l ck)) (.bool true) H
      | _ => .bad
    | .nilm => match op with
      | .eql => .val True (.bool true) H
      | .neq => .val True (.bool false) H
      | _ => .bad
    | _ => .bad
  | _ => .bad
def xbuiltin (T : Nat → TD) (H : List Ob) (b : Builtin) (ts : List TypeId) (args : List V) : XR :=
  match b, ts, args with
  | .len, [t], [x] => match (T t).kind with
    | .map _ _ => xmapLen H x
    | _ => xlen (T t) H x
  | .append, [t, u], [s, x] => match (T t).kind, (T u).kind with
    | .slice e, .slice _ => if (T e).kind ≠ .other then xappend (T e) H s x else .bad
    | .slice e, .str => if (T e).kind ≠ .other then xappend (T e) H s x else .bad
    | _, _ => .bad
  | .min, _, [x, y] => xmin true H x y
  | .max, _, [x, y] => xmin false H x y
  | .delete, t :: _, [m, i] => xdelete T (T t) H m i
  | .clear, [t], [x] => match (T t).kind with
    | .slice e => if (T e).kind ≠ .other then xclear (T e) H x else .bad
    | _ => .bad
  | _, _, _ => .bad

/-- a part of a value -/
def xpart (d : TD) (H : List Ob) (off : Nat) : V → XR
  | .agg cs => .val (d.kind ≠ .other ∧ off + d.size ≤ cs.length ∧ (d.kind.isAgg = false → d.size = 1)) (mkV d ((cs.drop off).take d.size)) H
  | _ => .bad

def xop (T : Nat → TD) (own : Bool) (ρ : Operand → V) (H : List Ob) : Op → XR
  | .move x => .val True (ρ x) H
  | .assign x => .val True (ρ x) H
  | .pick c a b => match ρ c with
    | .bool q => .val True (if q then ρ a else ρ b) H
    | _ => .bad
  | .alloc e => .val ((T e).kind ≠ .other) (.ref H.length 0) (H ++ [.var (T e).zero])
  | .box _ x => .val (ρ x).storable (.ref H.length 0) (H ++ [.var (ρ x).cells])
  | .build t ps => match (T t).kind with
    | .struct fs => .val ((∀ f ∈ fs, (T f.1).kind ≠ .other) ∧ ∀ p ∈ ps.toList, (ρ p.2).storable ∧ ∃ f, fs[p.1]? = some f ∧ (T f.1).kind ≠ .other ∧ (ρ p.2).cells.length = (T f.1).size ∧ f.2 + (T f.1).size ≤ (T t).zero.length)
        (.agg (fillV (fun i => (fs[i]?).map (·.2)) (T t).zero (ps.toList.map fun p => (p.1, ρ p.2)))) H
    | .array _ e => .val ((T e).kind ≠ .other ∧ ∀ p ∈ ps.toList, (ρ p.2).storable ∧ (ρ p.2).cells.length = (T e).size ∧ p.1 * (T e).size + (T e).size ≤ (T t).zero.length)
        (.agg (fillV (fun i => some (i * (T e).size)) (T t).zero (ps.toList.map fun p => (p.1, ρ p.2)))) H
    | _ => .bad
  | .buildSlice t n ps => match (T t).kind with
    | .slice e => .val ((T e).kind ≠ .other ∧ n ≤ 16777216 ∧ n * (T e).size ≤ 16777216 ∧ ps.toList.map (·.1) = List.range n ∧ ∀ p ∈ ps.toList, (ρ p.2).storable ∧ (ρ p.2).cells.length = (T e).size)
        (match own with | false => .fslice (ps.toList.map fun p => ρ p.2) | true => .vec H.length 1 0 (ps.toList.map fun p => ρ p.2).length) (match own with | false => H | true => H ++ [.vec 1 (T e).size (ps.toList.map fun p => ρ p.2)])
    | _ => .bad
  | .load t a => if (T t).kind = .other then .bad else xload (T t) H (ρ a)
  | .store t a x => if (T t).kind = .other then .bad else xstore (T t) H (ρ a) (ρ x)
  | .fieldAddr t a f => xfieldAddr T (T t) H (ρ a) f
  | .indexAddr t x i => xindexAddr T (T t) H (ρ x) (ρ i)
  | .index t x i => xindex T (T t) H (ρ x) (ρ i)
  | .slice t x lo hi mx => match mx with
    | none => xslice T H (T t) (ρ x) (lo.map ρ) (hi.map ρ)
    | some m => xslice3 T H (T t) (ρ x) (lo.map ρ) (hi.map ρ) (ρ m)
  | .nilCheck x => match ρ x with
    | .ref o c => .val (live H (.ref o c)) (.ref o c) H
    | .cref cs c => .val True (.cref cs c) H
    | .eref o ver i c => .val (live H (.eref o ver i c)) (.eref o ver i c) H
    | _ => .bad
  | .binOp op t x y _ => if isNilS y = true then xnils (T t) H op (ρ x) else match ρ y with
    | .nilm => xnilm (T t) H op (ρ x)
    | _ => xbin T H (T t) op (ρ x) (ρ y)
  | .unOp .not _ x => match ρ x with
    | .bool b => .val True (.bool (!b)) H
    | _ => .bad
  | .unOp .neg _ x => match ρ x with
    | .int k n => .val True (.int k (k.wrap (0 - n))) H
    | _ => .bad
  | .convert s d x => match (T s).kind, (T d).kind with
    | .slice e, .str => if (T e).kind = .int .u8 then xtoStr H (ρ x) else .bad
    | .other, _ => .bad
    | _, .slice e => xconvert own (T s) (T d) (T e) H (ρ x)
    | _, _ => xconvert own (T s) (T d) (T d) H (ρ x)
  | .makeFunc f first cap => .val (∀ x ∈ first.toList ++ cap.toList, (ρ x).storable) (.fn f (first.toList.map ρ) (cap.toList.map ρ)) H
  | .extract t i => match ρ t with
    | .tuple vs => .val (i < vs.length) (V.at vs i) H
    | _ => .bad
  | .call c => match c.callee with
    | .value f => match ρ f with
      | .fn (.func k) first cap => .call k (first ++ c.args.toList.map ρ ++ cap)
      | .fn (.yield l) [] [] => .ycall l (c.args.toList.map ρ)
      | _ => .bad
    | .builtin b => xbuiltin T H b c.argTypes.toList (c.args.toList.map ρ)
    | _ => .bad
  | .makeSlice t n c => match (T t).kind with
    | .slice e => if (T e).kind ≠ .other then xmake (T e) H (ρ n) (ρ c) else .bad
    | _ => .bad
  | .field t x f => match (T t).kind with
    | .struct fs => match fs[f]? with
      | some (ft, off) => xpart (T ft) H off (ρ x)
      | none => .bad
    | _ => .bad
  | .makeMap t r => if r.isSome = true then .bad else xmakeMap (T t) H
  | .lookup t x i ok => xlookup T (T t) H ok (ρ x) (ρ i)
  | .mapUpdate t m k x => xmapUpdate T (T t) H (ρ m) (ρ k) (ρ x)
  | .range t x => xrange (T t) H (ρ x)
  | .entry x => xentry H (ρ x)
  | .makeInterface t x => .val ((T t).kind ≠ .other ∧ (T t).kind ≠ .iface ∧ (ρ x).storable) (.iface t (ρ x)) H
  | .typeAssert x _ t ok => match ρ x with
    | .iface t' v => if ok = true then .bad else .val (t' = t ∧ (T t).kind ≠ .other ∧ (T t).kind ≠ .iface) v H
    | _ => .bad
  | .next x s => if s = true then .bad else .steps (ρ x)
  | _ => .bad
end Go.EL

/- The value logic, part K: numbers, comparisons, conversions, lengths. -/
import Derived.Test.YtjplgbalpnlanaaEJ
import Derived.Laws.StructEq
set_option linter.unusedVariables false
set_option linter.unusedSimpArgs false
namespace Go.EL
open Go
variable {P : Program} {T : Nat → TD} {g : Nat → Option Key} {H : List Ob} {w : World}

theorem maxLen_val : maxLen = 9223372036854775807 := rfl

theorem eqGuard_ok {op : BinOp} {t : TypeId} {x y : Operand} {a b : Value} (h1 : ∀ c, a ≠ .agg c) (h2 : a ≠ .nilIface) : (eqGuard op t x y a b).run P w = .ok () w := by
  unfold eqGuard
  cases op <;> first
    | rfl
    | (cases a <;> first | exact absurd rfl (h1 _) | exact absurd rfl h2 | (cases b <;> rfl))

theorem toList_byte (l : List UInt8) : (ByteArray.mk l.toArray).toList = l := ByteArray.toList_mk l

theorem part_leaf {c : Cx} {t : TypeId} {d : TD} (hT : TyAt P t d) (hd : d.kind.isAgg = false) {arr : Array Value} {i : Nat} {v : Value} (h : arr[i]? = some v) : (part t arr i).run P w = .ok v w := by
  unfold part
  simp [hT.run_isAgg, hd, h]

theorem eqFields_run (hTO : TyOK P T) {c : Cx} {ax ay : Array Value} {xs0 ys0 : List V} (hx : Reps c xs0 ax.toList) (hy : Reps c ys0 ay.toList) (n : Nat) : ∀ (fs : List Field) (k : Nat) (xs ys : List V) (b : Bool),
    (∀ p ∈ fs.zipIdx k, p.1.name ≠ "_" ∧ p.1.offset = p.2) → xs0.drop k = xs → ys0.drop k = ys → eqLeaves xs ys = some b →
    kindsOK T (fs.map fun f => (f.type, f.offset)) xs → kindsOK T (fs.map fun f => (f.type, f.offset)) ys → (Op.eqFields (n + 1) ax ay fs).run P w = .ok b w
  | [], k, xs, ys, b, _, _, _, he, h1, h2 => by
    cases xs with
    | nil => cases ys with
      | nil => simp [eqLeaves] at he; subst he; simp [Op.eqFields]
      | cons y ys => exact h2.elim
    | cons x xs => exact h1.elim
  | f :: fs, k, xs, ys, b, hp, dx, dy, he, h1, h2 => by
    cases xs with
    | nil => exact h1.elim
    | cons x xs =>
    cases ys with
    | nil => exact h2.elim
    | cons y ys =>
    obtain ⟨h1a, h1b⟩ := h1
    obtain ⟨h2a, h2b⟩ := h2
    have hp0 := hp (f, k) (by simp [List.zipIdx_cons])
    simp only [] at hp0
    have gx : xs0[k]? = some x := by have := congrArg (fun l => l[0]?) dx; simpa using this
    have gy : ys0[k]? = some y := by have := congrArg (fun l => l[0]?) dy; simpa using this
    obtain ⟨vx, ex, rx, -⟩ := hx.get gx
    obtain ⟨vy, ey, ry, -⟩ := hy.get gy
    have ex' : ax[k]? = some vx := by simpa using ex
    have ey' : ay[k]? = some vy := by simpa using ey
    have dx' : xs0.drop (k + 1) = xs := by rw [← List.tail_drop, dx]; rfl
    have dy' : ys0.drop (k + 1) = ys := by rw [← List.tail_drop, dy]; rfl
    simp only [eqLeaves] at he
    cases e1 : eqLeaf x y with
    | none => simp [e1] at he
    | some q =>
      cases e2 : eqLeaves xs ys with
      | none => simp [e1, e2] at he
      | some r =>
        simp only [e1, e2, Option.some.injEq] at he
        have ih := eqFields_run hTO hx hy n fs (k + 1) xs ys r (fun p hp' => hp p (by simp [List.zipIdx_cons, hp'])) dx' dy' e2 h1b h2b
        have key : (Op.equalIn (n + 1) f.type vx vy).run P w = .ok q w ∧ (T f.type).kind ≠ .other ∧ (T f.type).kind.isAgg = false := by
          cases x <;> cases y <;> simp only [eqLeaf] at e1 <;> (try cases e1)
          · rename_i k1 a k2 b'
            simp only [RepC, List.cons.injEq, and_true] at rx ry
            subst rx ry
            have hk : (T f.type).kind = .int k1 := h1a
            split at e1
            · rename_i hkk
              injection e1 with e1
              subst hkk e1
              obtain ⟨td, g1, _, g3⟩ := (hTO.at (t := f.type) (by rw [hk]; simp)).run_und w
              have := kind_int g1 hk
              subst this
              exact ⟨run_equalIn_int w n f.type k1 k1 a b' g3, by rw [hk]; simp, by rw [hk]; rfl⟩
            · cases e1
          · rename_i a b'
            simp only [RepC, List.cons.injEq, and_true] at rx ry
            subst rx ry
            have hk : (T f.type).kind = .bool := h1a
            obtain ⟨td, g1, _, g3⟩ := (hTO.at (t := f.type) (by rw [hk]; simp)).run_und w
            have := kind_bool g1 hk
            subst this
            exact ⟨run_equalIn_bool w n f.type a b' g3, by rw [hk]; simp, by rw [hk]; rfl⟩
          · rename_i a b'
            simp only [RepC, List.cons.injEq, and_true] at rx ry
            subst rx ry
            have hk : (T f.type).kind = .str := h1a
            obtain ⟨td, g1, _, g3⟩ := (hTO.at (t := f.type) (by rw [hk]; simp)).run_und w
            have := kind_str g1 hk
            subst this
            have := run_equalIn_string w n f.type ⟨a.toArray⟩ ⟨b'.toArray⟩ g3
            rw [toList_byte, toList_byte] at this
            exact ⟨this, by rw [hk]; simp, by rw [hk]; rfl⟩
        obtain ⟨q1, q2, q3⟩ := key
        have hT := hTO.at q2
        have p1 := part_leaf (P := P) (w := w) (c := c) hT q3 (i := f.offset) (by rw [hp0.2]; exact ex')
        have p2 := part_leaf (P := P) (w := w) (c := c) hT q3 (i := f.offset) (by rw [hp0.2]; exact ey')
        simp only [Op.eqFields]
        rw [if_pos hp0.1]
        simp only [Sem.run_bind, p1, p2, q1, Result.andThen_ok]
        cases q with
        | true => simp [ih, ← he]
        | false => simp [← he]

theorem run_eq_ptr_nil (d : Nat) (t e : TypeId) (p : Option Addr) (h : P.underlying t = some (.pointer e)) : (Op.equalIn (d + 1) t (.pointer p) (.pointer none)).run P w = .ok p.isNone w := by
  simp only [Op.equalIn, Sem.run_bind, run_underlying h, Result.andThen_ok]
  cases p <;> rfl
theorem run_eq_nil_ptr (d : Nat) (t e : TypeId) (p : Option Addr) (h : P.underlying t = some (.pointer e)) : (Op.equalIn (d + 1) t (.pointer none) (.pointer p)).run P w = .ok p.isNone w := by
  simp only [Op.equalIn, Sem.run_bind, run_underlying h, Result.andThen_ok]
  cases p <;> rfl
theorem kind_ptr {td : TypeDesc} {k : TK} {e : Nat} (h : kindOK td k = true) (hk : k = .ptr e) : td = .pointer e := by
  subst hk; cases td <;> simp [kindOK] at h; subst h; rfl
theorem nilEq_value {d : TD} {x : V} {cx : Value} (hG : Good g H w) (hx : RepV (cxOf g H.length w) x cx) {p : Prop} {b : Bool} (h : nilEq d H x = some (p, b)) (hp : p) : ∃ e a, d.kind = .ptr e ∧ cx = .pointer a ∧ a.isNone = b := by
  cases x
  case nilp =>
    simp only [nilEq] at h
    split at h
    · rename_i e hk
      injection h with h; injection h with h1 h2; subst h1 h2
      have := hx.leaf (by simp) (by simp)
      simp only [RepC] at this
      injection this with this
      subst this
      exact ⟨e, _, hk, rfl, rfl⟩
    · cases h
  case ref o c =>
    simp only [nilEq] at h
    split at h
    · rename_i e hk
      injection h with h; injection h with h1 h2; subst h1 h2
      obtain ⟨b, off, rfl, _⟩ := live_addr hG hx (by simpa only [live] using hp)
      exact ⟨e, _, hk, rfl, rfl⟩
    · cases h
  case eref o ver i c =>
    simp only [nilEq] at h
    split at h
    · rename_i e hk
      injection h with h; injection h with h1 h2; subst h1 h2
      obtain ⟨b, off, rfl, _⟩ := live_addr hG hx (by simpa only [live] using hp)
      exact ⟨e, _, hk, rfl, rfl⟩
    · cases h
  case cref cs c =>
    simp only [nilEq] at h
    split at h
    · rename_i e hk
      injection h with h; injection h with h1 h2; subst h1 h2
      obtain ⟨b, off, rfl, _⟩ := live_addr hG hx (by simp only [live])
      exact ⟨e, _, hk, rfl, rfl⟩
    · cases h
  all_goals simp [nilEq] at h
theorem xnil_sound (hTO : TyOK P T) {t : TypeId} {op : BinOp} {x : V} {cx cy : Value} {ox oy : Operand} (hG : Good g H w) (hx : RepV (cxOf g H.length w) x cx) {pre : Prop} {v : V} {H' : List Ob}
    (h : xnil (T t) H op x = .val pre v H') (hp : pre) (hy : cy = .pointer none) : DoneV P g H w (do eqGuard op t ox oy cx cy; binOp op t cx cy) v H' ∧ DoneV P g H w (do eqGuard op t oy ox cy cx; binOp op t cy cx) v H' := by
  subst hy
  unfold xnil at h
  split at h
  case h_2 => cases h
  rename_i p b hb
  have key : p → ∃ e a, (T t).kind = .ptr e ∧ cx = .pointer a ∧ a.isNone = b := nilEq_value hG hx hb
  split at h
  case h_3 => cases h
  all_goals
    injection h with e1 e2 e3
    subst e1 e2 e3
    obtain ⟨e, a, hk, rfl, rfl⟩ := key hp
    have hT := hTO.at (t := t) (by rw [hk]; simp)
    obtain ⟨td, g1, g2, g3⟩ := hT.run_und w
    have := kind_ptr g1 hk
    subst this
    have q1 : (Op.equal t (.pointer a) (.pointer none)).run P w = .ok a.isNone w := run_eq_ptr_nil 9999 t e a g3
    have q2 : (Op.equal t (.pointer none) (.pointer a)).run P w = .ok a.isNone w := run_eq_nil_ptr 9999 t e a g3
    refine ⟨⟨w, g, _, ?_, hG, Ext.refl _ _ _, RepV.mk_bool⟩, ⟨w, g, _, ?_, hG, Ext.refl _ _ _, RepV.mk_bool⟩⟩
    · rw [Sem.run_bind, eqGuard_ok (by simp) (by simp)]
      simp [binOp, q1]
    · rw [Sem.run_bind, eqGuard_ok (by simp) (by simp)]
      simp [binOp, q2]

theorem xbin_sound (hTO : TyOK P T) {t : TypeId} {op : BinOp} {x y : V} {cx cy : Value} {ox oy : Operand} (hG : Good g H w) (hx : RepV (cxOf g H.length w) x cx) (hy : RepV (cxOf g H.length w) y cy) {pre : Prop} {v : V} {H' : List Ob}
    (h : xbin T H (T t) op x y = .val pre v H') (hp : pre) : DoneV P g H w (do eqGuard op t ox oy cx cy; binOp op t cx cy) v H' := by
  unfold xbin at h
  split at h
  · rename_i k a k' b
    have := hx.int
    subst this
    have := hy.int
    subst this
    have hg := eqGuard_ok (P := P) (w := w) (op := op) (t := t) (x := ox) (y := oy) (a := .int k a) (b := .int k' b) (by simp) (by simp)
    split at h
    case h_16 => cases h
    all_goals
      injection h with e1 e2 e3
      subst e1 e2 e3
      refine ⟨w, g, _, ?_, hG, Ext.refl _ _ _, (by first | exact RepV.mk_int | exact RepV.mk_bool)⟩
      rw [Sem.run_bind, hg]
      simp only [Result.andThen_ok]
      first
        | (obtain ⟨rfl, hb⟩ := hp; simp only [binOp, Op.intDiv, hb, if_false, ne_eq, not_true_eq_false]; rfl)
        | (subst hp; simp only [binOp, Op.intArith, Op.intBits, Op.intCmp, ne_eq, not_true_eq_false, if_false]; rfl)
        | (simp only [binOp, Op.shift]; rw [if_neg (by omega)]; rfl)
  · rename_i a b
    obtain ⟨rfl, ha⟩ := hx.str
    obtain ⟨rfl, hb⟩ := hy.str
    have hg := eqGuard_ok (P := P) (w := w) (op := op) (t := t) (x := ox) (y := oy) (a := .string ⟨a.toArray⟩) (b := .string ⟨b.toArray⟩) (by simp) (by simp)
    split at h
    case h_8 => cases h
    · injection h with e1 e2 e3
      subst e1 e2 e3
      refine DoneV.pure_ hG (cv := .string ⟨(a ++ b).toArray⟩) ?_ RepV.mk_str
      rw [Sem.run_bind, hg]
      simp only [Result.andThen_ok, binOp, Op.stringOp]
      have : ((ByteArray.mk a.toArray).size + (ByteArray.mk b.toArray).size : Nat) = (a ++ b).length := by simp [ByteArray.size]
      rw [if_neg (by rw [this]; rw [maxLen_val] at hp; rw [show IntKind.i64.max = 9223372036854775807 from rfl]; omega)]
      simp only [Sem.run_pure]
      congr 2
    all_goals
      injection h with e1 e2 e3
      subst e1 e2 e3
      refine ⟨w, g, _, ?_, hG, Ext.refl _ _ _, RepV.mk_bool⟩
      rw [Sem.run_bind, hg]
      simp only [Result.andThen_ok, binOp, Op.stringOp, toList_byte, Sem.run_pure, strLess]
  · rename_i a b
    have := hx.bool
    subst this
    have := hy.bool
    subst this
    have hg := eqGuard_ok (P := P) (w := w) (op := op) (t := t) (x := ox) (y := oy) (a := .bool a) (b := .bool b) (by simp) (by simp)
    split at h
    case h_3 => cases h
    all_goals
      injection h with e1 e2 e3
      subst e1 e2 e3
      have hT := hTO.at (t := t) (by rw [hp]; simp)
      obtain ⟨td, g1, g2, g3⟩ := hT.run_und w
      have := kind_bool g1 hp
      subst this
      refine ⟨w, g, _, ?_, hG, Ext.refl _ _ _, RepV.mk_bool⟩
      rw [Sem.run_bind, hg]
      simp [binOp, run_equal_bool w t a b g3]
  · rename_i xs ys
    obtain ⟨ax, rfl, hrx⟩ := hx.agg
    obtain ⟨ay, rfl, hry⟩ := hy.agg
    split at h
    case h_2 => cases h
    rename_i fs hk
    split at h
    case h_2 => cases h
    rename_i b hb
    have hT := hTO.at (t := t) (by rw [hk]; simp)
    obtain ⟨td, g1, g2, g3⟩ := hT.run_und w
    obtain ⟨fl, rfl, hl⟩ := kind_struct g1 hk
    have key : (T t).cmp = true → kindsOK T fs xs → kindsOK T fs ys → (eqGuard op t ox oy (.agg ax) (.agg ay)).run P w = .ok () w ∧ (Op.equalIn 10000 t (.agg ax) (.agg ay)).run P w = .ok b w := by
      intro hc k1 k2
      have hc := hT.cmp hc
      unfold cmpOK at hc
      simp only [g3, Bool.and_eq_true, Bool.not_eq_true'] at hc
      obtain ⟨⟨c1, c2⟩, c3⟩ := hc
      refine ⟨run_eqGuard_agg w op t ox oy ax ay c2, ?_⟩
      have hf : P.fieldsOf t = fl := by simp [Program.fieldsOf, g3]
      rw [show (10000 : Nat) = 9999 + 1 from rfl, run_equalIn_struct w 9999 t ax ay (by rw [hf]; exact g3) c1, hf]
      rw [← hl] at k1 k2
      refine eqFields_run hTO hrx hry 9998 fl.toList 0 xs ys b (fun p hp => ?_) rfl rfl hb k1 k2
      have := List.all_eq_true.1 c3 p hp
      simpa using this
    split at h
    case h_3 => cases h
    all_goals
      injection h with e1 e2 e3
      subst e1 e2 e3
      obtain ⟨m1, m2⟩ := key hp.1 hp.2.1 hp.2.2
      refine ⟨w, g, _, ?_, hG, Ext.refl _ _ _, RepV.mk_bool⟩
      rw [Sem.run_bind, m1]
      simp only [Result.andThen_ok]
      first
        | (rw [run_eql_struct, m2]; rfl)
        | (rw [run_neq_struct, m2]; rfl)
  · have hn := hy.leaf (by simp) (by simp)
    simp only [RepC] at hn
    injection hn with hn
    exact (xnil_sound (ox := ox) (oy := oy) hTO hG hx h hp hn).1
  · have hn := hx.leaf (by simp) (by simp)
    simp only [RepC] at hn
    injection hn with hn
    exact (xnil_sound (ox := oy) (oy := ox) hTO hG hy h hp hn).2
  · have hn := hx.leaf (by simp) (by simp)
    simp only [RepC] at hn
    injection hn with hn
    exact (xnil_sound (ox := oy) (oy := ox) hTO hG hy h hp hn).2
  · have hn := hx.leaf (by simp) (by simp)
    simp only [RepC] at hn
    injection hn with hn
    exact (xnil_sound (ox := oy) (oy := ox) hTO hG hy h hp hn).2
  · cases h
end Go.EL

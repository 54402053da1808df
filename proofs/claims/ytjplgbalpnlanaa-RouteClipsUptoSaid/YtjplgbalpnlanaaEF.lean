/- The value logic, part F: addresses, numbers, strings. -/
import Derived.Test.YtjplgbalpnlanaaEE
set_option linter.unusedSimpArgs false
set_option linter.unusedVariables false
namespace Go.EL
open Go
variable {P : Program} {T : Nat → TD} {g : Nat → Option Key} {H : List Ob} {w : World}

theorem kind_slice {td : TypeDesc} {k : TK} {e : Nat} (h : kindOK td k = true) (hk : k = .slice e) : td = .slice e := by
  subst hk; cases td <;> simp [kindOK] at h; subst h; rfl
theorem kind_array {td : TypeDesc} {k : TK} {n e : Nat} (h : kindOK td k = true) (hk : k = .array n e) : td = .array n e := by
  subst hk; cases td <;> simp [kindOK] at h; obtain ⟨rfl, rfl⟩ := h; rfl
theorem kind_str {td : TypeDesc} {k : TK} (h : kindOK td k = true) (hk : k = .str) : td = .string := by
  subst hk; cases td <;> simp [kindOK] at h; rfl
theorem kind_bool {td : TypeDesc} {k : TK} (h : kindOK td k = true) (hk : k = .bool) : td = .bool := by
  subst hk; cases td <;> simp [kindOK] at h; rfl
theorem kind_int {td : TypeDesc} {k : TK} {i : IntKind} (h : kindOK td k = true) (hk : k = .int i) : td = .int i := by
  subst hk; cases td <;> simp [kindOK] at h; subst h; rfl
theorem kind_struct {td : TypeDesc} {k : TK} {l} (h : kindOK td k = true) (hk : k = .struct l) : ∃ fs, td = .struct fs ∧ (fs.toList.map fun f => (f.type, f.offset)) = l := by
  subst hk; cases td <;> simp [kindOK] at h; exact ⟨_, rfl, h⟩

theorem ref_addr {o off : Nat} {ca : Value} {c : Cx} (ha : RepV c (.ref o off) ca) : c.has o ∧ ca.oneCell' = true ∧ ∀ k b, c.key o = some k → k.ver = 0 → k.blk = some b → ca = .pointer (some ⟨b, off, none⟩) := by
  have hl := ha.leaf (by simp) (by simp)
  simp only [RepC] at hl
  obtain ⟨h1, u, hu, h2, h3⟩ := hl
  injection hu with hu
  subst hu
  exact ⟨h1, h2, h3⟩

theorem run_fieldAt {t : TypeId} {d : TD} {fs : List (Nat × Nat)} {f ft off : Nat} {b o : Nat} (hT : TyAt P t d) (hd : d.kind = .struct fs) (hf : fs[f]? = some (ft, off)) {dt : TD} (hF : TyAt P ft dt) (hz : dt.size ≠ 0) :
    (Instr.fieldAt t (.pointer (some ⟨b, o, none⟩)) f).run P w = .ok (.pointer (some ⟨b, o + off, none⟩)) w := by
  obtain ⟨td, h1, h2, _⟩ := hT.run_und w
  obtain ⟨l, rfl, hl⟩ := kind_struct h1 hd
  have hf' : ∃ x, l[f]? = some x ∧ x.type = ft ∧ x.offset = off := by
    rw [← hl, List.getElem?_map] at hf
    simp only [Array.getElem?_toList] at hf
    cases hx : l[f]? with
    | none => rw [hx] at hf; cases hf
    | some x =>
      rw [hx] at hf
      simp only [Option.map_some, Option.some.injEq, Prod.mk.injEq] at hf
      exact ⟨x, rfl, hf.1, hf.2⟩
  obtain ⟨x, hx, rfl, rfl⟩ := hf'
  have := hF.run_sizeOf w
  unfold Instr.fieldAt
  rw [Sem.run_bind, h2]
  simp only [Result.andThen_ok]
  rw [hx]
  simp only []
  rw [Sem.run_bind]
  simp only [Instr.sureAddr, Sem.run_pure, Result.andThen_ok, Sem.run_bind]
  unfold fieldPlace
  rw [Sem.run_bind, this]
  simp [hz, addr_add]


/-- a live pointer is an address, and moved it is the pointer that is moved -/
theorem live_addr {a : V} {ca : Value} (hG : Good g H w) (ha : RepV (cxOf g H.length w) a ca) (h : live H a) :
    ∃ b off, ca = .pointer (some ⟨b, off, none⟩) ∧ ∀ n, RepV (cxOf g H.length w) (match a with | .ref o c => .ref o (c + n) | .cref cs c => .cref cs (c + n) | .eref o ver i c => .eref o ver i (c + n) | x => x) (.pointer (some ⟨b, off + n, none⟩)) := by
  unfold live at h
  split at h
  · rename_i o c
    obtain ⟨cs, ho⟩ := h
    obtain ⟨b, cur, et, fr, k1, _⟩ := hG.var ho
    have hh := ref_addr ha
    have := hh.2.2 _ b k1 rfl rfl
    subst this
    refine ⟨b, c, rfl, fun n => RepV.mk_leaf ?_ (by simp) (by simp)⟩
    simp only [RepC]
    refine ⟨hh.1, _, rfl, rfl, fun k' b' h1 h2 h3 => ?_⟩
    have : g o = some k' := h1
    rw [k1] at this
    injection this with this
    subst this
    injection h3 with h3
    subst h3
    rfl
  · rename_i o ver i c
    obtain ⟨es, l, ho, hi⟩ := h
    obtain ⟨q, hk, hver, hes, hv1, hcm, hcap, hbk⟩ := hG.vec ho
    rcases hbk with ⟨_, h0⟩ | ⟨b, cur, et, fr, hblk, hh, hsz, hr, hu, hone⟩
    · omega
    have hl := ha.leaf (by simp) (by simp)
    simp only [RepC] at hl
    obtain ⟨h1, u, hu, h2, h3⟩ := hl
    injection hu with hu
    subst hu
    have := (h3 q hk).2 b hver hblk
    subst this
    refine ⟨b, i * q.es + c, rfl, fun n => RepV.mk_leaf ?_ (by simp) (by simp)⟩
    simp only [RepC]
    refine ⟨h1, _, rfl, rfl, fun k' g1 => ?_⟩
    have : g o = some k' := g1
    rw [hk] at this
    injection this with this
    subst this
    refine ⟨(h3 q hk).1, fun b' _ g3 => ?_⟩
    rw [hblk] at g3
    injection g3 with g3
    subst g3
    rw [Nat.add_assoc]
  · rename_i cs c
    have hl := ha.leaf (by simp) (by simp)
    simp only [RepC] at hl
    obtain ⟨b, o, ws, hu, h1, h2, h3⟩ := hl
    injection hu with hu
    subst hu
    refine ⟨b, o + c, rfl, fun n => RepV.mk_leaf ?_ (by simp) (by simp)⟩
    simp only [RepC]
    exact ⟨b, o, ws, by rw [Nat.add_assoc], h1, h2, h3⟩
  · exact h.elim

theorem xfieldAddr_sound (hTO : TyOK P T) {t : TypeId} {a : V} {ca : Value} {f : Nat} (hG : Good g H w) (ha : RepV (cxOf g H.length w) a ca) {pre : Prop} {v : V} {H' : List Ob}
    (h : xfieldAddr T (T t) H a f = .val pre v H') (hp : pre) : DoneV P g H w (Instr.fieldAt t ca f) v H' := by
  unfold xfieldAddr at h
  split at h
  · rename_i fs hk
    have hT := hTO.at (t := t) (by rw [hk]; simp)
    split at h
    · rename_i ft off hf
      split at h
      case h_4 => cases h
      all_goals
        injection h with e1 e2 e3
        subst e1 e2 e3
        have hF := hTO.at hp.2.1
        obtain ⟨b, o, rfl, hn⟩ := live_addr hG ha hp.1
        exact DoneV.pure_ hG (run_fieldAt hT hk hf hF hp.2.2) (hn off)
    · cases h
  · cases h

theorem at_get {l : List V} {i : Nat} (h : i < l.length) : l[i]? = some (V.at l i) := by simp [V.at, List.getD, h]

theorem slice_cref {c : Cx} {es b off : Nat} {l : List V} {i : Nat} (hi : c.imm b) (hr : RepE c es b off l) (h : i < l.length) (hsz : (V.at l i).cells.length = es) :
    RepV c (.cref (V.at l i).cells 0) (.pointer (some ⟨b, off + i * es, none⟩)) := by
  obtain ⟨vs, h1, h2, h3⟩ := hr.get (at_get h)
  refine RepV.mk_leaf ?_ (by simp) (by simp)
  simp only [RepC]
  exact ⟨b, off + i * es, vs, by simp, hi, RepC.to_cells h1.2 h1.1, h3⟩

theorem run_indexAt_slice {t e : TypeId} {d : TD} (hT : TyAt P t d) (hd : d.kind = .slice e) {de : TD} (hE : TyAt P e de) {b off len cap : Nat} {k : IntKind} {n : Int} (h0 : 0 ≤ n) (h1 : n < len) :
    (Instr.indexAt t (.slice (some ⟨b, off, none⟩) len cap) (.int k n)).run P w = .ok (.pointer (some ⟨b, off + n.toNat * de.size, none⟩)) w := by
  obtain ⟨td, g1, g2, _⟩ := hT.run_und w
  have := kind_slice g1 hd
  subst this
  unfold Instr.indexAt
  simp [asIntOf, g2, h0, h1, hE.run_sizeOf, addr_add]

theorem run_indexAt_array {t e m : TypeId} {d : TD} (hT : TyAt P t d) (hd : d.kind = .array m e) (hm : 2 ≤ m) {de : TD} (hE : TyAt P e de) {b off : Nat} {k : IntKind} {n : Int} (h0 : 0 ≤ n) (h1 : n < m) :
    (Instr.indexAt t (.pointer (some ⟨b, off, none⟩)) (.int k n)).run P w = .ok (.pointer (some ⟨b, off + n.toNat * de.size, none⟩)) w := by
  obtain ⟨td, g1, g2, _⟩ := hT.run_und w
  have := kind_array g1 hd
  subst this
  unfold Instr.indexAt
  simp [asIntOf, g2, h0, h1, hE.run_sizeOf, addr_add, Instr.sureAddr]

theorem es_of_head {c : Cx} {es b off : Nat} {l : List V} {i : Nat} (hr : RepE c es b off l) (h : i < l.length) : (V.at l i).cells.length = es := by
  obtain ⟨vs, h1, h2, h3⟩ := hr.get (at_get h)
  rw [← h2, h1.2.length]

theorem xindexAddr_sound (hTO : TyOK P T) {t : TypeId} {x i : V} {cx ci : Value} (hG : Good g H w) (hx : RepV (cxOf g H.length w) x cx) (hi : RepV (cxOf g H.length w) i ci) {pre : Prop} {v : V} {H' : List Ob}
    (h : xindexAddr T (T t) H x i = .val pre v H') (hp : pre) : DoneV P g H w (Instr.indexAt t cx ci) v H' := by
  unfold xindexAddr at h
  split at h
  · rename_i e k n hk
    have hT := hTO.at (t := t) (by rw [hk]; simp)
    have := hi.int
    subst this
    split at h
    · rename_i l
      injection h with e1 e2 e3
      subst e1 e2 e3
      obtain ⟨he, h0, h1, hs⟩ := hp
      have hE := hTO.at he
      have hl := hx.leaf (by simp) (by simp)
      simp only [RepC] at hl
      obtain ⟨a, cap, es, hu, _, _, hr⟩ := hl
      injection hu with hu
      subst hu
      rcases hr with hr | ⟨b, off, rfl, himm, hr⟩
      · subst hr; simp at h1; omega
      have hln : n.toNat < l.length := by omega
      have hes := es_of_head hr hln
      refine DoneV.pure_ hG (run_indexAt_slice hT hk hE h0 h1) ?_
      rw [show (T e).size = es by omega]
      exact slice_cref himm hr hln hes
    · rename_i l
      injection h with e1 e2 e3
      subst e1 e2 e3
      obtain ⟨he, h0, h1, hs⟩ := hp
      have hE := hTO.at he
      have hl := hx.leaf (by simp) (by simp)
      simp only [RepC] at hl
      obtain ⟨a, es, hu, _, hr⟩ := hl
      injection hu with hu
      subst hu
      rcases hr with hr | ⟨b, off, rfl, himm, hr⟩
      · subst hr; simp at h1; omega
      have hln : n.toNat < l.length := by omega
      have hes := es_of_head hr hln
      refine DoneV.pure_ hG (run_indexAt_slice hT hk hE h0 h1) ?_
      rw [show (T e).size = es by omega]
      exact slice_cref himm hr hln hes
    · rename_i o ver off len
      split at h
      · rename_i ver' es l ho
        injection h with e1 e2 e3
        subst e1 e2 e3
        obtain ⟨he, rfl, h0, h1, h2, hs⟩ := hp
        have hE := hTO.at he
        obtain ⟨q, hq, hver, hqes, hv1, hcm, hcap, hbk⟩ := hG.vec ho
        rcases hbk with ⟨_, h0'⟩ | ⟨b, cur, et, fr, hblk, hh, hsz, hr, hu, hone⟩
        · omega
        have hl := hx.leaf (by simp) (by simp)
        simp only [RepC] at hl
        obtain ⟨g1, u, hu', g2, g3⟩ := hl
        injection hu' with hu'
        subst hu'
        obtain ⟨g4, g5⟩ := g3 q hq
        obtain ⟨g6, a, rfl, g7⟩ := g5 hver
        obtain ⟨b', g8, rfl⟩ := g7 (by omega)
        rw [hblk] at g8
        injection g8 with g8
        subst g8
        have hln : off + n.toNat < l.length := by omega
        have hes := es_of_head hr hln
        refine DoneV.pure_ hG (run_indexAt_slice hT hk hE h0 h1) ?_
        refine RepV.mk_leaf ?_ (by simp) (by simp)
        simp only [RepC]
        refine ⟨g1, _, rfl, rfl, fun k' hk' => ?_⟩
        have : g o = some k' := hk'
        rw [hq] at this
        injection this with this
        subst this
        refine ⟨g4, fun b'' _ h4 => ?_⟩
        rw [hblk] at h4
        injection h4 with h4
        subst h4
        rw [show (T e).size = q.es by omega, Nat.add_mul, Nat.add_zero]
      · cases h
    · cases h
  · rename_i m e k n hk
    have hT := hTO.at (t := t) (by rw [hk]; simp)
    have := hi.int
    subst this
    split at h
    · injection h with e1 e2 e3
      subst e1 e2 e3
      obtain ⟨hlive, he, hm, h0, h1⟩ := hp
      have hE := hTO.at he
      obtain ⟨b, o, rfl, hn⟩ := live_addr hG hx hlive
      exact DoneV.pure_ hG (run_indexAt_array hT hk hm hE h0 h1) (hn _)
    · injection h with e1 e2 e3
      subst e1 e2 e3
      obtain ⟨he, hm, h0, h1⟩ := hp
      have hE := hTO.at he
      obtain ⟨b, o, rfl, hn⟩ := live_addr hG hx trivial
      exact DoneV.pure_ hG (run_indexAt_array hT hk hm hE h0 h1) (hn _)
    · cases h
  · cases h
end Go.EL

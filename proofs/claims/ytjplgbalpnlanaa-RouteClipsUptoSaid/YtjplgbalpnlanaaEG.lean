/- The value logic, part G: indexes, slices, structs, boxes. -/
import Derived.Test.YtjplgbalpnlanaaEF
set_option linter.unusedVariables false
set_option linter.unusedSimpArgs false
namespace Go.EL
open Go
variable {P : Program} {T : Nat → TD} {g : Nat → Option Key} {H : List Ob} {w : World}

theorem str_get {l : List UInt8} {i : Nat} : (ByteArray.mk l.toArray)[i]? = l[i]? := by
  by_cases h : i < l.length
  · rw [List.getElem?_eq_getElem h]
    rw [getElem?_pos (ByteArray.mk l.toArray) i (by simpa [ByteArray.size] using h)]
    rfl
  · rw [List.getElem?_eq_none (by omega)]
    rw [getElem?_neg (ByteArray.mk l.toArray) i (by simpa [ByteArray.size] using h)]

theorem part_rep {e : TypeId} {de : TD} (hE : TyAt P e de) {cs : List V} {arr : Array Value} {off : Nat} (hr : Reps (cxOf g H.length w) cs arr.toList) (hl : off + de.size ≤ cs.length) (h1 : de.kind.isAgg = false → de.size = 1) :
    ∃ cv, (part e arr off).run P w = .ok cv w ∧ RepV (cxOf g H.length w) (mkV de ((cs.drop off).take de.size)) cv := by
  have hlen := hr.length
  refine ⟨_, ?_, mkV_rep ((hr.drop off).take de.size) (by rw [List.length_take, List.length_drop]; omega) h1⟩
  unfold part
  rw [Sem.run_bind, hE.run_isAgg w]
  simp only [Result.andThen_ok]
  cases hk : de.kind.isAgg with
  | true =>
    simp only [if_true, Sem.run_bind, hE.run_sizeOf, Result.andThen_ok, Sem.run_pure]
    congr 2
    apply Array.toList_inj.1
    simp [List.extract_eq_take_drop]
  | false =>
    have hs := h1 hk
    have hlt : off < arr.size := by have : arr.toList.length = arr.size := by simp
                                    omega
    have : arr[off]? = some arr[off] := by simp [hlt]
    simp only [if_false, Bool.false_eq_true, this, Sem.run_pure]
    congr 1
    rw [hs]
    have : arr.toList.drop off = arr[off] :: arr.toList.drop (off + 1) := by
      rw [List.drop_eq_getElem_cons (by simpa using hlt)]; simp
    rw [this]
    rfl

theorem xindex_sound (hTO : TyOK P T) {t : TypeId} {x i : V} {cx ci : Value} (hG : Good g H w) (hx : RepV (cxOf g H.length w) x cx) (hi : RepV (cxOf g H.length w) i ci) {pre : Prop} {v : V} {H' : List Ob}
    (h : xindex T (T t) H x i = .val pre v H') (hp : pre) : DoneV P g H w (Instr.index t cx ci) v H' := by
  unfold xindex at h
  split at h
  · rename_i l k n hk
    have hT := hTO.at (t := t) (by rw [hk]; simp)
    injection h with e1 e2 e3
    subst e1 e2 e3
    obtain ⟨h0, h1⟩ := hp
    have := hi.int
    subst this
    obtain ⟨rfl, hl⟩ := hx.str
    obtain ⟨td, g1, g2, _⟩ := hT.run_und w
    have := kind_str g1 hk
    subst this
    have hlt : n.toNat < l.length := by omega
    refine DoneV.pure_ hG (cv := .int .u8 (l.getD n.toNat 0).toNat) ?_ RepV.mk_int
    unfold Instr.index
    simp only [asIntOf, Sem.run_bind, Sem.run_pure, Result.andThen_ok, g2]
    rw [if_pos h0, str_get, List.getElem?_eq_getElem hlt]
    simp [List.getD, hlt]
  · rename_i m e cs k n hk
    have hT := hTO.at (t := t) (by rw [hk]; simp)
    injection h with e1 e2 e3
    subst e1 e2 e3
    obtain ⟨he, h0, h1, h2, h3⟩ := hp
    have hE := hTO.at he
    have := hi.int
    subst this
    obtain ⟨arr, rfl, hr⟩ := hx.agg
    obtain ⟨td, g1, g2, _⟩ := hT.run_und w
    have := kind_array g1 hk
    subst this
    have hb : n.toNat * (T e).size + (T e).size ≤ cs.length := by
      have : (n.toNat + 1) * (T e).size ≤ m * (T e).size := Nat.mul_le_mul_right _ (by omega)
      rw [Nat.add_mul] at this; omega
    obtain ⟨cv, k1, k2⟩ := part_rep hE hr hb h3
    refine DoneV.pure_ hG (cv := cv) ?_ k2
    unfold Instr.index
    simp only [asIntOf, Sem.run_bind, Sem.run_pure, Result.andThen_ok, g2]
    rw [if_pos ⟨h0, h1⟩]
    simp [hE.run_sizeOf, k1]
  · cases h

theorem str_extract (l : List UInt8) (a b : Nat) : (ByteArray.mk l.toArray).extract a b = ByteArray.mk ((l.take b).drop a).toArray := by
  apply ByteArray.ext
  apply Array.toList_inj.1
  simp [ByteArray.data_extract, List.extract_eq_take_drop, List.drop_take]

theorem sliceV_rep {c : Cx} {l : List V} {es b off : Nat} (himm : c.imm b) (hr : RepE c es b off l) {a b' cap : Nat} (h1 : a ≤ b') (h2 : b' ≤ l.length) (hc : l.length ≤ cap) (hm : cap ≤ maxLen) :
    RepV c (.slice ((l.take b').drop a)) (.slice (if cap = a then some ⟨b, off, none⟩ else some ⟨b, off + a * es, none⟩) (b' - a) (cap - a)) := by
  refine RepV.mk_leaf ?_ (by simp) (by simp)
  simp only [RepC]
  have hlen : ((l.take b').drop a).length = b' - a := by simp; omega
  refine ⟨_, cap - a, es, by rw [hlen], by omega, by omega, ?_⟩
  by_cases e : cap = a
  · left
    apply List.eq_nil_of_length_eq_zero
    omega
  · right
    rw [if_neg e]
    exact ⟨b, off + a * es, rfl, himm, (hr.take b').drop a⟩

def RepO (c : Cx) : Option V → Option Value → Prop
  | none, none => True
  | some x, some v => RepV c x v
  | _, _ => False

theorem run_sliceBound_ok {k : IntKind} {i : Int} {y : Nat} {code : BoundsCode} (h0 : 0 ≤ i) (h1 : i ≤ y) : (Instr.sliceBound (.int k i) y code).run P w = .ok i.toNat w := by
  simp [Instr.sliceBound, asIntOf, h0, h1]

theorem run_sliceBounds {c : Cx} (isS : Bool) (len cap : Nat) {lo hi : Option V} {clo chi : Option Value} (hl : RepO c lo clo) (hh : RepO c hi chi) {a b : Int} (ha : loOf lo = some a) (hb : hiOf len hi = some b)
    (h0 : 0 ≤ a) (h1 : a ≤ b) (h2 : b ≤ cap) : (Instr.sliceBounds isS len cap clo chi none).run P w = .ok (a.toNat, b.toNat, cap) w := by
  have hb0 : 0 ≤ b := by omega
  have e1 : ∀ m : Nat, b ≤ m → (match chi with | some v => Instr.sliceBound v m (if isS then .sliceAcap else .sliceAlen) | none => pure len : Sem Nat).run P w = .ok b.toNat w := by
    intro m hm
    cases hi with
    | none =>
      cases chi with
      | none => injection hb with hb; subst hb; rfl
      | some _ => exact hh.elim
    | some x =>
      cases chi with
      | none => exact hh.elim
      | some v =>
        cases x <;> first | cases hb | skip
        have := RepV.int hh
        subst this
        exact run_sliceBound_ok hb0 hm
  have e2 : (match clo with | some v => Instr.sliceBound v b.toNat .sliceB | none => pure 0 : Sem Nat).run P w = .ok a.toNat w := by
    cases lo with
    | none =>
      cases clo with
      | none => injection ha with ha; subst ha; rfl
      | some _ => exact hl.elim
    | some x =>
      cases clo with
      | none => exact hl.elim
      | some v =>
        cases x <;> first | cases ha | skip
        have := RepV.int hl
        subst this
        exact run_sliceBound_ok h0 (by omega)
  have e1' := e1 cap h2
  unfold Instr.sliceBounds
  cases chi <;> cases clo <;> simp only [] at e1' e2 ⊢ <;> simp_all

theorem sliceH_rep {c : Cx} {l : List V} {ad : Option Addr} {es cap : Nat} (hr : l = [] ∨ ∃ b off, ad = some ⟨b, off, none⟩ ∧ c.imm b ∧ RepE c es b off l) {a b' size : Nat} (hsz : l ≠ [] → size = es) (h1 : a ≤ b') (h2 : b' ≤ l.length) (hc : l.length ≤ cap) (hm : cap ≤ maxLen) :
    RepV c (.slice ((l.take b').drop a)) (.slice (if cap = a then ad else ad.map (·.add (a * size))) (b' - a) (cap - a)) := by
  rcases hr with rfl | ⟨b, off, rfl, hi, hr⟩
  · have : b' = 0 := by simpa using h2
    subst this
    have hlen : ((([] : List V).take 0).drop a).length = 0 - a := by simp
    refine RepV.mk_leaf ?_ (by simp) (by simp)
    simp only [RepC]
    exact ⟨_, cap - a, es, by rw [hlen], by omega, by omega, .inl (by simp)⟩
  · by_cases hn : l = []
    · subst hn
      have : b' = 0 := by simpa using h2
      subst this
      have hlen : ((([] : List V).take 0).drop a).length = 0 - a := by simp
      refine RepV.mk_leaf ?_ (by simp) (by simp)
      simp only [RepC]
      exact ⟨_, cap - a, es, by rw [hlen], by omega, by omega, .inl (by simp)⟩
    · rw [hsz hn]
      have := sliceV_rep hi hr h1 h2 hc hm
      simpa [addr_add] using this

theorem hiOf_none {d : Int} : hiOf d none = some d := rfl

theorem parts_repE {c : Cx} {d : TD} {b : Nat} (h1 : d.kind.isAgg = false → d.size = 1) : ∀ (m : Nat) (cs : List V) (vs : List Value) (off : Nat), Reps c cs vs → cs.length = m * d.size → (∀ i v, vs[i]? = some v → c.cell ⟨b, off + i, none⟩ = some v) → RepE c d.size b off (parts d m cs)
  | 0, _, _, _, _, _, _ => by simp [parts, RepE]
  | m + 1, cs, vs, off, hr, hl, hc => by
    have hvl := hr.length
    have e : (m + 1) * d.size = d.size + m * d.size := by rw [Nat.add_mul]; omega
    have hz : (cs.take d.size).length = d.size := by rw [List.length_take]; omega
    have key : (mkV d (cs.take d.size)).storable ∧ RepC c (mkV d (cs.take d.size)) (vs.take d.size) := by
      have hr' := hr.take d.size
      unfold mkV
      cases hk : d.kind.isAgg with
      | true => exact ⟨trivial, by simp only [if_true, RepC]; exact hr'⟩
      | false =>
        have h1 := h1 hk
        rw [h1] at hz hr' ⊢
        match hzz : cs.take 1, hz with
        | [x], _ =>
          rw [hzz] at hr'
          simp only [Reps] at hr'
          obtain ⟨v, vs', e2, h2, h3, h4⟩ := hr'
          subst h4
          simp only [Bool.false_eq_true, if_false, List.headD_cons]
          rw [e2]
          exact ⟨by cases x <;> first | exact h2 | exact h2.elim, h3⟩
    simp only [parts, RepE]
    refine ⟨vs.take d.size, key, by rw [List.length_take]; omega, fun i v hv => hc i v ?_, parts_repE h1 m _ (vs.drop d.size) (off + d.size) (hr.drop d.size) (by rw [List.length_drop]; omega) (fun i v hv => ?_)⟩
    · rw [List.getElem?_take] at hv
      split at hv
      · exact hv
      · cases hv
    · rw [List.getElem?_drop] at hv
      rw [Nat.add_assoc]
      exact hc _ v hv
theorem parts_len (d : TD) : ∀ (m : Nat) (cs : List V), (parts d m cs).length = m
  | 0, _ => rfl
  | m + 1, cs => by simp [parts, parts_len d m]

theorem array_slice_sound (hTO : TyOK P T) {t m e : Nat} (hk : (T t).kind = .array m e) {x : V} {cx : Value} {lo hi : Option V} {clo chi : Option Value} (hG : Good g H w) (hx : RepV (cxOf g H.length w) x cx)
    (hlo : RepO (cxOf g H.length w) lo clo) (hhi : RepO (cxOf g H.length w) hi chi) {pre : Prop} {v : V} {H' : List Ob}
    (h : (if (T e).kind = .other then XR.bad else xsliceA (T e) H m x lo hi) = .val pre v H') (hp : pre) : DoneV P g H w (Instr.sliceAt t cx clo chi none) v H' := by
  have hT := hTO.at (t := t) (by rw [hk]; simp)
  obtain ⟨td, g1, g2, _⟩ := hT.run_und w
  have := kind_array g1 hk
  subst this
  split at h
  · cases h
  rename_i hek
  have hE := hTO.at hek
  obtain ⟨o, rfl, rfl, rfl⟩ : ∃ o, x = .ref o 0 ∧ lo = none ∧ hi = none := by
    unfold xsliceA at h
    split at h
    · exact ⟨_, rfl, rfl, rfl⟩
    · cases h
  unfold xsliceA at h
  simp only at h
  split at h
  case h_2 => cases h
  rename_i cs ho
  injection h with e1 e2 e3
  subst e1 e2 e3
  obtain ⟨hl, hm, h1⟩ := hp
  cases clo with
  | some _ => exact hlo.elim
  | none =>
  cases chi with
  | some _ => exact hhi.elim
  | none =>
  obtain ⟨b, cur, et, fr, hq, hh, hr, hu⟩ := hG.var ho
  obtain ⟨_, _, ha⟩ := ref_addr hx
  have := ha _ b hq rfl rfl
  subst this
  have hlt := lt_of_get ho
  have hcl := hr.length
  have hrun : (Instr.sliceAt t (.pointer (some ⟨b, 0, none⟩)) none none none).run P w = .ok (.slice (some ⟨b, 0, none⟩) m m) w := by
    unfold Instr.sliceAt
    simp only [Sem.run_bind, g2, Result.andThen_ok]
    simp [Instr.sureAddr, Instr.sliceBounds, hE.run_sizeOf, addr_add]
  have hob := step_one hG o (setKey g o (some ⟨1, some b, (T e).size, m⟩)) (H.set o (.vec 1 (T e).size (parts (T e) m cs))) w rfl rfl rfl
    (fun o' ho' => set_get_ne ho') (fun o' ho' => setKey_other ho') (by simp) (Nat.le_refl _) (fun _ _ _ => rfl)
    (fun k' bb hk' hb => by rw [setKey_same] at hk'; injection hk' with e; subst e; exact .inr ⟨_, hq, hb⟩)
    (fun _ k' hk' => by rw [setKey_same] at hk'; injection hk' with e; subst e; exact ⟨_, hq, by simp, fun e => by simp at e⟩)
    (fun mo => by
      rw [setKey_same, set_get_eq ho]
      refine ⟨_, rfl, rfl, rfl, Nat.le_refl _, by unfold maxLen; simp only; omega, by rw [parts_len]; exact Nat.le_refl _, .inr ⟨b, cur, et, fr, rfl, hh, ?_, ?_, hu, fun v hv => hr.oneCell v hv⟩⟩
      · simp only; rw [← hl, ← hcl]; simp
      · refine parts_repE h1 m cs cur.toList 0 (Reps.mono mo _ _ hr) hl (fun i v hv => ?_)
        show w.cell? _ = some v
        rw [cell?_row hh, Nat.zero_add]
        exact hv)
  refine ⟨w, _, _, hrun, hob.1, hob.2, RepV.mk_leaf ?_ (by simp) (by simp)⟩
  simp only [RepC]
  refine ⟨has_set (by simpa using hlt) (.inr (Nat.le_refl _)), _, rfl, rfl, fun k hk' => ?_⟩
  have hk' : setKey g o (some ⟨1, some b, (T e).size, m⟩) o = some k := hk'
  rw [setKey_same] at hk'
  injection hk' with hk'
  subst hk'
  exact ⟨Nat.le_refl _, fun _ => ⟨by simp, _, rfl, fun _ => ⟨b, rfl, by simp⟩⟩⟩

theorem repE_take' {c : Cx} (es b : Nat) : ∀ (n off : Nat) (l : List V), RepE c es b off l → RepE c es b off (l.take n)
  | 0, _, _, _ => by simp [RepE]
  | n + 1, _, [], _ => by simp [RepE]
  | n + 1, off, x :: l, h => by
    simp only [List.take_succ_cons, RepE] at h ⊢
    obtain ⟨vs, h1, h2, h3, h4⟩ := h
    exact ⟨vs, h1, h2, h3, repE_take' es b n _ l h4⟩
theorem xslice3_sound (hTO : TyOK P T) {t : TypeId} {x : V} {cx : Value} {lo hi : Option V} {clo chi : Option Value} {m : V} {cm : Value} (hG : Good g H w) (hx : RepV (cxOf g H.length w) x cx) (hlo : RepO (cxOf g H.length w) lo clo) (hhi : RepO (cxOf g H.length w) hi chi) (hm : RepV (cxOf g H.length w) m cm)
    {pre : Prop} {v : V} {H' : List Ob}
    (h : xslice3 T H (T t) x lo hi m = .val pre v H') (hp : pre) : DoneV P g H w (Instr.sliceAt t cx clo chi (some cm)) v H' := by
  unfold xslice3 at h
  split at h
  case h_2 => cases h
  rename_i e hk
  have hT := hTO.at (t := t) (by rw [hk]; simp)
  obtain ⟨td, g1, g2, _⟩ := hT.run_und w
  have := kind_slice g1 hk
  subst this
  split at h
  case isTrue => cases h
  rename_i hek
  have hE := hTO.at hek
  have key : ∀ (a : Option Addr) (len cap es : Nat) (l : List V) (k k' : IntKind) (n : Int), len = l.length → len ≤ cap → cap ≤ maxLen → 0 ≤ n → n ≤ l.length → chi = some (.int k n) → clo = none → (l = [] ∨ ∃ b off, a = some ⟨b, off, none⟩ ∧ (cxOf g H.length w).imm b ∧ RepE (cxOf g H.length w) es b off l) →
      DoneV P g H w (Instr.sliceAt t (.slice a len cap) clo chi (some (.int k' n))) (.fslice (l.take n.toNat)) H := by
    rintro a len cap es l k k' n rfl hc hmx h0 h1 rfl rfl hr
    refine DoneV.pure_ hG (cv := .slice (if n.toNat = 0 then a else a.map (·.add 0)) n.toNat n.toNat) ?_ (RepV.mk_leaf ?_ (by simp) (by simp))
    · unfold Instr.sliceAt Instr.slice
      simp only [Sem.run_bind, g2, Result.andThen_ok]
      have b1 : (0 ≤ n ∧ n ≤ (cap : Int)) := ⟨h0, by omega⟩
      have b2 : (0 ≤ n ∧ n ≤ ((n.toNat : Nat) : Int)) := ⟨h0, by omega⟩
      simp [g2, Instr.sliceBounds, Instr.sliceBound, asIntOf, b1, b2, hE.run_sizeOf]
      try omega
    · simp only [RepC]
      have hlen : (l.take n.toNat).length = n.toNat := by rw [List.length_take]; omega
      refine ⟨if n.toNat = 0 then a else a.map (·.add 0), es, by rw [hlen], by rw [hlen]; omega, ?_⟩
      by_cases hn : n.toNat = 0
      · left; rw [hn]; simp
      · rw [if_neg hn]
        rcases hr with rfl | ⟨b, off, rfl, hi, hr⟩
        · left; simp
        · right
          exact ⟨b, off, by simp [addr_add], hi, repE_take' es b _ _ _ hr⟩
  split at h
  · rename_i l k n k' m'
    injection h with e1 e2 e3
    subst e1 e2 e3
    obtain ⟨h0, rfl, h1⟩ := hp
    have hl := hx.leaf (by simp) (by simp)
    simp only [RepC] at hl
    obtain ⟨ad, cap, es, hu, hc, hmx, hr⟩ := hl
    injection hu with hu
    subst hu
    have := hm.int
    subst this
    cases chi with
    | none => exact hhi.elim
    | some ci =>
      have := RepV.int (show RepV _ (.int k n) ci from hhi)
      subst this
      cases clo with
      | some _ => exact hlo.elim
      | none => exact key ad _ cap es l k k' n rfl hc hmx h0 h1 rfl rfl hr
  · rename_i l k n k' m'
    injection h with e1 e2 e3
    subst e1 e2 e3
    obtain ⟨h0, rfl, h1⟩ := hp
    have hl := hx.leaf (by simp) (by simp)
    simp only [RepC] at hl
    obtain ⟨ad, es, hu, hmx, hr⟩ := hl
    injection hu with hu
    subst hu
    have := hm.int
    subst this
    cases chi with
    | none => exact hhi.elim
    | some ci =>
      have := RepV.int (show RepV _ (.int k n) ci from hhi)
      subst this
      cases clo with
      | some _ => exact hlo.elim
      | none => exact key ad _ _ es l k k' n rfl (Nat.le_refl _) hmx h0 h1 rfl rfl hr
  · cases h

theorem xslice_sound (hTO : TyOK P T) {t : TypeId} {x : V} {cx : Value} {lo hi : Option V} {clo chi : Option Value} (hG : Good g H w) (hx : RepV (cxOf g H.length w) x cx) (hlo : RepO (cxOf g H.length w) lo clo) (hhi : RepO (cxOf g H.length w) hi chi)
    {pre : Prop} {v : V} {H' : List Ob}
    (h : xslice T H (T t) x lo hi = .val pre v H') (hp : pre) : DoneV P g H w (Instr.sliceAt t cx clo chi none) v H' := by
  unfold xslice at h
  split at h
  case h_4 => cases h
  case h_3 m e hk =>
    exact array_slice_sound hTO hk hG hx hlo hhi h hp
  · rename_i hk
    have hT := hTO.at (t := t) (by rw [hk]; simp)
    obtain ⟨td, g1, g2, _⟩ := hT.run_und w
    have := kind_str g1 hk
    subst this
    split at h
    case h_2 => cases h
    rename_i l
    split at h
    case h_2 => cases h
    rename_i a b ha hb
    injection h with e1 e2 e3
    subst e1 e2 e3
    obtain ⟨h0, h1, h2⟩ := hp
    obtain ⟨rfl, hl⟩ := hx.str
    have hsz : (ByteArray.mk l.toArray).size = l.length := by simp [ByteArray.size]
    have hb' := run_sliceBounds (P := P) (w := w) false (ByteArray.mk l.toArray).size (ByteArray.mk l.toArray).size hlo hhi ha (by rw [hsz]; exact hb) h0 h1 (by rw [hsz]; exact h2)
    refine DoneV.pure_ hG (cv := .string ⟨((l.take b.toNat).drop a.toNat).toArray⟩) ?_ RepV.mk_str
    unfold Instr.sliceAt Instr.slice
    simp only [Sem.run_bind, g2, Result.andThen_ok]
    simp [hb', str_extract, g2]
  · rename_i e hk
    have hT := hTO.at (t := t) (by rw [hk]; simp)
    obtain ⟨td, g1, g2, _⟩ := hT.run_und w
    have := kind_slice g1 hk
    subst this
    split at h
    case h_2 => cases h
    rename_i hek
    have hE := hTO.at hek
    have hrun : ∀ (ad : Option Addr) (len cap : Nat) (a b : Int), loOf lo = some a → hiOf len hi = some b → 0 ≤ a → a ≤ b → b ≤ cap →
        (Instr.sliceAt t (.slice ad len cap) clo chi none).run P w = .ok (.slice (if cap = a.toNat then ad else ad.map (·.add (a.toNat * (T e).size))) (b.toNat - a.toNat) (cap - a.toNat)) w := by
      intro ad len cap a b ha hb h0 h1 h2
      have hb' := run_sliceBounds (P := P) (w := w) true len cap hlo hhi ha hb h0 h1 h2
      unfold Instr.sliceAt Instr.slice
      simp only [Sem.run_bind, g2, Result.andThen_ok]
      simp [hb', g2, hE.run_sizeOf]
    split at h
    · rename_i l
      split at h
      case h_2 => cases h
      rename_i a b ha hb
      injection h with e1 e2 e3
      subst e1 e2 e3
      obtain ⟨h0, h1, h2, hs⟩ := hp
      have hl := hx.leaf (by simp) (by simp)
      simp only [RepC] at hl
      obtain ⟨ad, cap, es, hu, hc, hm, hr⟩ := hl
      injection hu with hu
      subst hu
      refine DoneV.pure_ hG (hrun ad l.length cap a b ha hb h0 h1 (by omega)) ?_
      rcases hs with hs | hs
      · subst hs
        have := sliceH_rep (size := es) hr (a := 0) (b' := b.toNat) (fun _ => rfl) (by omega) (by omega) hc hm
        simp only [Int.toNat_zero, Nat.zero_mul] at this ⊢
        exact this
      · exact sliceH_rep hr (fun hne => by
          rcases hr with hr | ⟨bb, off, _, _, hr⟩
          · exact absurd hr hne
          · have hpos : 0 < l.length := List.length_pos_iff.2 hne
            have := es_of_head hr hpos
            have h3 := hs (V.at l 0) (List.mem_of_getElem? (at_get hpos))
            omega) (by omega) (by omega) hc hm
    · rename_i l
      split at h
      case h_2 => cases h
      rename_i a b ha hb
      injection h with e1 e2 e3
      subst e1 e2 e3
      obtain ⟨h0, h1, h2, hs⟩ := hp
      have hl := hx.leaf (by simp) (by simp)
      simp only [RepC] at hl
      obtain ⟨ad, es, hu, hm, hr⟩ := hl
      injection hu with hu
      subst hu
      refine DoneV.pure_ hG (hrun ad l.length l.length a b ha hb h0 h1 (by omega)) ?_
      rcases hs with hs | hs
      · subst hs
        have := sliceH_rep (size := es) hr (a := 0) (b' := b.toNat) (fun _ => rfl) (by omega) (by omega) (Nat.le_refl _) hm
        simp only [Int.toNat_zero, Nat.zero_mul] at this ⊢
        exact this
      · exact sliceH_rep hr (fun hne => by
          rcases hr with hr | ⟨bb, off, _, _, hr⟩
          · exact absurd hr hne
          · have hpos : 0 < l.length := List.length_pos_iff.2 hne
            have := es_of_head hr hpos
            have h3 := hs (V.at l 0) (List.mem_of_getElem? (at_get hpos))
            omega) (by omega) (by omega) (Nat.le_refl _) hm
    · rename_i o ver off n
      split at h
      case h_2 => cases h
      rename_i a b ver' es l ha hb ho
      injection h with e1 e2 e3
      subst e1 e2 e3
      obtain ⟨rfl, h0, h1, h2, h3, hs⟩ := hp
      have hl := hx.leaf (by simp) (by simp)
      simp only [RepC] at hl
      obtain ⟨k1, u, hu, k2, k3⟩ := hl
      injection hu with hu
      subst hu
      obtain ⟨q, hq, hver, hqes, hv1, hcm, hcap, hbk⟩ := hG.vec ho
      obtain ⟨k4, k5⟩ := k3 q hq
      obtain ⟨k6, ad, rfl, k7⟩ := k5 hver
      refine DoneV.pure_ hG (hrun ad n (q.cap - off) a b ha hb h0 h1 (by omega)) ?_
      refine RepV.mk_leaf ?_ (by simp) (by simp)
      simp only [RepC]
      refine ⟨k1, _, rfl, rfl, fun k' hk' => ?_⟩
      have : g o = some k' := hk'
      rw [hq] at this
      injection this with this
      subst this
      refine ⟨k4, fun _ => ⟨by omega, _, by rw [Nat.sub_sub], fun hlt => ?_⟩⟩
      obtain ⟨bb, m1, rfl⟩ := k7 (by omega)
      refine ⟨bb, m1, ?_⟩
      rw [if_neg (by omega)]
      simp only [Option.map_some, addr_add]
      rcases hs with hs | hs
      · subst hs; simp
      · rw [← hs, ← hqes, Nat.add_mul]
    · cases h
end Go.EL

/- The value logic, part J: append, buildSlice, conversions. -/
import Derived.Test.YtjplgbalpnlanaaEI
import Derived.Laws.Append
set_option linter.unusedVariables false
set_option linter.unusedSimpArgs false
namespace Go.EL
open Go
variable {P : Program} {T : Nat → TD} {g : Nat → Option Key} {H : List Ob} {w : World}

/-- elements, as one row of cells -/
def RepF (c : Cx) (es : Nat) : List V → List Value → Prop
  | [], cl => cl = []
  | x :: xs, cl => ∃ vs cl', cl = vs ++ cl' ∧ (x.storable ∧ RepC c x vs) ∧ vs.length = es ∧ RepF c es xs cl'

theorem RepF.mono {c c' : Cx} (m : Mono c c') {es : Nat} : ∀ {l : List V} {cl : List Value}, RepF c es l cl → RepF c' es l cl
  | [], _, h => h
  | x :: xs, _, ⟨vs, cl', h1, h2, h3, h4⟩ => ⟨vs, cl', h1, ⟨h2.1, RepC.mono m _ _ h2.2⟩, h3, h4.mono m⟩
theorem RepF.length {c : Cx} {es : Nat} : ∀ {l : List V} {cl : List Value}, RepF c es l cl → cl.length = l.length * es
  | [], _, h => by simp only [RepF] at h; subst h; simp
  | x :: xs, _, ⟨vs, cl', h1, h2, h3, h4⟩ => by subst h1; rw [List.length_append, h3, h4.length, List.length_cons, Nat.add_mul]; omega
theorem RepF.append {c : Cx} {es : Nat} : ∀ {l m : List V} {cl cm : List Value}, RepF c es l cl → RepF c es m cm → RepF c es (l ++ m) (cl ++ cm)
  | [], m, _, cm, h, k => by simp only [RepF] at h; subst h; exact k
  | x :: xs, m, _, cm, ⟨vs, cl', h1, h2, h3, h4⟩, k => ⟨vs, cl' ++ cm, by rw [h1, List.append_assoc], h2, h3, h4.append k⟩
theorem RepF.oneCell {c : Cx} {es : Nat} : ∀ {l : List V} {cl : List Value}, RepF c es l cl → ∀ v ∈ cl, v.oneCell' = true
  | [], _, h, v, hv => by simp only [RepF] at h; subst h; simp at hv
  | x :: xs, _, ⟨vs, cl', h1, h2, h3, h4⟩, v, hv => by
    subst h1
    rcases List.mem_append.1 hv with hv | hv
    · exact (RepC.to_cells h2.2 h2.1).oneCell v hv
    · exact h4.oneCell v hv

theorem RepF.repE {c : Cx} {es b : Nat} : ∀ {l : List V} {cl : List Value} {off : Nat}, RepF c es l cl → (∀ j v, cl[j]? = some v → c.cell ⟨b, off + j, none⟩ = some v) → RepE c es b off l
  | [], _, off, h, hc => by simp [RepE]
  | x :: xs, _, off, ⟨vs, cl', h1, h2, h3, h4⟩, hc => by
    subst h1
    simp only [RepE]
    refine ⟨vs, h2, h3, fun i v hv => hc i v ?_, h4.repE (fun j v hv => ?_)⟩
    · rw [List.getElem?_append_left (List.getElem?_eq_some_iff.1 hv).1]; exact hv
    · rw [show off + es + j = off + (es + j) by omega]
      refine hc (es + j) v ?_
      rw [List.getElem?_append_right (by omega), h3, Nat.add_sub_cancel_left]
      exact hv

theorem RepE.flat {c : Cx} {es b : Nat} : ∀ {l : List V} {off : Nat}, RepE c es b off l → ∃ cl, RepF c es l cl ∧ ∀ j v, cl[j]? = some v → c.cell ⟨b, off + j, none⟩ = some v
  | [], off, _ => ⟨[], rfl, fun j v h => by simp at h⟩
  | x :: xs, off, h => by
    simp only [RepE] at h
    obtain ⟨vs, h1, h2, h3, h4⟩ := h
    obtain ⟨cl, k1, k2⟩ := h4.flat
    refine ⟨vs ++ cl, ⟨vs, cl, rfl, h1, h2, k1⟩, fun j v hj => ?_⟩
    by_cases hlt : j < vs.length
    · rw [List.getElem?_append_left hlt] at hj
      exact h3 j v hj
    · rw [List.getElem?_append_right (by omega)] at hj
      have := k2 _ v hj
      rwa [h2, show off + es + (j - es) = off + j by omega] at this

theorem RepF.of_sized {c : Cx} {es : Nat} : ∀ {l : List V} {es' : Nat} {cl : List Value}, RepF c es' l cl → Sized es l → RepF c es l cl
  | [], _, _, h, _ => h
  | x :: xs, _, _, ⟨vs, cl', h1, h2, h3, h4⟩, hs => ⟨vs, cl', h1, h2, by rw [h2.2.length]; exact hs x (by simp), h4.of_sized (fun y hy => hs y (by simp [hy]))⟩

/-- what firstCells reads of what is added -/
def FirstOK (P : Program) (size n : Nat) (x : Value) (cl : List Value) (w : World) : Prop := ∀ w', w'.heap = w.heap → (Builtin.firstCells size n x).run P w' = .ok cl.toArray w'

theorem lenOf_slice (a : Option Addr) (n c : Nat) : Builtin.lenOf (.slice a n c) = Sem.pure n := rfl

theorem first_slice {b off n cap size : Nat} {cl : List Value} (hl : cl.length = n * size) (hc : ∀ j v, cl[j]? = some v → w.cell? ⟨b, off + j, none⟩ = some v) :
    FirstOK P size n (.slice (some ⟨b, off, none⟩) n cap) cl w := by
  intro w' hw'
  refine run_firstCells_some w' size n ⟨b, off, none⟩ n cap cl hl (fun j v hj => ?_)
  rw [addr_add, ← hc j v hj]
  simp [World.cell?, hw']
theorem first_empty {a : Option Addr} {cap size : Nat} : FirstOK P size 0 (.slice a 0 cap) [] w := by
  intro w' _
  cases a with
  | none => simp [Builtin.firstCells]
  | some a => 
    have := run_firstCells_some (P := P) w' size 0 a 0 cap [] (by simp) (fun j v h => by simp at h)
    simpa using this

def vbyte (b : UInt8) : V := .int .u8 b.toNat
theorem bytes_repF {c : Cx} : ∀ (l : List UInt8), RepF c 1 (l.map fun b => V.int .u8 b.toNat) (l.map fun b => Value.int .u8 b.toNat)
  | [] => rfl
  | b :: l => ⟨[.int .u8 b.toNat], _, rfl, ⟨trivial, by simp [RepC]⟩, rfl, bytes_repF l⟩

theorem elems_sound {x : V} {cx : Value} {xs : List V} (hG : Good g H w) (hx : RepV (cxOf g H.length w) x cx) (h : elems H x = some xs) {size : Nat} (hs : Sized size xs) (hst : ∀ x ∈ xs, x.storable) :
    ∃ cl, RepF (cxOf g H.length w) size xs cl ∧ Builtin.lenOf cx = Sem.pure xs.length ∧ FirstOK P size xs.length cx cl w := by
  unfold elems at h
  split at h
  · rename_i l
    injection h with h
    subst h
    have hl := hx.leaf (by simp) (by simp)
    simp only [RepC] at hl
    obtain ⟨a, cap, es, hu, hc, hm, hr⟩ := hl
    injection hu with hu
    subst hu
    rcases hr with hr | ⟨b, off, rfl, himm, hr⟩
    · subst hr
      exact ⟨[], rfl, rfl, first_empty⟩
    · obtain ⟨cl, k1, k2⟩ := hr.flat
      have k1' := k1.of_sized hs
      exact ⟨cl, k1', rfl, first_slice k1'.length k2⟩
  · rename_i l
    injection h with h
    subst h
    have hl := hx.leaf (by simp) (by simp)
    simp only [RepC] at hl
    obtain ⟨a, es, hu, hm, hr⟩ := hl
    injection hu with hu
    subst hu
    rcases hr with hr | ⟨b, off, rfl, himm, hr⟩
    · subst hr
      exact ⟨[], rfl, rfl, first_empty⟩
    · obtain ⟨cl, k1, k2⟩ := hr.flat
      have k1' := k1.of_sized hs
      exact ⟨cl, k1', rfl, first_slice k1'.length k2⟩
  · rename_i l
    injection h with h
    subst h
    obtain ⟨rfl, hm⟩ := hx.str
    have hsz : (ByteArray.mk l.toArray).size = l.length := by simp [ByteArray.size]
    refine ⟨l.map fun b => Value.int .u8 b.toNat, ?_, by simp [Builtin.lenOf, hsz]; rfl, ?_⟩
    · exact (bytes_repF l).of_sized hs
    · intro w' _
      simp [Builtin.firstCells]
  · rename_i o ver off n
    split at h
    · rename_i ver' es l ho
      split at h
      · rename_i hc
        injection h with h
        subst h
        obtain ⟨rfl, hlen⟩ := hc
        obtain ⟨q, hq, hver, hes, hv1, hcm, hcap, hbk⟩ := hG.vec ho
        have hl := hx.leaf (by simp) (by simp)
        simp only [RepC] at hl
        obtain ⟨k1, u, hu, k2, k3⟩ := hl
        injection hu with hu
        subst hu
        obtain ⟨k4, k5⟩ := k3 q hq
        obtain ⟨k6, a, rfl, k7⟩ := k5 hver
        have hln : ((l.drop off).take n).length = n := by simp; omega
        by_cases hn : n = 0
        · subst hn
          exact ⟨[], by simp [RepF], by simp [Builtin.lenOf]; rfl, by simpa using first_empty⟩
        · obtain ⟨b, m1, rfl⟩ := k7 (by omega)
          rcases hbk with ⟨h0, _⟩ | ⟨b', cur, et, fr, hblk, hh, hsz, hr, hu, hone⟩
          · rw [h0] at m1; cases m1
          rw [hblk] at m1
          injection m1 with m1
          subst m1
          have hr' := (hr.drop off).take n
          rw [Nat.zero_add] at hr'
          obtain ⟨cl, c1, c2⟩ := hr'.flat
          have c1' := c1.of_sized hs
          refine ⟨cl, c1', by rw [hln]; rfl, ?_⟩
          have := c1'.length
          rw [hln] at this ⊢
          exact first_slice this c2
      · cases h
    · cases h
  · cases h

section
variable {t u ty e : TypeId} {td : TypeDesc} {i : TypeInfo} {z x : Value} {n sLen sCap : Nat} {cl : List Value} {base : Option Addr}
theorem run_append_in (hT : P.underlying t = some (.slice e)) (hU : P.underlying u = some td) (hd : ∀ k, td ≠ .int k) (hi : P.info? e = some i)
    (hlen : Builtin.lenOf x = Sem.pure n) (hf : FirstOK P i.size n x cl w) (hroom : sLen + n ≤ sCap) :
    (Builtin.append_ #[t, u] ty #[.slice base sLen sCap, x]).run P w =
      ((match base with | some a => storeCells (a.add (sLen * i.size)) cl | none => pure () : Sem Unit).run P w).andThen fun _ w' => .ok (.slice base (sLen + n) sCap) w' := by
  have hf' := hf w rfl
  have hz : (match td with | .int _ => true | _ => false) = false := by cases td <;> first | rfl | exact absurd rfl (hd _)
  cases base <;> simp [Builtin.append_, run_underlying hT, run_underlying hU, sizeOf, typeInfo, hi, hz, hlen, hroom, hf']

theorem run_append_out (hT : P.underlying t = some (.slice e)) (hU : P.underlying u = some td) (hd : ∀ k, td ≠ .int k) (hi : P.info? e = some i) (hz : i.zero = some z)
    (hlen : Builtin.lenOf x = Sem.pure n) (hf : FirstOK P i.size n x cl w) {co : List Value} (ho : FirstOK P i.size sLen (.slice base sLen sCap) co w) (hroom : sCap < sLen + n)
    (h63 : ((sLen + n : Nat) : Int) ≤ 9223372036854775807) (hfit : Builtin.nextslicecap (sLen + n) sCap * i.bytes ≤ 281474976710656) :
    ∃ cap w', sLen + n ≤ cap ∧ cap ≤ maxLen ∧ w' = pushW { w with drawn := w.drawn + 1 } (.cells ((co ++ cl).toArray ++ Builtin.zeroCells z.cells (cap - (sLen + n))) e) ∧
    (Builtin.append_ #[t, u] ty #[.slice base sLen sCap, x]).run P w = .ok (.slice (some ⟨w.heap.size, 0, none⟩) (sLen + n) cap) w' := by
  have hf' := hf w.drew rfl
  have ho' := ho w.drew rfl
  have hzz : (match td with | .int _ => true | _ => false) = false := by cases td <;> first | rfl | exact absurd rfl (hd _)
  have hn : ¬ (sLen + n ≤ sCap) := by omega
  have h63' : ¬ (9223372036854775807 < ((sLen : Int) + (n : Int))) := by omega
  have h48' : ¬ (281474976710656 < Builtin.nextslicecap (sLen + n) sCap * i.bytes) := by omega
  refine ⟨grownCap w (sLen + n) sCap e, _, grownCap_ge _ _ _ _, grownCap_le_maxLen _ _ _ _ (by unfold maxLen; omega), rfl, ?_⟩
  simp [Builtin.append_, run_underlying hT, run_underlying hU, sizeOf, typeInfo, zeroValue, hi, hz, hzz, hlen, hn, h63', h48', Question.forced, hf', ho', newRow, grownCap]
  show pushW w.drew _ = pushW w.drew _
  congr 2
  apply Array.ext'
  simp
end

theorem size_zeroCells' (z : Array Value) (n : Nat) : (Builtin.zeroCells z n).size = n * z.size := by simp [Builtin.zeroCells]
theorem mem_zeroCells {z : Array Value} {n : Nat} {v : Value} (h : v ∈ (Builtin.zeroCells z n).toList) : v ∈ z.toList := by
  simp only [Builtin.zeroCells, Array.toList_map, List.mem_map] at h
  obtain ⟨i, hi, rfl⟩ := h
  simp only [Array.mem_toList_iff, Array.mem_range] at hi
  have hz : 0 < z.size := by
    rcases Nat.eq_zero_or_pos z.size with h0 | h0
    · rw [h0, Nat.mul_zero] at hi; omega
    · exact h0
  have hlt := Nat.mod_lt i hz
  rw [getElem!_pos z _ hlt]
  exact Array.mem_toList_iff.2 (Array.getElem_mem hlt)

/-- a row that grows, made anew -/
theorem step_vec_new (hG : Good g H w) {o : Nat} (ver es : Nat) (l : List V) (hver : 1 ≤ ver) (ho : o = H.length ∨ ∃ k, g o = some k ∧ o < H.length ∧ k.ver < ver) {cl : List Value} {rest : Array Value} {cap : Nat} (et : TypeId) (fr : Nat × Nat) (hfr : unfrozen fr (cl.length + rest.size))
    (hr : RepF (cxOf g H.length w) es l cl) (hcap : l.length ≤ cap) (hm : cap ≤ maxLen) (hsz : cl.length + rest.size = cap * es) (hone : ∀ v ∈ rest.toList, v.oneCell' = true) (H' : List Ob)
    (hH' : (o = H.length ∧ H' = H ++ [.vec ver es l]) ∨ (o < H.length ∧ H' = H.set o (.vec ver es l))) :
    Good (setKey g o (some ⟨ver, some w.heap.size, es, cap⟩)) H' (pushW w (.cells (cl.toArray ++ rest) et fr)) ∧
    Ext g H.length w (setKey g o (some ⟨ver, some w.heap.size, es, cap⟩)) H'.length (pushW w (.cells (cl.toArray ++ rest) et fr)) ∧
    RepV (cxOf (setKey g o (some ⟨ver, some w.heap.size, es, cap⟩)) H'.length (pushW w (.cells (cl.toArray ++ rest) et fr))) (.vec o ver 0 l.length) (.slice (some ⟨w.heap.size, 0, none⟩) l.length cap) := by
  have hn : H.length ≤ H'.length := by rcases hH' with ⟨_, h⟩ | ⟨_, h⟩ <;> subst h <;> simp
  have hoH : o < H'.length := by rcases hH' with ⟨h1, h⟩ | ⟨h1, h⟩ <;> subst h <;> simp <;> omega
  have hget : H'[o]? = some (.vec ver es l) := by
    rcases hH' with ⟨h1, h⟩ | ⟨h1, h⟩
    · subst h; subst h1; simp
    · subst h; simp [h1]
  have := step_one hG o (setKey g o (some ⟨ver, some w.heap.size, es, cap⟩)) H' (pushW w (.cells (cl.toArray ++ rest) et fr)) rfl rfl rfl
    (fun o' ho' => by
      rcases hH' with ⟨h1, h⟩ | ⟨h1, h⟩
      · subst h; subst h1; exact getElem?_snoc_ne ho'
      · subst h; exact set_get_ne ho')
    (fun o' ho' => setKey_other ho') hn (by rw [size_pushW]; omega) (fun b hb _ => heap_pushW_old hb)
    (fun k' b hk' hb => by rw [setKey_same] at hk'; injection hk' with e; subst e; injection hb with hb; left; omega)
    (fun hlt k' hk' => by
      rw [setKey_same] at hk'; injection hk' with e; subst e
      rcases ho with ho | ⟨k, h1, h2, h3⟩
      · omega
      · exact ⟨k, h1, Nat.le_of_lt h3, fun e => by simp only [] at e; omega⟩)
    (fun m => by
      rw [setKey_same, hget]
      refine ⟨_, rfl, rfl, rfl, hver, hm, hcap, .inr ⟨w.heap.size, _, et, fr, rfl, heap_pushW_new _ _, by simp [hsz], ?_, by simpa using hfr, ?_⟩⟩
      · refine (hr.mono m).repE (fun j v hj => ?_)
        show (pushW w _).cell? _ = some v
        rw [cell?_row (heap_pushW_new _ _)]
        simp only [Array.toList_append, Nat.zero_add]
        rw [List.getElem?_append_left (by simpa using (List.getElem?_eq_some_iff.1 hj).1)]
        exact hj
      · intro v hv
        simp only [Array.toList_append, List.mem_append] at hv
        rcases hv with hv | hv
        · exact hr.oneCell v hv
        · exact hone v hv)
  refine ⟨this.1, this.2, RepV.mk_leaf ?_ (by simp) (by simp)⟩
  simp only [RepC]
  refine ⟨has_set hoH (.inl (by simp)), _, rfl, rfl, fun k hk => ?_⟩
  have hk : setKey g o (some ⟨ver, some w.heap.size, es, cap⟩) o = some k := hk
  rw [setKey_same] at hk
  injection hk with hk
  subst hk
  exact ⟨Nat.le_refl _, fun _ => ⟨by simpa using hcap, _, rfl, fun _ => ⟨w.heap.size, rfl, by simp⟩⟩⟩

theorem kind_notint {td : TypeDesc} {k : TK} (h : kindOK td k = true) (hk : ∀ i, k ≠ .int i) : ∀ i, td ≠ .int i := by
  intro i e; subst e; cases k <;> simp [kindOK] at h; exact hk _ rfl

theorem fits_of {need cap bytes : Nat} (h : cap < need) (hb : need * bytes ≤ limBytes) (h0 : 0 < bytes) : ((need : Nat) : Int) ≤ 9223372036854775807 ∧ Builtin.nextslicecap need cap * bytes ≤ 281474976710656 := by
  unfold limBytes at hb
  refine ⟨?_, growslice_fits h hb⟩
  have : need ≤ need * bytes := Nat.le_mul_of_pos_right _ h0
  omega

theorem xappend_sound (hTO : TyOK P T) {t u e ty : TypeId} (hk : (T t).kind = .slice e) (he : (T e).kind ≠ .other) (hu0 : (T u).kind ≠ .other) (hu : ∀ i, (T u).kind ≠ .int i) {s x : V} {cs cx : Value} (hG : Good g H w)
    (hs : RepV (cxOf g H.length w) s cs) (hx : RepV (cxOf g H.length w) x cx) {pre : Prop} {v : V} {H' : List Ob} (h : xappend (T e) H s x = .val pre v H') (hp : pre) :
    DoneV P g H w (Builtin.append_ #[t, u] ty #[cs, cx]) v H' := by
  have hT := hTO.at (t := t) (by rw [hk]; simp)
  obtain ⟨td, g1, _, g3⟩ := hT.run_und w
  have := kind_slice g1 hk
  subst this
  obtain ⟨ud, u1, _, u3⟩ := (hTO.at hu0).run_und w
  have hud := kind_notint u1 hu
  have hE := hTO.at he
  obtain ⟨i, z, i1, i2, i3, i4, i5⟩ := hE.info
  have hzr : Reps (cxOf g H.length w) (T e).zero z.cells.toList := zEqs_reps i5
  have hzl : z.cells.size = (T e).size := by have := hzr.length; rw [hE.zlen] at this; simpa using this
  unfold xappend at h
  split at h
  · cases h
  rename_i xs hxs
  split at h
  · rename_i o ver off n
    split at h
    · rename_i ver' es l ho
      injection h with e1 e2 e3
      subst e1 e2 e3
      obtain ⟨rfl, hes, rfl, rfl, hst, hsz, hlim, hb0⟩ := hp
      obtain ⟨q, hq, hver, hqes, hv1, hcm, hcap, hbk⟩ := hG.vec ho
      have hl := hs.leaf (by simp) (by simp)
      simp only [RepC] at hl
      obtain ⟨k1, uu, huu, k2, k3⟩ := hl
      injection huu with huu
      subst huu
      obtain ⟨k4, k5⟩ := k3 q hq
      obtain ⟨k6, ad, rfl, k7⟩ := k5 hver
      obtain ⟨cl, c1, c2, c3⟩ := elems_sound hG hx hxs hsz hst
      rw [← i2] at c1 c3
      have hlo := lt_of_get ho
      simp only [Nat.sub_zero]
      by_cases hroom : l.length + xs.length ≤ q.cap
      · have hrun := run_append_in (P := P) (w := w) (ty := ty) (base := ad) g3 u3 hud i1 c2 c3 hroom
        by_cases hxe : xs = []
        · subst hxe
          simp only [RepF] at c1
          subst c1
          rw [List.append_nil]
          have hw' : (Builtin.append_ #[t, u] ty #[.slice ad l.length q.cap, cx]).run P w = .ok (.slice ad l.length q.cap) w := by
            rw [hrun]; cases ad <;> simp [storeCells]
          have hstep := step_one hG o (setKey g o (some { q with ver := q.ver + 1 })) (H.set o (.vec (ver' + 1) es l)) w rfl rfl rfl
            (fun o' ho' => set_get_ne ho') (fun o' ho' => setKey_other ho') (by simp) (Nat.le_refl _) (fun _ _ _ => rfl)
            (fun k' b hk' hb => by rw [setKey_same] at hk'; injection hk' with e; subst e; exact .inr ⟨q, hq, hb⟩)
            (fun _ k' hk' => by rw [setKey_same] at hk'; injection hk' with e; subst e; exact ⟨q, hq, by simp, fun e => by simp at e⟩)
            (fun m => by
              rw [setKey_same, set_get_eq ho]
              have := ObOK.mono m (heap := w.heap) (heap' := w.heap) (fun q' b _ _ => ⟨rfl, fun _ _ => rfl⟩) (hG.ob o)
              rw [ho, hq] at this
              obtain ⟨q0, a1, a2, a3, a4, a5, a6, a7⟩ := this
              injection a1 with a1
              subst a1
              refine ⟨_, rfl, by simp [hver], hqes, by omega, hcm, by simpa using hcap, ?_⟩
              exact a7)
          refine ⟨w, _, _, hw', hstep.1, hstep.2, RepV.mk_leaf ?_ (by simp) (by simp)⟩
          simp only [RepC]
          refine ⟨has_set (by simpa using hlo) (.inr (by simp)), _, rfl, rfl, fun k hk => ?_⟩
          have hk : setKey g o (some { q with ver := q.ver + 1 }) o = some k := hk
          rw [setKey_same] at hk
          injection hk with hk
          subst hk
          exact ⟨by simp [hver], fun _ => ⟨by simpa using hcap, ad, by simp, fun h0 => k7 h0⟩⟩
        · have hxl : 0 < xs.length := List.length_pos_iff.2 hxe
          obtain ⟨b, m1, rfl⟩ := k7 (by omega)
          rcases hbk with ⟨h0, _⟩ | ⟨b', cur, et, fr, hblk, hh, hcsz, hr, hun, hone⟩
          · rw [h0] at m1; cases m1
          rw [hblk] at m1
          injection m1 with m1
          subst m1
          have hsize : i.size = q.es := by omega
          rw [hsize] at hrun c1 c3
          have hcl := c1.length
          have hfit : l.length * q.es + cl.length ≤ cur.size := by
            rw [hcsz, hcl, ← Nat.add_mul]; exact Nat.mul_le_mul_right _ hroom
          have hstore := run_storeCells_cells (P := P) b' (l.length * q.es) cl 0 w
            (fun j hj => by rw [Nat.add_zero, cell?_row hh]; simp; omega)
            (fun j hj => by
              have := hun (l.length * q.es + j) (by omega)
              simp only [World.frozen?, hh, Nat.add_zero]
              simpa using this) c1.oneCell
          have hw' : (Builtin.append_ #[t, u] ty #[.slice (some ⟨b', 0 * q.es, none⟩) l.length q.cap, cx]).run P w = .ok (.slice (some ⟨b', 0 * q.es, none⟩) (l.length + xs.length) q.cap) (w.setCells b' (l.length * q.es) cl) := by
            rw [hrun]; simp only [addr_add, Nat.zero_mul, Nat.zero_add]; rw [hstore]; simp
          have hrest := rest_setCells b' cl (l.length * q.es) w
          have hheap := heap_setCells cl (l.length * q.es) w cur hh hfit
          have hstep := step_one hG o (setKey g o (some { q with ver := q.ver + 1 })) (H.set o (.vec (ver' + 1) es (l ++ xs))) (w.setCells b' (l.length * q.es) cl) hrest.1 hrest.2.1 hrest.2.2.1
            (fun o' ho' => set_get_ne ho') (fun o' ho' => setKey_other ho') (by simp) (by rw [size_setCells]; exact Nat.le_refl _)
            (fun bb _ hne => heap_setCells_ne (fun e => hne q hq (by rw [e]; exact hblk)) _ _ _)
            (fun k' bb hk' hb => by rw [setKey_same] at hk'; injection hk' with e; subst e; exact .inr ⟨q, hq, hb⟩)
            (fun _ k' hk' => by rw [setKey_same] at hk'; injection hk' with e; subst e; exact ⟨q, hq, by simp, fun e => by simp at e⟩)
            (fun m => by
              rw [setKey_same, set_get_eq ho]
              refine ⟨_, rfl, by simp [hver], hqes, by omega, hcm, by simpa using hroom, .inr ⟨b', _, et, fr, hblk, hheap, ?_, ?_, ?_, ?_⟩⟩
              · rw [← hcsz]; simp only [List.size_toArray, List.length_append, List.length_take, List.length_drop, Array.length_toList]; omega
              · obtain ⟨clo, d1, d2⟩ := hr.flat
                have hlo' := d1.length
                refine ((d1.append c1).mono m).repE (fun j v hj => ?_)
                show (w.setCells b' (l.length * q.es) cl).cell? _ = some v
                rw [cell?_row hheap]
                simp only [Nat.zero_add]
                have htk : cur.toList.take (l.length * q.es) = clo := by
                  apply List.ext_getElem?
                  intro k
                  rw [List.getElem?_take]
                  split
                  · rename_i hk
                    have := d2 k clo[k] (List.getElem?_eq_getElem (by omega))
                    rw [show (cxOf g H.length w).cell = w.cell? from rfl, cell?_row hh] at this
                    simp only [Nat.zero_add] at this
                    rw [this, List.getElem?_eq_getElem (by omega)]
                  · rw [List.getElem?_eq_none (by omega)]
                rw [htk]
                rw [List.getElem?_append_left (List.getElem?_eq_some_iff.1 hj).1]
                exact hj
              · simp only [List.size_toArray, List.length_append, List.length_take, List.length_drop, Array.length_toList]
                intro j hj
                exact hun j (by omega)
              · intro v hv
                simp only [List.mem_append] at hv
                rcases hv with (hv | hv) | hv
                · exact hone v (List.mem_of_mem_take hv)
                · exact c1.oneCell v hv
                · exact hone v (List.mem_of_mem_drop hv))
          refine ⟨_, _, _, hw', hstep.1, hstep.2, RepV.mk_leaf ?_ (by simp) (by simp)⟩
          simp only [RepC]
          refine ⟨has_set (by simpa using hlo) (.inr (by simp)), _, rfl, rfl, fun k hk => ?_⟩
          have hk : setKey g o (some { q with ver := q.ver + 1 }) o = some k := hk
          rw [setKey_same] at hk
          injection hk with hk
          subst hk
          exact ⟨by simp [hver], fun _ => ⟨by simpa using hroom, _, by simp, fun h0 => ⟨b', hblk, rfl⟩⟩⟩
      · have hco : ∃ co, RepF (cxOf g H.length w) i.size l co ∧ FirstOK P i.size l.length (.slice ad l.length q.cap) co w := by
          rcases hbk with ⟨h0, h1⟩ | ⟨b', cur, et, fr, hblk, hh, hcsz, hr, hun, hone⟩
          · have : l = [] := List.eq_nil_of_length_eq_zero (by omega)
            subst this
            exact ⟨[], rfl, first_empty⟩
          · by_cases hle : l = []
            · subst hle
              exact ⟨[], rfl, first_empty⟩
            · have hpos := List.length_pos_iff.2 hle
              obtain ⟨b, m1, rfl⟩ := k7 (by omega)
              rw [hblk] at m1
              injection m1 with m1
              subst m1
              obtain ⟨clo, d1, d2⟩ := hr.flat
              rw [show q.es = i.size by omega] at d1
              refine ⟨clo, d1, ?_⟩
              rw [Nat.zero_mul]
              exact first_slice d1.length d2
        obtain ⟨co, d1, d2⟩ := hco
        rw [List.length_append] at hlim
        obtain ⟨f1, f2⟩ := fits_of (Nat.lt_of_not_le hroom) hlim hb0
        rw [← i3] at f2
        obtain ⟨cap, w', w1, w2, rfl, w4⟩ := run_append_out (P := P) (w := w) (ty := ty) g3 u3 hud i1 i4 c2 c3 d2 (Nat.lt_of_not_le hroom) f1 f2
        have hd := step_drawn hG (w.drawn + 1)
        have hrf : RepF (cxOf g H.length { w with drawn := w.drawn + 1 }) es (l ++ xs) (co ++ cl) := by
          rw [hes, ← i2]; exact d1.append c1
        have hst2 := step_vec_new hd.1 (o := o) (ver' + 1) es (l ++ xs) (by omega) (.inr ⟨q, hq, hlo, by omega⟩) (rest := Builtin.zeroCells z.cells (cap - (l.length + xs.length))) (cap := cap) e (0, 0) (fun j _ => by simp) hrf (by rw [List.length_append]; exact w1) w2
          (by rw [hrf.length, size_zeroCells', hzl, ← hes, List.length_append, ← Nat.add_mul]; congr 1; omega)
          (fun v hv => hzr.oneCell v (mem_zeroCells hv)) (H.set o (.vec (ver' + 1) es (l ++ xs))) (.inr ⟨hlo, rfl⟩)
        refine ⟨_, _, _, w4, hst2.1, hd.2.trans hst2.2.1, ?_⟩
        have := hst2.2.2
        rw [show (l ++ xs).length = l.length + xs.length from List.length_append] at this
        exact this
    · cases h
  · rename_i l
    split at h
    · rename_i hcc
      injection h with e1 e2 e3
      subst e1 e2 e3
      have hxe : xs = [] := List.isEmpty_iff.1 hcc.2
      subst hxe
      obtain ⟨cl, c1, c2, c3⟩ := elems_sound (size := (T e).size) hG hx hxs (fun y hy => by cases hy) (fun y hy => by cases hy)
      rw [← i2] at c1 c3
      have hl := hs.leaf (by simp) (by simp)
      simp only [RepC] at hl
      obtain ⟨a, es, hu', hm, hr⟩ := hl
      injection hu' with hu'
      subst hu'
      simp only [RepF] at c1
      subst c1
      have hrun := run_append_in (P := P) (w := w) (ty := ty) (base := a) (sLen := l.length) (sCap := l.length) g3 u3 hud i1 c2 c3 (Nat.le_refl _)
      have hw' : (Builtin.append_ #[t, u] ty #[.slice a l.length l.length, cx]).run P w = .ok (.slice a l.length l.length) w := by
        rw [hrun]; cases a <;> simp [storeCells]
      exact ⟨w, g, _, hw', hG, Ext.refl _ _ _, hs⟩
    rename_i hcc
    injection h with e1 e2 e3
    subst e1 e2 e3
    obtain ⟨hst, hsz, hlim, hb0⟩ := hp
    have hne : l = [] ∨ xs ≠ [] := by
      by_cases hx0 : xs = []
      · left
        subst hx0
        cases l with
        | nil => rfl
        | cons a l => exact absurd ⟨rfl, rfl⟩ hcc
      · exact .inr hx0
    obtain ⟨cl, c1, c2, c3⟩ := elems_sound hG hx hxs (fun y hy => hsz y (List.mem_append_right _ hy)) hst
    rw [← i2] at c1 c3
    have hl := hs.leaf (by simp) (by simp)
    simp only [RepC] at hl
    obtain ⟨a, es, hu', hm, hr⟩ := hl
    injection hu' with hu'
    subst hu'
    by_cases hxe : xs = []
    · have hle : l = [] := by rcases hne with h | h; exact h; exact absurd hxe h
      subst hxe
      subst hle
      simp only [RepF] at c1
      subst c1
      have hrun := run_append_in (P := P) (w := w) (ty := ty) (base := a) (sLen := 0) (sCap := 0) g3 u3 hud i1 c2 c3 (Nat.le_refl _)
      have hw' : (Builtin.append_ #[t, u] ty #[.slice a 0 0, cx]).run P w = .ok (.slice a 0 0) w := by
        rw [List.length_nil] at hrun
        rw [hrun]; cases a <;> simp [storeCells]
      have hz : g H.length = none := hG.none_of_ge (Nat.le_refl _)
      have hstep := step_one hG H.length (setKey g H.length (some ⟨1, none, (T e).size, 0⟩)) (H ++ [.vec 1 (T e).size ([] ++ [])]) w rfl rfl rfl
        (fun o' ho' => getElem?_snoc_ne ho') (fun o' ho' => setKey_other ho') (by simp) (Nat.le_refl _) (fun _ _ _ => rfl)
        (fun k' b hk' hb => by rw [setKey_same] at hk'; injection hk' with e; subst e; cases hb)
        (fun hlt => absurd hlt (Nat.lt_irrefl _))
        (fun m => by
          rw [setKey_same, getElem?_snoc_eq]
          exact ⟨_, rfl, rfl, rfl, Nat.le_refl _, by simp, by simp, .inl ⟨rfl, rfl⟩⟩)
      refine ⟨w, _, _, hw', hstep.1, hstep.2, RepV.mk_leaf ?_ (by simp) (by simp)⟩
      simp only [RepC]
      refine ⟨has_set (by simp) (.inr (Nat.le_refl _)), _, rfl, rfl, fun k hk => ?_⟩
      have hk : setKey g H.length (some ⟨1, none, (T e).size, 0⟩) H.length = some k := hk
      rw [setKey_same] at hk
      injection hk with hk
      subst hk
      exact ⟨Nat.le_refl _, fun _ => ⟨by simp, a, by simp, fun h0 => absurd h0 (Nat.lt_irrefl _)⟩⟩
    · have hxl : 0 < xs.length := List.length_pos_iff.2 hxe
      have hco : ∃ co, RepF (cxOf g H.length w) i.size l co ∧ FirstOK P i.size l.length (.slice a l.length l.length) co w := by
        rcases hr with hr | ⟨b, off, rfl, himm, hr⟩
        · subst hr
          exact ⟨[], rfl, first_empty⟩
        · obtain ⟨clo, d1, d2⟩ := hr.flat
          have d1' := d1.of_sized (fun y hy => hsz y (List.mem_append_left _ hy))
          rw [← i2] at d1'
          exact ⟨clo, d1', first_slice d1'.length d2⟩
      obtain ⟨co, d1, d2⟩ := hco
      rw [List.length_append] at hlim
      obtain ⟨f1, f2⟩ := fits_of (show l.length < l.length + xs.length by omega) hlim hb0
      rw [← i3] at f2
      obtain ⟨cap, w', w1, w2, rfl, w4⟩ := run_append_out (P := P) (w := w) (ty := ty) g3 u3 hud i1 i4 c2 c3 d2 (show l.length < l.length + xs.length by omega) f1 f2
      have hd := step_drawn hG (w.drawn + 1)
      have hrf : RepF (cxOf g H.length { w with drawn := w.drawn + 1 }) (T e).size (l ++ xs) (co ++ cl) := by
        rw [← i2]; exact d1.append c1
      have hst2 := step_vec_new hd.1 (o := H.length) 1 (T e).size (l ++ xs) (Nat.le_refl _) (.inl rfl) (rest := Builtin.zeroCells z.cells (cap - (l.length + xs.length))) (cap := cap) e (0, 0) (fun j _ => by simp) hrf (by rw [List.length_append]; exact w1) w2
        (by rw [hrf.length, size_zeroCells', hzl, List.length_append, ← Nat.add_mul]; congr 1; omega)
        (fun v hv => hzr.oneCell v (mem_zeroCells hv)) (H ++ [.vec 1 (T e).size (l ++ xs)]) (.inl ⟨rfl, rfl⟩)
      refine ⟨_, _, _, w4, hst2.1, hd.2.trans hst2.2.1, ?_⟩
      have := hst2.2.2
      rw [show (l ++ xs).length = l.length + xs.length from List.length_append] at this
      exact this
  · cases h
end Go.EL

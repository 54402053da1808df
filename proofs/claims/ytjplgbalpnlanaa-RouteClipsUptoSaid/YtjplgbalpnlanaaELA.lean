/- The value logic, part LA: rows that are made, cleared, copied into; an array that becomes a row. -/
import Derived.Test.YtjplgbalpnlanaaEL
import Derived.Laws.MakeOwn
set_option linter.unusedVariables false
set_option linter.unusedSimpArgs false
namespace Go.EL
open Go
variable {P : Program} {T : Nat → TD} {g : Nat → Option Key} {H : List Ob} {w : World}

theorem RepF.split {c : Cx} {es : Nat} : ∀ {l : List V} {cl : List Value} (n : Nat), RepF c es l cl → RepF c es (l.take n) (cl.take (n * es)) ∧ RepF c es (l.drop n) (cl.drop (n * es))
  | [], _, n, h => by simp only [RepF] at h; subst h; simp [RepF]
  | x :: xs, cl, 0, h => by simp only [Nat.zero_mul, List.take_zero, List.drop_zero]; exact ⟨rfl, h⟩
  | x :: xs, _, n + 1, ⟨vs, cl', h1, h2, h3, h4⟩ => by
    subst h1
    obtain ⟨k1, k2⟩ := h4.split n
    have e : (n + 1) * es = vs.length + n * es := by rw [h3, Nat.add_mul]; omega
    rw [e, List.take_succ_cons, List.drop_succ_cons, List.take_length_add_append, List.drop_length_add_append]
    exact ⟨⟨vs, _, rfl, h2, h3, k1⟩, k2⟩

/-- elements of a row of one's own are written anew -/
theorem vec_write (hG : Good g H w) {o ver es off : Nat} {l ys : List V} (ho : H[o]? = some (.vec ver es l)) (hle : off + ys.length ≤ l.length) {cl : List Value} (hr : RepF (cxOf g H.length w) es ys cl) (hne : ys ≠ []) :
    ∃ q b cur et fr, g o = some q ∧ q.ver = ver ∧ q.es = es ∧ q.blk = some b ∧ w.heap[b]? = some (.cells cur et fr) ∧ unfrozen fr cur.size ∧ off * es + cl.length ≤ cur.size ∧
      Good g (H.set o (.vec ver es (l.take off ++ ys ++ l.drop (off + ys.length)))) (w.setCells b (off * es) cl) ∧
      Ext g H.length w g (H.set o (.vec ver es (l.take off ++ ys ++ l.drop (off + ys.length)))).length (w.setCells b (off * es) cl) := by
  obtain ⟨q, hk, hver, hes, hv1, hcm, hcap, hbk⟩ := hG.vec ho
  have hpos := List.length_pos_iff.2 hne
  rcases hbk with ⟨_, h0⟩ | ⟨b, cur, et, fr, hblk, hh, hsz, hE, hu, hone⟩
  · omega
  have hcl := hr.length
  have hfit : off * es + cl.length ≤ cur.size := by
    rw [hsz, hcl, ← Nat.add_mul, hes]
    exact Nat.mul_le_mul_right _ (by omega)
  obtain ⟨clo, d1, d2⟩ := hE.flat
  have hlo := d1.length
  have hcur : cur.toList.take (l.length * es) = clo := by
    rw [hes] at hlo
    apply List.ext_getElem?
    intro k
    rw [List.getElem?_take]
    split
    · rename_i hk'
      have := d2 k clo[k] (List.getElem?_eq_getElem (by omega))
      rw [show (cxOf g H.length w).cell = w.cell? from rfl, cell?_row hh] at this
      simp only [Nat.zero_add] at this
      rw [this, List.getElem?_eq_getElem (by omega)]
    · rw [List.getElem?_eq_none (by omega)]
  refine ⟨q, b, cur, et, fr, hk, hver, hes, hblk, hh, hu, hfit, ?_⟩
  have hheap := heap_setCells cl (off * es) w cur hh hfit
  refine step_rewrite hG ho hk hblk _ _ (fun m => ?_)
  refine ⟨q, rfl, hver, hes, hv1, hcm, ?_, .inr ⟨b, _, et, fr, hblk, hheap, ?_, ?_, ?_, ?_⟩⟩
  · simp only [List.length_append, List.length_take, List.length_drop]; omega
  · rw [← hsz]
    simp only [List.size_toArray, List.length_append, List.length_take, List.length_drop, Array.length_toList]; omega
  · rw [hes] at d1 ⊢
    obtain ⟨a1, _⟩ := d1.split off
    obtain ⟨_, a2⟩ := d1.split (off + ys.length)
    refine (((a1.append hr).append a2).mono m).repE (fun j v hj => ?_)
    show (w.setCells b (off * es) cl).cell? _ = some v
    rw [cell?_row hheap, Nat.zero_add]
    have e1 : clo.take (off * es) = cur.toList.take (off * es) := by
      rw [← hcur, List.take_take, Nat.min_eq_left (Nat.mul_le_mul_right _ (by omega))]
    have e2 : clo.drop ((off + ys.length) * es) = (cur.toList.drop (off * es + cl.length)).take (l.length * es - (off * es + cl.length)) := by
      rw [← hcur, List.drop_take, hcl, ← Nat.add_mul]
    rw [e1, e2] at hj
    show (cur.toList.take (off * es) ++ cl ++ cur.toList.drop (off * es + cl.length))[j]? = some v
    by_cases hlt : j < (cur.toList.take (off * es) ++ cl).length
    · rw [List.getElem?_append_left hlt] at hj ⊢
      exact hj
    · rw [List.getElem?_append_right (by omega)] at hj ⊢
      rw [List.getElem?_take] at hj
      split at hj
      · exact hj
      · cases hj
  · simp only [List.size_toArray, List.length_append, List.length_take, List.length_drop, Array.length_toList]
    intro j hj
    exact hu j (by omega)
  · intro v hv
    simp only [List.mem_append] at hv
    rcases hv with (hv | hv) | hv
    · exact hone v (List.mem_of_mem_take hv)
    · exact hr.oneCell v hv
    · exact hone v (List.mem_of_mem_drop hv)

theorem zeros_eq (z : Array Value) (n : Nat) : ((Array.range (n * z.size)).map (z[· % z.size]!)).toList = (List.replicate n z.toList).flatten := by
  induction n with
  | zero => simp
  | succ n ih =>
    rw [List.replicate_succ, List.flatten_cons, ← ih]
    simp only [Array.toList_map, Array.toList_range]
    rw [show (n + 1) * z.size = z.size + n * z.size by rw [Nat.add_mul]; omega, List.range_add, List.map_append, List.map_map]
    congr 1
    · apply List.ext_getElem?
      intro i
      rw [List.getElem?_map]
      by_cases h : i < z.size
      · rw [List.getElem?_range h]
        simp only [Option.map_some, Nat.mod_eq_of_lt h]
        rw [getElem!_pos z i h]
        simp [h]
      · rw [List.getElem?_eq_none (by simpa using h), List.getElem?_eq_none (by simpa using h)]
        rfl
    · apply List.map_congr_left
      intro i _
      simp [Function.comp, Nat.add_mod_left]

theorem repF_replicate {c : Cx} {es : Nat} {x : V} {vs : List Value} (hs : x.storable) (hr : RepC c x vs) (hl : vs.length = es) : ∀ n, RepF c es (List.replicate n x) (List.replicate n vs).flatten
  | 0 => rfl
  | n + 1 => ⟨vs, _, rfl, ⟨hs, hr⟩, hl, repF_replicate hs hr hl n⟩

theorem mkV_zero {c : Cx} {d : TD} {vs : List Value} (h : Reps c d.zero vs) (hl : d.zero.length = d.size) (h1 : d.kind.isAgg = false → d.size = 1) : (mkV d d.zero).storable ∧ RepC c (mkV d d.zero) vs := by
  unfold mkV
  cases hk : d.kind.isAgg with
  | true => exact ⟨trivial, by simp only [if_true, RepC]; exact h⟩
  | false =>
    have h1 := h1 hk
    rw [h1] at hl
    match hz : d.zero, hl with
    | [x], _ =>
      rw [hz] at h
      simp only [Reps] at h
      obtain ⟨v, vs', rfl, h2, h3, h4⟩ := h
      subst h4
      simp only [Bool.false_eq_true, if_false, List.headD_cons]
      exact ⟨by cases x <;> first | exact h2 | exact h2.elim, h3⟩

theorem xmake_sound (hTO : TyOK P T) {t e : TypeId} (hk : (T t).kind = .slice e) (he : (T e).kind ≠ .other) {x y : V} {cx cy : Value} (hG : Good g H w)
    (hx : RepV (cxOf g H.length w) x cx) (hy : RepV (cxOf g H.length w) y cy) {pre : Prop} {v : V} {H' : List Ob} (h : xmake (T e) H x y = .val pre v H') (hp : pre) :
    DoneV P g H w (Instr.makeSlice t cx cy) v H' := by
  have hT := hTO.at (t := t) (by rw [hk]; simp)
  obtain ⟨td, g1, _, g3⟩ := hT.run_und w
  have := kind_slice g1 hk
  subst this
  have hE := hTO.at he
  obtain ⟨i, z, i1, i2, i3, i4, i5⟩ := hE.info
  have hzr : Reps (cxOf g H.length w) (T e).zero z.cells.toList := zEqs_reps i5
  have hzl : z.cells.size = (T e).size := by have := hzr.length; rw [hE.zlen] at this; simpa using this
  unfold xmake at h
  split at h
  case h_2 => cases h
  rename_i k n k' n'
  injection h with e1 e2 e3
  subst e1 e2 e3
  obtain ⟨rfl, h0, hlim, h63, h1⟩ := hp
  have := hx.int
  subst this
  have := hy.int
  subst this
  unfold limBytes at hlim
  have hrun := run_make (P := P) w t e i z g3 i1 i4 k k' n n h0 (Int.le_refl _) (by rw [i3, Int.mul_comm]; omega) h63
  obtain ⟨z1, z2⟩ := mkV_zero (c := cxOf g H.length w) hzr hE.zlen h1
  have hcl := repF_replicate (es := (T e).size) z1 z2 (by simpa using hzl) n.toNat
  have hmade : (madeCells z.cells (n.toNat * i.size)).toList = (List.replicate n.toNat z.cells.toList).flatten := by
    rw [← zeros_eq, i2, ← hzl]; rfl
  have hst := step_vec_new hG (o := H.length) 1 (T e).size (List.replicate n.toNat (mkV (T e) (T e).zero)) (Nat.le_refl _) (.inl rfl) (cl := (List.replicate n.toNat z.cells.toList).flatten) (rest := #[]) (cap := n.toNat) e (0, 0) (fun j _ => by simp)
    hcl (by simp) (by unfold maxLen; omega) (by rw [hcl.length]; simp) (fun v hv => by simp at hv) (H ++ [.vec 1 (T e).size (List.replicate n.toNat (mkV (T e) (T e).zero))]) (.inl ⟨rfl, rfl⟩)
  have hw : w.alloc (.cells (madeCells z.cells (n.toNat * i.size)) e) = pushW w (.cells ((List.replicate n.toNat z.cells.toList).flatten.toArray ++ #[]) e (0, 0)) := by
    have : madeCells z.cells (n.toNat * i.size) = (List.replicate n.toNat z.cells.toList).flatten.toArray ++ #[] := by
      apply Array.ext'
      rw [hmade]; simp
    rw [this]; rfl
  rw [hw] at hrun
  refine ⟨_, _, _, hrun, hst.1, hst.2.1, ?_⟩
  have := hst.2.2
  rwa [List.length_replicate] at this

theorem xpart_sound (hTO : TyOK P T) {t f ft off : Nat} {fs : List (Nat × Nat)} (hk : (T t).kind = .struct fs) (hf : fs[f]? = some (ft, off)) {x : V} {cx : Value} (hG : Good g H w)
    (hx : RepV (cxOf g H.length w) x cx) {pre : Prop} {v : V} {H' : List Ob} (h : xpart (T ft) H off x = .val pre v H') (hp : pre) :
    DoneV P g H w (Instr.field t cx f) v H' := by
  have hT := hTO.at (t := t) (by rw [hk]; simp)
  obtain ⟨td, g1, g2, g3⟩ := hT.run_und w
  obtain ⟨fds, rfl, hfs⟩ := kind_struct g1 hk
  unfold xpart at h
  split at h
  case h_2 => cases h
  rename_i cs
  injection h with e1 e2 e3
  subst e1 e2 e3
  obtain ⟨h1, h2, h3⟩ := hp
  obtain ⟨arr, rfl, hr⟩ := hx.agg
  obtain ⟨cv, k1, k2⟩ := part_rep (hTO.at h1) hr h2 h3
  refine DoneV.pure_ hG (cv := cv) ?_ k2
  have hfd : ∃ fd, fds[f]? = some fd ∧ fd.type = ft ∧ fd.offset = off := by
    rw [← hfs, List.getElem?_map, Array.getElem?_toList] at hf
    cases hx : fds[f]? with
    | none => rw [hx] at hf; simp at hf
    | some fd =>
      rw [hx] at hf
      simp at hf
      exact ⟨fd, rfl, hf.1, hf.2⟩
  obtain ⟨fd, f1, f2, f3⟩ := hfd
  unfold Instr.field
  simp only [Sem.run_bind, g2, Result.andThen_ok]
  simp [f1, f2, f3, asAgg, k1]

theorem xclear_sound (hTO : TyOK P T) {t e ty : TypeId} (hk : (T t).kind = .slice e) (he : (T e).kind ≠ .other) {x : V} {cx : Value} (hG : Good g H w)
    (hx : RepV (cxOf g H.length w) x cx) {pre : Prop} {v : V} {H' : List Ob} (h : xclear (T e) H x = .val pre v H') (hp : pre) :
    DoneV P g H w (Builtin.clear_ #[t] ty #[cx]) v H' := by
  have hT := hTO.at (t := t) (by rw [hk]; simp)
  obtain ⟨td, g1, g2, g3⟩ := hT.run_und w
  have := kind_slice g1 hk
  subst this
  have hE := hTO.at he
  obtain ⟨z, hzv, hzq⟩ := hE.run_zeroValue w
  have hzr : Reps (cxOf g H.length w) (T e).zero z.cells.toList := zEqs_reps hzq
  have hzl : z.cells.size = (T e).size := by have := hzr.length; rw [hE.zlen] at this; simpa using this
  have hnil : RepV (cxOf g H.length w) (.tuple []) (.tuple #[]) := RepV.mk_leaf (by simp [RepC, RepVs]) (by simp) (by simp)
  unfold xclear at h
  split at h
  · rename_i o ver off n
    split at h
    case h_2 => cases h
    rename_i ver' es l ho
    injection h with e1 e2 e3
    subst e1 e2 e3
    obtain ⟨rfl, hle, rfl, h1⟩ := hp
    obtain ⟨q, hq, hver, hqes, hv1, hcm, hcap, hbk⟩ := hG.vec ho
    have hl := hx.leaf (by simp) (by simp)
    simp only [RepC] at hl
    obtain ⟨k1, uu, huu, k2, k3⟩ := hl
    injection huu with huu
    subst huu
    obtain ⟨k6, ad, rfl, k7⟩ := (k3 q hq).2 hver
    by_cases hn : n = 0
    · subst hn
      have hr : (Builtin.clear_ #[t] ty #[.slice ad 0 (q.cap - off)]).run P w = .ok (.tuple #[]) w := by
        unfold Builtin.clear_
        cases ad <;> simp [g2]
      have hH : H.set o (.vec ver' (T e).size (l.take off ++ List.replicate 0 (mkV (T e) (T e).zero) ++ l.drop (off + 0))) = H := by
        simp only [List.replicate_zero, List.append_nil, Nat.add_zero, List.take_append_drop]
        apply List.ext_getElem?
        intro i
        by_cases hi : i = o
        · subst hi; rw [set_get_eq ho, ho]
        · rw [set_get_ne hi]
      rw [hH]
      exact DoneV.pure_ hG hr hnil
    · have hne : List.replicate n (mkV (T e) (T e).zero) ≠ [] := by
        intro h0; have := congrArg List.length h0; simp at this; exact hn this
      obtain ⟨z1, z2⟩ := mkV_zero (c := cxOf g H.length w) hzr hE.zlen h1
      have hcl := repF_replicate (es := (T e).size) z1 z2 (by simpa using hzl) n
      obtain ⟨q', b, cur, et, fr, w1, w2, w3, w4, w5, w6, w7, w8, w9⟩ := vec_write hG ho (off := off) (ys := List.replicate n (mkV (T e) (T e).zero)) (by simpa using hle) hcl hne
      rw [hq] at w1
      injection w1 with w1
      subst w1
      obtain ⟨b', m1, rfl⟩ := k7 (by omega)
      rw [w4] at m1
      injection m1 with m1
      subst m1
      have hstore := run_storeCells_cells (P := P) b (off * (T e).size) (List.replicate n z.cells.toList).flatten 0 w
        (fun j hj => by rw [Nat.add_zero, cell?_row w5]; simp; omega)
        (fun j hj => by
          have := w6 (off * (T e).size + j) (by omega)
          simp only [World.frozen?, w5, Nat.add_zero]
          simpa using this) hcl.oneCell
      have hzc : (Builtin.zeroCells z.cells n).toList = (List.replicate n z.cells.toList).flatten := zeros_eq z.cells n
      have hr : (Builtin.clear_ #[t] ty #[.slice (some ⟨b, off * q.es, none⟩) n (q.cap - off)]).run P w = .ok (.tuple #[]) (w.setCells b (off * (T e).size) (List.replicate n z.cells.toList).flatten) := by
        obtain ⟨n', rfl⟩ : ∃ n', n = n' + 1 := ⟨n - 1, by omega⟩
        unfold Builtin.clear_
        rw [hqes]
        simp [g2, hzv, hzc, hstore]
      simp only [List.length_replicate] at w8 w9
      exact ⟨_, _, _, hr, w8, w9, RepV.mk_leaf (by simp [RepC, RepVs]) (by simp) (by simp)⟩
  · injection h with e1 e2 e3
    subst e1 e2 e3
    have hl := hx.leaf (by simp) (by simp)
    simp only [RepC] at hl
    obtain ⟨a, es, hu, _⟩ := hl
    injection hu with hu
    subst hu
    refine DoneV.pure_ hG ?_ hnil
    unfold Builtin.clear_
    cases a <;> simp [g2]
  · cases h

end Go.EL

/- The value logic, part L: conversions, lengths, literals; all operations. -/
import Derived.Test.YtjplgbalpnlanaaEK
import Derived.Laws.BytesString
set_option linter.unusedVariables false
set_option linter.unusedSimpArgs false
namespace Go.EL
open Go
variable {P : Program} {T : Nat → TD} {g : Nat → Option Key} {H : List Ob} {w : World}

theorem freeze_new (w : World) (c : Array Value) (e : TypeId) : (pushW w (.cells c e)).freeze ⟨w.heap.size, c.size, none⟩ 1 = pushW w (.cells c e (c.size, c.size + 1)) := by
  unfold World.freeze pushW
  simp only [Nat.one_ne_zero, if_false]
  congr 1
  apply Array.ext
  · simp
  · intro i h1 h2
    rw [Array.getElem_modify]
    simp only [Array.size_modify, Array.size_push] at h1
    by_cases hi : w.heap.size = i
    · subst hi; simp
    · rw [if_neg hi, Array.getElem_push, Array.getElem_push]
      have : i < w.heap.size := by omega
      simp [this]

theorem run_stringToBytes (e : TypeId) (l : List UInt8) (hl : l.length ≤ maxLen) :
    ∃ cap, l.length ≤ cap ∧ cap ≤ maxLen ∧
    (Conv.stringToBytes e ⟨l.toArray⟩).run P w = .ok (.slice (some ⟨w.heap.size, 0, none⟩) l.length cap)
      (pushW { w with drawn := w.drawn + 1 } (.cells ((l.map fun b => Value.int .u8 b.toNat).toArray ++ Array.replicate (cap - l.length) (.int .u8 0)) e (l.length + (cap - l.length), l.length + (cap - l.length) + 1))) := by
  have hsz : (ByteArray.mk l.toArray).size = l.length := by simp [ByteArray.size]
  refine ⟨grownCap w l.length 0 e, grownCap_ge _ _ _ _, grownCap_le_maxLen _ _ _ _ hl, ?_⟩
  have hf := freeze_new { w with drawn := w.drawn + 1 } ((l.map fun b => Value.int .u8 b.toNat).toArray ++ Array.replicate (grownCap w l.length 0 e - l.length) (.int .u8 0)) e
  have hs : ((l.map fun b => Value.int .u8 b.toNat).toArray ++ Array.replicate (grownCap w l.length 0 e - l.length) (Value.int .u8 0)).size = l.length + (grownCap w l.length 0 e - l.length) := by simp
  rw [hs] at hf
  unfold Conv.stringToBytes
  simp only [Sem.run_bind, run_choose, Question.forced, hsz, Bool.false_eq_true, if_false, Result.andThen_ok]
  simp only [newRow, Sem.run_bind, run_newObj, Result.andThen_ok, Sem.run_pure]
  unfold markStringish
  simp only [Sem.run_bind, run_shape, Result.andThen_ok]
  have hsh : World.shape? { w with heap := w.heap.push (Obj.cells ((Array.map (fun b : UInt8 => Value.int IntKind.u8 (b.toNat : Int)) l.toArray) ++ Array.replicate (grownCap w l.length 0 e - l.length) (Value.int IntKind.u8 0)) e), drawn := w.drawn + 1 } w.heap.size = some (e, l.length + (grownCap w l.length 0 e - l.length)) := by
    simp [World.shape?]
  have hgc : (Question.appendCap l.length 0 e).cut (w.tape w.drawn (Question.appendCap l.length 0 e)) = grownCap w l.length 0 e := rfl
  rw [hgc]
  rw [hsh]
  simp only [run_freeze, Result.andThen_ok, Sem.run_pure]
  congr 1
  have : (Array.map (fun b : UInt8 => Value.int IntKind.u8 (b.toNat : Int)) l.toArray) = (l.map fun b => Value.int .u8 b.toNat).toArray := by simp
  rw [this]
  exact hf

theorem xconvert_sound (hTO : TyOK P T) {own : Bool} {s d : TypeId} {x : V} {cx : Value} {ed : TD} (hG : Good g H w) (hx : RepV (cxOf g H.length w) x cx) (hs : (T s).kind ≠ .other) (hed : ∀ e, (T d).kind = .slice e → ed = T e) {pre : Prop} {v : V} {H' : List Ob}
    (h : xconvert own (T s) (T d) ed H x = .val pre v H') (hp : pre) : DoneV P g H w (convert s d cx) v H' := by
  obtain ⟨sd, s1, s2, s3⟩ := (hTO.at hs).run_und w
  unfold xconvert at h
  split at h
  · rename_i k k' n hk
    injection h with e1 e2 e3
    subst e1 e2 e3
    have hT := hTO.at (t := d) (by rw [hk]; simp)
    obtain ⟨td, g1, g2, g3⟩ := hT.run_und w
    have := kind_int g1 hk
    subst this
    have := hx.int
    subst this
    exact DoneV.pure_ hG (cv := .int k (k.wrap n)) (by simp [convert, s2, g2, Conv.intToInt]) RepV.mk_int
  · rename_i l hk
    injection h with e1 e2 e3
    subst e1 e2 e3
    have hT := hTO.at (t := d) (by rw [hk]; simp)
    obtain ⟨td, g1, g2, g3⟩ := hT.run_und w
    have := kind_str g1 hk
    subst this
    obtain ⟨rfl, hl⟩ := hx.str
    exact DoneV.pure_ hG (cv := .string ⟨l.toArray⟩) (by simp [convert, s2, g2]) RepV.mk_str
  · rename_i e l hk
    have he := hed e hk
    subst he
    have hT := hTO.at (t := d) (by rw [hk]; simp)
    obtain ⟨td, g1, g2, g3⟩ := hT.run_und w
    have := kind_slice g1 hk
    subst this
    obtain ⟨rfl, hl⟩ := hx.str
    have hl : l.length ≤ maxLen := by
      injection h with e1 e2 e3; subst e1 e2 e3
      have := hp.2.2.2; rw [maxLen_val]; unfold limBytes at this; omega
    obtain ⟨cap, c1, c2, c3⟩ := run_stringToBytes (P := P) (w := w) e l hl
    have hd := step_drawn hG (w.drawn + 1)
    have hrun : (T s).kind = .str → (T e).kind = .int .u8 → (convert s d (.string ⟨l.toArray⟩)).run P w = (Conv.stringToBytes e ⟨l.toArray⟩).run P w := by
      intro k1 k2
      have := kind_str s1 k1
      subst this
      obtain ⟨ted, f1, f2, f3⟩ := (hTO.at (t := e) (by rw [k2]; simp)).run_und w
      have := kind_int f1 k2
      subst this
      simp [convert, s2, g2, f2]
    injection h with e1 e2 e3
    subst e1 e2 e3
    obtain ⟨p1, p2, p3, p5⟩ := hp
    have hst := step_push hd.1 (.cells ((l.map fun b => Value.int .u8 b.toNat).toArray ++ Array.replicate (cap - l.length) (.int .u8 0)) e (l.length + (cap - l.length), l.length + (cap - l.length) + 1))
    refine ⟨_, _, _, (hrun p1 p2).trans c3, hst.1, hd.2.trans hst.2.1, RepV.mk_leaf ?_ (by simp) (by simp)⟩
    simp only [RepC]
    refine ⟨_, cap, 1, by rw [List.length_map], by simpa using c1, c2, .inr ⟨_, 0, rfl, hst.2.2, (bytes_repF l).repE (fun j v hj => ?_)⟩⟩
    show (pushW _ _).cell? _ = some v
    rw [cell?_row (heap_pushW_new _ _)]
    simp only [Array.toList_append, Nat.zero_add]
    rw [List.getElem?_append_left (by simpa using (List.getElem?_eq_some_iff.1 hj).1)]
    exact hj
  · cases h

theorem xtoStr_sound (hTO : TyOK P T) {s d e : TypeId} {x : V} {cx : Value} (hG : Good g H w) (hx : RepV (cxOf g H.length w) x cx) (hs : (T s).kind = .slice e) (he : (T e).kind = .int .u8) (hd : (T d).kind = .str) {pre : Prop} {v : V} {H' : List Ob}
    (h : xtoStr H x = .val pre v H') (hp : pre) : DoneV P g H w (convert s d cx) v H' := by
  unfold xtoStr at h
  split at h
  · cases h
  rename_i hisS
  split at h
  · rename_i xs hxs
    injection h with e1 e2 e3
    subst e1 e2 e3
    obtain ⟨hb, hm⟩ := hp
    obtain ⟨sd, s1, s2, s3⟩ := (hTO.at (t := s) (by rw [hs]; simp)).run_und w
    have := kind_slice s1 hs
    subst this
    obtain ⟨dd, d1, d2, d3⟩ := (hTO.at (t := d) (by rw [hd]; simp)).run_und w
    have := kind_str d1 hd
    subst this
    obtain ⟨ee, f1, f2, f3⟩ := (hTO.at (t := e) (by rw [he]; simp)).run_und w
    have := kind_int f1 he
    subst this
    have hsized : Sized 1 xs := fun y hy => by obtain ⟨n, rfl⟩ := hb y hy; rfl
    have hstor : ∀ y ∈ xs, y.storable := fun y hy => by obtain ⟨n, rfl⟩ := hb y hy; trivial
    obtain ⟨cl, c1, c2, c3⟩ := elems_sound hG hx hxs hsized hstor
    have hcl : ∀ (ys : List V) (cl : List Value), AllBytes ys → RepF (cxOf g H.length w) 1 ys cl → ∃ ns : List Int, ys = ns.map (V.int .u8) ∧ cl = ns.map (Value.int .u8) := by
      intro ys
      induction ys with
      | nil => intro cl _ h; simp only [RepF] at h; subst h; exact ⟨[], rfl, rfl⟩
      | cons y ys ih =>
        intro cl hb h
        obtain ⟨vs, cl', rfl, h2, h3, h4⟩ := h
        obtain ⟨n, rfl⟩ := hb y (by simp)
        obtain ⟨ns, rfl, rfl⟩ := ih cl' (fun z hz => hb z (by simp [hz])) h4
        have := h2.2
        simp only [RepC] at this
        subst this
        exact ⟨n :: ns, rfl, rfl⟩
    obtain ⟨ns, rfl, rfl⟩ := hcl xs cl hb c1
    have hslice : ∃ a len cap, cx = .slice a len cap := by
      cases x with
      | slice l =>
        have hl := hx.leaf (by simp) (by simp)
        simp only [RepC] at hl
        obtain ⟨a, cap, es, hu, _⟩ := hl
        injection hu with hu
        exact ⟨_, _, _, hu⟩
      | fslice l =>
        have hl := hx.leaf (by simp) (by simp)
        simp only [RepC] at hl
        obtain ⟨a, es, hu, _⟩ := hl
        injection hu with hu
        exact ⟨_, _, _, hu⟩
      | vec o ver off n =>
        simp only [elems] at hxs
        cases ho : H[o]? with
        | none => simp [ho] at hxs
        | some ob =>
          cases ob with
          | gone => simp [ho] at hxs
          | hole => simp [ho] at hxs
          | var _ => simp [ho] at hxs
          | raw _ _ _ _ => simp [ho] at hxs
          | map _ _ => simp [ho] at hxs
          | iter _ _ _ _ => simp [ho] at hxs
          | vec ver' es l =>
            simp only [ho] at hxs
            by_cases hc : ver' = ver ∧ off + n ≤ l.length
            · obtain ⟨rfl, hlen⟩ := hc
              obtain ⟨q, hq, hver, _⟩ := hG.vec ho
              have hl := hx.leaf (by simp) (by simp)
              simp only [RepC] at hl
              obtain ⟨k1, u, hu, k2, k3⟩ := hl
              injection hu with hu
              subst hu
              obtain ⟨k6, a, rfl, k7⟩ := (k3 q hq).2 hver
              exact ⟨_, _, _, rfl⟩
            · rw [if_neg hc] at hxs; cases hxs
      | _ => exact absurd rfl hisS
    obtain ⟨a, len, cap, rfl⟩ := hslice
    have hlen : len = ns.length := by
      have := c2
      simp only [Builtin.lenOf] at this
      injection this with this
      simpa using this
    subst hlen
    have hfin : (convert s d (.slice a ns.length cap)).run P w = .ok (.string ⟨((ns.map (V.int .u8)).map toByte).toArray⟩) w := by
      rw [run_convert_bytes_string w s d e a ns.length cap s3 f3 d3]
      have hfold : ∀ (ns : List Int) (r : ByteArray), ns.foldl (fun r n => r.push (UInt8.ofNat n.toNat)) r = ⟨(r.data.toList ++ ns.map fun n => UInt8.ofNat n.toNat).toArray⟩ := by
        intro ns
        induction ns with
        | nil => intro r; simp
        | cons n ns ih => intro r; rw [List.foldl_cons, ih]; congr 1; apply Array.ext'; simp [ByteArray.push]
      cases a with
      | none =>
        have := c3 w rfl
        simp only [Builtin.firstCells, Sem.run_pure] at this
        injection this with this _
        have h0 : ns = [] := by
          have := congrArg Array.size this
          simpa using this.symm
        subst h0
        simp [Conv.bytesToString]
        try rfl
      | some a =>
        have hl := c3 w rfl
        simp only [Builtin.firstCells, List.length_map, Nat.mul_one] at hl
        rw [run_bytesToString w a ns.length cap ns (by simpa using hl), hfold]
        congr 4
        simp [toByte, Function.comp_def]
        try rfl
    exact DoneV.pure_ hG hfin RepV.mk_str
  · cases h
end Go.EL

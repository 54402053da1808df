/- The value logic, part LM: maps. -/
import Derived.Test.YtjplgbalpnlanaaELA
set_option linter.unusedVariables false
set_option linter.unusedSimpArgs false
namespace Go.EL
open Go
variable {P : Program} {T : Nat → TD} {g : Nat → Option Key} {H : List Ob} {w : World}

theorem kind_map {td : TypeDesc} {k : TK} {a b : Nat} (h : kindOK td k = true) (hk : k = .map a b) : td = .map a b := by
  subst hk; cases td <;> simp [kindOK] at h; obtain ⟨rfl, rfl⟩ := h; rfl
theorem Good.map (hG : Good g H w) {o : Nat} {l : List (Int × Nat × V)} {ck : Nat} (h : H[o]? = some (.map l ck)) : ∃ b es, g o = some ⟨0, some b, 0, 0⟩ ∧ w.heap[b]? = some (.map es ck) ∧ RepM (cxOf g H.length w) l es.toList := by
  have := hG.ob o; rw [h] at this; exact this
theorem mapr_val {c : Cx} {o b : Nat} {cv : Value} (h : RepV c (.mapr o) cv) (hk : c.key o = some ⟨0, some b, 0, 0⟩) : cv = .map (some b) := by
  have hl := h.leaf (by simp) (by simp)
  simp only [RepC] at hl
  obtain ⟨_, v, hv, _, h⟩ := hl
  injection hv with hv
  subst hv
  exact h _ b hk rfl rfl
theorem getObj_run {b : Nat} {es : Array MapEntry} {ck : Nat} (hb : w.heap[b]? = some (.map es ck)) : (getObj b).run P w = .ok (.map es ck) w := by simp [getObj, Sem.run, hb]
theorem setObj_run {b : Nat} {es : Array MapEntry} {ck : Nat} (y : Obj) (hb : w.heap[b]? = some (.map es ck)) : (setObj b y).run P w = .ok () (w.putObj b y) := by simp [setObj, Sem.run, hb, World.putObj]
theorem checkKey_int {e : Bool} {n : Nat} {k : TypeId} {v : Value} {ik : IntKind} (h : P.underlying k = some (.int ik)) : (Instr.checkKey e (n + 1) k v).run P w = .ok () w := by
  simp only [Instr.checkKey, Sem.run_bind, run_underlying h, Result.andThen_ok]
  cases v <;> rfl

/-- where a key stands -/
theorem find_rep {c : Cx} (n : Int) : ∀ (l : List (Int × Nat × V)) (es : List MapEntry) (i : Nat), RepM c l es →
    (mget l n = none → Instr.findNow (.int .i64) (.int .i64 n) es i = some none) ∧
    (∀ x, mget l n = some x → ∃ j e, es[j]? = some e ∧ Instr.findNow (.int .i64) (.int .i64 n) es i = some (some (i + j, e.val)) ∧ e.key = .int .i64 n ∧ x.storable ∧ RepC c x e.val.cells.toList ∧ okAgg x e.val ∧
      (∀ y v, y.storable → RepC c y v.cells.toList → okAgg y v → RepM c (mset l n y) (es.modify j fun e => { e with key := .int .i64 n, val := v })) ∧ RepM c (mdel l n) (es.eraseIdx j))
  | [], [], i, _ => ⟨fun _ => rfl, fun x h => by cases h⟩
  | p :: l, e :: es, i, h => by
    obtain ⟨⟨h1, h2, h3, h4, h5⟩, h6⟩ := h
    have hs : Instr.sameNow (.int .i64) (.int .i64 n) e.key = some (n == p.1) := by rw [h1]; simp [Instr.sameNow]
    by_cases hn : n = p.1
    · refine ⟨fun hm => by simp [mget, hn] at hm, fun x hx => ?_⟩
      simp only [mget, if_pos hn, Option.some.injEq] at hx
      subst hx
      refine ⟨0, e, rfl, ?_, by rw [h1, hn], h3, h4, h5, fun y v k1 k2 k3 => ?_, ?_⟩
      · simp only [Instr.findNow, hs]; simp [hn]
      · simp only [mset, if_pos hn, List.modify_zero_cons]
        exact ⟨⟨by rw [hn], h2, k1, k2, k3⟩, h6⟩
      · simp only [mdel, if_pos hn, List.eraseIdx_cons_zero]
        exact h6
    · obtain ⟨k1, k2⟩ := find_rep n l es (i + 1) h6
      have hb : (n == p.1) = false := by simpa using hn
      refine ⟨fun hm => ?_, fun x hx => ?_⟩
      · simp only [mget, if_neg hn] at hm
        simp only [Instr.findNow, hs, hb]
        exact k1 hm
      · simp only [mget, if_neg hn] at hx
        obtain ⟨j, e', q1, q2, q3, q4, q5, q6, q7, q8⟩ := k2 x hx
        refine ⟨j + 1, e', by simpa using q1, ?_, q3, q4, q5, q6, fun y v r1 r2 r3 => ?_, ?_⟩
        · simp only [Instr.findNow, hs, hb]
          rw [q2]
          congr 3
          omega
        · simp only [mset, if_neg hn, List.modify_succ_cons]
          exact ⟨⟨h1, h2, h3, h4, h5⟩, q7 y v r1 r2 r3⟩
        · simp only [mdel, if_neg hn, List.eraseIdx_cons_succ]
          exact ⟨⟨h1, h2, h3, h4, h5⟩, q8⟩
  | [], _ :: _, _, h => h.elim
  | _ :: _, [], _, h => h.elim

theorem findKey_run {k : TypeId} (hk : P.underlying k = some (.int .i64)) {n : Int} {es : List MapEntry} {r : Option (Nat × Value)} (h : Instr.findNow (.int .i64) (.int .i64 n) es 0 = some r) :
    (Instr.findKey k (.int .i64 n) es).run P w = .ok r w := by
  unfold Instr.findKey
  simp only [Sem.run_bind, run_underlying hk, Result.andThen_ok, h, Sem.run_pure]

theorem found_rep {c : Cx} {d : TD} {r : Option V} {v : Value} {b ok : Bool} (hb : r.isSome = b) (h : RepC c (r.getD (mkV d d.zero)) v.cells.toList ∧ okAgg (r.getD (mkV d d.zero)) v) :
    RepV c (xfound d ok r) (if ok = true then .tuple #[v, .bool b] else v) := by
  unfold xfound
  cases ok
  · simp only [Bool.false_eq_true, if_false]; exact RepV.of_parts h.1 h.2
  · simp only [if_true]
    refine ⟨?_, by trivial⟩
    simp only [RepC]
    refine ⟨[v, .bool b], rfl, ?_⟩
    simp only [RepVs]
    exact ⟨_, _, rfl, h.1, h.2, .bool b, [], rfl, by simp [RepC, Value.cells, hb], by trivial, rfl⟩

theorem zero_big {d : TD} {z : Value} {c : Cx} (h : zEqs z.cells.toList d.zero = true) (hl : d.zero.length = d.size) (ha : d.kind.isAgg = true) (hs : d.size ≠ 1) : RepC c (mkV d d.zero) z.cells.toList ∧ okAgg (mkV d d.zero) z := by
  have hr : Reps c d.zero z.cells.toList := zEqs_reps h
  unfold mkV
  rw [if_pos ha]
  refine ⟨by simp only [RepC]; exact hr, ?_⟩
  cases z with
  | agg cs => trivial
  | _ => have := hr.length; simp [Value.cells] at this; omega

theorem xlookup_sound (hTO : TyOK P T) {t : TypeId} {x i : V} {cx ci : Value} {ok : Bool} (hG : Good g H w) (hx : RepV (cxOf g H.length w) x cx) (hi : RepV (cxOf g H.length w) i ci) {pre : Prop} {v : V} {H' : List Ob}
    (h : xlookup T (T t) H ok x i = .val pre v H') (hp : pre) : DoneV P g H w (Instr.lookup t cx ci ok) v H' := by
  unfold xlookup at h
  split at h
  case h_2 => cases h
  rename_i k e hk
  have hT := hTO.at (t := t) (by rw [hk]; simp)
  obtain ⟨td, g1, _, g3⟩ := hT.run_und w
  have := kind_map g1 hk
  subst this
  split at h
  case h_3 => cases h
  · rename_i o n
    split at h
    case h_2 => cases h
    rename_i l ck ho
    injection h with e1 e2 e3
    subst e1 e2 e3
    obtain ⟨p1, p2, p3, p4⟩ := hp
    have hK := hTO.at (t := k) (by rw [p1]; simp)
    obtain ⟨tk, k1, _, k3⟩ := hK.run_und w
    have := kind_int k1 p1
    subst this
    have := hi.int
    subst this
    obtain ⟨b, es, q1, q2, q3⟩ := hG.map ho
    have := mapr_val hx q1
    subst this
    have hE := hTO.at p2
    obtain ⟨z, z1, z2⟩ := hE.run_zeroValue w
    obtain ⟨f1, f2⟩ := find_rep n l es.toList 0 q3
    unfold Instr.lookup
    cases hm : mget l n with
    | none =>
      have hf := findKey_run (P := P) (w := w) k3 (f1 hm)
      refine DoneV.pure_ hG (cv := if ok = true then .tuple #[z, .bool false] else z) ?_ (found_rep rfl (by exact zero_big z2 hE.zlen p3 p4))
      simp only [Sem.run_bind, run_underlying g3, Result.andThen_ok, getObj_run q2, Sem.run_pure, checkKey_int k3, hf, z1]
    | some x =>
      obtain ⟨j, en, r1, r2, r3, r4, r5, r6, _⟩ := f2 x hm
      have hf := findKey_run (P := P) (w := w) k3 r2
      refine DoneV.pure_ hG (cv := if ok = true then .tuple #[en.val, .bool true] else en.val) ?_ (found_rep rfl ⟨r5, r6⟩)
      simp only [Sem.run_bind, run_underlying g3, Result.andThen_ok, getObj_run q2, Sem.run_pure, checkKey_int k3, hf]
  · rename_i n
    injection h with e1 e2 e3
    subst e1 e2 e3
    obtain ⟨p1, p2, p3, p4⟩ := hp
    have hK := hTO.at (t := k) (by rw [p1]; simp)
    obtain ⟨tk, k1, _, k3⟩ := hK.run_und w
    have := kind_int k1 p1
    subst this
    have := hi.int
    subst this
    have hn := hx.leaf (by simp) (by simp)
    simp only [RepC] at hn
    injection hn with hn
    subst hn
    have hE := hTO.at p2
    obtain ⟨z, z1, z2⟩ := hE.run_zeroValue w
    have hf := findKey_run (P := P) (w := w) (n := n) (es := []) (r := none) k3 rfl
    unfold Instr.lookup
    refine DoneV.pure_ hG (cv := if ok = true then .tuple #[z, .bool false] else z) ?_ (found_rep rfl (by exact zero_big z2 hE.zlen p3 p4))
    simp only [Sem.run_bind, run_underlying g3, Result.andThen_ok, Sem.run_pure, checkKey_int k3, hf, z1]

/-- a map is written -/
theorem step_map (hG : Good g H w) {o b : Nat} {l : List (Int × Nat × V)} {ck : Nat} {es : Array MapEntry} (ho : H[o]? = some (.map l ck)) (hk : g o = some ⟨0, some b, 0, 0⟩) (hb : w.heap[b]? = some (.map es ck)) (l' : List (Int × Nat × V)) (ck' : Nat) (es' : Array MapEntry)
    (hr : ∀ c', Mono (cxOf g H.length w) c' → RepM c' l' es'.toList) :
    Good g (H.set o (.map l' ck')) (w.putObj b (.map es' ck')) ∧ Ext g H.length w g (H.set o (.map l' ck')).length (w.putObj b (.map es' ck')) := by
  have hlt := (Array.getElem?_eq_some_iff.1 hb).1
  have hlo := (List.getElem?_eq_some_iff.1 ho).1
  exact step_one hG o g (H.set o (.map l' ck')) (w.putObj b (.map es' ck')) rfl rfl rfl
    (fun o' ho' => List.getElem?_set_ne (Ne.symm ho')) (fun _ _ => rfl) (by simp) (by simp [World.putObj])
    (fun b' _ hb' => World.putObj_heap_other (fun e => hb' _ hk (by rw [e])))
    (fun k' b' hk' hb' => .inr ⟨k', hk', hb'⟩)
    (fun _ k' hk' => ⟨k', hk', Nat.le_refl _, fun _ => rfl⟩)
    (fun m => by
      rw [List.getElem?_set_self hlo]
      exact ⟨b, es', hk, by simp [World.putObj, hlt], hr _ m⟩)

theorem xmapUpdate_sound (hTO : TyOK P T) {t : TypeId} {m i x : V} {cm ci cx : Value} (hG : Good g H w) (hm : RepV (cxOf g H.length w) m cm) (hi : RepV (cxOf g H.length w) i ci) (hx : RepV (cxOf g H.length w) x cx) {pre : Prop} {v : V} {H' : List Ob}
    (h : xmapUpdate T (T t) H m i x = .val pre v H') (hp : pre) : v = .dead ∧ ∃ w' g', (Instr.mapUpdate t cm ci cx).run P w = .ok () w' ∧ Good g' H' w' ∧ Ext g H.length w g' H'.length w' := by
  unfold xmapUpdate at h
  split at h
  case h_2 => cases h
  rename_i k e hk
  have hT := hTO.at (t := t) (by rw [hk]; simp)
  obtain ⟨td, g1, _, g3⟩ := hT.run_und w
  have := kind_map g1 hk
  subst this
  split at h
  case h_2 => cases h
  rename_i o n
  split at h
  case h_2 => cases h
  rename_i l ck ho
  injection h with e1 e2 e3
  subst e1 e2 e3
  obtain ⟨p1, p2⟩ := hp
  have hK := hTO.at (t := k) (by rw [p1]; simp)
  obtain ⟨tk, k1, _, k3⟩ := hK.run_und w
  have := kind_int k1 p1
  subst this
  have := hi.int
  subst this
  obtain ⟨b, es, q1, q2, q3⟩ := hG.map ho
  have := mapr_val hm q1
  subst this
  obtain ⟨f1, f2⟩ := find_rep n l es.toList 0 q3
  have hxr : RepC (cxOf g H.length w) x cx.cells.toList ∧ okAgg x cx := by cases x <;> first | exact p2.elim | exact hx
  refine ⟨rfl, ?_⟩
  unfold Instr.mapUpdate mput mclk
  cases hg : mget l n with
  | none =>
    have hf := findKey_run (P := P) (w := w) k3 (f1 hg)
    obtain ⟨s1, s2⟩ := step_map hG ho q1 q2 (l ++ [(n, ck, x)]) (ck + 1) (es.push { key := .int .i64 n, val := cx, born := ck }) (fun c' mo => by
      rw [Array.toList_push]
      have key : ∀ (l : List (Int × Nat × V)) (es : List MapEntry), RepM (cxOf g H.length w) l es → RepM c' (l ++ [(n, ck, x)]) (es ++ [{ key := .int .i64 n, val := cx, born := ck }]) := by
        intro l
        induction l with
        | nil => intro es h; cases es with
          | nil => exact ⟨⟨rfl, rfl, p2, RepC.mono mo _ _ hxr.1, hxr.2⟩, trivial⟩
          | cons _ _ => exact h.elim
        | cons p l ih => intro es h; cases es with
          | nil => exact h.elim
          | cons e es => exact ⟨⟨h.1.1, h.1.2.1, h.1.2.2.1, RepC.mono mo _ _ h.1.2.2.2.1, h.1.2.2.2.2⟩, ih es h.2⟩
      exact key l es.toList q3)
    refine ⟨_, g, ?_, s1, s2⟩
    simp only [Sem.run_bind, run_underlying g3, Result.andThen_ok, getObj_run q2, checkKey_int k3, hf]
    exact setObj_run _ q2
  | some y =>
    obtain ⟨j, en, r1, r2, r3, r4, r5, r6, r7, r8⟩ := f2 y hg
    have hf := findKey_run (P := P) (w := w) k3 r2
    obtain ⟨s1, s2⟩ := step_map hG ho q1 q2 (mset l n x) ck (es.modify j fun e => { e with key := .int .i64 n, val := cx }) (fun c' mo => by
      rw [Array.toList_modify]
      exact (r7 x cx p2 hxr.1 hxr.2).mono mo)
    refine ⟨_, g, ?_, s1, s2⟩
    have hke : Instr.keyThatStays (.int .i64 n) (.int .i64 n) = pure (.int .i64 n) := by
      unfold Instr.keyThatStays
      rw [if_pos]
      simp [Instr.sameBits]
    have hes : es[j]? = some en := by rw [← Array.getElem?_toList]; exact r1
    simp only [Sem.run_bind, run_underlying g3, Result.andThen_ok, getObj_run q2, checkKey_int k3, hf, Nat.zero_add, hes, Option.map_some, Option.getD_some, r3, hke, Sem.run_pure]
    exact setObj_run _ q2

theorem xdelete_sound (hTO : TyOK P T) {ts : Array TypeId} {t ty : TypeId} (ht : ts[0]? = some t) {m i : V} {cm ci : Value} (hG : Good g H w) (hm : RepV (cxOf g H.length w) m cm) (hi : RepV (cxOf g H.length w) i ci) {pre : Prop} {v : V} {H' : List Ob}
    (h : xdelete T (T t) H m i = .val pre v H') (hp : pre) : DoneV P g H w (Builtin.delete_ ts ty #[cm, ci]) v H' := by
  unfold xdelete at h
  split at h
  case h_2 => cases h
  rename_i k e hk
  have hT := hTO.at (t := t) (by rw [hk]; simp)
  obtain ⟨td, g1, _, g3⟩ := hT.run_und w
  have := kind_map g1 hk
  subst this
  split at h
  case h_2 => cases h
  rename_i o n
  split at h
  case h_2 => cases h
  rename_i l ck ho
  injection h with e1 e2 e3
  subst e1 e2 e3
  have hK := hTO.at (t := k) (by rw [hp]; simp)
  obtain ⟨tk, k1, _, k3⟩ := hK.run_und w
  have := kind_int k1 hp
  subst this
  have := hi.int
  subst this
  obtain ⟨b, es, q1, q2, q3⟩ := hG.map ho
  have := mapr_val hm q1
  subst this
  obtain ⟨f1, f2⟩ := find_rep n l es.toList 0 q3
  have hdel : ∀ l : List (Int × Nat × V), mget l n = none → mdel l n = l := by
    intro l
    induction l with
    | nil => intro _; rfl
    | cons p l ih =>
      intro h
      by_cases e : n = p.1
      · simp [mget, e] at h
      · simp only [mget, if_neg e] at h
        simp only [mdel, if_neg e, ih h]
  have hu : ∀ {g' n' w'}, RepV (cxOf g' n' w') (.tuple []) (.tuple #[]) := ⟨by simp only [RepC]; exact ⟨[], rfl, rfl⟩, trivial⟩
  unfold Builtin.delete_
  cases hg : mget l n with
  | none =>
    have hf := findKey_run (P := P) (w := w) k3 (f1 hg)
    obtain ⟨s1, s2⟩ := step_map hG ho q1 q2 (mdel l n) ck es (fun c' mo => by rw [hdel l hg]; exact q3.mono mo)
    refine ⟨_, g, .tuple #[], ?_, s1, s2, hu⟩
    simp only [ht, List.getElem?_toArray, List.getElem?_cons_zero, List.getElem?_cons_succ, Sem.run_bind, run_underlying g3, Result.andThen_ok, getObj_run q2, checkKey_int k3, hf, setObj_run _ q2, Sem.run_pure]
  | some y =>
    obtain ⟨j, en, r1, r2, r3, r4, r5, r6, r7, r8⟩ := f2 y hg
    have hf := findKey_run (P := P) (w := w) k3 r2
    obtain ⟨s1, s2⟩ := step_map hG ho q1 q2 (mdel l n) ck (es.eraseIdxIfInBounds j) (fun c' mo => by
      rw [Array.toList_eraseIdxIfInBounds]
      exact r8.mono mo)
    refine ⟨_, g, .tuple #[], ?_, s1, s2, hu⟩
    simp only [ht, List.getElem?_toArray, List.getElem?_cons_zero, List.getElem?_cons_succ, Sem.run_bind, run_underlying g3, Result.andThen_ok, getObj_run q2, checkKey_int k3, hf, Nat.zero_add, setObj_run _ q2, Sem.run_pure]

theorem mapr_new {o b n : Nat} {w' : World} (ho : o < n) (hk : g o = some ⟨0, some b, 0, 0⟩) : RepV (cxOf g n w') (.mapr o) (.map (some b)) := by
  refine RepV.mk_leaf ?_ (by simp) (by simp)
  simp only [RepC]
  refine ⟨has_key ho hk (.inl (by simp)), _, rfl, rfl, fun k b' h1 _ h3 => ?_⟩
  have h1 : g o = some k := h1
  rw [hk] at h1
  injection h1 with h1
  subst h1
  injection h3 with h3
  subst h3
  rfl
theorem ref_new {o b n : Nat} {w' : World} (ho : o < n) (hk : g o = some ⟨0, some b, 0, 0⟩) : RepV (cxOf g n w') (.ref o 0) (.pointer (some ⟨b, 0, none⟩)) := by
  refine RepV.mk_leaf ?_ (by simp) (by simp)
  simp only [RepC]
  refine ⟨has_key ho hk (.inl (by simp)), _, rfl, rfl, fun k b' h1 _ h3 => ?_⟩
  have h1 : g o = some k := h1
  rw [hk] at h1
  injection h1 with h1
  subst h1
  injection h3 with h3
  subst h3
  rfl

theorem makeMap_sound {t : TypeId} (hG : Good g H w) : DoneV P g H w (Instr.makeMap t none) (.mapr H.length) (H ++ [.map [] 0]) := by
  have := step_new hG (.map [] 0) (.map #[] 0) ⟨0, some w.heap.size, 0, 0⟩ rfl (fun g' hg' m => ⟨w.heap.size, #[], rfl, heap_pushW_new _ _, trivial⟩)
  refine ⟨_, _, .map (some w.heap.size), ?_, this.1, by rw [List.length_append]; exact this.2, mapr_new (by simp) (setKey_same _ _ _)⟩
  simp [Instr.makeMap, run_newObj, pushW]

/-- a copy of a map, as a new one -/
theorem step_map_new (hG : Good g H w) {l : List (Int × Nat × V)} {ck : Nat} {es : Array MapEntry} (hr : RepM (cxOf g H.length w) l es.toList) :
    Good (setKey g H.length (some ⟨0, some w.heap.size, 0, 0⟩)) (H ++ [.map l ck]) (pushW w (.map es ck)) ∧ Ext g H.length w (setKey g H.length (some ⟨0, some w.heap.size, 0, 0⟩)) (H ++ [Ob.map l ck]).length (pushW w (.map es ck)) ∧
    RepV (cxOf (setKey g H.length (some ⟨0, some w.heap.size, 0, 0⟩)) (H ++ [Ob.map l ck]).length (pushW w (.map es ck))) (.mapr H.length) (.map (some w.heap.size)) := by
  have := step_new hG (.map l ck) (.map es ck) ⟨0, some w.heap.size, 0, 0⟩ rfl (fun g' hg' m => ⟨w.heap.size, es, rfl, heap_pushW_new _ _, hr.mono m⟩)
  exact ⟨this.1, by rw [List.length_append]; exact this.2, mapr_new (by simp) (setKey_same _ _ _)⟩

theorem xrange_sound (hTO : TyOK P T) {t : TypeId} {m : V} {cm : Value} (hG : Good g H w) (hm : RepV (cxOf g H.length w) m cm) {pre : Prop} {v : V} {H' : List Ob}
    (h : xrange (T t) H m = .val pre v H') (hp : pre) : DoneV P g H w (Instr.range t cm) v H' := by
  unfold xrange at h
  split at h
  case h_2 => cases h
  rename_i k e hk
  have hT := hTO.at (t := t) (by rw [hk]; simp)
  obtain ⟨td, g1, _, g3⟩ := hT.run_und w
  have := kind_map g1 hk
  subst this
  split at h
  case h_2 => cases h
  rename_i o
  split at h
  case h_2 => cases h
  rename_i l ck ho
  injection h with e1 e2 e3
  subst e1 e2 e3
  obtain ⟨b, es, q1, q2, q3⟩ := hG.map ho
  have hv := mapr_val hm q1
  subst hv
  have := step_new hG (.iter o ck [] ck) (.mapIter (some b) ck #[] ck) ⟨0, some w.heap.size, 0, 0⟩ rfl (fun g' hg' mo => ⟨w.heap.size, b, rfl, heap_pushW_new _ _, RepC.mono mo _ _ (hm.leaf (by simp) (by simp))⟩)
  refine ⟨_, _, .pointer (some ⟨w.heap.size, 0, none⟩), ?_, this.1, by rw [List.length_append]; exact this.2, ref_new (by simp) (setKey_same _ _ _)⟩
  unfold Instr.range
  simp only [Sem.run_bind, run_underlying g3, Result.andThen_ok, getObj_run q2, Sem.run_pure, run_newObj, pushW]

theorem Good.iter (hG : Good g H w) {it o since last : Nat} {seen : List Nat} (h : H[it]? = some (.iter o since seen last)) : ∃ b mb, g it = some ⟨0, some b, 0, 0⟩ ∧ w.heap[b]? = some (.mapIter (some mb) since seen.toArray last) ∧ RepC (cxOf g H.length w) (.mapr o) [.map (some mb)] := by
  have := hG.ob it; rw [h] at this; exact this
theorem ref_val {c : Cx} {o b : Nat} {cv : Value} (h : RepV c (.ref o 0) cv) (hk : c.key o = some ⟨0, some b, 0, 0⟩) : cv = .pointer (some ⟨b, 0, none⟩) := by
  have hl := h.leaf (by simp) (by simp)
  simp only [RepC] at hl
  obtain ⟨_, v, hv, _, h⟩ := hl
  injection hv with hv
  subst hv
  exact h _ b hk rfl rfl
theorem mapr_blk {c : Cx} {o b mb : Nat} (h : RepC c (.mapr o) [.map (some mb)]) (hk : c.key o = some ⟨0, some b, 0, 0⟩) : mb = b := by
  simp only [RepC] at h
  obtain ⟨_, v, hv, _, h⟩ := h
  injection hv with hv
  subst hv
  have := h _ b hk rfl rfl
  injection this with this
  injection this with this
theorem getObj_iter {b : Nat} {m : Option Nat} {s l : Nat} {seen : Array Nat} (hb : w.heap[b]? = some (.mapIter m s seen l)) : (getObj b).run P w = .ok (.mapIter m s seen l) w := by simp [getObj, Sem.run, hb]
theorem setObj_iter {b : Nat} {m : Option Nat} {s l : Nat} {seen : Array Nat} (y : Obj) (hb : w.heap[b]? = some (.mapIter m s seen l)) : (setObj b y).run P w = .ok () (w.putObj b y) := by simp [setObj, Sem.run, hb, World.putObj]

theorem find_born {c : Cx} (k : Nat) : ∀ (l : List (Int × Nat × V)) (es : List MapEntry), RepM c l es → (l.find? (fun p => p.2.1 == k) = none → es.find? (fun e => e.born == k) = none) ∧
    ∀ p, l.find? (fun p => p.2.1 == k) = some p → ∃ e, es.find? (fun e => e.born == k) = some e ∧ e.key = .int .i64 p.1 ∧ p.2.2.storable ∧ RepC c p.2.2 e.val.cells.toList ∧ okAgg p.2.2 e.val
  | [], [], _ => ⟨fun _ => rfl, fun p h => by simp at h⟩
  | q :: l, e :: es, h => by
    obtain ⟨⟨h1, h2, h3, h4, h5⟩, h6⟩ := h
    obtain ⟨k1, k2⟩ := find_born k l es h6
    by_cases hb : q.2.1 = k
    · refine ⟨fun hn => by simp [hb] at hn, fun p hp => ?_⟩
      rw [List.find?_cons_of_pos (by simpa using hb)] at hp
      injection hp with hp
      subst hp
      exact ⟨e, by rw [List.find?_cons_of_pos (by rw [h2]; simpa using hb)], h1, h3, h4, h5⟩
    · have n1 : (q :: l).find? (fun p => p.2.1 == k) = l.find? (fun p => p.2.1 == k) := by simp [List.find?_cons, hb]
      have n2 : (e :: es).find? (fun e => e.born == k) = es.find? (fun e => e.born == k) := by simp [List.find?_cons, h2, hb]
      rw [n1, n2]
      exact ⟨k1, k2⟩
  | [], _ :: _, h => h.elim
  | _ :: _, [], h => h.elim

theorem xentry_sound {x : V} {cx : Value} (hG : Good g H w) (hx : RepV (cxOf g H.length w) x cx) {pre : Prop} {v : V} {H' : List Ob}
    (h : xentry H x = .val pre v H') (hp : pre) : DoneV P g H w (Instr.entry cx) v H' := by
  unfold xentry at h
  split at h
  case h_2 => cases h
  rename_i it
  split at h
  case h_2 => cases h
  rename_i o since seen last hit
  split at h
  case h_2 => cases h
  rename_i l ck ho
  split at h
  case h_2 => cases h
  rename_i p hf
  injection h with e1 e2 e3
  subst e1 e2 e3
  obtain ⟨b, es, q1, q2, q3⟩ := hG.map ho
  obtain ⟨bi, mb, i1, i2, i3⟩ := hG.iter hit
  have := ref_val hx i1
  subst this
  have := mapr_blk i3 q1
  subst this
  obtain ⟨e, r1, r2, r3, r4, r5⟩ := (find_born _ l es.toList q3).2 p hf
  have hback : seen.toArray.back? = some (seen.getLastD 0) := by
    obtain ⟨_, hne⟩ := hp
    rw [List.back?_toArray, List.getLast?_eq_some_getLast hne, List.getLastD_eq_getLast?, List.getLast?_eq_some_getLast hne]
    rfl
  have hfind : es.find? (fun e => e.born == seen.getLastD 0) = some e := by rw [← Array.find?_toList]; exact r1
  refine DoneV.pure_ hG (cv := .tuple #[.int .i64 p.1, e.val]) ?_ ⟨?_, trivial⟩
  · unfold Instr.entry
    simp only [Sem.run_bind, getObj_iter i2, Result.andThen_ok, hback, Sem.run_pure, getObj_run q2]
    have : (ck != last) = false := by simp [hp.1]
    simp only [this, hfind, Bool.false_eq_true, if_false, Sem.run_pure, r2, Sem.run_bind, Result.andThen_ok]
  · simp only [RepC]
    refine ⟨[.int .i64 p.1, e.val], rfl, ?_⟩
    simp only [RepVs]
    exact ⟨_, _, rfl, by simp [RepC, Value.cells], trivial, _, _, rfl, r4, r5, rfl⟩

/-- the step of an iterator -/
theorem next_sound (hG : Good g H w) {it o since last ck : Nat} {seen : List Nat} {l : List (Int × Nat × V)} (hit : H[it]? = some (.iter o since seen last)) (ho : H[o]? = some (.map l ck)) (hok : seen = [] ∨ l = [] ∨ ∃ p ∈ l, p.2.1 < last)
    {cx : Value} (hx : RepV (cxOf g H.length w) (.ref it 0) cx) (ty : TypeId) :
    ∃ cv w' g' v H', (Instr.next cx false ty).run P w = .ok cv w' ∧ Good g' H' w' ∧ Ext g H.length w g' H'.length w' ∧ RepV (cxOf g' H'.length w') v cv ∧
      ((∃ p ∈ l, p.2.1 ∉ seen ∧ v = .tuple [.bool true, .int .i64 p.1, p.2.2] ∧ H' = H.set it (.iter o since (seen ++ [p.2.1]) ck)) ∨ ((∀ p ∈ l, p.2.1 < since → p.2.1 ∈ seen) ∧ v = .tuple [.bool false] ∧ H' = H)) := by
  obtain ⟨b, es, q1, q2, q3⟩ := hG.map ho
  obtain ⟨bi, mb, i1, i2, i3⟩ := hG.iter hit
  have := ref_val hx i1
  subst this
  have := mapr_blk i3 q1
  subst this
  have hmem : ∀ e ∈ es.toList, ∃ p ∈ l, e.key = .int .i64 p.1 ∧ e.born = p.2.1 ∧ RepC (cxOf g H.length w) p.2.2 e.val.cells.toList ∧ okAgg p.2.2 e.val := by
    have key : ∀ (l : List (Int × Nat × V)) (es : List MapEntry), RepM (cxOf g H.length w) l es → ∀ e ∈ es, ∃ p ∈ l, e.key = .int .i64 p.1 ∧ e.born = p.2.1 ∧ RepC (cxOf g H.length w) p.2.2 e.val.cells.toList ∧ okAgg p.2.2 e.val := by
      intro l
      induction l with
      | nil => intro es h e he; cases es with
        | nil => cases he
        | cons _ _ => exact h.elim
      | cons p l ih => intro es h e he; cases es with
        | nil => cases he
        | cons e' es =>
          rcases List.mem_cons.1 he with rfl | he
          · exact ⟨p, by simp, h.1.1, h.1.2.1, h.1.2.2.2.1, h.1.2.2.2.2⟩
          · obtain ⟨p', k1, k2⟩ := ih es h.2 e he
            exact ⟨p', by simp [k1], k2⟩
    exact key l es.toList q3
  have hmem2 : ∀ p ∈ l, ∃ e ∈ es.toList, e.born = p.2.1 := by
    have key : ∀ (l : List (Int × Nat × V)) (es : List MapEntry), RepM (cxOf g H.length w) l es → ∀ p ∈ l, ∃ e ∈ es, e.born = p.2.1 := by
      intro l
      induction l with
      | nil => intro es h p hp; cases hp
      | cons p l ih => intro es h p' hp; cases es with
        | nil => exact h.elim
        | cons e' es =>
          rcases List.mem_cons.1 hp with rfl | hp
          · exact ⟨e', by simp, h.1.2.1⟩
          · obtain ⟨e, k1, k2⟩ := ih es h.2 p' hp
            exact ⟨e, by simp [k1], k2⟩
    exact key l es.toList q3
  let left := es.filter fun e => !seen.toArray.contains e.born
  let old := left.filter (·.born < since)
  let new := left.filter (·.born ≥ since)
  let cand : Array (Option MapEntry) := (if old.isEmpty then #[none] else #[]) ++ (old ++ new).map some
  have hpos : 0 < cand.size := by
    show 0 < ((if old.isEmpty then #[none] else #[]) ++ (old ++ new).map some : Array (Option MapEntry)).size
    cases ho' : old.isEmpty with
    | true => rw [if_pos rfl, Array.size_append]; show 0 < 1 + _; omega
    | false =>
      have : 0 < old.size := by
        rw [Nat.pos_iff_ne_zero]
        intro e
        rw [Array.isEmpty_iff_size_eq_zero.2 e] at ho'; cases ho'
      simp; omega
  have hun : (!seen.toArray.isEmpty && !es.isEmpty && es.all (·.born ≥ last)) = false := by
    rcases hok with rfl | rfl | ⟨p, hp, hlt⟩
    · rfl
    · have : es.toList = [] := by
        cases h : es.toList with
        | nil => rfl
        | cons _ _ => rw [h] at q3; exact q3.elim
      have : es = #[] := by cases es; simp at this; subst this; rfl
      subst this; simp
    · obtain ⟨e, he, hb⟩ := hmem2 p hp
      have : es.all (·.born ≥ last) = false := by
        rw [Bool.eq_false_iff]
        intro hall
        rw [← Array.all_toList, List.all_eq_true] at hall
        have := hall e he
        simp [hb] at this
        omega
      rw [this, Bool.and_false]
  obtain ⟨k, w1, hch, hk, hw1⟩ : ∃ k w1, (choose (.mapNext cand.size)).run P w = .ok k w1 ∧ k < cand.size ∧ (w1 = w ∨ ∃ n, w1 = { w with drawn := n }) := by
    rw [run_choose]
    split
    · exact ⟨0, w, rfl, hpos, .inl rfl⟩
    · exact ⟨_, _, rfl, Nat.mod_lt _ hpos, .inr ⟨_, rfl⟩⟩
  have hd : Good g H w1 ∧ Ext g H.length w g H.length w1 := by
    rcases hw1 with rfl | ⟨n, rfl⟩
    · exact ⟨hG, Ext.refl _ _ _⟩
    · exact step_drawn hG n
  have i2' : w1.heap[bi]? = some (.mapIter (some mb) since seen.toArray last) := by rcases hw1 with rfl | ⟨n, rfl⟩ <;> exact i2
  have hrun : ∀ c, cand[k]? = some c → (Instr.next (.pointer (some ⟨bi, 0, none⟩)) false ty).run P w =
      (match c with
       | some e => (do setObj bi (.mapIter (some mb) since (seen.toArray.push e.born) ck); pure (Value.tuple #[.bool true, e.key, e.val]) : Sem Value).run P w1
       | none => .ok (.tuple #[.bool false]) w1) := by
    intro c hc
    unfold Instr.next
    simp only [Sem.run_bind, getObj_iter i2, Result.andThen_ok, getObj_run q2, hun, Bool.false_eq_true, if_false, Sem.run_pure]
    have hch' := hch
    simp only [cand, old, new, left] at hch' hc
    rw [hch']
    simp only [Result.andThen_ok, hc]
    cases c <;> simp
  have hc : cand[k]? = some cand[k] := Array.getElem?_eq_getElem hk
  have hr := hrun _ hc
  cases hck : cand[k] with
  | none =>
    rw [hck] at hr
    have hold : old.isEmpty = true := by
      cases ho' : old.isEmpty with
      | true => rfl
      | false =>
        exfalso
        have hm : (none : Option MapEntry) ∈ cand := by rw [← hck]; exact Array.getElem_mem hk
        simp only [cand, ho', Bool.false_eq_true, if_false] at hm
        simp at hm
    refine ⟨_, w1, g, .tuple [.bool false], H, hr, hd.1, hd.2, ⟨by simp only [RepC]; exact ⟨[.bool false], rfl, by simp only [RepVs]; exact ⟨_, _, rfl, by simp [RepC, Value.cells], trivial, rfl⟩⟩, trivial⟩, .inr ⟨fun p hp hlt => ?_, rfl, rfl⟩⟩
    obtain ⟨e, he, hb⟩ := hmem2 p hp
    by_cases hs : p.2.1 ∈ seen
    · exact hs
    · exfalso
      have hin : e ∈ old := by
        simp only [old, left, Array.mem_filter]
        exact ⟨⟨by simpa using he, by simpa [hb] using hs⟩, by simpa [hb] using hlt⟩
      have h0 : old.size = 0 := Array.isEmpty_iff_size_eq_zero.1 hold
      have := Array.size_pos_of_mem hin
      omega
  | some e =>
    rw [hck] at hr
    have hin : e ∈ left := by
      have hm : some e ∈ cand := by rw [← hck]; exact Array.getElem_mem hk
      simp only [cand, Array.mem_append, Array.mem_map] at hm
      rcases hm with hm | ⟨e', hm, he'⟩
      · split at hm <;> simp at hm
      · injection he' with he'
        subst he'
        rcases hm with hm | hm
        · simp only [old, Array.mem_filter] at hm; exact hm.1
        · simp only [new, Array.mem_filter] at hm; exact hm.1
    simp only [left, Array.mem_filter] at hin
    obtain ⟨p, hp, r1, r2, r3, r4⟩ := hmem e (by simpa using hin.1)
    have hns : p.2.1 ∉ seen := by have := hin.2; simpa [r2] using this
    have hlt := (Array.getElem?_eq_some_iff.1 i2').1
    have hlo := (List.getElem?_eq_some_iff.1 hit).1
    have hst := step_one hd.1 it g (H.set it (.iter o since (seen ++ [p.2.1]) ck)) (w1.putObj bi (.mapIter (some mb) since (seen ++ [p.2.1]).toArray ck)) rfl rfl rfl
      (fun o' ho' => List.getElem?_set_ne (Ne.symm ho')) (fun _ _ => rfl) (by simp) (by simp [World.putObj])
      (fun b' _ hb' => World.putObj_heap_other (fun e => hb' _ i1 (by rw [e])))
      (fun k' b' hk' hb' => .inr ⟨k', hk', hb'⟩)
      (fun _ k' hk' => ⟨k', hk', Nat.le_refl _, fun _ => rfl⟩)
      (fun m => by
        rw [List.getElem?_set_self hlo]
        refine ⟨bi, mb, i1, by simp [World.putObj, hlt], RepC.mono (hd.2.mono.trans m) _ _ i3⟩)
    refine ⟨.tuple #[.bool true, .int .i64 p.1, e.val], _, g, .tuple [.bool true, .int .i64 p.1, p.2.2], _, ?_, hst.1, hd.2.trans hst.2, ?_, .inl ⟨p, hp, hns, rfl, rfl⟩⟩
    · rw [hr]
      simp only [Sem.run_bind, setObj_iter _ i2', Result.andThen_ok, Sem.run_pure, r1, r2, List.push_toArray]
    · have m := (hd.2.trans hst.2).mono
      refine ⟨?_, trivial⟩
      simp only [RepC]
      refine ⟨[.bool true, .int .i64 p.1, e.val], rfl, ?_⟩
      simp only [RepVs]
      exact ⟨_, _, rfl, by simp [RepC, Value.cells], trivial, _, _, rfl, by simp [RepC, Value.cells], trivial, _, _, rfl, RepC.mono m _ _ r3, r4, rfl⟩

theorem xmapLen_sound (hTO : TyOK P T) {t ty : TypeId} {k e : Nat} (hk : (T t).kind = .map k e) {x : V} {cx : Value} (hG : Good g H w) (hx : RepV (cxOf g H.length w) x cx) {pre : Prop} {v : V} {H' : List Ob}
    (h : xmapLen H x = .val pre v H') (hp : pre) : DoneV P g H w (Builtin.len_ #[t] ty #[cx]) v H' := by
  have hT := hTO.at (t := t) (by rw [hk]; simp)
  obtain ⟨td, g1, _, g3⟩ := hT.run_und w
  have := kind_map g1 hk
  subst this
  unfold xmapLen at h
  split at h
  case h_3 => cases h
  · rename_i o
    split at h
    case h_2 => cases h
    rename_i l ck ho
    injection h with e1 e2 e3
    subst e1 e2 e3
    obtain ⟨b, es, q1, q2, q3⟩ := hG.map ho
    have hv := mapr_val hx q1
    subst hv
    refine DoneV.pure_ hG (cv := .int .i64 l.length) ?_ RepV.mk_int
    unfold Builtin.len_
    have : es.size = l.length := by have := q3.length; simpa using this
    simp only [List.getElem?_toArray, List.getElem?_cons_zero, Sem.run_bind, run_underlying g3, Result.andThen_ok, getObj_run q2, Sem.run_pure, this]
    rfl
  · injection h with e1 e2 e3
    subst e1 e2 e3
    have hn := hx.leaf (by simp) (by simp)
    simp only [RepC] at hn
    injection hn with hn
    subst hn
    refine DoneV.pure_ hG (cv := .int .i64 0) ?_ RepV.mk_int
    unfold Builtin.len_
    simp only [List.getElem?_toArray, List.getElem?_cons_zero, Sem.run_bind, run_underlying g3, Result.andThen_ok, Sem.run_pure]
    rfl

/-! ### against nil -/
theorem run_eq_map_nil (d : Nat) (t a b : TypeId) (p : Option Nat) (h : P.underlying t = some (.map a b)) : (Op.equalIn (d + 1) t (.map p) (.map none)).run P w = .ok p.isNone w := by
  simp only [Op.equalIn, Sem.run_bind, run_underlying h, Result.andThen_ok]
  cases p <;> rfl
theorem run_eq_slice_nil (d : Nat) (t e : TypeId) (p : Option Addr) (n c n' c' : Nat) (h : P.underlying t = some (.slice e)) : (Op.equalIn (d + 1) t (.slice p n c) (.slice none n' c')).run P w = .ok p.isNone w := by
  simp only [Op.equalIn, Sem.run_bind, run_underlying h, Result.andThen_ok]
  cases p <;> rfl

theorem xnilm_sound (hTO : TyOK P T) {t : TypeId} {op : BinOp} {x : V} {cx cy : Value} {ox oy : Operand} (hG : Good g H w) (hx : RepV (cxOf g H.length w) x cx) (hy : RepV (cxOf g H.length w) .nilm cy) {pre : Prop} {v : V} {H' : List Ob}
    (h : xnilm (T t) H op x = .val pre v H') (hp : pre) : DoneV P g H w (do eqGuard op t ox oy cx cy; binOp op t cx cy) v H' := by
  have hn := hy.leaf (by simp) (by simp)
  simp only [RepC] at hn
  injection hn with hn
  subst hn
  unfold xnilm at h
  split at h
  case h_2 => cases h
  rename_i k e hk
  have hT := hTO.at (t := t) (by rw [hk]; simp)
  obtain ⟨td, g1, _, g3⟩ := hT.run_und w
  have := kind_map g1 hk
  subst this
  have key : ∀ p : Option Nat, ∀ q, p.isNone = q → DoneV P g H w (do eqGuard .eql t ox oy (.map p) (.map none); binOp .eql t (.map p) (.map none)) (.bool q) H ∧ DoneV P g H w (do eqGuard .neq t ox oy (.map p) (.map none); binOp .neq t (.map p) (.map none)) (.bool (!q)) H := by
    rintro p q rfl
    have q1 : (Op.equal t (.map p) (.map none)).run P w = .ok p.isNone w := run_eq_map_nil 9999 t k e p g3
    refine ⟨⟨w, g, _, ?_, hG, Ext.refl _ _ _, RepV.mk_bool⟩, ⟨w, g, _, ?_, hG, Ext.refl _ _ _, RepV.mk_bool⟩⟩
    · rw [Sem.run_bind, eqGuard_ok (by simp) (by simp)]
      simp [binOp, q1]
    · rw [Sem.run_bind, eqGuard_ok (by simp) (by simp)]
      simp [binOp, q1]
  split at h
  case h_3 => cases h
  · rename_i o
    have hv : (∃ l ck, H[o]? = some (.map l ck)) → ∃ b, cx = .map (some b) := by
      rintro ⟨l, ck, ho⟩
      obtain ⟨b, es, q1, q2, q3⟩ := hG.map ho
      exact ⟨b, mapr_val hx q1⟩
    split at h
    case h_3 => cases h
    · injection h with e1 e2 e3
      subst e1 e2 e3
      obtain ⟨b, rfl⟩ := hv hp
      exact (key _ _ rfl).1
    · injection h with e1 e2 e3
      subst e1 e2 e3
      obtain ⟨b, rfl⟩ := hv hp
      exact (key _ _ rfl).2
  · have hn := hx.leaf (by simp) (by simp)
    simp only [RepC] at hn
    injection hn with hn
    subst hn
    split at h
    case h_3 => cases h
    · injection h with e1 e2 e3
      subst e1 e2 e3
      exact (key _ _ rfl).1
    · injection h with e1 e2 e3
      subst e1 e2 e3
      exact (key _ _ rfl).2

theorem xnils_val {d : TD} {op : BinOp} {x : V} {pre : Prop} {v : V} {H' : List Ob} : xnils d H op x ≠ .val pre v H' := by
  unfold xnils xmaybe; (repeat' split) <;> simp
theorem xnils_call {d : TD} {op : BinOp} {x : V} {f args} : xnils d H op x ≠ .call f args := by
  unfold xnils xmaybe; (repeat' split) <;> simp
theorem xnils_ycall {d : TD} {op : BinOp} {x : V} {f args} : xnils d H op x ≠ .ycall f args := by
  unfold xnils xmaybe; (repeat' split) <;> simp

theorem xmaybe_inv {op : BinOp} {a b : Prop} {pre p : Prop} {f : Bool → V} {H' : List Ob} (h : xmaybe op a b H = .maybe pre p f H') : pre = a ∧ p = b ∧ H' = H ∧ ((op = .eql ∧ f = fun b => .bool b) ∨ (op = .neq ∧ f = fun b => .bool (!b))) := by
  unfold xmaybe at h
  split at h
  · injection h with e1 e2 e3 e4; exact ⟨e1.symm, e2.symm, e4.symm, .inl ⟨rfl, e3.symm⟩⟩
  · injection h with e1 e2 e3 e4; exact ⟨e1.symm, e2.symm, e4.symm, .inr ⟨rfl, e3.symm⟩⟩
  · cases h
theorem xnils_sound (hTO : TyOK P T) {t : TypeId} {op : BinOp} {x : V} {cx : Value} {ox oy : Operand} {n' c' : Nat} (hG : Good g H w) (hx : RepV (cxOf g H.length w) x cx) {pre p : Prop} {f : Bool → V} {H' : List Ob}
    (h : xnils (T t) H op x = .maybe pre p f H') (hp : pre) : ∃ b, (p → b = false) ∧ DoneV P g H w (do eqGuard op t ox oy cx (.slice none n' c'); binOp op t cx (.slice none n' c')) (f b) H' := by
  unfold xnils at h
  split at h
  case h_2 => cases h
  rename_i e hk
  have hT := hTO.at (t := t) (by rw [hk]; simp)
  obtain ⟨td, g1, _, g3⟩ := hT.run_und w
  have := kind_slice g1 hk
  subst this
  have key : ∀ (a : Option Addr) (n c : Nat), ((op = .eql ∧ f = fun b => .bool b) ∨ (op = .neq ∧ f = fun b => .bool (!b))) → DoneV P g H w (do eqGuard op t ox oy (.slice a n c) (.slice none n' c'); binOp op t (.slice a n c) (.slice none n' c')) (f a.isNone) H := by
    intro a n c hop
    have q1 : (Op.equal t (.slice a n c) (.slice none n' c')).run P w = .ok a.isNone w := run_eq_slice_nil 9999 t e a n c n' c' g3
    rcases hop with ⟨rfl, rfl⟩ | ⟨rfl, rfl⟩
    · refine ⟨w, g, .bool a.isNone, ?_, hG, Ext.refl _ _ _, RepV.mk_bool⟩
      rw [Sem.run_bind, eqGuard_ok (by simp) (by simp)]
      simp [binOp, q1]
    · refine ⟨w, g, .bool (!a.isNone), ?_, hG, Ext.refl _ _ _, RepV.mk_bool⟩
      rw [Sem.run_bind, eqGuard_ok (by simp) (by simp)]
      simp [binOp, q1]
  split at h
  · rename_i l
    obtain ⟨rfl, rfl, rfl, h4⟩ := xmaybe_inv h
    have hl := hx.leaf (by simp) (by simp)
    simp only [RepC] at hl
    obtain ⟨a, cap, es, hu, _, _, hh⟩ := hl
    injection hu with hu
    subst hu
    refine ⟨a.isNone, fun hne => ?_, key a _ _ h4⟩
    rcases hh with hh | ⟨b, off, rfl, _⟩
    · exact absurd hh hne
    · rfl
  · rename_i l
    obtain ⟨rfl, rfl, rfl, h4⟩ := xmaybe_inv h
    have hl := hx.leaf (by simp) (by simp)
    simp only [RepC] at hl
    obtain ⟨a, es, hu, _, hh⟩ := hl
    injection hu with hu
    subst hu
    refine ⟨a.isNone, fun hne => ?_, key a _ _ h4⟩
    rcases hh with hh | ⟨b, off, rfl, _⟩
    · exact absurd hh hne
    · rfl
  · rename_i o ver off n
    obtain ⟨rfl, rfl, rfl, h4⟩ := xmaybe_inv h
    obtain ⟨es, l, ho⟩ := hp
    obtain ⟨q, hq, hver, _⟩ := hG.vec ho
    have hl := hx.leaf (by simp) (by simp)
    simp only [RepC] at hl
    obtain ⟨k1, u, hu, k2, k3⟩ := hl
    injection hu with hu
    subst hu
    obtain ⟨k5, a, rfl, k7⟩ := (k3 q hq).2 hver
    refine ⟨a.isNone, fun hne => ?_, key a _ _ h4⟩
    obtain ⟨b, _, rfl⟩ := k7 (by omega)
    rfl
  · cases h

theorem makeInterface_sound (hTO : TyOK P T) {t : TypeId} {x : V} {cx : Value} (hG : Good g H w) (hx : RepV (cxOf g H.length w) x cx) (h1 : (T t).kind ≠ .other) (h2 : (T t).kind ≠ .iface) (h3 : x.storable) : DoneV P g H w (Instr.makeInterface t cx) (.iface t x) H := by
  obtain ⟨td, g1, g2, g3⟩ := (hTO.at h1).run_und w
  have hxr : RepC (cxOf g H.length w) x cx.cells.toList ∧ okAgg x cx := by cases x <;> first | exact h3.elim | exact hx
  refine DoneV.pure_ hG (cv := .iface t cx) ?_ (RepV.mk_leaf (by simp only [RepC]; exact ⟨cx, rfl, hxr.1, hxr.2⟩) (by simp) (by simp))
  unfold Instr.makeInterface
  simp only [Sem.run_bind, g2, Result.andThen_ok]
  cases td <;> first | rfl | (exfalso; cases hk : (T t).kind <;> rw [hk] at g1 <;> first | exact h1 hk | exact h2 hk | (simp [kindOK] at g1; done))
theorem typeAssert_sound (hTO : TyOK P T) {xt t : TypeId} {v : V} {cx : Value} (hG : Good g H w) (hx : RepV (cxOf g H.length w) (.iface t v) cx) (h1 : (T t).kind ≠ .other) (h2 : (T t).kind ≠ .iface) : DoneV P g H w (Instr.typeAssert cx xt t false) v H := by
  obtain ⟨td, g1, g2, g3⟩ := (hTO.at h1).run_und w
  have hl := hx.leaf (by simp) (by simp)
  simp only [RepC] at hl
  obtain ⟨cv, hu, k1, k2⟩ := hl
  injection hu with hu
  subst hu
  refine DoneV.pure_ hG (cv := cv) ?_ (RepV.of_parts k1 k2)
  unfold Instr.typeAssert
  simp only [Sem.run_bind, g2, Result.andThen_ok]
  cases td <;> first | (simp; done) | (exfalso; cases hk : (T t).kind <;> rw [hk] at g1 <;> first | exact h1 hk | exact h2 hk | (simp [kindOK] at g1; done))
end Go.EL

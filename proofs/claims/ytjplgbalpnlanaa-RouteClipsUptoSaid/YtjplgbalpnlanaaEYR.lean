/- The value logic, part YR: a range over a function. -/
import Derived.Test.YtjplgbalpnlanaaEY
set_option linter.unusedVariables false
set_option linter.unusedSimpArgs false
namespace Go.EL
open Go
variable {P : Program} {T : Nat → TD}

theorem Ext.trans0 {g0 n0 w0 g1 n1 w1 g2 n2 w2} (h : Ext g0 n0 w0 g1 n1 w1) (j : Ext g1 n0 w1 g2 n2 w2) : Ext g0 n0 w0 g2 n2 w2 := by
  refine ⟨j.os.trans h.os, j.output.trans h.output, j.tape.trans h.tape, Nat.le_trans h.size j.size, fun b hb => ?_, fun o ho k hk => ?_, j.nobj⟩
  · have a := h.frame b hb
    have c := j.frame b ⟨a.2.1, a.2.2⟩
    exact ⟨c.1.trans a.1, c.2⟩
  · rcases j.key o ho k hk with ⟨k1, h1, h2, h3⟩ | h1
    · rcases h.key o ho k1 h1 with ⟨k0, g1, g2, g3⟩ | g1
      · refine .inl ⟨k0, g1, Nat.le_trans g2 h2, fun e => ?_⟩
        have e1 : k = k1 := h3 (by omega)
        subst e1
        exact g3 e
      · exact .inr g1
    · rcases h.key o ho hole h1 with ⟨k0, g1, g2, g3⟩ | g1
      · right
        have : k0.ver = 0 := Nat.le_zero.1 g2
        rw [g1, ← g3 (by rw [this]; rfl)]
      · exact .inr g1
theorem Good.raw {g H w} (hG : Good g H w) {o b : Nat} {x : Obj} {vs cs} (h : H[o]? = some (.raw b x vs cs)) : (g o = some ⟨0, some b, 0, 0⟩ ∧ w.heap[b]? = some x) ∧ RepL (cxOf g H.length w) vs cs := by
  have := hG.ob o; rw [h] at this; exact this
/-- a raw object is written -/
theorem step_raw_set {g H w} (hG : Good g H w) {o b : Nat} {x : Obj} {vs cs} (y : Obj) (h : H[o]? = some (.raw b x vs cs)) :
    Good g (H.set o (.raw b y vs cs)) (w.putObj b y) ∧ Ext g H.length w g H.length (w.putObj b y) := by
  obtain ⟨⟨hk, hh⟩, hr⟩ := hG.raw h
  have hlt := (Array.getElem?_eq_some_iff.1 hh).1
  have hlo := (List.getElem?_eq_some_iff.1 h).1
  have := step_one hG o g (H.set o (.raw b y vs cs)) (w.putObj b y) rfl rfl rfl
    (fun o' ho' => List.getElem?_set_ne (Ne.symm ho')) (fun _ _ => rfl) (by simp) (by simp)
    (fun b' _ hb' => World.putObj_heap_other (fun e => hb' _ hk (by rw [e])))
    (fun k' b' hk' hb' => .inr ⟨k', hk', hb'⟩) (fun _ k' hk' => ⟨k', hk', Nat.le_refl _, fun _ => rfl⟩)
    (fun m => by
      rw [List.getElem?_set_self hlo]
      refine ⟨⟨hk, World.putObj_heap_same hlt⟩, hr.mono m⟩)
  rw [List.length_set] at this
  exact this
/-- a new raw object -/
theorem step_raw_new {g H w} (hG : Good g H w) (x : Obj) (vs : List V) (cs : List Value) (hr : RepL (cxOf g H.length w) vs cs) :
    Good (setKey g H.length (some ⟨0, some w.heap.size, 0, 0⟩)) (H ++ [.raw w.heap.size x vs cs]) (w.alloc x) ∧ Ext g H.length w (setKey g H.length (some ⟨0, some w.heap.size, 0, 0⟩)) (H.length + 1) (w.alloc x) := by
  have := step_new hG (.raw w.heap.size x vs cs) x ⟨0, some w.heap.size, 0, 0⟩ rfl (fun g' _ m => ⟨⟨rfl, heap_pushW_new w x⟩, hr.mono m⟩)
  exact this
theorem RepL.of {c : Cx} : ∀ {xs : List V} {vs : List Value}, xs.length = vs.length → (∀ (i : Nat) x v, xs[i]? = some x → vs[i]? = some v → RepV c x v) → RepL c xs vs
  | [], [], _, _ => trivial
  | x :: xs, v :: vs, hl, h => ⟨h 0 x v rfl rfl, RepL.of (by simpa using hl) fun i x v hx hv => h (i + 1) x v hx hv⟩
  | [], _ :: _, hl, _ => by simp at hl
  | _ :: _, [], hl, _ => by simp at hl
theorem RepL.get {c : Cx} : ∀ {xs : List V} {vs : List Value}, RepL c xs vs → ∀ {i : Nat} {x v}, xs[i]? = some x → vs[i]? = some v → RepV c x v
  | x :: xs, v :: vs, h, 0, y, u, hy, hu => by simp at hy hu; subst hy hu; exact h.1
  | x :: xs, v :: vs, h, i + 1, y, u, hy, hu => RepL.get h.2 (by simpa using hy) (by simpa using hu)
  | [], [], _, _, _, _, hy, _ => by simp at hy
  | [], _ :: _, h, _, _, _, _, _ => h.elim
  | _ :: _, [], h, _, _, _, _, _ => h.elim
def envL (n : Nat) (env : Env) : List V := (List.range n).map (eget env)
theorem eget_dead {n : Nat} : ∀ {env : Env}, (∀ p ∈ env, p.1 < n) → ∀ t, n ≤ t → eget env t = .dead
  | [], _, t, _ => rfl
  | (s, x) :: env, h, t, ht => by
    simp only [eget]
    have := h (s, x) (List.mem_cons_self ..)
    simp only at this
    rw [if_neg (by omega)]
    exact eget_dead (fun p hp => h p (List.mem_cons_of_mem _ hp)) t ht
theorem envL_rep {c : Cx} {n : Nat} {env : Env} {tm : Array Value} (hn : tm.size = n) (h : ∀ t, RepV c (eget env t) (tm.getD t undef)) : RepL c (envL n env) tm.toList := by
  refine RepL.of (by simp [envL, hn]) fun i x v hx hv => ?_
  have hi : i < n := by have := (List.getElem?_eq_some_iff.1 hv).1; simpa [hn] using this
  have e1 : x = eget env i := by
    unfold envL at hx
    rw [List.getElem?_map, List.getElem?_range hi] at hx
    injection hx with hx
    exact hx.symm
  have e2 : v = tm.getD i undef := by
    rw [Array.getElem?_toList] at hv
    simp [Array.getD_eq_getD_getElem?, hv]
  rw [e1, e2]; exact h i
theorem envL_get {c : Cx} {n : Nat} {env : Env} {tm : Array Value} (hn : tm.size = n) (hk : ∀ p ∈ env, p.1 < n) (h : RepL c (envL n env) tm.toList) : ∀ t, RepV c (eget env t) (tm.getD t undef) := by
  intro t
  by_cases ht : t < n
  · refine h.get (i := t) ?_ ?_
    · unfold envL; rw [List.getElem?_map, List.getElem?_range ht]; rfl
    · rw [Array.getElem?_toList]
      have : t < tm.size := by omega
      simp [Array.getD_eq_getD_getElem?, this]
  · rw [eget_dead hk t (by omega)]; trivial

def updP (env : Env) : List (Nat × V) → Env
  | [] => env
  | (t, v) :: us => updP (eset env t v) us
theorem eget_eset (env : Env) (t s : Nat) (x : V) : eget (eset env t x) s = if s = t then x else eget env s := by
  have := eget_eput env (some t) x s
  simp only [eput, Option.some.injEq] at this
  rw [this]
  by_cases h : t = s
  · subst h; simp
  · rw [if_neg h, if_neg (Ne.symm h)]
theorem updP_rep {c : Cx} : ∀ {l : List (Nat × V)} {m : List (Nat × Value)} {env : Env} {tmps : Array Value}, l.map Prod.fst = m.map Prod.fst → RepVals c (l.map Prod.snd) (m.map Prod.snd) → (∀ p ∈ l, p.1 < tmps.size) → (∀ t, RepV c (eget env t) (tmps.getD t undef)) →
    (m.foldl (fun tmps (t, a) => tmps.setIfInBounds t a) tmps).size = tmps.size ∧ ∀ t, RepV c (eget (updP env l) t) ((m.foldl (fun tmps (t, a) => tmps.setIfInBounds t a) tmps).getD t undef)
  | [], [], _, _, _, _, _, h => ⟨rfl, h⟩
  | (t, x) :: l, (s, v) :: m, env, tmps, he, hv, hl, h => by
    simp only [List.map_cons, List.cons.injEq] at he
    obtain ⟨e1, e2⟩ := he
    subst e1
    have hlt := hl _ (List.mem_cons_self ..)
    simp only at hlt
    have := updP_rep (c := c) (l := l) (m := m) (env := eset env t x) (tmps := tmps.setIfInBounds t v) e2 hv.2 (fun p hp => by rw [Array.size_setIfInBounds]; exact hl p (List.mem_cons_of_mem _ hp)) (fun u => by
      rw [eget_eset]
      by_cases hu : u = t
      · subst hu
        rw [if_pos rfl]
        have : (tmps.setIfInBounds u v).getD u undef = v := by simp [Array.getD_eq_getD_getElem?, hlt]
        rw [this]; exact hv.1
      · rw [if_neg hu]
        have : (tmps.setIfInBounds t v).getD u undef = tmps.getD u undef := by
          simp only [Array.getD_eq_getD_getElem?]
          rw [Array.getElem?_setIfInBounds_ne (Ne.symm hu)]
        rw [this]; exact h u)
    rw [Array.size_setIfInBounds] at this
    exact this
  | [], _ :: _, _, _, he, _, _, _ => by simp at he
  | _ :: _, [], _, _, he, _, _, _ => by simp at he

def mkD (D : Nat) : Deferred := { target := .collected D, args := #[] }
def dfr : Obj := .deferred (some [])

/-- A RANGE OVER A FUNCTION, whose rounds all go on. -/
theorem range_wp {ps : Array Tmp} {assign body : Code} {tg : Operand} {gf : FuncId} {cap : List V} {α ι : Type} (xs : List α) (enc : α → List V) (hs : ι → List Ob) (ok : List α → ι → Prop) (x0 : ι) (eM : α → Nat → Env) (M : α → Nat → List Ob)
    {n : Nat} {env : Env} (hcall : ∀ args w, (callFunc gf args).run P w = .ok (.enter gf args) w) (hg : evl env tg = .fn (.func gf) [] cap)
    (h0 : ok [] x0) (hlen : ∀ x, (hs x).length = (hs x0).length) (henc : ∀ a, (enc a).length = ps.size) (hps : ∀ t ∈ ps.toList, t < n) (hkn : ∀ p ∈ env, p.1 < n)
    (hit : ∀ l R, (∀ pre a post x L, xs = pre ++ a :: post → ok pre x → YSCall P l (enc a) (hs x ++ (R ++ L)) (fun r H' => r = .bool true ∧ ∃ x', ok (pre ++ [a]) x' ∧ H' = hs x' ++ (R ++ L))) →
      SCall P gf (.fn (.yield l) [] [] :: cap) (hs x0 ++ R) (fun _ H' => ∃ x', ok xs x' ∧ H' = hs x' ++ R))
    (hassign : ∀ pre a post x R, xs = pre ++ a :: post → ok pre x → EWn P (hs x ++ R).length n assign (thenE (fun e h => e = eM a (hs x ++ R).length ∧ h = hs x ++ R ++ M a (hs x ++ R).length) (fun _ _ _ => False)) (updP env (ps.toList.zip (enc a))) (hs x ++ R))
    (hbody : ∀ pre a post x R, xs = pre ++ a :: post → ok pre x → HLt (hs x ++ R).length (hs x ++ R) → EWn P (hs x ++ R).length n body (fun e => UpTo (hs x ++ R).length (fun _ h => e = .normal ∧ ∃ x', ok (pre ++ [a]) x' ∧ h = hs x' ++ R)) (eM a (hs x ++ R).length) (hs x ++ R ++ M a (hs x ++ R).length))
    {a : Act} {w : World} {g : Nat → Option Key} (hR : Rel [] n env (hs x0) g a w) {Q : Exit → Act → World → Prop}
    (hQ : ∀ D l y vs cs x' g' w', ok xs x' → Rel [mkD D] n env (hs x' ++ [Ob.raw D dfr [] [], Ob.raw l y vs cs]) g' { a with defers := [mkD D] } w' → Ext g (hs x0).length w g' (hs x' ++ [Ob.raw D dfr [] [], Ob.raw l y vs cs]).length w' → Q .normal { a with defers := [mkD D] } w') :
    (Code.rangeFunc tg ps assign body).wpIn (fz none) 0 P Q a w := by
  refine wpIn_rangeFunc fun fn _ => ?_
  obtain ⟨hn, hd, hE, hG⟩ := hR
  obtain ⟨D, hD⟩ : ∃ D, D = w.heap.size := ⟨_, rfl⟩
  obtain ⟨rec, hrec⟩ : ∃ rec : Loop, rec = { state := .ready, pending := none, fn, tmps := a.tmps, params := ps, assign, body, defers := D } := ⟨_, rfl⟩
  obtain ⟨vs, hvs⟩ : ∃ vs, vs = envL n env := ⟨_, rfl⟩
  obtain ⟨cs, hcs⟩ : ∃ cs, cs = a.tmps.toList := ⟨_, rfl⟩
  have hrl : RepL (cxOf g (hs x0).length w) vs cs := by rw [hvs, hcs]; exact envL_rep hn hE
  obtain ⟨W1, hW1⟩ : ∃ W1, W1 = (w.alloc dfr).alloc (.loop rec) := ⟨_, rfl⟩
  obtain ⟨R, hRd⟩ : ∃ R : List Ob, R = [Ob.raw D dfr [] [], Ob.raw (D + 1) (.loop rec) vs cs] := ⟨_, rfl⟩
  have hlenR : ∀ x, (hs x ++ R).length = (hs x0).length + 1 + 1 := fun x => by rw [hRd, List.length_append, hlen]; rfl
  obtain ⟨g2, hG2, hX2⟩ : ∃ g2, Good g2 (hs x0 ++ R) W1 ∧ Ext g (hs x0).length w g2 (hs x0 ++ R).length W1 := by
    obtain ⟨hG1, hX1⟩ := step_raw_new hG dfr [] [] trivial
    have hX1' := hX1
    have e1 : (hs x0).length + 1 = (hs x0 ++ [Ob.raw w.heap.size dfr [] []]).length := by simp
    rw [e1] at hX1'
    obtain ⟨hG2, hX2⟩ := step_raw_new hG1 (.loop rec) vs cs (hrl.mono hX1'.mono)
    have hT := hX1'.trans hX2
    refine ⟨setKey (setKey g (hs x0).length (some ⟨0, some w.heap.size, 0, 0⟩)) (hs x0 ++ [Ob.raw w.heap.size dfr [] []]).length (some ⟨0, some (w.alloc dfr).heap.size, 0, 0⟩), ?_, ?_⟩
    · rw [hRd, hW1, hD]
      have h3 := hG2
      simp only [World.size_alloc, List.append_assoc] at h3 ⊢
      exact h3
    · rw [hlenR x0, hW1, show (hs x0).length + 1 + 1 = (hs x0 ++ [Ob.raw w.heap.size dfr [] []]).length + 1 from by simp]
      exact hT
  have hf := hE.ev tg
  rw [hg] at hf
  have hl := hf.leaf (by simp) (by simp)
  have hcapm := hl
  simp only [RepC] at hl
  obtain ⟨x, y, hu, hx1, hy1⟩ := hl
  injection hu with hu
  have hxe : x = [] := by simpa only [RepVs] using hx1
  subst hxe
  refine ⟨D + 1, [mkD D], W1, { target := .fn (.func gf) y.toArray, args := #[.func (.yield (D + 1)) #[] #[]] }, W1, gf, #[.func (.yield (D + 1)) #[] #[]] ++ y.toArray, W1, ?_, ?_, ?_, ?_, fz_depth, ?_⟩
  · rw [hW1, hrec, hD]; exact run_enterLoop_outer _ _ _ _ _
  · simp only [resolve, hu]
    simp [go_sem]
  · intro f' _; trivial
  · simp [invoke, go_sem, hcall]
  have hidx : ∀ x L, (hs x ++ (R ++ L))[(hs x).length + 1]? = some (Ob.raw (D + 1) (.loop rec) vs cs) := fun x L => by rw [hRd, hget]; rfl
  -- one round
  have hY : ∀ pre a' post x L, xs = pre ++ a' :: post → ok pre x → YSCall P (D + 1) (enc a') (hs x ++ (R ++ L)) (fun r H' => r = .bool true ∧ ∃ x', ok (pre ++ [a']) x' ∧ H' = hs x' ++ (R ++ L)) := by
    intro pre a' post x L hxs hok g3 w3 cargs hG3 hca
    obtain ⟨⟨hk3, hh3⟩, hr3⟩ := hG3.raw (hidx x L)
    have hcsz : cargs.size = ps.size := by
      have := hca.length
      rw [henc] at this
      rw [Array.length_toList] at this
      exact this
    have hy := run_yield (P := P) (args := cargs) hh3 (by rw [hrec]; exact hcsz)
    refine ⟨_, _, _, _, hy, roundIn_of_wpIn trivial ?_⟩
    have hup := updP_rep (c := cxOf g3 (hs x ++ (R ++ L)).length w3) (l := ps.toList.zip (enc a')) (m := (ps.zip cargs).toList) (env := env) (tmps := a.tmps)
      (by rw [Array.toList_zip, List.map_fst_zip (by rw [henc]; simp), List.map_fst_zip (by simp [hcsz])])
      (by rw [Array.toList_zip, List.map_snd_zip (by rw [henc]; simp), List.map_snd_zip (by simp [hcsz])]; exact hca)
      (fun p hp => by rw [hn]; exact hps _ (List.of_mem_zip hp).1)
      (by rw [hvs, hcs] at hr3; exact envL_get hn hkn hr3)
    have hfold : (ps.zip cargs).foldl (fun tmps (t, a) => tmps.setIfInBounds t a) a.tmps = (ps.zip cargs).toList.foldl (fun tmps (t, a) => tmps.setIfInBounds t a) a.tmps := by rw [Array.foldl_toList]
    have hRel0 : Rel [] n (updP env (ps.toList.zip (enc a'))) (hs x ++ (R ++ L)) g3 { tmps := (rec.params.zip cargs).foldl (fun tmps (t, a) => tmps.setIfInBounds t a) rec.tmps, defers := [] } w3 := by
      rw [hrec]
      simp only
      rw [hfold]
      exact ⟨by rw [hup.1, hn], rfl, hup.2, hG3⟩
    have hea : rec.assign = assign := by rw [hrec]
    have heb : rec.body = body := by rw [hrec]
    rw [hea, heb]
    refine wpIn_mono (hassign pre a' post x (R ++ L) hxs hok (some (D + 1)) [] g3 w3 g3 _ w3 hRel0 (Ext.refl _ _ _)) fun e a4 w4 ⟨env4, H4, g4, hR4, hX4, hm⟩ => ?_
    cases e with
    | normal =>
      obtain ⟨he4, hH4⟩ : env4 = eM a' (hs x ++ (R ++ L)).length ∧ H4 = hs x ++ (R ++ L) ++ M a' (hs x ++ (R ++ L)).length := hm
      subst he4 hH4
      have hlt1 : (hs x).length + 1 < (hs x ++ (R ++ L)).length := by rw [hRd]; simp
      have hi4 : ∀ z, (hs z ++ (R ++ L) ++ M a' (hs x ++ (R ++ L)).length)[(hs z).length + 1]? = some (Ob.raw (D + 1) (.loop rec) vs cs) := fun z => by
        rw [List.getElem?_append_left (by rw [hRd]; simp)]; exact hidx z L
      obtain ⟨⟨hk4, hh4⟩, _⟩ := hR4.2.2.2.raw (hi4 x)
      refine ⟨_, run_beginRound hh4 (by rw [hrec]), ?_⟩
      obtain ⟨hG5, hX5⟩ := step_raw_set hR4.2.2.2 (.loop { rec with state := .busy }) (hi4 x)
      obtain ⟨Rb, hRb⟩ : ∃ Rb : List Ob, Rb = [Ob.raw D dfr [] [], Ob.raw (D + 1) (.loop { rec with state := .busy }) vs cs] := ⟨_, rfl⟩
      have hset : (hs x ++ (R ++ L) ++ M a' (hs x ++ (R ++ L)).length).set ((hs x).length + 1) (.raw (D + 1) (.loop { rec with state := .busy }) vs cs) = hs x ++ (Rb ++ L) ++ M a' (hs x ++ (Rb ++ L)).length := by
        have el : (hs x ++ (Rb ++ L)).length = (hs x ++ (R ++ L)).length := by rw [hRd, hRb]; simp
        rw [el, List.set_append_left _ _ hlt1, List.set_append_right _ _ (by omega), Nat.add_sub_cancel_left, hRd, hRb]
        rfl
      rw [hset] at hG5
      have hlb : (hs x ++ (Rb ++ L)).length = (hs x ++ (R ++ L)).length := by rw [hRd, hRb]; simp
      have hll : (hs x ++ (R ++ L) ++ M a' (hs x ++ (R ++ L)).length).length = (hs x ++ (Rb ++ L) ++ M a' (hs x ++ (Rb ++ L)).length).length := by rw [List.length_append (as := hs x ++ (R ++ L)), List.length_append (as := hs x ++ (Rb ++ L)), hlb]
      have hR5 : Rel [] n (eM a' (hs x ++ (Rb ++ L)).length) (hs x ++ (Rb ++ L) ++ M a' (hs x ++ (Rb ++ L)).length) g4 a4 (w4.putObj (D + 1) (.loop { rec with state := .busy })) := by
        refine ⟨hR4.1, hR4.2.1, ?_, hG5⟩
        have := hR4.2.2.1.mono hX5.mono
        rw [← hll, hlb]
        exact this
      have hX45 := hX4.trans hX5
      rw [hll] at hX45
      rw [← hlb] at hX45
      have hltb : HLt (hs x ++ (Rb ++ L)).length (hs x ++ (Rb ++ L)) := by
        have h3 : HLt (hs x ++ (R ++ L)).length (hs x ++ (R ++ L)) := fun x hx => by obtain ⟨i, hi⟩ := List.getElem?_of_mem hx; exact hG3.lt hi
        rw [hlb]
        rw [hRd] at h3 ⊢
        rw [hRb]
        simp only [HLt_append, HLt_cons] at h3 ⊢
        exact h3
      refine wpIn_mono (hbody pre a' post x (Rb ++ L) hxs hok hltb (some (D + 1)) [] g3 w3 g4 a4 _ hR5 hX45) fun e a6 w6 ⟨env6, H6, g6, hR6, hX6, hm6⟩ => ?_
      obtain ⟨env7, H7, hg7, rfl, x', hok', hH7⟩ := hm6
      obtain ⟨g7, hR7, hX7⟩ := hg7.rel hR6
      have hX7 := hX7 _ _ hX6
      subst hH7
      have hi7 : (hs x' ++ (Rb ++ L))[(hs x').length + 1]? = some (Ob.raw (D + 1) (.loop { rec with state := .busy }) vs cs) := by rw [hRb, hget]; rfl
      obtain ⟨⟨hk7, hh7⟩, _⟩ := hR7.2.2.2.raw hi7
      have hend := run_endRound (P := P) none hh7
      refine ⟨_, _, hend, .bool true, rfl, .bool true, hs x' ++ (R ++ L), g7, ?_, ?_, ?_, rfl, x', hok', rfl⟩
      all_goals
        have hrr : ({ { rec with state := .busy } with state := if (none : Option Code).isNone then .ready else .done, pending := none } : Loop) = rec := by rw [hrec]; rfl
        rw [hrr]
        obtain ⟨hG8, hX8⟩ := step_raw_set hR7.2.2.2 (.loop rec) hi7
        have hset8 : (hs x' ++ (Rb ++ L)).set ((hs x').length + 1) (.raw (D + 1) (.loop rec) vs cs) = hs x' ++ (R ++ L) := by
          rw [List.set_append_right _ _ (by omega), Nat.add_sub_cancel_left, hRd, hRb]
          rfl
        rw [hset8] at hG8
        have hl8 : (hs x' ++ (Rb ++ L)).length = (hs x' ++ (R ++ L)).length := by rw [hRd, hRb]; simp
      · exact hG8
      · have := hX7.trans hX8
        rw [hlb] at this
        rw [← hl8]
        exact this
      · exact RepV.mk_leaf (by simp only [RepC]) (by simp) (by simp)
    | ret => exact hm.elim
    | exit id => exact hm.elim
    | goto l => exact hm.elim
    | panic ch => exact hm.elim
    | outgrown => exact hm.elim
  -- the function that is ranged over
  have hS := hit (D + 1) R hY g2 W1 (#[.func (.yield (D + 1)) #[] #[]] ++ y.toArray) hG2 (by
    rw [Array.toList_append]
    refine ⟨RepV.mk_leaf (by simp only [RepC]; exact ⟨[], [], rfl, by simp only [RepVs], by simp only [RepVs]⟩) (by simp) (by simp), ?_⟩
    have : RepVs (cxOf g2 (hs x0 ++ R).length W1) cap y := RepVs.mono hX2.mono cap y hy1
    simpa using this.vals)
  unfold CallR at hS
  rw [hcall] at hS
  refine callsIn_fz (Calls.mono hS fun e w9 ⟨v, he, r, H9, g9, hG9, hX9, hr9, x', hok', hH9⟩ => ?_)
  subst he hH9
  have hi9 : (hs x' ++ R)[(hs x').length + 1]? = some (Ob.raw (D + 1) (.loop rec) vs cs) := by have := hidx x' []; rwa [List.append_nil] at this
  obtain ⟨⟨hk9, hh9⟩, _⟩ := hG9.raw hi9
  have hel := run_endLoop (P := P) hh9 (by rw [hrec]; simp)
  refine ⟨rec.pending, _, hel, ?_⟩
  have hpn : rec.pending = none := by rw [hrec]
  rw [hpn]
  simp only
  obtain ⟨hGA, hXA⟩ := step_raw_set hG9 (.loop { rec with state := .exhausted }) hi9
  have hsetA : (hs x' ++ R).set ((hs x').length + 1) (.raw (D + 1) (.loop { rec with state := .exhausted }) vs cs) = hs x' ++ [.raw D dfr [] [], .raw (D + 1) (.loop { rec with state := .exhausted }) vs cs] := by
    rw [List.set_append_right _ _ (by omega), Nat.add_sub_cancel_left, hRd]
    rfl
  rw [hsetA] at hGA
  have hlA : (hs x' ++ R).length = (hs x' ++ [Ob.raw D dfr [] [], .raw (D + 1) (.loop { rec with state := .exhausted }) vs cs]).length := by rw [hRd]; simp
  have hXf := (hX2.trans hX9).trans hXA
  rw [hlA] at hXf
  rw [hpn] at hGA hXf
  have hdd : ({ a with defers := [mkD D] ++ a.defers } : Act) = { a with defers := [mkD D] } := by rw [hd]; rfl
  rw [hdd]
  exact hQ D (D + 1) _ vs cs x' g9 _ hok' ⟨hn, rfl, fun t => (hE t).mono hXf.mono, hGA⟩ hXf

/-- the walk of the first k + 1 statements: the rest is any code -/
theorem cut_wp (hTO : TyOK P T) (hm : P.follows .mixedOrders = true) {own : Bool} {n0 n : Nat} (keep : Nat → List Nat) (tab : Nat → List Nat × List Nat) (M : Env → List Ob → Prop) {Q' : Exit → Act → World → Prop} {rd : Option Nat} {ds : List Deferred} {gs : Nat → Option Key} {ws : World} : ∀ (k : List Unit) {c : Code} {env : Env} {H : List Ob}, longC k c = true → okC n tab (headC k c) = true →
    ewC P T own n0 n keep tab (headC k c) (thenE M (fun _ _ _ => False)) env H → (∀ env' H' g' a' w', M env' H' → Rel ds n env' H' g' a' w' → Ext gs n0 ws g' H'.length w' → (tailC k c).wpIn (fz rd) 0 P Q' a' w') →
    ∀ {g : Nat → Option Key} {a : Act} {w : World}, Rel ds n env H g a w → Ext gs n0 ws g H.length w → c.wpIn (fz rd) 0 P Q' a w
  | [], .seq a b, env, H, _, ho, h, hk, g, ac, w, hR, he => by
    refine wpIn_seq (wpIn_mono (EWn.of_c hTO hm keep tab ho h rd ds gs ws g ac w hR he) fun e a' w' ⟨env', H', g', h1, h2, h3⟩ => ?_)
    cases e with
    | normal => exact hk _ _ _ _ _ h3 h1 h2
    | _ => exact h3.elim
  | _ :: k, .seq a b, env, H, hl, ho, h, hk, g, ac, w, hR, he => by
    simp only [headC, okC, Bool.and_eq_true] at ho
    refine wpIn_seq (wpIn_mono (EWn.of_c hTO hm keep tab ho.1 h rd ds gs ws g ac w hR he) fun e a' w' ⟨env', H', g', h1, h2, h3⟩ => ?_)
    cases e with
    | normal => exact cut_wp hTO hm keep tab M k hl ho.2 h3 hk h1 h2
    | _ => exact h3.elim

/-- the answer of a function that ranged over a function: the block of the rounds' deferred calls, shut -/
def RetD (T : Nat → TD) (rs : List ResultVar) (H0 : List Ob) (o D : Nat) (R : V → List Ob → Prop) (e : Exit) (env : Env) (H : List Ob) : Prop :=
  H[o]? = some (.raw D dfr [] []) ∧ RetE T rs H0 R e env (H.set o (.raw D (.deferred none) [] []))

/-- A CALL OF A FUNCTION WITH ONE RANGE OVER A FUNCTION, whose rounds all go on. -/
theorem SCall.of_range (hTO : TyOK P T) (hmx : P.follows .mixedOrders = true) {f : FuncId} {fn : Func} {c : Code} {args : List V} {H : List Ob} {R : V → List Ob → Prop} (hf : P.funcs[f]? = some fn) (hb : fn.body = some c) (hcall : ∀ args w, (callFunc f args).run P w = .ok (.enter f args) w)
    {n : Nat} (hn : fn.ntmps = n) (hargs : args.length ≤ n) {rs : List ResultVar} (hrs : fn.results = rs.toArray)
    (k : List Unit) {c1 ch post assign body : Code} {bid : Nat} {tg : Operand} {ps : Array Tmp} (hh : headC k c = c1) (ht : tailC k c = .seq (.seq ch (.block bid (.rangeFunc tg ps assign body))) post) (hl : longC k c = true)
    {own : Bool} (keep : Nat → List Nat) (tab : Nat → List Nat × List Nat) (hok : okC n tab c1 = true) (hok2 : okC n tab ch = true)
    {env : Env} {gf : FuncId} {cap : List V} {α ι : Type} (xs : List α) (enc : α → List V) (hs : ι → List Ob) (ok : List α → ι → Prop) (x0 : ι) (eM : α → Nat → Env) (M : α → Nat → List Ob)
    (hhead : ewC P T own H.length n keep tab c1 (thenE (ewC P T own H.length n keep tab ch (thenE (UpTo H.length fun e h => e = env ∧ h = hs x0) (fun _ _ _ => False))) (fun _ _ _ => False)) (argEnv 0 args) H)
    (hcall2 : ∀ args w, (callFunc gf args).run P w = .ok (.enter gf args) w) (hg : evl env tg = .fn (.func gf) [] cap)
    (h0 : ok [] x0) (hlen : ∀ x, (hs x).length = (hs x0).length) (henc : ∀ a, (enc a).length = ps.size) (hps : ∀ t ∈ ps.toList, t < n) (hkn : ∀ p ∈ env, p.1 < n)
    (hit : ∀ l R, (∀ pre a post x L, xs = pre ++ a :: post → ok pre x → YSCall P l (enc a) (hs x ++ (R ++ L)) (fun r H' => r = .bool true ∧ ∃ x', ok (pre ++ [a]) x' ∧ H' = hs x' ++ (R ++ L))) →
      SCall P gf (.fn (.yield l) [] [] :: cap) (hs x0 ++ R) (fun _ H' => ∃ x', ok xs x' ∧ H' = hs x' ++ R))
    (hassign : ∀ pre a post x R, xs = pre ++ a :: post → ok pre x → EWn P (hs x ++ R).length n assign (thenE (fun e h => e = eM a (hs x ++ R).length ∧ h = hs x ++ R ++ M a (hs x ++ R).length) (fun _ _ _ => False)) (updP env (ps.toList.zip (enc a))) (hs x ++ R))
    (hbody : ∀ pre a post x R, xs = pre ++ a :: post → ok pre x → HLt (hs x ++ R).length (hs x ++ R) → EWn P (hs x ++ R).length n body (fun e => UpTo (hs x ++ R).length (fun _ h => e = .normal ∧ ∃ x', ok (pre ++ [a]) x' ∧ h = hs x' ++ R)) (eM a (hs x ++ R).length) (hs x ++ R ++ M a (hs x ++ R).length))
    (hpost : ∀ D l y vs cs x', ok xs x' → EWn P H.length n post (RetD T rs H (hs x0).length D R) env (hs x' ++ [.raw D dfr [] [], .raw l y vs cs])) : SCall P f args H R := by
  intro g w cargs hG ha
  have hlena := ha.length
  simp only [Array.length_toList] at hlena
  unfold CallR
  rw [hcall]
  simp only
  refine callsIn_wide.1 (callsIn_of_wp_marks (n := 0) hf hb trivial ?_)
  have hR : Rel [] n (argEnv 0 args) H g { tmps := cargs ++ Array.replicate (fn.ntmps - cargs.size) undef, defers := [] } w := by
    refine ⟨by simp; omega, rfl, fun t => ?_, hG⟩
    refine argEnv_rep args cargs.toList 0 (fun t => (cargs ++ Array.replicate (fn.ntmps - cargs.size) undef).getD t undef) ha (fun i v hv => ?_) t
    have hi : i < cargs.size := by have := (List.getElem?_eq_some_iff.1 hv).1; simpa using this
    simp only [Nat.zero_add]
    rw [Array.getElem?_toList] at hv
    rw [Array.getElem?_eq_getElem hi] at hv
    injection hv with hv
    simp [Array.getElem?_append, hi, hv]
  subst hh
  refine cut_wp hTO hmx keep tab _ k hl hok hhead ?_ hR (Ext.refl g H.length w)
  intro env0 H0 g0 a0 w0 hch hR0 hX0
  rw [ht]
  refine wpIn_seq (wpIn_seq (wpIn_mono (EWn.of_c hTO hmx keep tab hok2 hch none [] g w g0 a0 w0 hR0 hX0) fun e0 a1 w1 ⟨env1', H1, g1', h1, h2, h3⟩ => ?_))
  cases e0 with
  | normal => ?_
  | _ => exact h3.elim
  obtain ⟨e2, H2, h3, rfl, rfl⟩ := h3
  obtain ⟨g1, hR1, hX1⟩ := h3.rel h1
  have hX1 := hX1 _ _ h2
  refine wpIn_block ((range_wp xs enc hs ok x0 eM M hcall2 hg h0 hlen henc hps hkn hit hassign hbody hR1 fun D l y vs cs x' g2 w2 hok2 hR2 hX2 => ?_))
  have hX3 : Ext g H.length w g2 (hs x' ++ [Ob.raw D dfr [] [], Ob.raw l y vs cs]).length w2 := hX1.trans hX2
  refine wpIn_mono (hpost D l y vs cs x' hok2 none [mkD D] g w g2 _ w2 hR2 hX3) fun e a4 w4 ⟨env4, H4, g4, hR4, hX4, hD4, hE4⟩ => ?_
  obtain ⟨⟨hk4, hh4⟩, _⟩ := hR4.2.2.2.raw hD4
  obtain ⟨hG5, hX5⟩ := step_raw_set hR4.2.2.2 (.deferred none) hD4
  have hX6 := hX4.trans hX5
  have hE5 : EnvRep (cxOf g4 H4.length (w4.putObj D (.deferred none))) env4 a4 := hR4.2.2.1.mono hX5.mono
  have hl5 : H4.length = (H4.set (hs x0).length (.raw D (.deferred none) [] [])).length := by rw [List.length_set]
  rw [hl5] at hX6 hE5
  have key : ∀ {u : FrameMode}, u = .returning → retVals T env4 (H4.set (hs x0).length (.raw D (.deferred none) [] [])) rs (fun vs => Need (vs.any V.isDead = false) (RetW H.length H R (tupled vs) (H4.set (hs x0).length (.raw D (.deferred none) [] [])))) →
      LeavesInM Fence.wide 0 P fn a4.tmps (fun e w' => ∃ v, e = .returned v ∧ ∃ r H'' g'', Good g'' H'' w' ∧ Ext g H.length w g'' H''.length w' ∧ RepV (cxOf g'' H''.length w') r v ∧ R r H'') a4.defers u w4 := by
    intro u hu h3
    subst hu
    rw [hR4.2.1]
    refine ⟨by simp, .inl ⟨D, _, rfl, run_takeDeferred hh4, ?_⟩⟩
    obtain ⟨vs, cvs, ⟨k0, n1, r', k1, k2, k3, k4, k5⟩, k6, k7⟩ := retVals_run hTO hG5 hE5 rs h3
    have hrun := results_eq (P := P) (fn := fn) (a := a4) (cvs := cvs) (by rw [hrs]; exact k7)
    refine ⟨_, hrun, _, rfl, r', (H4.set (hs x0).length (.raw D (.deferred none) [] [])).take n1, cutKey g4 n1, ?_, ?_, ?_, k5⟩
    · refine hG5.cut n1 k2 (fun o x ho hx => ?_)
      rcases k4 o x ho hx with e | e
      · have := hG.lt e
        cases x with
        | gone => trivial
        | hole => trivial
        | var cs => exact ltL_le k1 _ this
        | vec _ _ l => exact ltL_le k1 _ this
        | raw _ _ vs _ => exact ltL_le k1 _ this
        | map l _ => exact ltL_le k1 _ this
        | iter _ _ _ _ => exact Nat.lt_of_lt_of_le this k1
      · exact e
    · rw [List.length_take, Nat.min_eq_left k2]
      exact hX6.cut n1 k1
    · rw [List.length_take, Nat.min_eq_left k2]
      exact k3.repV hG5 k2 (tupled_rep k6 (fun v hv e => by
        have := List.any_eq_false.1 k0 v hv
        subst e
        simp [V.isDead] at this))
  cases e with
  | normal => exact key rfl hE4
  | ret => exact key rfl hE4
  | exit id => exact hE4.elim
  | goto l => exact hE4.elim
  | panic ch => exact hE4.elim
  | outgrown => exact hE4.elim
end Go.EL

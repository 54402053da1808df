/- The value logic, part W: ghost steps; calls that borrow. -/
import Derived.Test.YtjplgbalpnlanaaEUH
set_option linter.unusedVariables false
set_option linter.unusedSimpArgs false
namespace Go.EL
open Go
variable {P : Program} {T : Nat → TD}

/-- the same world, told otherwise; n0 counts the objects that were at the beginning -/
def Gho (n0 : Nat) (env : Env) (H : List Ob) (env' : Env) (H' : List Ob) : Prop :=
  ∀ g w, Good g H w → ∃ g', Good g' H' w ∧ (∀ gs ws, Ext gs n0 ws g H.length w → Ext gs n0 ws g' H'.length w) ∧
    ∀ t v, RepV (cxOf g H.length w) (eget env t) v → RepV (cxOf g' H'.length w) (eget env' t) v

theorem Gho.refl (n0 : Nat) (env : Env) (H : List Ob) : Gho n0 env H env H := fun g w hG => ⟨g, hG, fun _ _ h => h, fun _ _ h => h⟩
theorem Gho.trans {n0 : Nat} {e0 e1 e2 : Env} {H0 H1 H2 : List Ob} (h : Gho n0 e0 H0 e1 H1) (k : Gho n0 e1 H1 e2 H2) : Gho n0 e0 H0 e2 H2 := by
  intro g w hG
  obtain ⟨g1, a1, a2, a3⟩ := h g w hG
  obtain ⟨g2, b1, b2, b3⟩ := k g1 w a1
  exact ⟨g2, b1, fun gs ws h => b2 _ _ (a2 _ _ h), fun t v hv => b3 t v (a3 t v hv)⟩

theorem Gho.rel {n0 n : Nat} {env env' : Env} {H H' : List Ob} {ds : List Deferred} {g : Nat → Option Key} {a : Act} {w : World} (h : Gho n0 env H env' H') (hR : Rel ds n env H g a w) :
    ∃ g', Rel ds n env' H' g' a w ∧ (∀ gs ws, Ext gs n0 ws g H.length w → Ext gs n0 ws g' H'.length w) := by
  obtain ⟨h1, h2, h3, h4⟩ := hR
  obtain ⟨g', k1, k2, k3⟩ := h g w h4
  exact ⟨g', ⟨h1, h2, fun t => k3 t _ (h3 t), k1⟩, k2⟩

theorem EW.ghost {n : Nat} {c : Code} {Q : Exit → Env → List Ob → Prop} {env env' : Env} {H H' : List Ob} (h : Gho H.length env H env' H') (k : EW P n c Q env' H') : EW P n c Q env H := by
  intro rd ds g a w hR
  obtain ⟨g', hR', he⟩ := h.rel hR
  have he := he g w (Ext.refl _ _ _)
  exact wpIn_mono (k rd ds g' a w hR') fun e a' w' ⟨env'', H'', g'', h1, h2, h3⟩ => ⟨env'', H'', g'', h1, he.trans h2, h3⟩

/-- up to a ghost step -/
def UpTo (n0 : Nat) (Q : Env → List Ob → Prop) [Hold Q Q] (env : Env) (H : List Ob) : Prop := ∃ env' H', Gho n0 env H env' H' ∧ Q env' H'
theorem UpTo.here {n0 : Nat} {Q : Env → List Ob → Prop} {env : Env} {H : List Ob} (h : Q env H) : UpTo n0 Q env H := ⟨env, H, Gho.refl _ _ _, h⟩
theorem UpTo.step {n0 : Nat} {Q : Env → List Ob → Prop} {env env' : Env} {H H' : List Ob} (h : Gho n0 env H env' H') (k : UpTo n0 Q env' H') : UpTo n0 Q env H := by
  obtain ⟨e, h', a, b⟩ := k
  exact ⟨e, h', h.trans a, b⟩

theorem EW.upto {n : Nat} {c : Code} {Q : Exit → Env → List Ob → Prop} {env : Env} {H : List Ob} (h : EW P n c (fun e => UpTo H.length (Q e)) env H) : EW P n c Q env H := by
  intro rd ds g a w hR
  refine wpIn_mono (h rd ds g a w hR) fun e a' w' ⟨env', H', g', h1, h2, env'', H'', h3, h4⟩ => ?_
  obtain ⟨g'', k1, k2⟩ := h3.rel h1
  exact ⟨env'', H'', g'', k1, k2 _ _ h2, h4⟩

/-- A LOOP: an invariant, with a number that goes down; the round's end is told anew. -/
theorem EW.loopG {n : Nat} {env : Env} {H : List Ob} {c : Code} {Q : Exit → Env → List Ob → Prop} (I : Nat → Env → List Ob → Prop) (m : Nat) (h0 : I m env H)
    (hb : ∀ k env H, I k env H → EW P n c (thenE (UpTo H.length fun env' H' => ∃ k', k' < k ∧ I k' env' H') Q) env H) : EW P n (.loop c) Q env H := by
  refine EW.loop I m h0 fun k env H hI => EW.upto ((hb k env H hI).mono fun e env' H' h => ?_)
  cases e with
  | normal => exact h
  | exit id => exact UpTo.here h
  | goto l => exact UpTo.here h
  | ret => exact UpTo.here h
  | panic ch => exact UpTo.here h
  | outgrown => exact UpTo.here h

def EnvG (R : V → V → Prop) (env env' : Env) : Prop := All2 (fun p q => p.1 = q.1 ∧ (q.2 = .dead ∨ R p.2 q.2)) env env'
theorem EnvG.get {R : V → V → Prop} : ∀ (env env' : Env), EnvG R env env' → ∀ t, eget env' t = .dead ∨ R (eget env t) (eget env' t)
  | [], [], _, t => .inl rfl
  | (a, x) :: e, (b, y) :: e', h, t => by
    obtain ⟨⟨h1, h2⟩, h3⟩ := h
    simp only at h1 h2
    subst h1
    simp only [eget]
    split
    · exact h2
    · exact EnvG.get _ _ h3 t
  | [], _ :: _, h, _ => h.elim
  | _ :: _, [], h, _ => h.elim

def HLt (n : Nat) (H : List Ob) : Prop := ∀ x ∈ H, x.lt n
theorem HLt.nil (n : Nat) : HLt n [] := fun x hx => by cases hx
theorem HLt.cons {n : Nat} {x : Ob} {H : List Ob} (h : x.lt n) (k : HLt n H) : HLt n (x :: H) := fun y hy => by
  rcases List.mem_cons.1 hy with rfl | hy
  · exact h
  · exact k y hy
theorem Ob.lt_le {m n : Nat} (h : m ≤ n) {x : Ob} (k : x.lt m) : x.lt n := by
  cases x with
  | gone => trivial
  | hole => trivial
  | var cs => exact ltL_le h _ k
  | vec _ _ l => exact ltL_le h _ k
  | raw _ _ vs _ => exact ltL_le h _ k
  | map l _ => exact ltL_le h _ k
  | iter _ _ _ _ => exact Nat.lt_of_lt_of_le k h

/-- objects are given up -/
theorem Gho.cut {n0 : Nat} {H0 L1 L2 : List Ob} {env env' : Env} (h0 : n0 ≤ H0.length + L1.length) (hH : HLt H0.length H0) (hL : HLt (H0.length + L1.length) L1) (he : EnvG (Wk (H0 ++ (L1 ++ L2)) (H0.length + L1.length)) env env') :
    Gho n0 env (H0 ++ (L1 ++ L2)) env' (H0 ++ L1) := by
  intro g w hG
  have hn : H0.length + L1.length ≤ (H0 ++ (L1 ++ L2)).length := by simp
  have htake : (H0 ++ (L1 ++ L2)).take (H0.length + L1.length) = H0 ++ L1 := by
    rw [← List.append_assoc, ← List.length_append, List.take_left]
  have hlen : (H0 ++ L1).length = H0.length + L1.length := by simp
  refine ⟨cutKey g (H0.length + L1.length), ?_, fun gs ws h => ?_, fun t v hv => ?_⟩
  · rw [← htake]
    refine hG.cut _ hn fun o x ho hx => ?_
    have hx' : (H0 ++ L1)[o]? = some x := by rw [← htake, List.getElem?_take, if_pos ho]; exact hx
    rcases List.mem_append.1 (List.mem_of_getElem? hx') with h | h
    · exact Ob.lt_le (Nat.le_add_right _ _) (hH x h)
    · exact hL x h
  · rw [hlen]; exact h.cut _ h0
  · rcases EnvG.get _ _ he t with h | h
    · rw [h]; trivial
    · rw [hlen]; exact h.repV hG hn hv

/-- an empty list that nobody has becomes one's own -/
theorem Gho.adopt {n0 : Nat} {H : List Ob} {env : Env} (t : Nat) (es : Nat) (ht : eget env t = .fslice []) : Gho n0 env H (eset env t (.vec H.length 1 0 0)) (H ++ [.vec 1 es []]) := by
  intro g w hG
  have hz : g H.length = none := hG.none_of_ge (Nat.le_refl _)
  obtain ⟨h1, h2⟩ := step_one hG H.length (setKey g H.length (some ⟨1, none, es, 0⟩)) (H ++ [.vec 1 es []]) w rfl rfl rfl
    (fun o ho => getElem?_snoc_ne ho) (fun o ho => setKey_other ho) (by simp) (Nat.le_refl _) (fun b hb _ => rfl)
    (fun k' b hk' hb => by rw [setKey_same] at hk'; injection hk' with e; subst e; cases hb)
    (fun h => absurd h (Nat.lt_irrefl _))
    (fun m => by
      rw [setKey_same, getElem?_snoc_eq]
      exact ⟨_, rfl, rfl, rfl, Nat.le_refl _, Nat.zero_le _, Nat.le_refl _, .inl ⟨rfl, rfl⟩⟩)
  refine ⟨_, h1, fun gs ws h => h.trans h2, fun s v hv => ?_⟩
  have key : ∀ (e : Env) (x : V), eget (eset e t x) s = if s = t then x else eget e s := by
    intro e x
    induction e with
    | nil => simp only [eset, eget]; by_cases h : t = s <;> simp [h, eq_comm]
    | cons p e ih =>
      obtain ⟨a, y⟩ := p
      simp only [eset]
      by_cases h : a = t
      · simp only [h, if_true, eget]
        by_cases h' : t = s <;> simp [h', eq_comm]
      · simp only [h, if_false, eget, ih]
        by_cases h' : a = s
        · simp only [h', if_true]
          have : s ≠ t := by omega
          simp [this]
        · simp [h']
  rw [key]
  split
  · rename_i e
    subst e
    rw [ht] at hv
    have hl := hv.leaf (by simp) (by simp)
    simp only [RepC] at hl
    obtain ⟨a, es', h3, h4, h5⟩ := hl
    injection h3 with h3
    subst h3
    refine RepV.mk_leaf ?_ (by simp) (by simp)
    simp only [RepC]
    refine ⟨has_set (by simp) (.inr (Nat.le_refl _)), _, rfl, rfl, fun k hk => ?_⟩
    have hk : setKey g H.length (some ⟨1, none, es, 0⟩) H.length = some k := hk
    rw [setKey_same] at hk
    injection hk with hk
    subst hk
    refine ⟨Nat.le_refl _, fun _ => ⟨Nat.le_refl _, a, rfl, fun h => absurd h (Nat.lt_irrefl _)⟩⟩
  · exact hv.mono h2.mono

def withN (M : Env → List Ob → Prop) (Q : Exit → Env → List Ob → Prop) : Exit → Env → List Ob → Prop
  | .normal => M
  | .exit id => Q (.exit id)
  | .goto l => Q (.goto l)
  | .ret => Q .ret
  | .panic ch => Q (.panic ch)
  | .outgrown => Q .outgrown

/-- A LOOP that is left in more than one way: what holds behind it is told once. -/
theorem EW.loopM {n id : Nat} {env : Env} {H : List Ob} {c : Code} {Q : Exit → Env → List Ob → Prop} (I : Nat → Env → List Ob → Prop) (m : Nat) (M : Env → List Ob → Prop) (h0 : I m env H)
    (hb : ∀ k env H, I k env H → EW P n c (thenE (UpTo H.length fun env' H' => ∃ k', k' < k ∧ I k' env' H') (inBlockE id (withN (UpTo H.length M) Q))) env H)
    (hk : ∀ env H, M env H → Q .normal env H) : EW P n (.loop c) (inBlockE id Q) env H := by
  have hk' : ∀ {n0 env H}, UpTo n0 M env H → UpTo n0 (Q .normal) env H := fun ⟨e, h, a, b⟩ => ⟨e, h, a, hk _ _ b⟩
  refine EW.loop I m h0 fun k env H hI => EW.upto ((hb k env H hI).mono fun e env' H' h => ?_)
  cases e with
  | normal => exact h
  | exit id' =>
    have h : (if id' = id then UpTo H.length M else Q (.exit id')) env' H' := h
    by_cases e : id' = id
    · have e2 : thenE (fun env' H' => ∃ k', k' < k ∧ I k' env' H') (inBlockE id Q) (.exit id') = Q .normal := by simp only [thenE, inBlockE]; rw [if_pos e]
      rw [if_pos e] at h
      rw [e2]; exact hk' h
    · have e2 : thenE (fun env' H' => ∃ k', k' < k ∧ I k' env' H') (inBlockE id Q) (.exit id') = Q (.exit id') := by simp only [thenE, inBlockE]; rw [if_neg e]
      rw [if_neg e] at h
      rw [e2]; exact UpTo.here h
  | goto l => exact UpTo.here h
  | ret => exact UpTo.here h
  | panic ch => exact UpTo.here h
  | outgrown => exact UpTo.here h

/-- objects are given up of which nobody tells -/
theorem Gho.drop {n0 : Nat} {H0 : List Ob} (L1 L2 : List Ob) {env : Env} (hH : HLt H0.length H0) (h0 : n0 ≤ H0.length + L1.length) (hL : HLt (H0.length + L1.length) L1) (he : ∀ p ∈ env, p.2.lt (H0.length + L1.length)) :
    Gho n0 env (H0 ++ (L1 ++ L2)) env (H0 ++ L1) := by
  intro g w hG
  have hn : H0.length + L1.length ≤ (H0 ++ (L1 ++ L2)).length := by simp
  have htake : (H0 ++ (L1 ++ L2)).take (H0.length + L1.length) = H0 ++ L1 := by
    rw [← List.append_assoc, ← List.length_append, List.take_left]
  have hlen : (H0 ++ L1).length = H0.length + L1.length := by simp
  have hget : ∀ (e : Env) t, (∀ p ∈ e, p.2.lt (H0.length + L1.length)) → (eget e t).lt (H0.length + L1.length) := by
    intro e t
    induction e with
    | nil => intro _; trivial
    | cons p e ih =>
      intro h
      obtain ⟨a, y⟩ := p
      simp only [eget]
      split
      · exact h _ (List.mem_cons_self ..)
      · exact ih fun q hq => h q (List.mem_cons_of_mem _ hq)
  refine ⟨cutKey g (H0.length + L1.length), ?_, fun gs ws h => ?_, fun t v hv => ?_⟩
  · rw [← htake]
    refine hG.cut _ hn fun o x ho hx => ?_
    have hx' : (H0 ++ L1)[o]? = some x := by rw [← htake, List.getElem?_take, if_pos ho]; exact hx
    rcases List.mem_append.1 (List.mem_of_getElem? hx') with h | h
    · exact Ob.lt_le (Nat.le_add_right _ _) (hH x h)
    · exact hL x h
  · rw [hlen]; exact h.cut _ h0
  · rw [hlen]; exact hv.sub cut_sub (hget _ t he)

theorem Sized_nil (n : Nat) : Sized n [] = True := by simp [Sized]
theorem Sized_cons (n : Nat) (x : V) (l : List V) : Sized n (x :: l) = (x.cells.length = n ∧ Sized n l) := by simp [Sized]
theorem Gho.restr {n0 : Nat} {env : Env} {H : List Ob} (ks : List Nat) : Gho n0 env H (restr ks env) H := by
  intro g w hG
  refine ⟨g, hG, fun _ _ h => h, fun t v hv => ?_⟩
  rw [get_restrict]
  split
  · exact hv
  · trivial

/-- a list of one's own is answered -/
theorem RetW.vec {H L : List Ob} {R : V → List Ob → Prop} {o ver es n : Nat} {l : List V} (h : (H ++ L)[o]? = some (.vec ver es l)) (ho : H.length ≤ o) (hn : n = l.length) (hl : ltL H.length l) (hR : R (.slice l) H) :
    RetW H.length H R (.vec o ver 0 n) (H ++ L) := by
  subst hn
  exact RetW.pure L rfl (.inl ⟨es, l, h, by omega, by rw [List.drop_zero, List.take_length], hl, ho⟩) hR

/-! calls -/
def WkB (x y : V) : Prop := y = x ∨ ∃ l, x = .fslice l ∧ y = .slice l
theorem WkB.reps {c : Cx} : ∀ {xs ys : List V} {vs : List Value}, All2 WkB xs ys → Reps c xs vs → Reps c ys vs
  | [], [], _, _, h => h
  | x :: xs, y :: ys, vs, h, k => by
    simp only [Reps] at k ⊢
    obtain ⟨v, vs', rfl, h1, h2, h3⟩ := k
    refine ⟨v, vs', rfl, ?_, ?_, WkB.reps h.2 h3⟩
    · rcases h.1 with rfl | ⟨l, rfl, rfl⟩
      · exact h1
      · trivial
    · rcases h.1 with rfl | ⟨l, rfl, rfl⟩
      · exact h2
      · exact fslice_slice h2
  | [], _ :: _, _, h, _ => h.elim
  | _ :: _, [], _, h, _ => h.elim
def WkA (x y : V) : Prop := WkB x y ∨ ∃ xs ys, x = .agg xs ∧ y = .agg ys ∧ All2 WkB xs ys
theorem WkA.rep {c : Cx} {x y : V} {v : Value} (h : WkA x y) (hx : RepV c x v) : RepV c y v := by
  rcases h with (rfl | ⟨l, rfl, rfl⟩) | ⟨xs, ys, rfl, rfl, h⟩
  · exact hx
  · refine RepV.mk_leaf (fslice_slice (hx.leaf (by simp) (by simp))) (by simp) (fun cs e => ?_)
    subst e
    exact hx.2
  · obtain ⟨h1, h2⟩ := hx
    simp only [RepC] at h1
    refine ⟨by simp only [RepC]; exact WkB.reps h h1, ?_⟩
    cases v <;> first | exact h2 | trivial
theorem WkA.reps {c : Cx} : ∀ {xs ys : List V} {vs : List Value}, All2 WkA xs ys → RepVals c xs vs → RepVals c ys vs
  | [], [], [], _, _ => trivial
  | x :: xs, y :: ys, v :: vs, h, k => ⟨h.1.rep k.1, WkA.reps h.2 k.2⟩
  | [], [], _ :: _, _, k => k.elim
  | _ :: _, _ :: _, [], _, k => k.elim
  | [], _ :: _, _, h, _ => h.elim
  | _ :: _, [], _, h, _ => h.elim

theorem SCall.arg {f : FuncId} {args args' : List V} {H : List Ob} {R : V → List Ob → Prop} (ha : All2 WkA args args') (h : SCall P f args' H R) : SCall P f args H R :=
  fun g w cargs hG hr => h g w cargs hG (WkA.reps ha hr)

/-- a value without any address -/
def V.plain : V → Prop
  | .int _ _ | .bool _ | .str _ => True
  | .agg cs => ∀ x ∈ cs, (match x with | .int _ _ | .bool _ | .str _ => True | _ => False)
  | _ => False

theorem Reps.plain {c c' : Cx} : ∀ {cs : List V} {vs : List Value}, (∀ x ∈ cs, (match x with | .int _ _ | .bool _ | .str _ => True | _ => False)) → Reps c cs vs → Reps c' cs vs
  | [], _, _, h => by simpa only [Reps] using h
  | x :: xs, _, hp, h => by
    simp only [Reps] at h ⊢
    obtain ⟨v, vs', rfl, h1, h2, h3⟩ := h
    refine ⟨v, vs', rfl, h1, ?_, Reps.plain (fun y hy => hp y (List.mem_cons_of_mem _ hy)) h3⟩
    have := hp x (by simp)
    cases x <;> first | exact this.elim | (simpa only [RepC] using h2)
theorem RepV.plain {c c' : Cx} {x : V} {v : Value} (hp : x.plain) (h : RepV c x v) : RepV c' x v := by
  cases x with
  | int k n => exact ⟨by simpa only [RepC] using h.1, h.2⟩
  | bool b => exact ⟨by simpa only [RepC] using h.1, h.2⟩
  | str l => exact ⟨by simpa only [RepC] using h.1, h.2⟩
  | agg cs => exact ⟨by have := h.1; simp only [RepC] at this ⊢; exact Reps.plain hp this, h.2⟩
  | _ => exact hp.elim

/-- what a callee may be told of an argument -/
def Bo (H : List Ob) : V → V → Prop
  | .vec o ver off k, r => ∃ es l, H[o]? = some (.vec ver es l) ∧ off + k ≤ l.length ∧ r = .slice ((l.drop off).take k) ∧ ltL 0 l
  | .fslice l, r => (r = .slice l ∨ r = .fslice l) ∧ ltL 0 l
  | x, r => r = x ∧ x.lt 0

theorem zero_sub {g : Nat → Option Key} {n : Nat} {w : World} : Sub (cxOf g n w) (cxOf (fun _ => none) 0 w) 0 :=
  ⟨fun b hb => ⟨hb.1, fun o k hk => by cases hk⟩, rfl, fun o ho => absurd ho (Nat.not_lt_zero _), rfl⟩
theorem Good.zero (w : World) : Good (fun _ => none) [] w := ⟨fun o => by simp [ObOK], fun o o' k k' b h => by cases h⟩

theorem Bo.rep {g : Nat → Option Key} {H : List Ob} {w : World} (hG : Good g H w) {x r : V} {v : Value} (h : Bo H x r) (hx : RepV (cxOf g H.length w) x v) : RepV (cxOf (fun _ => none) 0 w) r v := by
  cases x
  case vec o ver off k =>
    obtain ⟨es, l, ho, hle, rfl, hl⟩ := h
    have := vec_slice hG ho hle zero_sub hl (fun q b hq hb => ⟨hG.blk_lt hq hb, fun o' k' hk' => by cases hk'⟩) (hx.leaf (by simp) (by simp))
    exact RepV.mk_leaf this (by simp) (fun cs e => by subst e; exact hx.2)
  case fslice l =>
    obtain ⟨rfl | rfl, hl⟩ := h
    · exact WkA.rep (.inl (.inr ⟨_, rfl, rfl⟩)) (hx.sub zero_sub hl)
    · exact hx.sub zero_sub hl
  all_goals
    obtain ⟨rfl, hl⟩ := h
    exact hx.sub zero_sub hl
theorem Bo.reps {g : Nat → Option Key} {H : List Ob} {w : World} (hG : Good g H w) : ∀ {xs ys : List V} {vs : List Value}, All2 (Bo H) xs ys → RepVals (cxOf g H.length w) xs vs → RepVals (cxOf (fun _ => none) 0 w) ys vs
  | [], [], [], _, _ => trivial
  | x :: xs, y :: ys, v :: vs, h, k => ⟨h.1.rep hG k.1, Bo.reps hG h.2 k.2⟩
  | [], [], _ :: _, _, k => k.elim
  | _ :: _, _ :: _, [], _, k => k.elim
  | [], _ :: _, _, h, _ => h.elim
  | _ :: _, [], _, h, _ => h.elim

/-- A CALL THAT BORROWS. -/
theorem SCall.borrow {f : FuncId} {args args' : List V} {H : List Ob} {R : V → Prop} (ha : All2 (Bo H) args args') (h : SCall P f args' [] (fun r _ => R r ∧ r.plain)) : SCall P f args H (fun r H' => R r ∧ H' = H) := by
  intro g w cargs hG hr
  refine (h (fun _ => none) w cargs (Good.zero w) (Bo.reps hG ha hr)).mono fun v w' ⟨r, H', g', h1, h2, h3, h4, h5⟩ => ?_
  obtain ⟨k1, k2⟩ := step_none hG w' h2.os h2.output h2.tape h2.size (fun b hb => (h2.frame b ⟨hb, fun o k hk => by cases hk⟩).1)
  exact ⟨r, H, g, k1, k2, h3.plain h5, h4, rfl⟩

/-- A CALL, BY THE FUNCTION's CODE; of the heap it is known that it is whole. -/
theorem SCall.of_good {f : FuncId} {args : List V} {H : List Ob} {R : V → List Ob → Prop} (h : HLt H.length H → SCall P f args H R) : SCall P f args H R := by
  intro g w cargs hG hr
  exact h (fun x hx => by obtain ⟨i, hi⟩ := List.getElem?_of_mem hx; exact hG.lt hi) g w cargs hG hr

theorem SCall.sized {f : FuncId} {args : List V} {H : List Ob} {R : V → List Ob → Prop} (i : Nat) {l : List V} (hi : args[i]? = some (.slice l)) (h : l.length ≤ maxLen → SCall P f args H R) : SCall P f args H R := by
  intro g w cargs hG hr
  have key : ∀ (args : List V) (vs : List Value) (i : Nat), RepVals (cxOf g H.length w) args vs → args[i]? = some (.slice l) → l.length ≤ maxLen := by
    intro args
    induction args with
    | nil => intro vs i _ hi; simp at hi
    | cons x xs ih =>
      intro vs i hr hi
      cases vs with
      | nil => exact hr.elim
      | cons v vs =>
        cases i with
        | succ i => exact ih vs i hr.2 (by simpa using hi)
        | zero =>
          simp at hi
          subst hi
          have := hr.1.leaf (by simp) (by simp)
          simp only [RepC] at this
          obtain ⟨a, cap, es, _, h1, h2, _⟩ := this
          omega
  exact h (key _ _ _ hr hi) g w cargs hG hr

/-- a list of one's own is written no more: it may be told as a list -/
def Fz (o ver : Nat) (l : List V) (p q : V) : Prop := q = p ∨ ∃ off k, p = .vec o ver off k ∧ off + k ≤ l.length ∧ q = .slice ((l.drop off).take k)
theorem Gho.freeze {n0 : Nat} {H : List Ob} {env env' : Env} (o : Nat) {ver es : Nat} {l : List V} (ho : H[o]? = some (.vec ver es l)) (he : EnvG (Fz o ver l) env env') : Gho n0 env H env' (H.set o .gone) := by
  intro g w hG
  have hlt : o < H.length := (List.getElem?_eq_some_iff.1 ho).1
  obtain ⟨h1, h2⟩ := step_one hG o (setKey g o none) (H.set o .gone) w rfl rfl rfl
    (fun o' ho' => List.getElem?_set_ne (Ne.symm ho')) (fun o' ho' => setKey_other ho') (by simp) (Nat.le_refl _) (fun b hb _ => rfl)
    (fun k' b hk' hb => by rw [setKey_same] at hk'; cases hk')
    (fun _ k' hk' => by rw [setKey_same] at hk'; cases hk')
    (fun m => by rw [setKey_same, List.getElem?_set_self hlt]; exact rfl)
  refine ⟨_, h1, fun gs ws h => h.trans h2, fun t v hv => ?_⟩
  rcases EnvG.get _ _ he t with h | h | ⟨off, k, e1, hle, e2⟩
  · rw [h]; trivial
  · rw [h]; exact hv.mono h2.mono
  · rw [e1] at hv
    rw [e2]
    have hs : Sub (cxOf g H.length w) (cxOf (setKey g o none) (H.set o .gone).length w) H.length := by
      refine ⟨fun b hb => ⟨hb.1, fun o' k' hk' => ?_⟩, rfl, fun o' _ => ?_, by show (H.set o .gone).length = _; simp⟩
      · unfold setKey at hk'
        split at hk'
        · cases hk'
        · exact hb.2 o' k' hk'
      · show setKey g o none o' = g o' ∨ setKey g o none o' = none
        by_cases e : o' = o
        · subst e; exact .inr (setKey_same _ _ _)
        · exact .inl (setKey_other e)
    have := vec_slice hG ho hle hs (hG.lt ho) (fun q b hq hb => ⟨hG.blk_lt hq hb, fun o' k' hk' hb' => by
      unfold setKey at hk'
      split at hk'
      · cases hk'
      · rename_i hne; exact hne (hG.inj _ _ _ _ _ hk' hq hb' hb)⟩) (hv.leaf (by simp) (by simp))
    exact RepV.mk_leaf this (by simp) (fun cs e => by subst e; exact hv.2)

/-- two branches that come together -/
theorem IfW.mid {n : Nat} {b : Bool} {c d : Code} {Q : Exit → Env → List Ob → Prop} {X : Env → List Ob → Prop} {env : Env} {H : List Ob} (M : Env → List Ob → Prop) (h1 : b = true → EW P n c (thenE (UpTo H.length M) Q) env H) (h2 : b = false → EW P n d (thenE (UpTo H.length M) Q) env H)
    (hk : ∀ env H, M env H → X env H) : IfW b (EW P n c (thenE X Q) env H) (EW P n d (thenE X Q) env H) := by
  have key : ∀ c, EW P n c (thenE (UpTo H.length M) Q) env H → EW P n c (thenE X Q) env H := fun c h => EW.upto (h.mono fun e env' H' h => by
    cases e with
    | normal =>
      obtain ⟨a, b, k1, k2⟩ := h
      exact ⟨a, b, k1, hk _ _ k2⟩
    | _ => exact UpTo.here h)
  exact ⟨fun h => key c (h1 h), fun h => key d (h2 h)⟩

/-! told otherwise, everywhere -/
def CvB (z : Option (Nat × Nat × List V)) (x y : V) : Prop := WkB x y ∨ ∃ o ver l off k, z = some (o, ver, l) ∧ x = .vec o ver off k ∧ off + k ≤ l.length ∧ y = .slice ((l.drop off).take k)
def CvA (z : Option (Nat × Nat × List V)) (x y : V) : Prop := CvB z x y ∨ ∃ xs ys, x = .agg xs ∧ y = .agg ys ∧ All2 (CvB z) xs ys
def CvO (z : Option (Nat × Nat × List V)) : Ob → Ob → Prop
  | .gone, .gone => True
  | .hole, .hole => True
  | .var cs, .var cs' => All2 (CvB z) cs cs'
  | .vec v e l, .vec v' e' l' => v' = v ∧ e' = e ∧ All2 (CvA z) l l'
  | .raw b x vs cs, .raw b' x' vs' cs' => b' = b ∧ x' = x ∧ vs' = vs ∧ cs' = cs
  | .map l c, .map l' c' => c' = c ∧ All2 (fun p q => q.1 = p.1 ∧ q.2.1 = p.2.1 ∧ CvA z p.2.2 q.2.2) l l'
  | .iter o s e t, .iter o' s' e' t' => o' = o ∧ s' = s ∧ e' = e ∧ t' = t
  | _, _ => False
def isZ (z : Option (Nat × Nat × List V)) (i : Nat) : Bool := match z with | some (o, _, _) => i == o | none => false
def keyZ (z : Option (Nat × Nat × List V)) (g : Nat → Option Key) : Nat → Option Key := fun i => if isZ z i then none else g i

section
variable {z : Option (Nat × Nat × List V)} {g : Nat → Option Key} {H : List Ob} {w : World} {n : Nat}
theorem keyZ_mono : Mono (cxOf g n w) (cxOf (keyZ z g) n w) := by
  refine ⟨fun b hb => ⟨⟨hb.1, fun o k hk => ?_⟩, fun _ _ => rfl⟩, fun o _ k hk => ?_, Nat.le_refl _⟩
  · unfold keyZ at hk; split at hk
    · cases hk
    · exact hb.2 o k hk
  · have hk : keyZ z g o = some k := hk
    unfold keyZ at hk; split at hk
    · cases hk
    · exact .inl ⟨k, hk, Nat.le_refl _, fun _ => rfl⟩
theorem keyZ_sub : Sub (cxOf g n w) (cxOf (keyZ z g) n w) n := by
  refine ⟨fun b hb => (keyZ_mono.imm b hb).1, rfl, fun o _ => ?_, rfl⟩
  show keyZ z g o = g o ∨ keyZ z g o = none
  unfold keyZ; split
  · exact .inr rfl
  · exact .inl rfl
theorem CvB.rep (hG : Good g H w) (hz : ∀ o ver l, z = some (o, ver, l) → ∃ es, H[o]? = some (.vec ver es l)) {x y : V} {vs : List Value} (h : CvB z x y) (hx : RepC (cxOf g H.length w) x vs) :
    RepC (cxOf (keyZ z g) H.length w) y vs ∧ (x.leaf → y.leaf) ∧ (∀ v, okAgg x v → okAgg y v) := by
  rcases h with (rfl | ⟨l, rfl, rfl⟩) | ⟨o, ver, l, off, k, hzz, rfl, hle, rfl⟩
  · exact ⟨RepC.mono keyZ_mono _ _ hx, fun h => h, fun _ h => h⟩
  · exact ⟨fslice_slice (RepC.mono keyZ_mono _ _ hx), fun _ => trivial, fun v hv => by cases v <;> first | trivial | exact hv⟩
  · obtain ⟨es, ho⟩ := hz _ _ _ hzz
    refine ⟨vec_slice hG ho hle keyZ_sub (hG.lt ho) (fun q b hq hb => ⟨hG.blk_lt hq hb, fun o' k' hk' hb' => ?_⟩) hx, fun _ => trivial, fun v hv => by cases v <;> first | trivial | exact hv⟩
    unfold keyZ at hk'
    split at hk'
    · cases hk'
    · rename_i hne
      have := hG.inj _ _ _ _ _ hk' hq hb' hb
      rw [this, hzz] at hne
      simp [isZ] at hne
theorem CvB.reps (hG : Good g H w) (hz : ∀ o ver l, z = some (o, ver, l) → ∃ es, H[o]? = some (.vec ver es l)) : ∀ {xs ys : List V} {vs : List Value}, All2 (CvB z) xs ys → Reps (cxOf g H.length w) xs vs → Reps (cxOf (keyZ z g) H.length w) ys vs
  | [], [], _, _, h => by simpa only [Reps] using h
  | x :: xs, y :: ys, vs, h, k => by
    simp only [Reps] at k ⊢
    obtain ⟨v, vs', rfl, h1, h2, h3⟩ := k
    obtain ⟨k1, k2, _⟩ := CvB.rep hG hz h.1 h2
    exact ⟨v, vs', rfl, k2 h1, k1, CvB.reps hG hz h.2 h3⟩
  | [], _ :: _, _, h, _ => h.elim
  | _ :: _, [], _, h, _ => h.elim
theorem CvA.rep (hG : Good g H w) (hz : ∀ o ver l, z = some (o, ver, l) → ∃ es, H[o]? = some (.vec ver es l)) {x y : V} {vs : List Value} (h : CvA z x y) (hx : RepC (cxOf g H.length w) x vs) :
    RepC (cxOf (keyZ z g) H.length w) y vs ∧ (x.storable → y.storable) ∧ (∀ v, okAgg x v → okAgg y v) := by
  rcases h with h | ⟨xs, ys, rfl, rfl, h⟩
  · have hk := h.rep hG hz hx
    refine ⟨hk.1, fun hs => ?_, hk.2.2⟩
    rcases h with (rfl | ⟨l, rfl, rfl⟩) | ⟨o, ver, l, off, k, hzz, rfl, hle, rfl⟩
    · exact hs
    · trivial
    · trivial
  · simp only [RepC] at hx ⊢
    exact ⟨CvB.reps hG hz h hx, fun _ => trivial, fun v hv => by cases v <;> first | exact hv | trivial⟩
theorem CvA.repE (hG : Good g H w) (hz : ∀ o ver l, z = some (o, ver, l) → ∃ es, H[o]? = some (.vec ver es l)) {es b : Nat} : ∀ {xs ys : List V} {off : Nat}, All2 (CvA z) xs ys → RepE (cxOf g H.length w) es b off xs → RepE (cxOf (keyZ z g) H.length w) es b off ys
  | [], [], _, _, h => by simp only [RepE]
  | x :: xs, y :: ys, off, h, k => by
    simp only [RepE] at k ⊢
    obtain ⟨vs, ⟨h1, h2⟩, h3, h4, h5⟩ := k
    obtain ⟨k1, k2, _⟩ := CvA.rep hG hz h.1 h2
    exact ⟨vs, ⟨k2 h1, k1⟩, h3, h4, CvA.repE hG hz h.2 h5⟩
  | [], _ :: _, _, h, _ => h.elim
  | _ :: _, [], _, h, _ => h.elim
theorem CvA.repM (hG : Good g H w) (hz : ∀ o ver l, z = some (o, ver, l) → ∃ es, H[o]? = some (.vec ver es l)) : ∀ {xs ys : List (Int × Nat × V)} {es : List MapEntry}, All2 (fun p q => q.1 = p.1 ∧ q.2.1 = p.2.1 ∧ CvA z p.2.2 q.2.2) xs ys → RepM (cxOf g H.length w) xs es → RepM (cxOf (keyZ z g) H.length w) ys es
  | [], [], [], _, _ => trivial
  | x :: xs, y :: ys, e :: es, h, k => by
    obtain ⟨⟨h1, h2, h3⟩, h4⟩ := h
    obtain ⟨⟨k1, k2, k3, k4, k5⟩, k6⟩ := k
    obtain ⟨j1, j2, j3⟩ := CvA.rep hG hz h3 k4
    exact ⟨⟨by rw [k1, h1], by rw [k2, h2], j2 k3, j1, j3 _ k5⟩, CvA.repM hG hz h4 k6⟩
  | [], _ :: _, _, h, _ => h.elim
  | _ :: _, [], _, h, _ => h.elim
  | [], [], _ :: _, _, k => k.elim
  | _ :: _, _ :: _, [], _, k => k.elim
theorem All2.length {α β : Type} {R : α → β → Prop} : ∀ {l : List α} {m : List β}, All2 R l m → m.length = l.length
  | [], [], _ => rfl
  | _ :: _, _ :: _, h => by simp [All2.length h.2]
  | [], _ :: _, h => h.elim
  | _ :: _, [], h => h.elim
theorem All2.rfl' {α : Type} {R : α → α → Prop} (hr : ∀ x, R x x) : ∀ (l : List α), All2 R l l
  | [] => trivial
  | x :: l => ⟨hr x, All2.rfl' hr l⟩
theorem All2.app {α β : Type} {R : α → β → Prop} : ∀ {l : List α} {m : List β} {l' : List α} {m' : List β}, All2 R l m → All2 R l' m' → All2 R (l ++ l') (m ++ m')
  | [], [], _, _, _, h => h
  | _ :: _, _ :: _, _, _, h, k => ⟨h.1, All2.app h.2 k⟩
  | [], _ :: _, _, _, h, _ => h.elim
  | _ :: _, [], _, _, h, _ => h.elim
theorem CvA.rfl' {z : Option (Nat × Nat × List V)} (x : V) : CvA z x x := .inl (.inl (.inl rfl))
theorem EnvG.rfl' {R : V → V → Prop} (hr : ∀ x, R x x) : ∀ (e : Env), EnvG R e e
  | [] => trivial
  | (t, x) :: e => ⟨⟨rfl, .inr (hr x)⟩, EnvG.rfl' hr e⟩

/-- TOLD OTHERWISE: an object may be given up, and what it held is then told as lists, wherever it is told. -/
theorem Gho.conv {n0 : Nat} {env env' : Env} {H' : List Ob} (z : Option (Nat × Nat × List V)) (hz : ∀ o ver l, z = some (o, ver, l) → (∃ es, H[o]? = some (.vec ver es l)) ∧ H'[o]? = some .gone) (hl : H'.length = H.length)
    (ho : ∀ i x, H[i]? = some x → isZ z i = false → ∃ y, H'[i]? = some y ∧ CvO z x y) (he : EnvG (CvA z) env env') : Gho n0 env H env' H' := by
  intro g w hG
  have hz' : ∀ o ver l, z = some (o, ver, l) → ∃ es, H[o]? = some (.vec ver es l) := fun o ver l h => (hz o ver l h).1
  refine ⟨keyZ z g, ⟨fun i => ?_, fun o o' k k' b hk hk' hb hb' => ?_⟩, fun gs ws h => h.trans ?_, fun t v hv => ?_⟩
  · rw [hl]
    cases hx : H[i]? with
    | none =>
      have h1 : H'[i]? = none := by rw [List.getElem?_eq_none_iff] at hx ⊢; omega
      rw [h1]
      show keyZ z g i = none
      unfold keyZ
      split
      · rfl
      · exact hG.none_of_ge (by rw [List.getElem?_eq_none_iff] at hx; exact hx)
    | some x =>
      cases hi : isZ z i with
      | true =>
        obtain ⟨o, ver, l, rfl⟩ : ∃ o ver l, z = some (o, ver, l) := by
          cases z with
          | none => simp [isZ] at hi
          | some q => exact ⟨q.1, q.2.1, q.2.2, rfl⟩
        have hio : i = o := by simpa [isZ] using hi
        subst hio
        rw [(hz _ _ _ rfl).2]
        show keyZ _ g i = none
        simp [keyZ, hi]
      | false =>
        obtain ⟨y, hy, hc⟩ := ho i x hx hi
        rw [hy]
        have hk : keyZ z g i = g i := by simp [keyZ, hi]
        rw [hk]
        have hob := hG.ob i
        rw [hx] at hob
        cases x with
        | gone => cases y <;> first | exact hc.elim | exact hob
        | hole => cases y <;> first | exact hc.elim | exact hob
        | raw b x vs cs =>
          cases y with
          | raw b' x' vs' cs' => obtain ⟨rfl, rfl, rfl, rfl⟩ := hc; exact ⟨hob.1, hob.2.mono keyZ_mono⟩
          | _ => exact hc.elim
        | map l ck =>
          cases y with
          | map l' ck' =>
            obtain ⟨rfl, hc⟩ := hc
            obtain ⟨b, es, h1, h2, h3⟩ := hob
            exact ⟨b, es, h1, h2, CvA.repM hG hz' hc h3⟩
          | _ => exact hc.elim
        | iter o' since seen last =>
          cases y with
          | iter o2 since2 seen2 last2 =>
            obtain ⟨rfl, rfl, rfl, rfl⟩ := hc
            obtain ⟨b, mb, h1, h2, h3⟩ := hob
            exact ⟨b, mb, h1, h2, RepC.mono keyZ_mono _ _ h3⟩
          | _ => exact hc.elim
        | var cs =>
          cases y with
          | var cs' =>
            obtain ⟨b, cur, et, fr, h1, h2, h3, h4⟩ := hob
            exact ⟨b, cur, et, fr, h1, h2, CvB.reps hG hz' hc h3, h4⟩
          | _ => exact hc.elim
        | vec ver es l =>
          cases y with
          | vec ver' es' l' =>
            obtain ⟨rfl, rfl, hc⟩ := hc
            obtain ⟨q, h1, h2, h2', h3, h4, h5, h6⟩ := hob
            refine ⟨q, h1, h2, h2', h3, h4, by rw [hc.length]; exact h5, ?_⟩
            rcases h6 with h6 | ⟨b, cur, et, fr, h7, h8, h9, h10, h11, h12⟩
            · exact .inl h6
            · exact .inr ⟨b, cur, et, fr, h7, h8, h9, CvA.repE hG hz' hc h10, h11, h12⟩
          | _ => exact hc.elim
  · unfold keyZ at hk hk'
    split at hk
    · cases hk
    · split at hk'
      · cases hk'
      · exact hG.inj _ _ _ _ _ hk hk' hb hb'
  · rw [hl]
    refine ⟨rfl, rfl, rfl, Nat.le_refl _, fun b hb => ⟨rfl, ((keyZ_mono (z := z)).imm b hb).1⟩, (keyZ_mono (z := z) (g := g) (w := w) (n := H.length)).key, Nat.le_refl _⟩
  · rw [hl]
    rcases EnvG.get _ _ he t with h | h
    · rw [h]; trivial
    · have := eget env t
      generalize hx : eget env t = x at *
      generalize hy : eget env' t = y at *
      cases x
      case dead =>
        rcases h with ((h | ⟨l, h, _⟩) | ⟨_, _, _, _, _, _, h, _⟩) | ⟨_, _, h, _⟩
        · rw [h]; trivial
        all_goals cases h
      all_goals
        obtain ⟨h1, h2⟩ := hv
        obtain ⟨k1, _, k3⟩ := CvA.rep hG hz' h h1
        exact RepV.of_parts k1 (k3 _ h2)
end
/-- one object's values are told otherwise -/
theorem Gho.weakOb {n0 : Nat} {env : Env} {H : List Ob} (o : Nat) {x y : Ob} (hx : H[o]? = some x) (h : CvO none x y) : Gho n0 env H env (H.set o y) := by
  refine Gho.conv none (fun _ _ _ h => by cases h) (by simp) (fun i u hu _ => ?_) (EnvG.rfl' CvA.rfl' _)
  by_cases e : i = o
  · subst e
    rw [hx] at hu
    injection hu with hu
    subst hu
    exact ⟨y, by rw [List.getElem?_set_self (List.getElem?_eq_some_iff.1 hx).1], h⟩
  · refine ⟨u, by rw [List.getElem?_set_ne (Ne.symm e)]; exact hu, ?_⟩
    cases u with
    | gone => trivial
    | hole => trivial
    | var cs => exact All2.rfl' (fun _ => .inl (.inl rfl)) _
    | vec v e l => exact ⟨rfl, rfl, All2.rfl' CvA.rfl' _⟩
    | raw _ _ _ _ => exact ⟨rfl, rfl, rfl, rfl⟩
    | map _ _ => exact ⟨rfl, All2.rfl' (fun _ => ⟨rfl, rfl, CvA.rfl' _⟩) _⟩
    | iter _ _ _ _ => exact ⟨rfl, rfl, rfl, rfl⟩
theorem Gho.weakEnv {n0 : Nat} {env env' : Env} {H : List Ob} (he : EnvG (CvA none) env env') : Gho n0 env H env' H := by
  refine Gho.conv none (fun _ _ _ h => by cases h) rfl (fun i u hu _ => ⟨u, hu, ?_⟩) he
  cases u with
  | gone => trivial
  | hole => trivial
  | var cs => exact All2.rfl' (fun _ => .inl (.inl rfl)) _
  | vec v e l => exact ⟨rfl, rfl, All2.rfl' CvA.rfl' _⟩
  | raw _ _ _ _ => exact ⟨rfl, rfl, rfl, rfl⟩
  | map _ _ => exact ⟨rfl, All2.rfl' (fun _ => ⟨rfl, rfl, CvA.rfl' _⟩) _⟩
  | iter _ _ _ _ => exact ⟨rfl, rfl, rfl, rfl⟩
/-- the last elements of a list of one's own are told otherwise -/
theorem Gho.weakLast {n0 : Nat} {env : Env} {H : List Ob} (o : Nat) {ver es : Nat} {l m m' : List V} (hx : H[o]? = some (.vec ver es (l ++ m))) (h : All2 (CvA none) m m') : Gho n0 env H env (H.set o (.vec ver es (l ++ m'))) :=
  Gho.weakOb o hx ⟨rfl, rfl, All2.app (All2.rfl' CvA.rfl' l) h⟩
/-- the end of a list of one's own is given up -/
theorem Gho.trunc {n0 : Nat} {env : Env} {H : List Ob} (o n : Nat) {ver es : Nat} {l : List V} (ho : H[o]? = some (.vec ver es l)) : Gho n0 env H env (H.set o (.vec ver es (l.take n))) := by
  intro g w hG
  have hlt : o < H.length := (List.getElem?_eq_some_iff.1 ho).1
  obtain ⟨h1, h2⟩ := step_one hG o g (H.set o (.vec ver es (l.take n))) w rfl rfl rfl
    (fun o' ho' => List.getElem?_set_ne (Ne.symm ho')) (fun _ _ => rfl) (by simp) (Nat.le_refl _) (fun b hb _ => rfl)
    (fun k' b hk' hb => .inr ⟨k', hk', hb⟩) (fun _ k' hk' => ⟨k', hk', Nat.le_refl _, fun _ => rfl⟩)
    (fun m => by
      rw [List.getElem?_set_self hlt]
      have hob := hG.ob o
      rw [ho] at hob
      obtain ⟨q, h1, h2, h2', h3, h4, h5, h6⟩ := ObOK.mono m (fun q b hq hb => ⟨rfl, fun _ _ => rfl⟩) hob
      refine ⟨q, h1, h2, h2', h3, h4, by rw [List.length_take]; omega, ?_⟩
      rcases h6 with h6 | ⟨b, cur, et, fr, h7, h8, h9, h10, h11, h12⟩
      · exact .inl h6
      · exact .inr ⟨b, cur, et, fr, h7, h8, h9, RepE.take n h10, h11, h12⟩)
  exact ⟨g, h1, fun gs ws h => h.trans h2, fun t v hv => hv.mono h2.mono⟩

/-! told otherwise, deep within -/
mutual
def wdV : V → V
  | .fslice l => .slice (wdVs l)
  | .slice l => .slice (wdVs l)
  | .agg cs => .agg (wdVs cs)
  | .dead => .dead
  | .int k n => .int k n
  | .bool b => .bool b
  | .str l => .str l
  | .nilp => .nilp
  | .ref o c => .ref o c
  | .eref o v i c => .eref o v i c
  | .cref cs c => .cref cs c
  | .vec o v a b => .vec o v a b
  | .fn f a b => .fn f a b
  | .nilf => .nilf
  | .mapr o => .mapr o
  | .nilm => .nilm
  | .iface t v => .iface t v
  | .nili => .nili
  | .tuple vs => .tuple vs
def wdVs : List V → List V
  | [] => []
  | x :: xs => wdV x :: wdVs xs
end
theorem wdVs_map : ∀ l : List V, wdVs l = l.map wdV
  | [] => by simp only [wdVs, List.map_nil]
  | x :: l => by simp only [wdVs, List.map_cons, wdVs_map l]
theorem wdVs_len (l : List V) : (wdVs l).length = l.length := by rw [wdVs_map, List.length_map]
theorem wdV_leaf {x : V} (h : x.leaf) : (wdV x).leaf := by cases x <;> first | exact h | trivial
theorem wdV_storable {x : V} (h : x.storable) : (wdV x).storable := by cases x <;> first | exact h | trivial
mutual
theorem RepC.wd {c : Cx} : ∀ (x : V) (vs : List Value), RepC c x vs → RepC c (wdV x) vs
  | .fslice l, vs, h => by
    simp only [RepC, wdV] at h ⊢
    obtain ⟨a, es, hv, hm, h⟩ := h
    refine ⟨a, l.length, es, by rw [wdVs_len]; exact hv, by rw [wdVs_len]; exact Nat.le_refl _, hm, ?_⟩
    rcases h with rfl | ⟨b, off, ha, hi, he⟩
    · exact .inl (by simp only [wdVs])
    · exact .inr ⟨b, off, ha, hi, RepE.wd es b off l he⟩
  | .slice l, vs, h => by
    simp only [RepC, wdV] at h ⊢
    obtain ⟨a, cap, es, hv, hl, hm, h⟩ := h
    refine ⟨a, cap, es, by rw [wdVs_len]; exact hv, by rw [wdVs_len]; exact hl, hm, ?_⟩
    rcases h with rfl | ⟨b, off, ha, hi, he⟩
    · exact .inl (by simp only [wdVs])
    · exact .inr ⟨b, off, ha, hi, RepE.wd es b off l he⟩
  | .agg cs, vs, h => by
    simp only [RepC, wdV] at h ⊢
    exact Reps.wd cs vs h
  | .dead, _, h | .int _ _, _, h | .bool _, _, h | .str _, _, h | .nilp, _, h | .ref _ _, _, h | .eref _ _ _ _, _, h | .cref _ _, _, h | .vec _ _ _ _, _, h
  | .fn _ _ _, _, h | .nilf, _, h | .mapr _, _, h | .nilm, _, h | .iface _ _, _, h | .nili, _, h | .tuple _, _, h => by simpa only [wdV] using h
theorem Reps.wd {c : Cx} : ∀ (xs : List V) (vs : List Value), Reps c xs vs → Reps c (wdVs xs) vs
  | [], vs, h => by simpa only [Reps, wdVs] using h
  | x :: xs, vs, h => by
    simp only [Reps, wdVs] at h ⊢
    obtain ⟨v, vs', rfl, h1, h2, h3⟩ := h
    exact ⟨v, vs', rfl, wdV_leaf h1, RepC.wd x _ h2, Reps.wd xs vs' h3⟩
theorem RepE.wd {c : Cx} (es b : Nat) : ∀ (off : Nat) (xs : List V), RepE c es b off xs → RepE c es b off (wdVs xs)
  | off, [], _ => by simp only [wdVs, RepE]
  | off, x :: xs, h => by
    simp only [RepE, wdVs] at h ⊢
    obtain ⟨vs, ⟨h1, h2⟩, h3, h4, h5⟩ := h
    exact ⟨vs, ⟨wdV_storable h1, RepC.wd x vs h2⟩, h3, h4, RepE.wd es b (off + es) xs h5⟩
end
theorem RepV.wd {c : Cx} {x : V} {v : Value} (h : RepV c x v) : RepV c (wdV x) v := by
  cases x
  case dead => trivial
  all_goals
    obtain ⟨h1, h2⟩ := h
    refine RepV.of_parts (RepC.wd _ _ h1) ?_
    cases v <;> first | exact h2 | trivial
theorem RepVals.wd {c : Cx} : ∀ {xs : List V} {vs : List Value}, RepVals c xs vs → RepVals c (wdVs xs) vs
  | [], [], h => by simpa only [wdVs] using h
  | x :: xs, v :: vs, h => by
    simp only [wdVs]
    exact ⟨h.1.wd, RepVals.wd h.2⟩
  | [], _ :: _, h => h.elim
  | _ :: _, [], h => h.elim
theorem SCall.deep {f : FuncId} {args : List V} {H : List Ob} {R : V → List Ob → Prop} (h : SCall P f (wdVs args) H R) : SCall P f args H R :=
  fun g w cargs hG hr => h g w cargs hG hr.wd
theorem CallE.deep {f : FuncId} {args : List V} {H : List Ob} {K : V → Prop} (h : CallE (fun v => SCall P f (wdVs args) H (fun r H' => r = v ∧ H' = H)) K) : CallE (fun v => SCall P f args H (fun r H' => r = v ∧ H' = H)) K := by
  obtain ⟨v, h1, h2⟩ := h
  exact ⟨v, SCall.deep h1, h2⟩
end Go.EL

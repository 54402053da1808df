/- The value logic, part Y: code by one pass; loops over prefixes; answers. -/
import Derived.Test.YtjplgbalpnlanaaEX
set_option linter.unusedVariables false
set_option linter.unusedSimpArgs false
namespace Go.EL
open Go
variable {P : Program} {T : Nat → TD}

/-- code, where the objects from n0 on are one's own: what was there before is as it was -/
def EWn (P : Program) (n0 n : Nat) (c : Code) (Q : Exit → Env → List Ob → Prop) [Hold c Q] (env : Env) (H : List Ob) : Prop :=
  ∀ rd ds gs ws g a w, Rel ds n env H g a w → Ext gs n0 ws g H.length w → c.wpIn (fz rd) 0 P (fun e a' w' => ∃ env' H' g', Rel ds n env' H' g' a' w' ∧ Ext gs n0 ws g' H'.length w' ∧ Q e env' H') a w

section
variable {n0 n : Nat} {env : Env} {H : List Ob}
theorem EWn.of {c : Code} {Q : Exit → Env → List Ob → Prop} (h : EW P n c Q env H) : EWn P n0 n c Q env H :=
  fun rd ds gs ws g a w hR he => wpIn_mono (h rd ds g a w hR) fun e a' w' ⟨env', H', g', h1, h2, h3⟩ => ⟨env', H', g', h1, he.trans h2, h3⟩
theorem EWn.to {c : Code} {Q : Exit → Env → List Ob → Prop} (h : EWn P H.length n c Q env H) : EW P n c Q env H :=
  fun rd ds g a w hR => h rd ds g w g a w hR (Ext.refl _ _ _)
theorem EWn.mono {c : Code} {Q Q' : Exit → Env → List Ob → Prop} (h : EWn P n0 n c Q env H) (hq : ∀ e env' H', Q e env' H' → Q' e env' H') : EWn P n0 n c Q' env H :=
  fun rd ds gs ws g a w hR he => wpIn_mono (h rd ds gs ws g a w hR he) fun e a' w' ⟨env', H', g', h1, h2, h3⟩ => ⟨env', H', g', h1, h2, hq _ _ _ h3⟩
theorem EWn.ghost {c : Code} {Q : Exit → Env → List Ob → Prop} {env' : Env} {H' : List Ob} (h : Gho n0 env H env' H') (k : EWn P n0 n c Q env' H') : EWn P n0 n c Q env H := by
  intro rd ds gs ws g a w hR he
  obtain ⟨g', hR', he'⟩ := h.rel hR
  exact k rd ds gs ws g' a w hR' (he' _ _ he)
theorem EWn.upto {c : Code} {Q : Exit → Env → List Ob → Prop} (h : EWn P n0 n c (fun e => UpTo n0 (Q e)) env H) : EWn P n0 n c Q env H := by
  intro rd ds gs ws g a w hR he
  refine wpIn_mono (h rd ds gs ws g a w hR he) fun e a' w' ⟨env', H', g', h1, h2, env'', H'', h3, h4⟩ => ?_
  obtain ⟨g'', k1, k2⟩ := h3.rel h1
  exact ⟨env'', H'', g'', k1, k2 _ _ h2, h4⟩
theorem EWn.seq {c d : Code} {Q : Exit → Env → List Ob → Prop} (h : EWn P n0 n c (thenE (EWn P n0 n d Q) Q) env H) : EWn P n0 n (.seq c d) Q env H := by
  intro rd ds gs ws g a w hR he
  refine wpIn_seq (wpIn_mono (h rd ds gs ws g a w hR he) fun e a' w' ⟨env', H', g', h1, h2, h3⟩ => ?_)
  cases e with
  | normal => exact h3 rd ds gs ws g' a' w' h1 h2
  | exit id => exact ⟨env', H', g', h1, h2, h3⟩
  | goto l => exact ⟨env', H', g', h1, h2, h3⟩
  | ret => exact ⟨env', H', g', h1, h2, h3⟩
  | panic ch => exact ⟨env', H', g', h1, h2, h3⟩
  | outgrown => exact ⟨env', H', g', h1, h2, h3⟩
theorem EWn.cond {c : Operand} {x y : Code} {Q : Exit → Env → List Ob → Prop} (h : condW (evl env c) (EWn P n0 n x Q env H) (EWn P n0 n y Q env H)) : EWn P n0 n (.cond c x y) Q env H := by
  intro rd ds gs ws g a w hR he
  have hc := hR.2.2.1.ev c
  unfold condW at h
  split at h
  · rename_i b hb
    rw [hb] at hc
    have := hc.bool
    cases b with
    | true => exact wpIn_cond_true this ((h.1 rfl) rd ds gs ws g a w hR he)
    | false => exact wpIn_cond_false this ((h.2 rfl) rd ds gs ws g a w hR he)
  · exact h.elim
theorem EWn.block {id : Nat} {c : Code} {Q : Exit → Env → List Ob → Prop} (h : EWn P n0 n c (inBlockE id Q) env H) : EWn P n0 n (.block id c) Q env H := by
  intro rd ds gs ws g a w hR he
  refine wpIn_block (wpIn_mono (h rd ds gs ws g a w hR he) fun e a' w' ⟨env', H', g', h1, h2, h3⟩ => ?_)
  cases e with
  | exit id' =>
    simp only [Exit.inBlock, inBlockE] at h3 ⊢
    split
    · rename_i e; rw [if_pos e] at h3; exact ⟨env', H', g', h1, h2, h3⟩
    · rename_i e; rw [if_neg e] at h3; exact ⟨env', H', g', h1, h2, h3⟩
  | _ => exact ⟨env', H', g', h1, h2, h3⟩
/-- A LOOP: an invariant, with a number that goes down; the round's end is told anew. -/
theorem EWn.loop {c : Code} {Q : Exit → Env → List Ob → Prop} (I : Nat → Env → List Ob → Prop) (m : Nat) (h0 : I m env H)
    (hb : ∀ k env H, I k env H → EWn P n0 n c (thenE (UpTo n0 fun env' H' => ∃ k', k' < k ∧ I k' env' H') Q) env H) : EWn P n0 n (.loop c) Q env H := by
  intro rd ds gs ws g a w hR he
  let J : Act → World → Nat → Prop := fun a' w' k => ∃ env' H' g', Rel ds n env' H' g' a' w' ∧ Ext gs n0 ws g' H'.length w' ∧ I k env' H'
  refine wpIn_loop (fun a' w' => ∃ k, J a' w' k) (fun a' w' => least (J a' w')) ⟨m, env, H, g, hR, he, h0⟩ ?_
  intro a' w' hJ
  have hmin := (least_spec hJ).1
  generalize least (J a' w') = k at hmin ⊢
  obtain ⟨env', H', g', h1, h2, h3⟩ := hmin
  refine wpIn_mono (hb k env' H' h3 rd ds gs ws g' a' w' h1 h2) fun e a'' w'' ⟨env'', H'', g'', k1, k2, k3⟩ => ?_
  cases e with
  | normal =>
    obtain ⟨e3, H3, k4, k', hk', hI⟩ := k3
    obtain ⟨g3, r1, r2⟩ := k4.rel k1
    have hJ2 : J a'' w'' k' := ⟨e3, H3, g3, r1, r2 _ _ k2, hI⟩
    exact ⟨⟨k', hJ2⟩, Nat.lt_of_le_of_lt ((least_spec ⟨k', hJ2⟩).2 k' hJ2) hk'⟩
  | exit id => exact ⟨env'', H'', g'', k1, k2, k3⟩
  | goto l => exact ⟨env'', H'', g'', k1, k2, k3⟩
  | ret => exact ⟨env'', H'', g'', k1, k2, k3⟩
  | panic ch => exact ⟨env'', H'', g'', k1, k2, k3⟩
  | outgrown => exact ⟨env'', H'', g'', k1, k2, k3⟩
end

/-- what follows a region -/
def regK (ks : List Nat) (Q : Exit → Env → List Ob → Prop) (env : Env) (H : List Ob) : Prop := Q .normal (restr ks env) H
/-- a region whose order is open, by one rule or the other -/
def ewDrawX (P : Program) (T : Nat → TD) (own : Bool) (ops : List Oper) (F W : List Nat) (K : Env → List Ob → Prop) (env : Env) (H : List Ob) : Prop :=
  if F.contains 9997 = true then DrawH P T own ops K env H else if F.contains 9999 = true then ewDraw2 P T own ops F W H 0 ops K env H else if F.contains 9998 = true then ewDraw3 P T own ops F W (objsOf env F) (blank (objsOf env F) H) 0 ops K env H else ewDraw P T own ops F W 0 ops K env H
def drawOKX (n : Nat) (ops : Array Oper) (W F : List Nat) : Bool := if F.contains 9997 = true then drawOKH n ops else if F.contains 9999 = true then drawOK2 n ops W F else if F.contains 9998 = true then drawOK3 n ops W F else drawOK n ops W F
theorem EW.drawX {P : Program} {T : Nat → TD} {n : Nat} {ops : Array Oper} {own : Bool} {W : List Nat} (hTO : TyOK P T) (hm : P.follows .mixedOrders = true) {id : Nat} {F : List Nat} (keep : Nat → List Nat) (hd : drawOKX n ops W F = true) {Q : Exit → Env → List Ob → Prop} {env : Env} {H : List Ob}
    (h : ewDrawX P T own ops.toList F W (regK (keep id) Q) env H) : EW P n (.region id ops true) Q env H := by
  unfold drawOKX at hd
  unfold ewDrawX at h
  split at h
  · rename_i hc
    rw [if_pos hc] at hd
    exact EW.drawH hTO hm keep hd h
  rename_i hc0
  rw [if_neg hc0] at hd
  split at h
  · rename_i hc
    rw [if_pos hc] at hd
    exact EW.draw2 hTO hm keep hd h
  · rename_i hc
    rw [if_neg hc] at hd
    split at h
    · rename_i hc2
      rw [if_pos hc2] at hd
      exact EW.draw3 hTO hm keep hd h
    · rename_i hc2
      rw [if_neg hc2] at hd
      exact EW.draw hTO hm keep hd h

/-- code, up to its loops -/
def ewC (P : Program) (T : Nat → TD) (own : Bool) (n0 n : Nat) (keep : Nat → List Nat) (tab : Nat → List Nat × List Nat) : (c : Code) → (Q : Exit → Env → List Ob → Prop) → [Hold c Q] → Env → List Ob → Prop
  | .skip, Q, _, env, H => Q .normal env H
  | .region id ops draw, Q, _, env, H => match draw with
    | true => ewDrawX P T own ops.toList (tab id).2 (tab id).1 (regK (keep id) Q) env H
    | false => ewOps P T own ops.toList ops.toList (regK (keep id) Q) env H
  | .seq a b, Q, _, env, H => ewC P T own n0 n keep tab a (thenE (ewC P T own n0 n keep tab b Q) Q) env H
  | .cond c a b, Q, _, env, H => condW (evl env c) (ewC P T own n0 n keep tab a Q env H) (ewC P T own n0 n keep tab b Q env H)
  | .block id b, Q, _, env, H => ewC P T own n0 n keep tab b (inBlockE id Q) env H
  | .exit id, Q, _, env, H => Q (.exit id) env H
  | .ret, Q, _, env, H => Q .ret env H
  | c, Q, _, env, H => EWn P n0 n c Q env H

def okC (n : Nat) (tab : Nat → List Nat × List Nat) : Code → Bool
  | .region id ops draw => match draw with
    | true => drawOKX n ops (tab id).1 (tab id).2
    | false => codeOK n (.region id ops false)
  | .seq a b => okC n tab a && okC n tab b
  | .cond _ a b => okC n tab a && okC n tab b
  | .block _ b => okC n tab b
  | _ => true

theorem EWn.of_c (hTO : TyOK P T) (hm : P.follows .mixedOrders = true) {own : Bool} {n0 n : Nat} (keep : Nat → List Nat) (tab : Nat → List Nat × List Nat) : ∀ {c : Code} {Q : Exit → Env → List Ob → Prop} {env : Env} {H : List Ob}, okC n tab c = true →
    ewC P T own n0 n keep tab c Q env H → EWn P n0 n c Q env H
  | .skip, _, _, _, _, h => .of (EW.skip h)
  | .region id ops true, _, _, _, ho, h => .of (EW.drawX hTO hm keep ho h)
  | .region id ops false, _, _, _, ho, h => .of (EW.region hTO keep ho h)
  | .seq a b, _, _, _, ho, h => by
    simp only [okC, Bool.and_eq_true] at ho
    refine EWn.seq ?_
    refine EWn.mono (EWn.of_c hTO hm keep tab ho.1 h) fun e env' H' h' => ?_
    cases e with
    | normal => exact EWn.of_c hTO hm keep tab ho.2 h'
    | _ => exact h'
  | .cond c a b, _, _, _, ho, h => by
    simp only [okC, Bool.and_eq_true] at ho
    refine EWn.cond ?_
    simp only [ewC] at h
    unfold condW at h ⊢
    split at h
    · exact ⟨fun hb => EWn.of_c hTO hm keep tab ho.1 (h.1 hb), fun hb => EWn.of_c hTO hm keep tab ho.2 (h.2 hb)⟩
    · exact h.elim
  | .block id b, _, _, _, ho, h => EWn.block (EWn.of_c hTO hm keep tab (c := b) (by simpa only [okC] using ho) h)
  | .exit id, _, _, _, _, h => .of (EW.exit h)
  | .ret, _, _, _, _, h => .of (EW.ret h)
  | .loop _, _, _, _, _, h => h
  | .rangeFunc .., _, _, _, _, h => h
  | .scope _, _, _, _, _, h => h
  | .label _, _, _, _, _, h => h
  | .goto _, _, _, _, _, h => h
  | .refuse _, _, _, _, _, h => h

/-- the first k + 1 statements; and the others -/
def headC : List Unit → Code → Code
  | _ :: k, .seq a b => .seq a (headC k b)
  | [], .seq a _ => a
  | _, c => c
def tailC : List Unit → Code → Code
  | _ :: k, .seq _ b => tailC k b
  | [], .seq _ b => b
  | _, _ => .skip
def longC : List Unit → Code → Bool
  | _ :: k, .seq _ b => longC k b
  | [], .seq _ _ => true
  | _, _ => false
/-- THE CODE IS CUT behind its first k + 1 statements: what holds there is told. -/
theorem EWn.cut (hTO : TyOK P T) (hm : P.follows .mixedOrders = true) {own : Bool} {n0 n : Nat} (keep : Nat → List Nat) (tab : Nat → List Nat × List Nat) (M : Env → List Ob → Prop) {Q : Exit → Env → List Ob → Prop} : ∀ (k : List Unit) {c : Code} {env : Env} {H : List Ob}, longC k c = true → okC n tab (headC k c) = true →
    ewC P T own n0 n keep tab (headC k c) (thenE (UpTo n0 M) Q) env H → (∀ env H, M env H → EWn P n0 n (tailC k c) Q env H) → EWn P n0 n c Q env H
  | [], .seq a b, env, H, _, ho, h, hk => by
    refine EWn.seq (EWn.mono (EWn.of_c hTO hm keep tab ho h) fun e env' H' h' => ?_)
    cases e with
    | normal => obtain ⟨e2, H2, h1, h2⟩ := h'; exact EWn.ghost h1 (hk _ _ h2)
    | _ => exact h'
  | _ :: k, .seq a b, env, H, hl, ho, h, hk => by
    simp only [headC, okC, Bool.and_eq_true] at ho
    refine EWn.seq (EWn.mono (EWn.of_c hTO hm keep tab ho.1 h) fun e env' H' h' => ?_)
    cases e with
    | normal => exact EWn.cut hTO hm keep tab M k hl ho.2 h' hk
    | _ => exact h'

/-! answers -/
def wk0 (fs : Bool) (H : List Ob) (n : Nat) : V → V
  | .vec o ver off k => if n ≤ o then (match H[o]? with | some (.vec _ _ l) => .slice ((l.drop off).take k) | _ => .dead) else .vec o ver off k
  | .fslice l => if fs then .fslice l else .slice l
  | x => x
def wk1 (fs : Bool) (H : List Ob) (n : Nat) : V → V
  | .agg cs => .agg (cs.map (wk0 fs H n))
  | x => wk0 fs H n x
def wk (fs : Bool) (H : List Ob) (n : Nat) : V → V
  | .tuple vs => .tuple (vs.map (wk1 fs H n))
  | x => wk1 fs H n x
def okW0 (H : List Ob) (n : Nat) : V → Prop
  | .vec o ver off k => n ≤ o → (match H[o]? with | some (.vec ver' _ l) => ver' = ver ∧ off + k ≤ l.length ∧ ltL n l | _ => False)
  | .fslice l => ltL n l
  | x => x.lt n
def okW1 (H : List Ob) (n : Nat) : V → Prop
  | .agg cs => ∀ x ∈ cs, okW0 H n x
  | x => okW0 H n x
def okW (H : List Ob) (n : Nat) : V → Prop
  | .tuple vs => ∀ x ∈ vs, okW1 H n x
  | x => okW1 H n x

theorem okW0.wk {fs : Bool} {H : List Ob} {n : Nat} {x : V} (h : okW0 H n x) : Wk0 H n x (wk0 fs H n x) := by
  cases x
  case vec o ver off k =>
    simp only [okW0] at h
    simp only [Wk0, wk0]
    by_cases hn : n ≤ o
    · left
      have h := h hn
      split at h
      · rename_i ver' es l ho
        obtain ⟨rfl, h1, h2⟩ := h
        exact ⟨es, l, ho, h1, by rw [if_pos hn], h2, hn⟩
      · exact h.elim
    · right
      rw [if_neg hn]
      exact ⟨rfl, by omega⟩
  case fslice l =>
    cases fs
    · exact ⟨.inl rfl, h⟩
    · exact ⟨.inr rfl, h⟩
  all_goals exact ⟨rfl, h⟩
theorem All2.map_mem {α : Type} {R : α → α → Prop} {f : α → α} : ∀ {l : List α}, (∀ x ∈ l, R x (f x)) → All2 R l (l.map f)
  | [], _ => trivial
  | x :: l, h => ⟨h x (by simp), All2.map_mem fun y hy => h y (by simp [hy])⟩
theorem okW1.wk {fs : Bool} {H : List Ob} {n : Nat} {x : V} (h : okW1 H n x) : Wk1 H n x (wk1 fs H n x) := by
  cases x
  case agg cs => exact ⟨_, rfl, All2.map_mem fun y hy => (h y hy).wk⟩
  all_goals
    simp only [okW1] at h
    exact okW0.wk (fs := fs) h
theorem okW.wk {fs : Bool} {H : List Ob} {n : Nat} {x : V} (h : okW H n x) : Wk H n x (wk fs H n x) := by
  cases x
  case tuple cs => exact ⟨_, rfl, All2.map_mem fun y hy => (h y hy).wk⟩
  all_goals
    simp only [okW] at h
    exact okW1.wk (fs := fs) h

/-- AN ANSWER: the objects of L1 stay. -/
theorem RetW.auto {H0 H : List Ob} {R : V → List Ob → Prop} {r : V} (fs : Bool) (L1 L2 : List Ob) (hH : H = H0 ++ (L1 ++ L2)) (hL : HLt (H0.length + L1.length) L1) (hok : okW H (H0.length + L1.length) r) (hR : R (EL.wk fs H (H0.length + L1.length) r) (H0 ++ L1)) : RetW H0.length H0 R r H := by
  subst hH
  have htake : (H0 ++ (L1 ++ L2)).take (H0.length + L1.length) = H0 ++ L1 := by
    rw [← List.append_assoc, ← List.length_append, List.take_left]
  refine ⟨H0.length + L1.length, _, by omega, by simp, hok.wk (fs := fs), fun o x ho hx => ?_, ?_⟩
  · by_cases h : o < H0.length
    · left; rw [List.getElem?_append_left h] at hx; exact hx
    · right
      have hx' : (H0 ++ L1)[o]? = some x := by rw [← htake, List.getElem?_take, if_pos ho]; exact hx
      rw [List.getElem?_append_right (by omega)] at hx'
      exact hL x (List.mem_of_getElem? hx')
  · rw [htake]; exact hR

/-- nothing is left of what was new -/
theorem RetW.auto0 {H0 H : List Ob} {R : V → List Ob → Prop} {r : V} (fs : Bool) (L2 : List Ob) (hH : H = H0 ++ L2) (hok : okW H H0.length r) (hR : R (EL.wk fs H H0.length r) H0) : RetW H0.length H0 R r H :=
  RetW.auto fs [] L2 (by simpa using hH) (HLt.nil _) (by simpa using hok) (by simpa using hR)

/-! loops -/
def upd (env : Env) : List (Nat × V) → Env
  | [] => env
  | (t, v) :: us => upd (eset env t v) us

/-- what the end of a round shows -/
def RoundE {ι : Type} (ok : ι → Prop) (m : ι → Nat) (e : ι → Env) (hs : ι → List Ob) (k : Nat) (env : Env) (H : List Ob) : Prop :=
  ∃ x, ok x ∧ m x < k ∧ env = e x ∧ ∃ L, H = hs x ++ L
/-- what the end of a part shows -/
def MidE {κ : Type} (ok : κ → Prop) (e : κ → Env) (hs : κ → List Ob) (env : Env) (H : List Ob) : Prop := ∃ x, ok x ∧ env = e x ∧ ∃ L, H = hs x ++ L

theorem HLt.take {n : Nat} {H : List Ob} (h : HLt n H) (k : Nat) : HLt n (H.take k) := fun x hx => h x (List.mem_of_mem_take hx)

theorem drop_rest {n0 : Nat} {env : Env} {H L : List Ob} (h0 : n0 ≤ H.length) (hH : HLt H.length H) (he : ∀ p ∈ env, p.2.lt H.length) : Gho n0 env (H ++ L) env H := by
  have hd := Gho.drop (n0 := n0) (H0 := H) [] L (env := env) hH (by simpa using h0) (HLt.nil _) (by simpa using he)
  simpa only [List.nil_append, List.append_nil] using hd

/-- A LOOP by its rounds' states; what a round leaves in memory beside them is given up. -/
theorem EWn.loopE {ι : Type} {n0 n : Nat} {env : Env} {H : List Ob} {c : Code} {Q : Exit → Env → List Ob → Prop} (ok : ι → Prop) (m : ι → Nat) (us : ι → List (Nat × V)) (hs : ι → List Ob) (x0 : ι) (he : env = upd env (us x0)) (hH : H = hs x0)
    (hlt : ∀ x, ok x → n0 ≤ (hs x).length ∧ HLt (hs x).length (hs x) ∧ ∀ p ∈ upd env (us x), p.2.lt (hs x).length)
    (h0 : ok x0) (hb : ∀ x, ok x → EWn P n0 n c (thenE (UpTo n0 (RoundE ok m (fun x => upd env (us x)) hs (m x))) Q) (upd env (us x)) (hs x)) : EWn P n0 n (.loop c) Q env H := by
  refine EWn.loop (fun k env' H' => ∃ x, ok x ∧ k = m x ∧ env' = upd env (us x) ∧ H' = hs x) (m x0) ⟨x0, h0, rfl, he, hH⟩ ?_
  rintro k env' H' ⟨x, hx, rfl, rfl, rfl⟩
  refine (hb x hx).mono fun e env'' H'' h => ?_
  cases e with
  | normal =>
    have h : UpTo n0 (RoundE ok m (fun x => upd env (us x)) hs (m x)) env'' H'' := h
    obtain ⟨e2, H2, hg, y, hy, hym, rfl, L, rfl⟩ := h
    obtain ⟨k1, k2, k3⟩ := hlt y hy
    exact UpTo.step hg (UpTo.step (drop_rest k1 k2 k3) (UpTo.here ⟨m y, hym, y, hy, rfl, rfl, rfl⟩))
  | _ => exact h

/-- the same; what holds behind the loop is told once -/
theorem EWn.loopF {ι κ : Type} {n0 n id : Nat} {env : Env} {H : List Ob} {c : Code} {Q : Exit → Env → List Ob → Prop} (ok : ι → Prop) (m : ι → Nat) (us : ι → List (Nat × V)) (hs : ι → List Ob) (x0 : ι) (ok2 : κ → Prop) (e2 : κ → Env) (hs2 : κ → List Ob) (he : env = upd env (us x0)) (hH : H = hs x0)
    (hlt : ∀ x, ok x → n0 ≤ (hs x).length ∧ HLt (hs x).length (hs x) ∧ ∀ p ∈ upd env (us x), p.2.lt (hs x).length)
    (hlt2 : ∀ x, ok2 x → n0 ≤ (hs2 x).length ∧ HLt (hs2 x).length (hs2 x) ∧ ∀ p ∈ e2 x, p.2.lt (hs2 x).length)
    (h0 : ok x0) (hb : ∀ x, ok x → EWn P n0 n c (thenE (UpTo n0 (RoundE ok m (fun x => upd env (us x)) hs (m x))) (inBlockE id (withN (UpTo n0 (MidE ok2 e2 hs2)) Q))) (upd env (us x)) (hs x))
    (hk : ∀ y, ok2 y → UpTo n0 (Q .normal) (e2 y) (hs2 y)) : EWn P n0 n (.loop c) (inBlockE id Q) env H := by
  have key : ∀ {env'' H''}, UpTo n0 (MidE ok2 e2 hs2) env'' H'' → UpTo n0 (Q .normal) env'' H'' := by
    rintro env'' H'' ⟨e3, H2, hg, y, hy, rfl, L, rfl⟩
    obtain ⟨k1, k2, k3⟩ := hlt2 y hy
    exact UpTo.step hg (UpTo.step (drop_rest k1 k2 k3) (hk y hy))
  refine EWn.loop (fun k env' H' => ∃ x, ok x ∧ k = m x ∧ env' = upd env (us x) ∧ H' = hs x) (m x0) ⟨x0, h0, rfl, he, hH⟩ ?_
  rintro k env' H' ⟨x, hx, rfl, rfl, rfl⟩
  refine EWn.upto ((hb x hx).mono fun e env'' H'' h => ?_)
  cases e with
  | normal =>
    have h : UpTo n0 (RoundE ok m (fun x => upd env (us x)) hs (m x)) env'' H'' := h
    obtain ⟨e2, H2, hg, y, hy, hym, rfl, L, rfl⟩ := h
    obtain ⟨k1, k2, k3⟩ := hlt y hy
    exact UpTo.here (UpTo.step hg (UpTo.step (drop_rest k1 k2 k3) (UpTo.here ⟨m y, hym, y, hy, rfl, rfl, rfl⟩)))
  | exit id' =>
    have h : (if id' = id then UpTo n0 (MidE ok2 e2 hs2) else Q (.exit id')) env'' H'' := h
    show UpTo n0 (if id' = id then Q .normal else Q (.exit id')) env'' H''
    by_cases e : id' = id
    · rw [if_pos e] at h ⊢; exact key h
    · rw [if_neg e] at h ⊢; exact UpTo.here h
  | _ => exact UpTo.here h

/-- A CUT by a state. -/
theorem EWn.cutE (hTO : TyOK P T) (hm : P.follows .mixedOrders = true) {κ : Type} {own : Bool} {n0 n : Nat} (keep : Nat → List Nat) (tab : Nat → List Nat × List Nat) (k : List Unit) (ok : κ → Prop) (e : κ → Env) (hs : κ → List Ob) {Q : Exit → Env → List Ob → Prop} {c c1 c2 : Code} {env : Env} {H : List Ob} (hh : headC k c = c1) (ht : tailC k c = c2) (hl : longC k c = true) (ho : okC n tab (headC k c) = true)
    (hlt : ∀ x, ok x → n0 ≤ (hs x).length ∧ HLt (hs x).length (hs x) ∧ ∀ p ∈ e x, p.2.lt (hs x).length)
    (h : ewC P T own n0 n keep tab c1 (thenE (UpTo n0 (MidE ok e hs)) Q) env H) (hk : ∀ x, ok x → EWn P n0 n c2 Q (e x) (hs x)) : EWn P n0 n c Q env H := by
  subst hh ht
  refine EWn.cut hTO hm keep tab (MidE ok e hs) k hl ho h ?_
  rintro env' H' ⟨x, hx, rfl, L, rfl⟩
  obtain ⟨k1, k2, k3⟩ := hlt x hx
  exact EWn.ghost (drop_rest k1 k2 k3) (hk x hx)
end Go.EL
namespace Go.EL
theorem HLt.le {m n : Nat} {H : List Ob} (h : HLt m H) (hm : m ≤ n) : HLt n H := fun x hx => Ob.lt_le hm (h x hx)
theorem HLt.add {m : Nat} {H : List Ob} (h : HLt m H) : ∀ k, HLt (m + k) H := fun k => h.le (Nat.le_add_right _ _)
theorem HLt_append {n : Nat} {H L : List Ob} : HLt n (H ++ L) ↔ HLt n H ∧ HLt n L := by
  unfold HLt
  simp only [List.mem_append]
  exact ⟨fun h => ⟨fun x hx => h x (.inl hx), fun x hx => h x (.inr hx)⟩, fun h x hx => hx.elim (h.1 x) (h.2 x)⟩
theorem HLt_cons {n : Nat} {x : Ob} {H : List Ob} : HLt n (x :: H) ↔ x.lt n ∧ HLt n H := by
  unfold HLt
  simp only [List.mem_cons, forall_eq_or_imp]
theorem HLt_nil {n : Nat} : HLt n [] := fun x hx => by cases hx
theorem IfW_not (b : Bool) (X Y : Prop) (i : Hold X Y) : @IfW (!b) X Y i = IfW b Y X := by cases b <;> simp [IfW]
theorem live_var (l : List V) : (∃ cs, some (Ob.var l) = some (Ob.var cs)) = True := eq_true ⟨_, rfl⟩
theorem live_vec (ver ver' es' i : Nat) (l' : List V) : (∃ es l, some (Ob.vec ver' es' l') = some (Ob.vec ver es l) ∧ i < l.length) = (ver' = ver ∧ i < l'.length) := by
  apply propext
  constructor
  · rintro ⟨es, l, h, hi⟩
    injection h with h
    injection h with h1 h2 h3
    subst h1 h3
    exact ⟨rfl, hi⟩
  · rintro ⟨rfl, hi⟩
    exact ⟨_, _, rfl, hi⟩
def vb (b : UInt8) : V := .int .u8 b.toNat
theorem map_vb (l : List UInt8) : List.map (fun b : UInt8 => V.int .u8 b.toNat) l = l.map vb := rfl
def byt (n : Int) : UInt8 := UInt8.ofNat (n % 256).toNat
theorem wrap_u8 (n : Int) : IntKind.u8.wrap n = ((byt n).toNat : Int) := by
  unfold IntKind.wrap byt
  simp only [IntKind.bits, IntKind.signed]
  simp
  omega
theorem fold_vb (b : UInt8) : V.int .u8 (b.toNat : Int) = vb b := rfl
def vi (n : Int) : V := .int .i64 n
theorem Sized_append (n : Nat) (l m : List V) : Sized n (l ++ m) = (Sized n l ∧ Sized n m) := by
  apply propext
  unfold Sized
  simp only [List.mem_append]
  exact ⟨fun h => ⟨fun x hx => h x (.inl hx), fun x hx => h x (.inr hx)⟩, fun h x hx => hx.elim (h.1 x) (h.2 x)⟩
theorem st_vb (l : List UInt8) : (∀ x, x ∈ l.map vb → x.storable) = True := eq_true (storable_map (f := vb) (fun _ => trivial) l)
theorem st_vi (l : List Int) : (∀ x, x ∈ l.map vi → x.storable) = True := eq_true (storable_map (f := vi) (fun _ => trivial) l)
theorem st_str (l : List (List UInt8)) : (∀ x, x ∈ l.map V.str → x.storable) = True := eq_true (storable_map (f := V.str) (fun _ => trivial) l)
theorem sz_vb (l : List UInt8) : Sized 1 (l.map vb) = True := eq_true (sizedMapV (f := vb) (fun _ => rfl) l)
theorem sz_vi (l : List Int) : Sized 1 (l.map vi) = True := eq_true (sizedMapV (f := vi) (fun _ => rfl) l)
theorem sz_str (l : List (List UInt8)) : Sized 1 (l.map V.str) = True := eq_true (sizedMapV (f := V.str) (fun _ => rfl) l)
theorem isEmpty_mapV {α : Type} (f : α → V) (l : List α) : (l.map f).isEmpty = l.isEmpty := by cases l <;> rfl
variable {P : Program} {T : Nat → TD}
theorem RepVals.get {c : Cx} : ∀ {xs : List V} {vs : List Value}, RepVals c xs vs → ∀ t, ∀ v, vs[t]? = some v → RepV c (eget (argEnv 0 xs) t) v := by
  have key : ∀ (xs : List V) (vs : List Value) (k : Nat), RepVals c xs vs → ∀ t v, vs[t]? = some v → RepV c (eget (argEnv k xs) (k + t)) v := by
    intro xs
    induction xs with
    | nil => intro vs k h t v hv; cases vs with
      | nil => simp at hv
      | cons _ _ => exact h.elim
    | cons x xs ih =>
      intro vs k h t v hv
      cases vs with
      | nil => exact h.elim
      | cons u us =>
        cases t with
        | zero => simp at hv; subst hv; simp only [argEnv, eget, Nat.add_zero, if_true]; exact h.1
        | succ t =>
          simp only [List.getElem?_cons_succ] at hv
          have := ih us (k + 1) h.2 t v hv
          simp only [argEnv, eget]
          rw [if_neg (by omega), show k + (t + 1) = k + 1 + t by omega]
          exact this
  intro xs vs h t v hv
  have := key xs vs 0 h t v hv
  rwa [Nat.zero_add] at this
theorem RepVals.of_get {c : Cx} : ∀ (xs : List V) (vs : List Value), xs.length = vs.length → (∀ t v, vs[t]? = some v → RepV c (eget (argEnv 0 xs) t) v) → RepVals c xs vs := by
  have key : ∀ (xs : List V) (vs : List Value) (k : Nat), xs.length = vs.length → (∀ t v, vs[t]? = some v → RepV c (eget (argEnv k xs) (k + t)) v) → RepVals c xs vs := by
    intro xs
    induction xs with
    | nil => intro vs k hl h; cases vs with
      | nil => trivial
      | cons _ _ => simp at hl
    | cons x xs ih =>
      intro vs k hl h
      cases vs with
      | nil => simp at hl
      | cons u us =>
        refine ⟨?_, ih us (k + 1) (by simpa using hl) fun t v hv => ?_⟩
        · have := h 0 u rfl
          simpa only [argEnv, eget, Nat.add_zero, if_true] using this
        · have := h (t + 1) v (by simpa using hv)
          simp only [argEnv, eget] at this
          rw [if_neg (by omega), show k + (t + 1) = k + 1 + t by omega] at this
          exact this
  intro xs vs hl h
  exact key xs vs 0 hl fun t v hv => by rw [Nat.zero_add]; exact h t v hv
/-- a call, told otherwise -/
theorem SCall.ghost {f : FuncId} {args args' : List V} {H H' : List Ob} {R : V → List Ob → Prop} (h : Gho H.length (argEnv 0 args) H (argEnv 0 args') H') (hl : args'.length = args.length) (k : SCall P f args' H' R) : SCall P f args H R := by
  intro g w cargs hG ha
  obtain ⟨g', k1, k2, k3⟩ := h g w hG
  have he := k2 g w (Ext.refl _ _ _)
  have ha' : RepVals (cxOf g' H'.length w) args' cargs.toList := RepVals.of_get _ _ (by rw [hl]; exact ha.length.symm) fun t v hv => k3 t v (ha.get t v hv)
  refine (k g' w cargs k1 ha').mono fun v w' ⟨r, H'', g'', h1, h2, h3, h4⟩ => ⟨r, H'', g'', h1, he.trans h2, h3, h4⟩
theorem argEnv_G {R : V → V → Prop} (hr : ∀ x, R x x) {a b : V} (h : R a b) : ∀ (xs : List V) (i k : Nat), xs[i]? = some a → EnvG R (argEnv k xs) (argEnv k (xs.set i b))
  | [], i, k, hi => by simp at hi
  | x :: xs, 0, k, hi => by
    simp at hi
    subst hi
    have rest : ∀ (xs : List V) (k : Nat), EnvG R (argEnv k xs) (argEnv k xs) := by
      intro xs
      induction xs with
      | nil => intro k; trivial
      | cons y ys ih => intro k; exact ⟨⟨rfl, .inr (hr y)⟩, ih (k + 1)⟩
    exact ⟨⟨rfl, .inr h⟩, rest xs (k + 1)⟩
  | x :: xs, i + 1, k, hi => ⟨⟨rfl, .inr (hr x)⟩, argEnv_G hr h xs i (k + 1) (by simpa using hi)⟩
/-- a list of one's own is handed over for good -/
theorem SCall.freeze (i : Nat) {f : FuncId} {args : List V} {H : List Ob} {R : V → List Ob → Prop} {o ver n : Nat} {l : List V} (ha : args[i]? = some (.vec o ver 0 n)) (ho : ∃ es, H[o]? = some (.vec ver es l)) (hn : n = l.length) (h : SCall P f (args.set i (.slice l)) (H.set o .gone) R) : SCall P f args H R := by
  subst hn
  obtain ⟨es, ho⟩ := ho
  refine SCall.ghost (Gho.freeze o ho (argEnv_G (R := Fz o ver l) (fun x => .inl rfl) (.inr ⟨0, l.length, rfl, by simp, by simp⟩) args i 0 ha)) (by simp) h
theorem AllBytes_vb (l : List UInt8) : AllBytes (l.map vb) = True := eq_true fun x hx => by
  obtain ⟨b, _, rfl⟩ := List.mem_map.1 hx
  exact ⟨_, rfl⟩
theorem toByte_vb (l : List UInt8) : (l.map vb).map toByte = l := by
  rw [List.map_map]
  have : toByte ∘ vb = id := by
    funext b
    simp [vb, toByte, Function.comp]
  rw [this, List.map_id]
theorem maxLen_eq : maxLen = 9223372036854775807 := by decide
theorem isSlice1 (l : List V) : (V.slice l).isSlice = true := rfl
theorem isSlice2 (l : List V) : (V.fslice l).isSlice = true := rfl
theorem isSlice3 (o v a b : Nat) : (V.vec o v a b).isSlice = true := rfl
theorem SCall.then {f : FuncId} {args : List V} {H H1 : List Ob} {v : V} {R : V → List Ob → Prop} (h : SCall P f args H (fun r H' => r = v ∧ H' = H1)) (k : R v H1) : SCall P f args H R :=
  h.mono fun r H' ⟨h1, h2⟩ => by subst h1 h2; exact k
theorem HLt_set {n o : Nat} {H : List Ob} {x : Ob} (h : HLt n H) (hx : x.lt n) : HLt n (H.set o x) := fun y hy => by
  rcases List.mem_or_eq_of_mem_set hy with hy | rfl
  · exact h y hy
  · exact hx
theorem set_same {o : Nat} {H : List Ob} {x : Ob} (h : H[o]? = some x) : H.set o x = H := by
  apply List.ext_getElem?
  intro i
  by_cases hi : i = o
  · subst hi; rw [set_get_eq h, h]
  · rw [set_get_ne hi]
theorem HLt.get {n o : Nat} {H : List Ob} {x : Ob} (h : HLt n H) (hx : H[o]? = some x) : x.lt n := h x (List.mem_of_getElem? hx)
/-- AN ANSWER: all objects stay. -/
theorem RetW.keep {H0 H : List Ob} {R : V → List Ob → Prop} {r : V} (fs : Bool) (hl : H0.length ≤ H.length) (hL : HLt H.length H) (hok : okW H H.length r) (hR : R (EL.wk fs H H.length r) H) : RetW H0.length H0 R r H := by
  refine ⟨H.length, _, hl, Nat.le_refl _, hok.wk (fs := fs), fun o x ho hx => .inr (hL x (List.mem_of_getElem? hx)), ?_⟩
  rw [List.take_length]; exact hR
theorem ltL_rep {n k : Nat} {x : V} (h : x.lt n) : ltL n (List.replicate k x) := by
  rw [ltL_iff]
  intro y hy
  rw [(List.mem_replicate.1 hy).2]; exact h
theorem SCall.thenA {f : FuncId} {args args' : List V} {H H1 : List Ob} {v : V} {R : V → List Ob → Prop} (h : SCall P f args' H (fun r H' => r = v ∧ H' = H1)) (ha : All2 WkA args args') (k : R v H1) : SCall P f args H R :=
  (SCall.arg ha h).then k
theorem CallE.introA {f : FuncId} {args args' : List V} {H : List Ob} {v : V} {K : V → Prop} (h : SCall P f args' H (fun r H' => r = v ∧ H' = H)) (ha : All2 WkA args args') (k : K v) : CallE (fun v => SCall P f args H (fun r H' => r = v ∧ H' = H)) K :=
  CallE.intro v (SCall.arg ha h) k
theorem bne_eqI (a b : Int) : (a != b) = !(a == b) := rfl
theorem bne_eqB (a b : Bool) : (a != b) = !(a == b) := rfl
theorem Bo.vec {H : List Ob} {o ver es n : Nat} {l : List V} (ho : H[o]? = some (.vec ver es l)) (hn : n = l.length) (hl : ltL 0 l) : Bo H (.vec o ver 0 n) (.slice l) := by
  subst hn
  exact ⟨es, l, ho, by simp, by simp, hl⟩
theorem Bo.pre {H : List Ob} {o ver es n : Nat} {l : List V} (ho : H[o]? = some (.vec ver es l)) (hn : n ≤ l.length) (hl : ltL 0 l) : Bo H (.vec o ver 0 n) (.slice (l.take n)) :=
  ⟨es, l, ho, by simpa using hn, by simp, hl⟩
theorem Bo.fs {H : List Ob} {l : List V} (hl : ltL 0 l) : Bo H (.fslice l) (.slice l) := ⟨.inl rfl, hl⟩
theorem Bo.sl {H : List Ob} {l : List V} (hl : ltL 0 l) : Bo H (.slice l) (.slice l) := ⟨rfl, hl⟩
theorem take_mapV {α : Type} (f : α → V) (n : Nat) (l : List α) : List.take n (List.map f l) = List.map f (List.take n l) := List.map_take.symm
theorem drop_mapV {α : Type} (f : α → V) (n : Nat) (l : List α) : List.drop n (List.map f l) = List.map f (List.drop n l) := List.map_drop.symm
theorem wrap_byte (x : UInt8) : IntKind.i64.wrap (x.toNat : Int) = (x.toNat : Int) := by
  have := x.toNat_lt
  exact wrap64_id (by omega)
/-- an empty list in a variable of one's own becomes one's own -/
theorem Gho.adoptCell {n0 : Nat} {H : List Ob} {env : Env} (o i es : Nat) {cs : List V} (ho : H[o]? = some (.var cs)) (hi : cs[i]? = some (.fslice [])) (hn : n0 ≤ H.length) : Gho n0 env H env (H.set o (.var (cs.set i (.vec H.length 1 0 0))) ++ [.vec 1 es []]) := by
  intro g w hG
  have hz : g H.length = none := hG.none_of_ge (Nat.le_refl _)
  have hlt := lt_of_get ho
  obtain ⟨h1, h2⟩ := step_one hG H.length (setKey g H.length (some ⟨1, none, es, 0⟩)) (H ++ [.vec 1 es []]) w rfl rfl rfl
    (fun o ho => getElem?_snoc_ne ho) (fun o ho => setKey_other ho) (by simp) (Nat.le_refl _) (fun b hb _ => rfl)
    (fun k' b hk' hb => by rw [setKey_same] at hk'; injection hk' with e; subst e; cases hb)
    (fun h => absurd h (Nat.lt_irrefl _))
    (fun m => by
      rw [setKey_same, getElem?_snoc_eq]
      exact ⟨_, rfl, rfl, rfl, Nat.le_refl _, Nat.zero_le _, Nat.le_refl _, .inl ⟨rfl, rfl⟩⟩)
  have ho1 : (H ++ [Ob.vec 1 es []])[o]? = some (.var cs) := by rw [List.getElem?_append_left hlt]; exact ho
  obtain ⟨b, cur, et, fr, hq, hh, hr, hu⟩ := h1.var ho1
  have hset : (H ++ [Ob.vec 1 es []]).set o (.var (cs.set i (.vec H.length 1 0 0))) = H.set o (.var (cs.set i (.vec H.length 1 0 0))) ++ [.vec 1 es []] := List.set_append_left _ _ hlt
  have hrep : ∀ {c : Cx}, c.nobj = H.length + 1 → c.key = setKey g H.length (some ⟨1, none, es, 0⟩) → ∀ {cs : List V} {vs : List Value} {i : Nat}, cs[i]? = some (.fslice []) → Reps c cs vs → Reps c (cs.set i (.vec H.length 1 0 0)) vs := by
    intro c hc1 hc2 cs
    induction cs with
    | nil => intro vs i hi _; simp at hi
    | cons x cs ih =>
      intro vs i hi hr
      simp only [Reps] at hr
      obtain ⟨v, vs', rfl, k1, k2, k3⟩ := hr
      cases i with
      | zero =>
        simp at hi
        subst hi
        simp only [List.set_cons_zero, Reps]
        simp only [RepC] at k2
        obtain ⟨a, es', e1, _, _⟩ := k2
        injection e1 with e1
        subst e1
        refine ⟨_, vs', rfl, trivial, ?_, k3⟩
        simp only [RepC]
        refine ⟨⟨by omega, by rw [hc2, setKey_same]; intro e; injection e with e; injection e with e _; cases e⟩, _, rfl, rfl, fun k hk => ?_⟩
        rw [hc2, setKey_same] at hk
        injection hk with hk
        subst hk
        exact ⟨Nat.le_refl _, fun _ => ⟨Nat.le_refl _, a, rfl, fun h => absurd h (Nat.lt_irrefl _)⟩⟩
      | succ i =>
        simp only [List.set_cons_succ, Reps]
        exact ⟨v, vs', rfl, k1, k2, ih (by simpa using hi) k3⟩
  have hlen : (H.set o (.var (cs.set i (.vec H.length 1 0 0))) ++ [Ob.vec 1 es []]).length = (H ++ [Ob.vec 1 es []]).length := by simp
  obtain ⟨h3, h4⟩ := step_one h1 o (setKey g H.length (some ⟨1, none, es, 0⟩)) (H.set o (.var (cs.set i (.vec H.length 1 0 0))) ++ [.vec 1 es []]) w rfl rfl rfl
    (fun o' ho' => by rw [← hset]; exact set_get_ne ho') (fun _ _ => rfl) (by rw [hlen]; exact Nat.le_refl _) (Nat.le_refl _) (fun _ _ _ => rfl)
    (fun k' b hk' hb => .inr ⟨k', hk', hb⟩) (fun _ k' hk' => ⟨k', hk', Nat.le_refl _, fun _ => rfl⟩)
    (fun m => by
      rw [show (H.set o (.var (cs.set i (.vec H.length 1 0 0))) ++ [Ob.vec 1 es []])[o]? = some (.var (cs.set i (.vec H.length 1 0 0))) from by rw [← hset, set_get_eq ho1]]
      refine ⟨b, cur, et, fr, hq, hh, hrep (by simp [cxOf]) rfl hi ?_, hu⟩
      exact Reps.mono m _ _ hr)
  refine ⟨_, h3, fun gs ws h => (h.trans h2).trans h4, fun t v hv => (hv.mono h2.mono).mono h4.mono⟩
theorem wrap_m1 : IntKind.i64.wrap (-1) = -1 := by decide
theorem wrap_z : IntKind.i64.wrap 0 = 0 := by decide
theorem wrap_1 : IntKind.i64.wrap 1 = 1 := by decide
theorem ltL_set {n i : Nat} {l : List V} {x : V} (h : ltL n l) (hx : x.lt n) : ltL n (l.set i x) := by
  rw [ltL_iff] at *
  intro y hy
  rcases List.mem_or_eq_of_mem_set hy with hy | rfl
  · exact h y hy
  · exact hx
theorem hgetS {H L : List Ob} {o k : Nat} {x : Ob} : (H.set o x ++ L)[H.length + k]? = L[k]? := by
  rw [List.getElem?_append_right (by simp), List.length_set, Nat.add_sub_cancel_left]
theorem hget0S {H L : List Ob} {o : Nat} {x : Ob} : (H.set o x ++ L)[H.length]? = L[0]? := by
  rw [List.getElem?_append_right (by simp), List.length_set, Nat.sub_self]
theorem hsetS {H L : List Ob} {o k : Nat} {x y : Ob} : (H.set o x ++ L).set (H.length + k) y = H.set o x ++ L.set k y := by
  rw [List.set_append_right _ _ (by simp), List.length_set, Nat.add_sub_cancel_left]
theorem hset0S {H L : List Ob} {o : Nat} {x y : Ob} : (H.set o x ++ L).set H.length y = H.set o x ++ L.set 0 y := by
  rw [List.set_append_right _ _ (by simp), List.length_set, Nat.sub_self]
theorem getset {H L : List Ob} {o : Nat} (h : o < H.length) {x : Ob} : (H.set o x ++ L)[o]? = some x := by
  rw [List.getElem?_append_left (by simpa using h), List.getElem?_set_self h]
theorem setset {H L : List Ob} {o : Nat} (h : o < H.length) {x y : Ob} : (H.set o x ++ L).set o y = H.set o y ++ L := by
  rw [List.set_append_left _ _ (by simpa using h), List.set_set]
theorem getold {H L : List Ob} {o : Nat} {x : Ob} (h : H[o]? = some x) : (H ++ L)[o]? = some x := by
  rw [List.getElem?_append_left (lt_of_get h), h]
theorem setold {H L : List Ob} {o : Nat} (h : o < H.length) {y : Ob} : (H ++ L).set o y = H.set o y ++ L := List.set_append_left _ _ h
theorem at_mapA {α : Type} (f : α → V) (l : List α) (m : List V) (i : Nat) (h : i < l.length) : V.at (l.map f ++ m) i = f l[i] := by
  unfold V.at
  rw [List.getD_eq_getElem?_getD, List.getElem?_append_left (by simpa using h), List.getElem?_map, List.getElem?_eq_getElem h]
  rfl
/-- so many rounds -/
def rndE (P : Program) (n0 n : Nat) (c : Code) (Q : Exit → Env → List Ob → Prop) : Nat → Env → List Ob → Prop
  | 0, _, _ => False
  | k + 1, env, H => EWn P n0 n c (thenE (rndE P n0 n c Q k) Q) env H
theorem EWn.rounds {n0 n : Nat} {c : Code} {Q : Exit → Env → List Ob → Prop} {env : Env} {H : List Ob} (k : Nat) (h : rndE P n0 n c Q k env H) : EWn P n0 n (.loop c) Q env H := by
  refine EWn.loop (fun k env H => rndE P n0 n c Q k env H) k h fun k env H h => ?_
  cases k with
  | zero => exact h.elim
  | succ k =>
    refine EWn.mono (show EWn P n0 n c (thenE (rndE P n0 n c Q k) Q) env H from h) fun e env' H' h => ?_
    cases e with
    | normal => exact UpTo.here ⟨k, Nat.lt_succ_self _, h⟩
    | _ => exact h
/-- a loop, its first round -/
theorem EWn.first {n0 n : Nat} {c : Code} {Q : Exit → Env → List Ob → Prop} {env : Env} {H : List Ob} (I : Nat → Env → List Ob → Prop) (m : Nat) (h : EWn P n0 n c (thenE (UpTo n0 fun env' H' => I m env' H') Q) env H)
    (hb : ∀ k env H, I k env H → EWn P n0 n c (thenE (UpTo n0 fun env' H' => ∃ k', k' < k ∧ I k' env' H') Q) env H) : EWn P n0 n (.loop c) Q env H := by
  refine EWn.loop (fun k e h => (k = m + 1 ∧ e = env ∧ h = H) ∨ (k ≤ m ∧ I k e h)) (m + 1) (.inl ⟨rfl, rfl, rfl⟩) fun k e h hk => ?_
  rcases hk with ⟨rfl, rfl, rfl⟩ | ⟨hk, hI⟩
  · refine h.mono fun e' env' H' h => ?_
    cases e' with
    | normal => obtain ⟨e2, H2, h1, h2⟩ := h; exact ⟨e2, H2, h1, m, Nat.lt_succ_self _, .inr ⟨Nat.le_refl _, h2⟩⟩
    | _ => exact h
  · refine (hb k e h hI).mono fun e' env' H' h => ?_
    cases e' with
    | normal => obtain ⟨e2, H2, h1, k', hk', h2⟩ := h; exact ⟨e2, H2, h1, k', hk', .inr ⟨by omega, h2⟩⟩
    | _ => exact h
theorem eset_G {R : V → V → Prop} (hr : ∀ x, R x x) {t : Nat} {x y : V} (h : R x y) (hd : x ≠ .dead) : ∀ {env : Env}, eget env t = x → EnvG R env (eset env t y)
  | [], hx => absurd hx.symm hd
  | (t', z) :: env, hx => by
    simp only [eget] at hx
    simp only [eset]
    split
    · rename_i e
      rw [if_pos e] at hx
      subst hx
      exact ⟨⟨e, .inr h⟩, EnvG.rfl' hr env⟩
    · rename_i e
      rw [if_neg e] at hx
      exact ⟨⟨rfl, .inr (hr z)⟩, eset_G hr h hd hx⟩
/-- a list of one's own that one slot has is told as a list -/
theorem Gho.frz {n0 : Nat} {H : List Ob} {env : Env} (t : Nat) {o ver es k : Nat} {l : List V} (ht : eget env t = .vec o ver 0 k) (ho : H[o]? = some (.vec ver es l)) (hk : k = l.length) : Gho n0 env H (eset env t (.slice l)) (H.set o .gone) := by
  subst hk
  exact Gho.freeze o ho (eset_G (fun x => .inl rfl) (.inr ⟨0, l.length, rfl, by simp, by simp⟩) (by simp) ht)
/-- AN ANSWER: the objects of H1 stay, those behind are given up. -/
theorem RetW.cutK {H0 H : List Ob} {R : V → List Ob → Prop} {r : V} (fs : Bool) (H1 L2 : List Ob) (hH : H = H1 ++ L2) (hl : H0.length ≤ H1.length) (hL : HLt H1.length H1) (hok : okW H H1.length r) (hR : R (EL.wk fs H H1.length r) H1) : RetW H0.length H0 R r H := by
  subst hH
  have ht : (H1 ++ L2).take H1.length = H1 := List.take_left
  refine ⟨H1.length, _, hl, by simp, hok.wk (fs := fs), fun o x ho hx => .inr ?_, ?_⟩
  · rw [List.getElem?_append_left ho] at hx
    exact hL x (List.mem_of_getElem? hx)
  · rw [ht]; exact hR
theorem LTB : type_of% (And.intro (And.intro (And.intro (And.intro (And.intro (@Ob.lt.eq_5) (@Ob.lt.eq_6)) (And.intro (@Ob.lt.eq_7) (@HLt_append))) (And.intro (And.intro (@HLt_cons) (@HLt_nil)) (And.intro (@Ob.lt.eq_1) (@Ob.lt.eq_2)))) (And.intro (And.intro (And.intro (@Ob.lt.eq_3) (@Ob.lt.eq_4)) (And.intro (@ltL_append) (@ltL.eq_1))) (And.intro (And.intro (@ltL.eq_2) (@V.lt.eq_1)) (And.intro (@V.lt.eq_2) (@V.lt.eq_3))))) (And.intro (And.intro (And.intro (And.intro (@V.lt.eq_4) (@V.lt.eq_5)) (And.intro (@V.lt.eq_6) (@V.lt.eq_7))) (And.intro (And.intro (@V.lt.eq_8) (@V.lt.eq_9)) (And.intro (@V.lt.eq_10) (@V.lt.eq_11)))) (And.intro (And.intro (And.intro (@V.lt.eq_12) (@okW0.eq_1)) (And.intro (@okW0.eq_2) (@okW0.eq_3))) (And.intro (And.intro (@okW1.eq_1) (@okW1.eq_2)) (And.intro (@okW.eq_1) (@okW.eq_2)))))) := And.intro (And.intro (And.intro (And.intro (And.intro (@Ob.lt.eq_5) (@Ob.lt.eq_6)) (And.intro (@Ob.lt.eq_7) (@HLt_append))) (And.intro (And.intro (@HLt_cons) (@HLt_nil)) (And.intro (@Ob.lt.eq_1) (@Ob.lt.eq_2)))) (And.intro (And.intro (And.intro (@Ob.lt.eq_3) (@Ob.lt.eq_4)) (And.intro (@ltL_append) (@ltL.eq_1))) (And.intro (And.intro (@ltL.eq_2) (@V.lt.eq_1)) (And.intro (@V.lt.eq_2) (@V.lt.eq_3))))) (And.intro (And.intro (And.intro (And.intro (@V.lt.eq_4) (@V.lt.eq_5)) (And.intro (@V.lt.eq_6) (@V.lt.eq_7))) (And.intro (And.intro (@V.lt.eq_8) (@V.lt.eq_9)) (And.intro (@V.lt.eq_10) (@V.lt.eq_11)))) (And.intro (And.intro (And.intro (@V.lt.eq_12) (@okW0.eq_1)) (And.intro (@okW0.eq_2) (@okW0.eq_3))) (And.intro (And.intro (@okW1.eq_1) (@okW1.eq_2)) (And.intro (@okW.eq_1) (@okW.eq_2)))))
end Go.EL

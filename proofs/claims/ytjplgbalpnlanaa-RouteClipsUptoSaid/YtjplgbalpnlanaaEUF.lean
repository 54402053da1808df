/- The value logic, part UF: a region whose order is open, of which what is written is new: the objects may come in any order. -/
import Derived.Test.YtjplgbalpnlanaaEU
set_option linter.unusedVariables false
set_option linter.unusedSimpArgs false
namespace Go.EL
open Go
variable {P : Program} {T : Nat → TD}

/-! ### the step of an object that is made in its place -/
section
variable {g : Nat → Option Key} {H : List Ob} {w : World} {env : Env} {a : Act} {own : Bool}
theorem new_var_fill (hG : Good g H w) {p : Nat} (hp : H[p]? = some .hole) {cs : List V} {vs : Array Value} (hr : Reps (cxOf g H.length w) cs vs.toList) (t : TypeId) :
    ∃ g', Good g' (H.set p (.var cs)) (pushW w (.cells vs t)) ∧ Ext g H.length w g' H.length (pushW w (.cells vs t)) ∧ RepV (cxOf g' H.length (pushW w (.cells vs t))) (.ref p 0) (.pointer (some ⟨w.heap.size, 0, none⟩)) := by
  have hlt := (List.getElem?_eq_some_iff.1 hp).1
  have hk : g p = some hole := by have := hG.ob p; rw [hp] at this; exact this
  have := step_fill hG hlt hk (.var cs) (.cells vs t) ⟨0, some w.heap.size, 0, 0⟩ rfl (fun g' hg' m => ⟨w.heap.size, vs, t, (0, 0), rfl, heap_pushW_new _ _, Reps.mono m _ _ hr, fun j hj => by simp⟩)
  refine ⟨_, this.1, this.2, RepV.mk_leaf ?_ (by simp) (by simp)⟩
  simp only [RepC]
  refine ⟨has_set hlt (.inl (by simp)), _, rfl, rfl, fun k b hk _ hb => ?_⟩
  have hk : setKey g p (some ⟨0, some w.heap.size, 0, 0⟩) p = some k := hk
  rw [setKey_same] at hk
  injection hk with hk
  subst hk
  injection hb with hb
  subst hb
  rfl

theorem al_shape {o : Oper} (hal : isAl (some o) = true) {v0 : V} {H1 : List Ob} (h : ewOp P T own o (fun v H' => v = v0 ∧ H' = H1) env H) :
    ∃ cs, H1 = H ++ [.var cs] ∧ v0 = .ref H.length 0 := by
  obtain ⟨dst, op, ty, pos, after, guard⟩ := o
  unfold ewOp at h
  cases op <;> simp only [isAl, Bool.false_eq_true] at hal
  · simp only [xop] at h
    exact ⟨_, h.2.2.symm, h.2.1.symm⟩
  · simp only [xop] at h
    exact ⟨_, h.2.2.symm, h.2.1.symm⟩

theorem al_fill (hTO : TyOK P T) {o : Oper} (hal : isAl (some o) = true) {v0 : V} {H0 : List Ob} {cs : List V} (h : ewOp P T own o (fun v H' => v = v0 ∧ H' = H0 ++ [.var cs]) env H0) (hρ : EnvRep (cxOf g H.length w) env a) (hG : Good g H w)
    (hp : H[H0.length]? = some .hole) {rd : Option Nat} {next : Act → World → Prop} {Q : Exit → Act → World → Prop}
    (hn : ∀ cv g' w', Good g' (H.set H0.length (.var cs)) w' → Ext g H.length w g' H.length w' → RepV (cxOf g' H.length w') v0 cv → next (a.put o.dst cv) w') : o.wpIn (fz rd) 0 P a w next Q := by
  obtain ⟨dst, op, ty, pos, after, guard⟩ := o
  unfold ewOp at h
  have hρ := hρ.ev
  cases op <;> simp only [isAl, Bool.false_eq_true] at hal
  case alloc e =>
    simp only [xop] at h
    obtain ⟨hk, h1, h2⟩ := h
    have h2 := List.append_cancel_left h2
    simp only [List.cons.injEq, Ob.var.injEq, and_true] at h2
    obtain ⟨z, i1, i2⟩ := (hTO.at hk).run_zeroValue w
    obtain ⟨g', k1, k2, k3⟩ := new_var_fill hG hp (zEqs_reps (c := cxOf g H.length w) i2) e
    refine ⟨fun _ _ => trivial, ?_⟩
    rw [Oper.semAt_eq _ _ _ (fun c hc => by cases hc)]
    have hrun : (execOp a.eval ⟨dst, .alloc e, ty, pos, after, guard⟩).run P w = .ok (.value (.pointer (some ⟨w.heap.size, 0, none⟩))) (pushW w (.cells z.cells e)) := by
      simp [execOp, Instr.alloc, i1, newVar, newRow, pushW]
    rw [hrun]
    rw [h2] at k1
    exact hn _ _ _ k1 k2 (h1 ▸ k3)
  case box e x =>
    simp only [xop] at h
    obtain ⟨hk, h1, h2⟩ := h
    have h2 := List.append_cancel_left h2
    simp only [List.cons.injEq, Ob.var.injEq, and_true] at h2
    obtain ⟨g', k1, k2, k3⟩ := new_var_fill hG hp (cells_of (hρ x) hk) e
    refine ⟨fun _ _ => trivial, ?_⟩
    rw [Oper.semAt_eq _ _ _ (fun c hc => by cases hc)]
    have hrun : (execOp a.eval ⟨dst, .box e x, ty, pos, after, guard⟩).run P w = .ok (.value (.pointer (some ⟨w.heap.size, 0, none⟩))) (pushW w (.cells (a.eval x).cells e)) := by
      simp [execOp, Instr.box, newVar, newRow, pushW]
    rw [hrun]
    rw [h2] at k1
    exact hn _ _ _ k1 k2 (h1 ▸ k3)

theorem store_shape {o : Oper} {t : TypeId} {d : Nat} {x : Operand} (ho : o.op = .store t (.tmp d) x) {p : Nat} (hd : eget env d = .ref p 0) {v0 : V} {H1 : List Ob} (h : ewOp P T own o (fun v H' => v = v0 ∧ H' = H1) env H) :
    ∃ cs new, H[p]? = some (.var cs) ∧ H1 = H.set p (.var new) ∧ ∀ HS : List Ob, HS[p]? = some (.var cs) → ewOp P T own o (fun v H' => v = v0 ∧ H' = HS.set p (.var new)) env HS := by
  unfold ewOp at h
  have e : evl env (.tmp d) = .ref p 0 := hd
  rw [ho] at h
  simp only [xop, e] at h
  split at h
  case h_1 pre v H' hx =>
    split at hx
    · cases hx
    · rename_i hk
      simp only [xstore] at hx
      split at hx
      · rename_i cs hcs
        injection hx with e1 e2 e3
        subst e1 e2 e3
        refine ⟨cs, _, hcs, h.2.2.symm, fun HS hHS => ?_⟩
        unfold ewOp
        rw [ho]
        simp only [xop, e, xstore, hHS, hk, if_false]
        exact ⟨h.1, h.2.1, rfl⟩
      · cases hx
  all_goals first
    | exact h.elim
    | (rename_i hx; split at hx <;> first | cases hx | (simp only [xstore] at hx; split at hx <;> cases hx))
end

/-! ### the look at a region -/
def isAlW (ops : Array Oper) (W : List Nat) (i : Nat) : Bool := W.contains i && isAl ops[i]?
def rkA (ops : Array Oper) (W : List Nat) : Nat → Nat
  | 0 => 0
  | j + 1 => if isAlW ops W j = true then rkA ops W j + 1 else rkA ops W j
def alOf (ops : Array Oper) (W : List Nat) (d : Nat) : Option Nat := (List.range ops.size).find? fun i => isAlW ops W i && ((ops[i]?).bind (·.dst) == some d)
def stAt (o : Oper) : Option Nat := match o.op with
  | .store _ (.tmp d) _ => some d
  | _ => none
def objOf (ops : Array Oper) (W : List Nat) (j : Nat) : Option Nat :=
  if W.contains j = true then (if isAl ops[j]? = true then some (rkA ops W j) else ((ops[j]?).bind stAt).bind fun d => (alOf ops W d).map (rkA ops W)) else none
def drawOK2 (n : Nat) (ops : Array Oper) (W F : List Nat) : Bool :=
  let b := bef ops.toList
  (List.range ops.size).all fun j => match ops[j]? with
    | none => true
    | some oj =>
      (!W.contains j || ((match oj.guard with | none => true | some _ => false) && (isAl (some oj) || match stAt oj with
        | none => false
        | some d => match alOf ops W d with
          | none => false
          | some i => decide (i < j) && (List.range ops.size).all fun k => !((ops[k]?).bind (·.dst) == some d) || k == i))) &&
      (W.contains j || F.contains j || stabOp oj) &&
      (oj.after.toList.all fun e => !Region.binds .any e || decide (e.on < j)) && (match oj.dst with | some d => decide (d < n) | none => true) &&
      (List.range j).all fun i => match ops[i]? with
        | none => true
        | some oi => (oi.apart ops oj || (b.getD j 0).testBit i) && (!((objOf ops W i).isSome && objOf ops W i == objOf ops W j) || (b.getD j 0).testBit i)

def drawStep2 (P : Program) (T : Nat → TD) (own : Bool) (o : Oper) (inW free : Bool) (K : V → List Ob → Prop) (env : Env) (H0 H : List Ob) : Prop :=
  if inW = true then ChangeW P T own o K env H else if free = true then FreeW P T own o (fun v => K v H) env else StabW P T own o (fun v => K v H) env H0
def ewDraw2 (P : Program) (T : Nat → TD) (own : Bool) (ops : List Oper) (F W : List Nat) (H0 : List Ob) : Nat → List Oper → (Env → List Ob → Prop) → Env → List Ob → Prop
  | _, [], K, env, H => K env H
  | k, o :: rest, K, env, H =>
    match o.guard with
    | none => drawStep2 P T own o (W.contains k) (isFree F W k) (fun v H' => ewDraw2 P T own ops F W H0 (k + 1) rest K (eput env o.dst v) H') env H0 H
    | some (j, want) => match gval ops env j with
      | .bool q => IfW (q == want) (drawStep2 P T own o (W.contains k) (isFree F W k) (fun v H' => ewDraw2 P T own ops F W H0 (k + 1) rest K (eput env o.dst v) H') env H0 H) (ewDraw2 P T own ops F W H0 (k + 1) rest K (eput env o.dst .dead) H)
      | _ => False

/-- what is known of one operation -/
def OpFact2 (P : Program) (T : Nat → TD) (own : Bool) (ops : List Oper) (F W : List Nat) (H0 : List Ob) (o : Oper) (k : Nat) (env : Env) (H : List Ob) (v : V) (H' : List Ob) : Prop :=
  (match o.guard with
   | none => True
   | some (j, want) => gval ops env j = .bool want) ∧
    ((W.contains k = true ∧ ewOp P T own o (fun v' H1 => v' = v ∧ H1 = H') env H) ∨
     (W.contains k = false ∧ H' = H ∧ ∀ L, L = [] ∨ stabOp o = true ∨ isFree F W k = true → ewOp P T own o (fun v' H1 => v' = v ∧ H1 = H0 ++ L) env (H0 ++ L))) ∨
  (∃ j want q, o.guard = some (j, want) ∧ gval ops env j = .bool q ∧ q ≠ want ∧ v = .dead ∧ H' = H)

theorem drawStep2_fact {own : Bool} {F W : List Nat} {H0 : List Ob} {o : Oper} {k : Nat} {K : V → List Ob → Prop} {env : Env} {H : List Ob} (h : drawStep2 P T own o (W.contains k) (isFree F W k) K env H0 H) :
    ∃ v H', ((W.contains k = true ∧ ewOp P T own o (fun v' H1 => v' = v ∧ H1 = H') env H) ∨
     (W.contains k = false ∧ H' = H ∧ ∀ L, L = [] ∨ stabOp o = true ∨ isFree F W k = true → ewOp P T own o (fun v' H1 => v' = v ∧ H1 = H0 ++ L) env (H0 ++ L))) ∧ K v H' := by
  unfold drawStep2 at h
  split at h
  · rename_i hW
    unfold ChangeW at h
    split at h
    · rename_i pre v H' hx
      refine ⟨v, H', .inl ⟨hW, ?_⟩, h.2⟩
      unfold ewOp; rw [hx]; exact ⟨h.1, rfl, rfl⟩
    · rename_i f args hx
      obtain ⟨v, H1, h1, h2⟩ := h
      refine ⟨v, H1, .inl ⟨hW, ?_⟩, h2⟩
      unfold ewOp; rw [hx]; exact h1
    · exact h.elim
  · rename_i hW
    have hW : W.contains k = false := by simpa using hW
    split at h
    · rename_i hF
      unfold FreeW at h
      split at h
      · rename_i pre v H' hx
        obtain ⟨rfl, hp, hk⟩ := h
        refine ⟨v, H, .inr ⟨hW, rfl, fun L _ => ?_⟩, hk⟩
        obtain ⟨pre', h1, h2⟩ := xop_free hx hp (H0 ++ L)
        unfold ewOp; rw [h1]; exact ⟨h2, rfl, rfl⟩
      · rename_i f args hx
        obtain ⟨v, h1, h2⟩ := h
        refine ⟨v, H, .inr ⟨hW, rfl, fun L _ => ?_⟩, h2⟩
        obtain ⟨c, fo, first, cap, ho, hc, hq, ha⟩ := xop_call hx
        have : xop T own (evl env) (H0 ++ L) o.op = .call f args := by
          rw [ho]
          simp only [xop, hc, hq, ha]
        unfold ewOp; rw [this]; exact h1 _
      · exact h.elim
    · rename_i hF
      unfold StabW at h
      split at h
      · rename_i pre v H' hx
        obtain ⟨rfl, hp, hk⟩ := h
        refine ⟨v, H, .inr ⟨hW, rfl, fun L hL => ?_⟩, hk⟩
        rcases hL with rfl | hL | hL
        · rw [List.append_nil]; unfold ewOp; rw [hx]; exact ⟨hp, rfl, rfl⟩
        · obtain ⟨pre', h1, h2⟩ := xop_ext hL hx hp L
          unfold ewOp; rw [h1]; exact ⟨h2, rfl, rfl⟩
        · exact absurd hL hF
      · rename_i f args hx
        obtain ⟨v, h1, h2⟩ := h
        refine ⟨v, H, .inr ⟨hW, rfl, fun L _ => ?_⟩, h2⟩
        obtain ⟨c, fo, first, cap, ho, hc, hq, ha⟩ := xop_call hx
        have : xop T own (evl env) (H0 ++ L) o.op = .call f args := by
          rw [ho]
          simp only [xop, hc, hq, ha]
        unfold ewOp; rw [this]; exact h1 L
      · exact h.elim

theorem ewDraw2_table {own : Bool} {ops : List Oper} {F W : List Nat} {H0 : List Ob} {K : Env → List Ob → Prop} : ∀ (l : List Oper) (k : Nat) (env : Env) (H : List Ob), ewDraw2 P T own ops F W H0 k l K env H →
    ∃ (es : Nat → Env) (hs : Nat → List Ob) (vs : Nat → V), es k = env ∧ hs k = H ∧ (∀ i o, l[i]? = some o → es (k + i + 1) = eput (es (k + i)) o.dst (vs (k + i)) ∧ OpFact2 P T own ops F W H0 o (k + i) (es (k + i)) (hs (k + i)) (vs (k + i)) (hs (k + i + 1))) ∧
      K (es (k + l.length)) (hs (k + l.length))
  | [], k, env, H, h => ⟨fun _ => env, fun _ => H, fun _ => .dead, rfl, rfl, fun i o ho => by simp at ho, h⟩
  | o :: rest, k, env, H, h => by
    have fin : ∀ v H', OpFact2 P T own ops F W H0 o k env H v H' → ewDraw2 P T own ops F W H0 (k + 1) rest K (eput env o.dst v) H' → ∃ (es : Nat → Env) (hs : Nat → List Ob) (vs : Nat → V), es k = env ∧ hs k = H ∧ (∀ i o', (o :: rest)[i]? = some o' → es (k + i + 1) = eput (es (k + i)) o'.dst (vs (k + i)) ∧ OpFact2 P T own ops F W H0 o' (k + i) (es (k + i)) (hs (k + i)) (vs (k + i)) (hs (k + i + 1))) ∧
      K (es (k + (o :: rest).length)) (hs (k + (o :: rest).length)) := by
      intro v H' hf hr
      obtain ⟨es, hs, vs, e1, e2, e3, e4⟩ := ewDraw2_table rest (k + 1) _ _ hr
      refine ⟨fun i => if i = k then env else es i, fun i => if i = k then H else hs i, fun i => if i = k then v else vs i, by simp, by simp, fun i o' ho' => ?_, ?_⟩
      · cases i with
        | zero =>
          simp only [List.getElem?_cons_zero, Option.some.injEq] at ho'
          subst ho'
          simp only [Nat.add_zero, if_true]
          have n1 : ¬ (k + 1 = k) := by omega
          simp only [n1, if_false, e1, e2]
          exact ⟨trivial, hf⟩
        | succ i =>
          simp only [List.getElem?_cons_succ] at ho'
          have := e3 i o' ho'
          have n1 : ¬ (k + (i + 1) = k) := by omega
          have n2 : ¬ (k + (i + 1) + 1 = k) := by omega
          simp only [n1, n2, if_false]
          rw [show k + (i + 1) = k + 1 + i by omega]
          exact this
      · have n3 : ¬ (k + (o :: rest).length = k) := by simp
        simp only [n3, if_false]
        rw [List.length_cons, show k + (rest.length + 1) = k + 1 + rest.length by omega]
        exact e4
    simp only [ewDraw2] at h
    cases hg : o.guard with
    | none =>
      rw [hg] at h
      obtain ⟨v, H', h1, h2⟩ := drawStep2_fact h
      exact fin v H' (.inl ⟨by rw [hg]; trivial, h1⟩) h2
    | some jw =>
      obtain ⟨j, want⟩ := jw
      rw [hg] at h
      simp only at h
      split at h
      · rename_i q hq
        by_cases hqw : q = want
        · subst hqw
          obtain ⟨v, H', h1, h2⟩ := drawStep2_fact (h.1 (by simp))
          exact fin v H' (.inl ⟨by rw [hg]; exact hq, h1⟩) h2
        · exact fin .dead H (.inr ⟨j, want, q, hg, hq, hqw, rfl, rfl⟩) (h.2 (by simpa using hqw))
      · exact h.elim

/-! ### every order -/
theorem Seen.unique {α : Type} {m : Nat} {dst : Nat → Option Nat} {val : Nat → α} {e0 : Nat → α} {fl : Nat → Bool} {t : Nat} {v v' : α} (h : Seen m dst val e0 fl t v) (h' : Seen m dst val e0 fl t v') : v = v' := by
  rcases h with ⟨j, a1, a2, a3, a4, a5⟩ | ⟨a1, a2⟩ <;> rcases h' with ⟨j', b1, b2, b3, b4, b5⟩ | ⟨b1, b2⟩
  · rcases Nat.lt_trichotomy j j' with h | h | h
    · exact absurd b3 (a5 j' h b1 b2)
    · subst h; exact a4.symm.trans b4
    · exact absurd a3 (b5 j h a1 a2)
  · exact absurd a3 (b1 j a1 a2)
  · exact absurd b3 (a1 j' b1 b2)
  · exact a2.trans b2.symm
theorem seenO_text {m : Nat} {dst : Nat → Option Nat} {f : Nat → Ob} {t : Nat} (h0 : f 0 = .hole) (h : ∀ i, i < m → dst i ≠ some t → f (i + 1) = f i) : ∀ k, k ≤ m → Seen m dst (fun j => f (j + 1)) (fun _ => .hole) (fun j => decide (j < k)) t (f k)
  | 0, _ => .inr ⟨fun k _ h => by simp at h, h0⟩
  | k + 1, hk => by
    have ih := seenO_text h0 h k (by omega)
    by_cases hd : dst k = some t
    · exact .inl ⟨k, by omega, by simp, hd, rfl, fun j h1 h2 h3 => by simp at h3; omega⟩
    · rw [h k (by omega) hd]
      refine ih.congr (fun j h1 h2 => ?_)
      have : j ≠ k := fun e => hd (e ▸ h2)
      simp; omega
theorem rkA_mono {ops : Array Oper} {W : List Nat} {i : Nat} : ∀ j, i ≤ j → rkA ops W i ≤ rkA ops W j
  | 0, h => by rw [Nat.le_zero.1 h]; exact Nat.le_refl _
  | j + 1, h => by
    by_cases e : i = j + 1
    · rw [e]; exact Nat.le_refl _
    · have := rkA_mono (ops := ops) (W := W) (i := i) j (by omega)
      simp only [rkA]
      split <;> omega
theorem step_holes {g : Nat → Option Key} {H : List Ob} {w : World} (hG : Good g H w) : ∀ r, ∃ g', Good g' (H ++ List.replicate r .hole) w ∧ Ext g H.length w g' (H ++ List.replicate r Ob.hole).length w
  | 0 => ⟨g, by simpa using hG, by simpa using Ext.refl g H.length w⟩
  | r + 1 => by
    obtain ⟨g1, h1, h2⟩ := step_holes hG r
    have h3 := step_hole h1
    have e : H ++ List.replicate (r + 1) Ob.hole = (H ++ List.replicate r Ob.hole) ++ [Ob.hole] := by rw [List.append_assoc, ← List.replicate_succ']
    refine ⟨_, by rw [e]; exact h3.1, ?_⟩
    rw [e, List.length_append (as := H ++ List.replicate r Ob.hole)]
    exact h2.trans h3.2
section
variable {own : Bool} {n : Nat} {ops : Array Oper} {W : List Nat}
theorem EW.draw2 (hTO : TyOK P T) (hm : P.follows .mixedOrders = true) {id : Nat} {F : List Nat} (keep : Nat → List Nat) (hd : drawOK2 n ops W F = true) {Q : Exit → Env → List Ob → Prop} {env : Env} {H : List Ob}
    (h : ewDraw2 P T own ops.toList F W H 0 ops.toList (fun env' H' => Q .normal (restr (keep id) env') H') env H) : EW P n (.region id ops true) Q env H := by
  intro rd ds g a w hR
  obtain ⟨es, hs, vs, e1, e2, e3, e4⟩ := ewDraw2_table _ _ _ _ h
  simp only [Nat.zero_add, Array.length_toList] at e1 e2 e3 e4
  subst e1 e2
  let m := ops.size
  let dst : Nat → Option Nat := fun j => (ops[j]?).bind (·.dst)
  let obj : Nat → Option Nat := objOf ops W
  have hop : ∀ j o, ops[j]? = some o → ops.toList[j]? = some o := fun j o h => by rw [Array.getElem?_toList]; exact h
  have hget : ∀ j, j < m → ∃ o, ops[j]? = some o := fun j hj => ⟨ops[j], by simp [m] at hj; simp [hj]⟩
  -- the look
  have look : ∀ j o, ops[j]? = some o → (W.contains j = true → o.guard = none ∧ (isAl (some o) = true ∨ ∃ d i, stAt o = some d ∧ alOf ops W d = some i ∧ i < j ∧ ∀ k, k < m → dst k = some d → k = i)) ∧
      (W.contains j = true ∨ F.contains j = true ∨ stabOp o = true) ∧
      (∀ e ∈ o.after.toList, Region.binds .any e = true → e.on < j) ∧ (∀ d, o.dst = some d → d < n) ∧
      ∀ i oi, i < j → ops[i]? = some oi → (oi.apart ops o = true ∨ ((bef ops.toList).getD j 0).testBit i = true) ∧ ((obj i).isSome = true → obj i = obj j → ((bef ops.toList).getD j 0).testBit i = true) := by
    intro j o hj
    have hjm : j < ops.size := (Array.getElem?_eq_some_iff.1 hj).1
    have := List.all_eq_true.1 hd j (List.mem_range.2 hjm)
    simp only [hj, Bool.and_eq_true, Bool.or_eq_true, List.all_eq_true, List.mem_range] at this
    obtain ⟨⟨⟨⟨q0, qr⟩, q1⟩, q2⟩, q3⟩ := this
    refine ⟨fun hW => ?_, ?_, fun e he hb => ?_, fun d hd => ?_, fun i oi hi hoi => ?_⟩
    · rcases q0 with q0 | ⟨q0, q4⟩
      · rw [hW] at q0; cases q0
      · have hgn : o.guard = none := by
          cases hg : o.guard with
          | none => rfl
          | some _ => rw [hg] at q0; cases q0
        refine ⟨hgn, ?_⟩
        rcases q4 with q4 | q4
        · exact .inl q4
        · right
          cases hst : stAt o with
          | none => rw [hst] at q4; cases q4
          | some d =>
            rw [hst] at q4
            simp only at q4
            cases hal : alOf ops W d with
            | none => rw [hal] at q4; cases q4
            | some i =>
              rw [hal] at q4
              simp only [Bool.and_eq_true, List.all_eq_true, List.mem_range, Bool.or_eq_true, Bool.not_eq_true'] at q4
              refine ⟨d, i, rfl, hal, of_decide_eq_true q4.1, fun k hk hdk => ?_⟩
              rcases q4.2 k hk with h | h
              · have hdk : ((ops[k]?).bind fun x => x.dst) = some d := hdk
                rw [hdk] at h; simp at h
              · exact beq_iff_eq.1 h
    · rcases qr with (qr | qr) | qr
      · exact .inl qr
      · exact .inr (.inl qr)
      · exact .inr (.inr qr)
    · rcases q1 e he with h | h
      · rw [hb] at h; cases h
      · exact of_decide_eq_true h
    · rw [hd] at q2; exact of_decide_eq_true q2
    · have := q3 i hi
      simp only [hoi, Bool.and_eq_true, Bool.or_eq_true, Bool.not_eq_true'] at this
      refine ⟨this.1, fun h1 h2 => ?_⟩
      rcases this.2 with h | h
      · have h1' : (objOf ops W i).isSome = true := h1
        have h2' : objOf ops W i = objOf ops W j := h2
        rw [h1', h2'] at h; simp at h
      · exact h
  have hes : ∀ i, i < m → es (i + 1) = eput (es i) (dst i) (vs i) := fun i hi => by
    obtain ⟨o, ho⟩ := hget i hi
    have := (e3 i o (hop i o ho)).1
    simpa [dst, ho] using this
  have hhs : ∀ i, i < m → W.contains i = false → hs (i + 1) = hs i := fun i hi hW => by
    obtain ⟨o, ho⟩ := hget i hi
    rcases (e3 i o (hop i o ho)).2 with ⟨_, h | h⟩ | ⟨j, want, q, _, _, _, _, h⟩
    · rw [h.1] at hW; cases hW
    · exact h.2.1
    · exact h
  have hew : ∀ i o, i < m → ops[i]? = some o → W.contains i = true → ewOp P T own o (fun v H' => v = vs i ∧ H' = hs (i + 1)) (es i) (hs i) := fun i o hi ho hW => by
    rcases (e3 i o (hop i o ho)).2 with ⟨_, h | h⟩ | ⟨j, want, q, hg, _, _, _, h⟩
    · exact h.2
    · rw [h.1] at hW; cases hW
    · rw [((look i o ho).1 hW).1] at hg; cases hg
  have alW : ∀ i o, ops[i]? = some o → W.contains i = true → isAl (some o) = true → isAlW ops W i = true := fun i o ho hW hal => by
    unfold isAlW; rw [ho, hW, hal]; rfl
  have hsA : ∀ i o, i < m → ops[i]? = some o → W.contains i = true → isAl (some o) = true → ∃ cs, hs (i + 1) = hs i ++ [.var cs] ∧ vs i = .ref (hs i).length 0 := fun i o hi ho hW hal => al_shape hal (hew i o hi ho hW)
  have alspec : ∀ d i, alOf ops W d = some i → isAlW ops W i = true ∧ i < m ∧ dst i = some d := fun d i h => by
    unfold alOf at h
    have h1 := List.find?_some h
    have h2 := List.mem_of_find?_eq_some h
    simp only [Bool.and_eq_true, beq_iff_eq] at h1
    exact ⟨h1.1, List.mem_range.1 h2, h1.2⟩
  have ofAlW : ∀ i, i < m → isAlW ops W i = true → ∃ o, ops[i]? = some o ∧ W.contains i = true ∧ isAl (some o) = true := fun i hi h => by
    obtain ⟨o, ho⟩ := hget i hi
    unfold isAlW at h
    rw [ho, Bool.and_eq_true] at h
    exact ⟨o, ho, h.1, h.2⟩
  have hsS : ∀ j o d i, j < m → ops[j]? = some o → W.contains j = true → stAt o = some d → alOf ops W d = some i → i < j → (∀ k, k < m → dst k = some d → k = i) →
      ∃ cs new, (hs j)[(hs i).length]? = some (.var cs) ∧ hs (j + 1) = (hs j).set (hs i).length (.var new) ∧ ∀ HS : List Ob, HS[(hs i).length]? = some (.var cs) → ewOp P T own o (fun v H' => v = vs j ∧ H' = HS.set (hs i).length (.var new)) (es j) HS := by
    intro j o d i hj ho hW hst hal hij hun
    obtain ⟨q1, q2, q3⟩ := alspec d i hal
    obtain ⟨oi, hoi, hWi, hali⟩ := ofAlW i q2 q1
    obtain ⟨cs0, _, hv⟩ := hsA i oi q2 hoi hWi hali
    have hed : eget (es j) d = .ref (hs i).length 0 := by
      rw [← hv]
      refine (seen_text hes d j (Nat.le_of_lt hj)).unique (.inl ⟨i, q2, by simpa using hij, q3, rfl, fun k h1 h2 h3 h4 => ?_⟩)
      have := hun k h2 h4; omega
    obtain ⟨dst', op, ty, pos, after, guard⟩ := o
    cases op <;> simp only [stAt] at hst <;> first | (cases hst; done) | skip
    rename_i t ad x
    cases ad <;> simp only at hst <;> first | (cases hst; done) | skip
    injection hst with hst
    subst hst
    exact store_shape rfl hed (hew j _ hj ho hW)
  -- the text's heaps
  have hLs0 : ∀ j, j ≤ m → ∃ L, hs j = hs 0 ++ L ∧ L.length = rkA ops W j := by
    intro j
    induction j using Nat.strongRecOn with
    | _ j ih =>
      cases j with
      | zero => exact fun _ => ⟨[], by simp, rfl⟩
      | succ j =>
        intro hj
        obtain ⟨L, h1, h2⟩ := ih j (by omega) (by omega)
        obtain ⟨o, ho⟩ := hget j (by omega)
        cases hW : W.contains j with
        | false =>
          have : isAlW ops W j = false := by unfold isAlW; rw [hW]; rfl
          exact ⟨L, by rw [hhs j (by omega) hW, h1], by rw [h2]; simp only [rkA, this]; simp⟩
        | true =>
          rcases ((look j o ho).1 hW).2 with hal | ⟨d, i, k1, k2, k3, k4⟩
          · obtain ⟨cs, k, _⟩ := hsA j o (by omega) ho hW hal
            exact ⟨L ++ [.var cs], by rw [k, h1, List.append_assoc], by simp [rkA, alW j o ho hW hal, h2]⟩
          · obtain ⟨cs, new, q1, q2, _⟩ := hsS j o d i (by omega) ho hW k1 k2 k3 k4
            obtain ⟨Li, p1, p2⟩ := ih i (by omega) (by omega)
            have hal : isAlW ops W j = false := by
              unfold isAlW
              rw [hW, ho]
              obtain ⟨dst', op, ty, pos, after, guard⟩ := o
              cases op <;> simp only [stAt] at k1 <;> first | (cases k1; done) | rfl
            refine ⟨L.set (rkA ops W i) (.var new), ?_, by rw [List.length_set, h2]; simp only [rkA, hal]; simp⟩
            rw [q2, h1, p1, List.length_append, p2, List.set_append_right _ _ (by omega)]
            congr 2
            omega
  obtain ⟨Ls, hLs⟩ : ∃ Ls : Nat → List Ob, ∀ j, j ≤ m → hs j = hs 0 ++ Ls j ∧ (Ls j).length = rkA ops W j :=
    ⟨fun j => (hs j).drop (hs 0).length, fun j hj => by
      obtain ⟨L, h1, h2⟩ := hLs0 j hj
      simp only
      rw [h1, List.drop_left]
      exact ⟨rfl, h2⟩⟩
  have hlen : ∀ j, j ≤ m → (hs j).length = (hs 0).length + rkA ops W j := fun j hj => by
    obtain ⟨h1, h2⟩ := hLs j hj
    have := congrArg List.length h1
    rw [List.length_append, h2] at this
    exact this
  have objAl : ∀ i o, ops[i]? = some o → W.contains i = true → isAl (some o) = true → obj i = some (rkA ops W i) := fun i o ho hW hal => by
    show objOf ops W i = _
    unfold objOf; rw [if_pos hW, ho, if_pos hal]
  have objSt : ∀ j o d i, ops[j]? = some o → W.contains j = true → stAt o = some d → alOf ops W d = some i → obj j = some (rkA ops W i) := fun j o d i ho hW hst hal => by
    show objOf ops W j = _
    have : isAl (some o) = false := by
      obtain ⟨dst', op, ty, pos, after, guard⟩ := o
      cases op <;> simp only [stAt] at hst <;> first | (cases hst; done) | rfl
    unfold objOf; rw [if_pos hW, ho, this]
    simp [hst, hal]
  have objN : ∀ i, W.contains i = false → obj i = none := fun i hW => by
    show objOf ops W i = _
    unfold objOf; rw [hW]; rfl
  have hf0 : ∀ t, (Ls 0).getD t .hole = Ob.hole := fun t => by
    have := (hLs 0 (Nat.zero_le _)).2
    have h0 : Ls 0 = [] := List.eq_nil_of_length_eq_zero this
    rw [h0]; rfl
  have hfs : ∀ t i, i < m → obj i ≠ some t → (Ls (i + 1)).getD t .hole = (Ls i).getD t .hole := by
    intro t i hi hne
    obtain ⟨o, ho⟩ := hget i hi
    obtain ⟨a1, a2⟩ := hLs i (by omega)
    obtain ⟨b1, b2⟩ := hLs (i + 1) hi
    cases hW : W.contains i with
    | false =>
      have := hhs i hi hW
      rw [a1, b1] at this
      rw [List.append_cancel_left this]
    | true =>
      rcases ((look i o ho).1 hW).2 with hal | ⟨d, i', k1, k2, k3, k4⟩
      · obtain ⟨cs, k, _⟩ := hsA i o hi ho hW hal
        rw [objAl i o ho hW hal] at hne
        rw [a1, b1, List.append_assoc] at k
        rw [List.append_cancel_left k]
        simp only [List.getD_eq_getElem?_getD]
        have : t ≠ (Ls i).length := fun e => hne (by rw [e, a2])
        rcases Nat.lt_or_ge t (Ls i).length with hl | hl
        · rw [List.getElem?_append_left hl]
        · rw [List.getElem?_eq_none (by simp; omega), List.getElem?_eq_none hl]
      · obtain ⟨cs, new, q1, q2, _⟩ := hsS i o d i' hi ho hW k1 k2 k3 k4
        rw [objSt i o d i' ho hW k1 k2] at hne
        rw [hlen i' (by omega), a1, b1, List.set_append_right _ _ (by omega), Nat.add_sub_cancel_left] at q2
        rw [List.append_cancel_left q2]
        simp only [List.getD_eq_getElem?_getD]
        rw [List.getElem?_set_ne (fun e => hne (by rw [e]))]
  have text : ∀ t k, k ≤ m → Seen m obj (fun j => (Ls (j + 1)).getD t .hole) (fun _ => Ob.hole) (fun j => decide (j < k)) t ((Ls k).getD t .hole) :=
    fun t k hk => seenO_text (f := fun j => (Ls j).getD t .hole) (hf0 t) (hfs t) k hk
  let r := rkA ops W m
  -- every order
  have main : ∀ (fuel : Nat) (listed : Array Bool) (a : Act) (w' : World), listed.size = m → ((List.range m).filter fun j => !listed.getD j false).length ≤ fuel →
      Closed ops.toList (fun j => listed.getD j false = true) →
      a.tmps.size = n → a.defers = ds →
      (∃ L g', L.length = r ∧ (∀ t, t < r → Seen m obj (fun j => (Ls (j + 1)).getD t .hole) (fun _ => Ob.hole) (fun j => listed.getD j false) t (L.getD t .hole)) ∧ Good g' (hs 0 ++ L) w' ∧ Ext g (hs 0).length w g' (hs 0 ++ L).length w' ∧
        ∀ t v, Seen m dst vs (eget (es 0)) (fun j => listed.getD j false) t v → RepV (cxOf g' (hs 0 ++ L).length w') v (a.tmps.getD t undef)) →
      wpAnyIn (fz rd) 0 P .any ops (fun e a' w' => ∃ env' H' g', Rel ds n env' H' g' a' w' ∧ Ext g (hs 0).length w g' H'.length w' ∧ Q e env' H') fuel listed a w' := by
    have ready_nil : ∀ (listed : Array Bool), listed.size = m → Region.ready .any ops listed = [] → ∀ j, j < m → listed.getD j false = true := by
      intro listed hsz hr j
      induction j using Nat.strongRecOn with
      | _ j ih =>
        intro hj
        cases hl : listed.getD j false with
        | true => rfl
        | false =>
          obtain ⟨o, ho⟩ := hget j hj
          have : j ∈ Region.ready .any ops listed := by
            unfold Region.ready
            rw [List.mem_filter]
            refine ⟨List.mem_range.2 hj, ?_⟩
            simp only [ho, Option.map_some, Option.getD_some, Bool.and_eq_true, Bool.not_eq_true']
            refine ⟨?_, ?_⟩
            · have hjs : j < listed.size := by rw [hsz]; exact hj
              simpa [Array.getD, hjs] using hl
            · rw [Array.all_eq_true']
              intro e he
              simp only [Bool.or_eq_true, Bool.not_eq_true']
              by_cases hb : Region.binds .any e = true
              · right
                have hlt := (look j o ho).2.2.1 e (by simpa using he) hb
                exact ih e.on hlt (by omega)
              · left; simpa using hb
          rw [hr] at this; cases this
    have fin : ∀ (listed : Array Bool) (a : Act) (w' : World), (∀ j, j < m → listed.getD j false = true) → a.tmps.size = n → a.defers = ds →
        (∃ L g', L.length = r ∧ (∀ t, t < r → Seen m obj (fun j => (Ls (j + 1)).getD t .hole) (fun _ => Ob.hole) (fun j => listed.getD j false) t (L.getD t .hole)) ∧ Good g' (hs 0 ++ L) w' ∧ Ext g (hs 0).length w g' (hs 0 ++ L).length w' ∧
          ∀ t v, Seen m dst vs (eget (es 0)) (fun j => listed.getD j false) t v → RepV (cxOf g' (hs 0 ++ L).length w') v (a.tmps.getD t undef)) →
        ∃ env' H' g', Rel ds n env' H' g' a w' ∧ Ext g (hs 0).length w g' H'.length w' ∧ Q .normal env' H' := by
      intro listed a w' hall hsz hdef ⟨L, g', s0, s1, s2, s3, s4⟩
      obtain ⟨b1, b2⟩ := hLs m (Nat.le_refl _)
      have hH : hs 0 ++ L = hs m := by
        rw [b1]
        congr 1
        refine List.ext_getElem? fun t => ?_
        rcases Nat.lt_or_ge t r with hl | hl
        · have := (s1 t hl).unique ((text t m (Nat.le_refl _)).congr (fun k h1 h2 => by rw [hall k h1]; simpa using h1))
          simp only [List.getD_eq_getElem?_getD] at this
          have hl2 : t < (Ls m).length := by rw [b2]; exact hl
          have hl1 : t < L.length := by rw [s0]; exact hl
          rw [List.getElem?_eq_getElem hl1, List.getElem?_eq_getElem hl2] at this ⊢
          simp only [Option.getD_some] at this
          rw [this]
        · rw [List.getElem?_eq_none (by rw [s0]; exact hl), List.getElem?_eq_none (by rw [b2]; exact hl)]
      rw [hH] at s2 s3 s4
      refine ⟨restr (keep id) (es m), hs m, g', ⟨hsz, hdef, EnvRep.restr _ (fun t => s4 t _ ((seen_text hes t m (Nat.le_refl _)).congr (fun k h1 h2 => ?_))), s2⟩, s3, e4⟩
      rw [hall k h1]; simpa using h1
    intro fuel
    induction fuel with
    | zero =>
      intro listed a w' hsz hfu hcl hts hdef hinv
      have hall : ∀ j, j < m → listed.getD j false = true := by
        intro j hj
        cases hl : listed.getD j false with
        | true => rfl
        | false =>
          have : j ∈ (List.range m).filter fun j => !listed.getD j false := List.mem_filter.2 ⟨List.mem_range.2 hj, by simp [hl]⟩
          have hnil : ((List.range m).filter fun j => !listed.getD j false) = [] := List.eq_nil_of_length_eq_zero (Nat.le_zero.1 hfu)
          rw [hnil] at this
          cases this
      refine ⟨?_, fin listed a w' hall hts hdef hinv⟩
      unfold Region.ready
      rw [List.filter_eq_nil_iff]
      intro j hj
      have hj := List.mem_range.1 hj
      have hjs : j < listed.size := by rw [hsz]; exact hj
      have := hall j hj
      have h2 : listed.getD j true = true := by simpa [Array.getD, hjs] using this
      simp only [h2]; simp
    | succ fuel ih =>
      intro listed a w' hsz hfu hcl hts hdef hinv
      refine ⟨fun hr => fin listed a w' (ready_nil listed hsz hr) hts hdef hinv, fun i hi => ?_⟩
      unfold Region.ready at hi
      rw [List.mem_filter] at hi
      obtain ⟨him, hi⟩ := hi
      have him : i < m := List.mem_range.1 him
      have his : i < listed.size := by rw [hsz]; exact him
      obtain ⟨o, ho⟩ := hget i him
      simp only [ho, Option.map_some, Option.getD_some, Bool.and_eq_true, Bool.not_eq_true'] at hi
      obtain ⟨hil, hie⟩ := hi
      have hil : listed.getD i false = false := by simpa [Array.getD, his] using hil
      have hedge : ∀ e ∈ o.after.toList, Region.binds .any e = true → listed.getD e.on false = true := by
        intro e he hb
        rw [Array.all_eq_true'] at hie
        have := hie e (by simpa using he)
        simpa [hb] using this
      have up : ∀ k, Ahead ops.toList i k → listed.getD k false = true := fun k hk => hk _ hcl (fun o' ho' e he hb => by
        have : ops[i]? = some o' := by rw [← Array.getElem?_toList]; exact ho'
        rw [ho] at this
        injection this with this
        subst this
        exact hedge e he hb)
      have down : ∀ k, Ahead ops.toList k i → listed.getD k false = false := fun k hk => by
        cases hl : listed.getD k false with
        | false => rfl
        | true =>
          have := hk _ hcl (fun o' ho' e he hb => hcl k o' ho' hl e he hb)
          have this : listed.getD i false = true := this
          rw [hil] at this; cases this
      have agree : ∀ k, k < m → (k = i ∨ (k < i ∧ ((bef ops.toList).getD i 0).testBit k = true) ∨ (i < k ∧ ((bef ops.toList).getD k 0).testBit i = true)) → listed.getD k false = decide (k < i) := by
        intro k _ h
        rcases h with rfl | ⟨h1, h2⟩ | ⟨h1, h2⟩
        · rw [hil]; simp
        · rw [up k (ahead_of_bit h2)]; simp [h1]
        · rw [down k (ahead_of_bit h2)]; simp; omega
      have clash : ∀ k ok, k < m → ops[k]? = some ok → k ≠ i → (∃ d, ok.dst = some d ∧ (d ∈ o.looksAt ops ∨ o.dst = some d)) → listed.getD k false = decide (k < i) := by
        intro k ok hk hok hne ⟨d, hd, hl⟩
        refine agree k hk ?_
        rcases Nat.lt_or_gt_of_ne hne with hlt | hgt
        · right; left
          refine ⟨hlt, ?_⟩
          rcases ((look i o ho).2.2.2.2 k ok hlt hok).1 with h | h
          · obtain ⟨p1, p2, p3⟩ := Oper.apart_spec h
            rcases hl with hl | hl
            · exact absurd hl (p1 d hd)
            · exact absurd hl (p2 d hd)
          · exact h
        · right; right
          refine ⟨hgt, ?_⟩
          rcases ((look k ok hok).2.2.2.2 i o hgt ho).1 with h | h
          · obtain ⟨p1, p2, p3⟩ := Oper.apart_spec h
            rcases hl with hl | hl
            · exact absurd hl (p3 d hd)
            · exact absurd hd (p2 d hl)
          · exact h
      -- the same object's operations stand in an order
      have sameO : ∀ t, obj i = some t → ∀ k, k < m → obj k = some t → listed.getD k false = decide (k < i) := by
        intro t hit k hk hkt
        by_cases hki : k = i
        · exact agree k hk (.inl hki)
        · rcases Nat.lt_or_gt_of_ne hki with hlt | hgt
          · obtain ⟨ok, hok⟩ := hget k hk
            exact agree k hk (.inr (.inl ⟨hlt, ((look i o ho).2.2.2.2 k ok hlt hok).2 (by rw [hkt]; rfl) (by rw [hkt, hit])⟩))
          · obtain ⟨ok, hok⟩ := hget k hk
            exact agree k hk (.inr (.inr ⟨hgt, ((look k ok hok).2.2.2.2 i o hgt ho).2 (by rw [hit]; rfl) (by rw [hkt, hit])⟩))
      obtain ⟨L, g', s0, s1, s2, s3, s4⟩ := hinv
      obtain ⟨_, hfact⟩ := e3 i o (hop i o ho)
      have seesO : ∀ t, t < r → obj i = some t → L.getD t .hole = (Ls i).getD t .hole := fun t ht hit =>
        (s1 t ht).unique ((text t i (Nat.le_of_lt him)).congr (fun k hk hkt => (sameO t hit k hk hkt).symm))
      -- what it sees
      let es' : Env := restr (o.looksAt ops) (es i)
      have hE : EnvRep (cxOf g' (hs 0 ++ L).length w') es' a := by
        intro t
        show RepV _ (eget (restr (o.looksAt ops) (es i)) t) _
        rw [get_restrict]
        split
        · rename_i ht
          refine s4 t _ ((seen_text hes t i (Nat.le_of_lt him)).congr (fun k hk hdk => ?_))
          by_cases hki : k = i
          · subst hki; rw [hil]; simp
          · obtain ⟨ok, hok⟩ := hget k hk
            have hdk' : ok.dst = some t := by simpa [dst, hok] using hdk
            exact (clash k ok hk hok hki ⟨t, hdk', .inl ht⟩).symm
        · trivial
      have hlook : ∀ x ∈ o.op.operands, evl (es i) x = evl es' x := by
        intro x hx
        cases x with
        | tmp t =>
          show eget (es i) t = eget (restr (o.looksAt ops) (es i)) t
          rw [get_restrict, if_pos]
          unfold Oper.looksAt
          exact List.mem_append_left _ (List.mem_filterMap.2 ⟨.tmp t, by simpa using hx, rfl⟩)
        | _ => rfl
      have hgv : ∀ j want, o.guard = some (j, want) → gval ops.toList es' j = gval ops.toList (es i) j := by
        intro j want hg
        unfold gval
        rw [Array.getElem?_toList]
        cases hx : (ops[j]?).bind (·.dst) with
        | none => rfl
        | some t =>
          show eget (restr (o.looksAt ops) (es i)) t = eget (es i) t
          rw [get_restrict, if_pos]
          unfold Oper.looksAt
          rw [hg]
          simp only [hx]
          simp
      have hcong : ∀ K H, ewOp P T own o K (es i) H → ewOp P T own o K es' H := by
        intro K H h
        unfold ewOp at h ⊢
        rw [← xop_congr o.op hlook]
        exact h
      have hset : ∀ j, (listed.setIfInBounds i true).getD j false = if j = i then true else listed.getD j false := by
        intro j
        by_cases e : j = i
        · subst e; simp [Array.getD, his]
        · rw [if_neg e]
          simp only [Array.getD_eq_getD_getElem?]
          rw [Array.getElem?_setIfInBounds_ne (Ne.symm e)]
      -- what comes behind it
      have after : ∀ (cv : Value) (L' : List Ob) (g'' : Nat → Option Key) (w'' : World), L'.length = r → Good g'' (hs 0 ++ L') w'' → Ext g' (hs 0 ++ L).length w' g'' (hs 0 ++ L').length w'' → RepV (cxOf g'' (hs 0 ++ L').length w'') (vs i) cv →
          (∀ t, t < r → L'.getD t .hole = if obj i = some t then (Ls (i + 1)).getD t .hole else L.getD t .hole) →
          wpAnyIn (fz rd) 0 P .any ops (fun e a' w' => ∃ env' H' g', Rel ds n env' H' g' a' w' ∧ Ext g (hs 0).length w g' H'.length w' ∧ Q e env' H') fuel (listed.setIfInBounds i true) (a.put o.dst cv) w'' := by
        intro cv L' g'' w'' k0 k1 k2 k3 k4
        refine ih _ _ _ (by simp [hsz]) ?_ ?_ (by cases o.dst <;> simp [Act.put, hts]) (by cases o.dst <;> simp [Act.put, hdef]) ⟨L', g'', k0, fun t ht => ?_, k1, s3.trans k2, fun t v hv => ?_⟩
        · have := filter_lt (p := fun j => !listed.getD j false) (p' := fun j => !(listed.setIfInBounds i true).getD j false) (i := i) (l := List.range m) (fun j _ hj => by
            simp only [hset] at hj
            split at hj
            · simp at hj
            · exact hj) (List.mem_range.2 him) (by simp [hil]) (by simp [hset])
          omega
        · intro j oj hj hl e he hb
          simp only [hset] at hl ⊢
          split
          · rfl
          · split at hl
            · rename_i e1
              subst e1
              have : ops[j]? = some oj := by rw [← Array.getElem?_toList]; exact hj
              rw [ho] at this
              injection this with this
              subst this
              exact hedge e he hb
            · exact hcl j oj hj hl e he hb
        · rw [k4 t ht]
          by_cases hit : obj i = some t
          · rw [if_pos hit]
            refine .inl ⟨i, him, by simp [hset], hit, rfl, fun k h1 h2 h3 h4 => ?_⟩
            have := sameO t hit k h2 h4
            simp only [hset] at h3
            rw [if_neg (by omega), this] at h3
            have := of_decide_eq_true h3; omega
          · rw [if_neg hit]
            refine (s1 t ht).congr (fun k hk hkt => ?_)
            simp only [hset]
            rw [if_neg (fun (e : k = i) => hit (e ▸ hkt))]
        · have hdn := (look i o ho).2.2.2.1
          by_cases hdt : o.dst = some t
          · have hv' : v = vs i := by
              have hdi : dst i = some t := by simp [dst, ho, hdt]
              rcases hv with ⟨j, a1, a2, a3, a4, a5⟩ | ⟨a1, _⟩
              · by_cases hji : j = i
                · subst hji; exact a4.symm
                · obtain ⟨oj, hoj⟩ := hget j a1
                  have hdj : oj.dst = some t := by simpa [dst, hoj] using a3
                  have hcl' := clash j oj a1 hoj hji ⟨t, hdj, .inr hdt⟩
                  simp only [hset] at a2
                  rw [if_neg hji, hcl'] at a2
                  exact absurd hdi (a5 i (of_decide_eq_true a2) him (by simp [hset]))
              · exact absurd hdi (a1 i him (by simp [hset]))
            subst hv'
            have : (a.put o.dst cv).tmps.getD t undef = cv := by
              have := hdn t hdt
              rw [hdt]
              simp [Act.put, hts, this]
            rw [this]
            exact k3
          · have hold : Seen m dst vs (eget (es 0)) (fun j => listed.getD j false) t v := hv.congr (fun k hk hdk => by
              simp only [hset]
              rw [if_neg]
              intro e
              subst e
              exact hdt (by simpa [dst, ho] using hdk))
            have := RepV.mono k2.mono (s4 t v hold)
            have e : (a.put o.dst cv).tmps.getD t undef = a.tmps.getD t undef := by
              cases hd : o.dst with
              | none => rfl
              | some d =>
                have hne : d ≠ t := fun e => hdt (by rw [hd, e])
                simp [Act.put, Array.getElem?_setIfInBounds_ne hne]
            rw [e]
            exact this
      -- the step
      unfold wpOpIn
      rw [ho]
      simp only
      obtain ⟨a1, a2⟩ := hLs i (Nat.le_of_lt him)
      obtain ⟨b1, b2⟩ := hLs (i + 1) him
      rcases hfact with ⟨hg, hk⟩ | ⟨j, want, q, hg, hq, hne, hv, hH⟩
      · have hw : Region.wanted o (yielded ops a.tmps) = true := by
          rw [wanted_iff]
          cases hgd : o.guard with
          | none => rfl
          | some jw =>
            obtain ⟨j, want⟩ := jw
            rw [hgd] at hg
            simp only at hg ⊢
            rw [gval_yield' hE ((hgv j want hgd).trans hg)]
            simp
        rw [if_pos hw]
        rcases hk with ⟨hW, hk⟩ | ⟨hW, hH, hk⟩
        · rcases ((look i o ho).1 hW).2 with hal | ⟨d, i', k1, k2, k3, k4⟩
          · obtain ⟨cs, k, _⟩ := hsA i o him ho hW hal
            have hrk : rkA ops W i < r := by
              have h1 := rkA_mono (ops := ops) (W := W) (i := i + 1) m him
              simp only [rkA, alW i o ho hW hal, if_true] at h1
              omega
            have hob := objAl i o ho hW hal
            have hnone : L[rkA ops W i]? = some .hole := by
              have := seesO _ hrk hob
              have hl1 : rkA ops W i < L.length := by rw [s0]; exact hrk
              simp only [List.getD_eq_getElem?_getD] at this
              rw [List.getElem?_eq_getElem hl1, List.getElem?_eq_none (l := Ls i) (by omega)] at this
              rw [List.getElem?_eq_getElem hl1]
              simpa using this
            have hp : (hs 0 ++ L)[(hs i).length]? = some .hole := by
              rw [hlen i (Nat.le_of_lt him), List.getElem?_append_right (by omega), Nat.add_sub_cancel_left]; exact hnone
            rw [k] at hk
            refine al_fill hTO hal (hcong _ _ hk) hE s2 hp fun cv g'' w'' q1 q2 q3 => ?_
            have hse : (hs 0 ++ L).set (hs i).length (.var cs) = hs 0 ++ L.set (rkA ops W i) (.var cs) := by
              rw [hlen i (Nat.le_of_lt him), List.set_append_right _ _ (by omega), Nat.add_sub_cancel_left]
            have hle : (hs 0 ++ L).length = (hs 0 ++ L.set (rkA ops W i) (.var cs)).length := by simp
            rw [hse] at q1
            rw [hle] at q2 q3
            refine after cv _ g'' w'' (by simp [s0]) q1 (by rw [hle]; exact q2) q3 fun t ht => ?_
            rw [a1, b1, List.append_assoc] at k
            have k' := List.append_cancel_left k
            rw [hob]
            simp only [List.getD_eq_getElem?_getD, Option.some.injEq]
            split
            · rename_i e
              subst e
              rw [List.getElem?_set_self (by rw [s0]; exact hrk), k', List.getElem?_append_right (by omega), a2, Nat.sub_self]
              rfl
            · rename_i e
              rw [List.getElem?_set_ne e]
          · obtain ⟨cs, new, q1, q2, q3⟩ := hsS i o d i' him ho hW k1 k2 k3 k4
            have hob := objSt i o d i' ho hW k1 k2
            have hrk : rkA ops W i' < r := by
              have h1 := rkA_mono (ops := ops) (W := W) (i := i' + 1) m (by omega)
              simp only [rkA, (alspec d i' k2).1, if_true] at h1
              omega
            rw [hlen i' (by omega)] at q1 q2 q3
            have hL : L[rkA ops W i']? = some (.var cs) := by
              have := seesO _ hrk hob
              have hl1 : rkA ops W i' < L.length := by rw [s0]; exact hrk
              rw [a1, List.getElem?_append_right (by omega), Nat.add_sub_cancel_left] at q1
              simp only [List.getD_eq_getElem?_getD, q1] at this
              rw [List.getElem?_eq_getElem hl1] at this ⊢
              simpa using this
            have hp : (hs 0 ++ L)[(hs 0).length + rkA ops W i']? = some (.var cs) := by
              rw [List.getElem?_append_right (by omega), Nat.add_sub_cancel_left]; exact hL
            have hse : (hs 0 ++ L).set ((hs 0).length + rkA ops W i') (.var new) = hs 0 ++ L.set (rkA ops W i') (.var new) := by
              rw [List.set_append_right _ _ (by omega), Nat.add_sub_cancel_left]
            refine op_wp' hTO hE s2 (hcong _ _ (q3 _ hp)) fun v cv H' g'' w'' p1 p2 p3 ⟨p4, p5⟩ => ?_
            rw [hse] at p5
            subst p4 p5
            refine after cv _ g'' w'' (by simp [s0]) p1 p2 p3 fun t ht => ?_
            rw [a1, b1, List.set_append_right _ _ (by omega), Nat.add_sub_cancel_left] at q2
            have q2' := List.append_cancel_left q2
            rw [a1, List.getElem?_append_right (by omega), Nat.add_sub_cancel_left] at q1
            rw [hob]
            simp only [List.getD_eq_getElem?_getD, Option.some.injEq]
            split
            · rename_i e
              subst e
              rw [List.getElem?_set_self (by rw [s0]; exact hrk), q2', List.getElem?_set_self (List.getElem?_eq_some_iff.1 q1).1]
            · rename_i e
              rw [List.getElem?_set_ne e]
        · have hfree : L = [] ∨ stabOp o = true ∨ isFree F W i = true := by
            rcases (look i o ho).2.1 with h | h | h
            · rw [hW] at h; cases h
            · exact .inr (.inr h)
            · exact .inr (.inl h)
          refine op_wp' hTO hE s2 (hcong _ _ (hk L hfree)) fun v cv H' g'' w'' p1 p2 p3 ⟨p4, p5⟩ => ?_
          subst p4 p5
          refine after cv L g'' w'' s0 p1 p2 p3 fun t ht => ?_
          rw [objN i hW, if_neg (by simp)]
      · have hw : Region.wanted o (yielded ops a.tmps) = false := by
          rw [wanted_iff, hg]
          simp only
          rw [gval_yield' hE ((hgv j want hg).trans hq)]
          simpa using hne
        rw [hw]
        rw [if_neg (by simp)]
        refine ⟨fun _ _ => trivial, ?_⟩
        have hW : W.contains i = false := by
          cases hW : W.contains i with
          | false => rfl
          | true => rw [((look i o ho).1 hW).1] at hg; cases hg
        refine after undef L g' w' s0 s2 (Ext.refl _ _ _) (by rw [hv]; trivial) fun t ht => ?_
        rw [objN i hW, if_neg (by simp)]
  refine wpIn_region_any hm (main ops.size _ a _ (by simp [m]) (Nat.le_trans (List.length_filter_le _ _) (by simp [m])) ?_ hR.1 hR.2.1 ?_)
  · intro j o hj hS
    simp [Array.getD] at hS
  · have hdr := step_drawn hR.2.2.2 (w.drawn + 1)
    obtain ⟨g1, k1, k2⟩ := step_holes hdr.1 r
    refine ⟨List.replicate r .hole, g1, by simp, fun t ht => .inr ⟨fun k hk h => by simp [Array.getD] at h, by simp [ht]⟩, k1, hdr.2.trans k2, fun t v hs => ?_⟩
    rcases hs with ⟨j, _, h1, _⟩ | ⟨_, rfl⟩
    · simp [Array.getD] at h1
    · exact RepV.mono (hdr.2.trans k2).mono (hR.2.2.1 t)
end
end Go.EL

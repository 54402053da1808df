/- The value logic, part UG: a region whose order is open, where what is written is only added behind: what was there may be read at any time. -/
import Derived.Test.YtjplgbalpnlanaaEUF
set_option linter.unusedVariables false
set_option linter.unusedSimpArgs false
namespace Go.EL
open Go
variable {P : Program} {T : Nat → TD}

/-- the heap without some objects -/
def blank : List Nat → List Ob → List Ob
  | [], H => H
  | o :: S, H => (blank S H).set o .gone
theorem blank_get {x : Ob} (hx : x ≠ .gone) {i : Nat} {H : List Ob} : ∀ {S : List Nat}, (blank S H)[i]? = some x → H[i]? = some x
  | [], h => h
  | o :: S, h => by
    simp only [blank] at h
    by_cases e : o = i
    · subst e
      rcases Nat.lt_or_ge o (blank S H).length with hl | hl
      · rw [List.getElem?_set_self hl] at h
        injection h with h
        exact absurd h.symm hx
      · rw [List.getElem?_eq_none (by simpa using hl)] at h; cases h
    · rw [List.getElem?_set_ne e] at h
      exact blank_get hx h
/-- the objects that some slots lead to -/
def addO : V → List Nat → List Nat
  | .ref o _, l => o :: l
  | .eref o _ _ _, l => o :: l
  | _, l => l
def objsOf (env : Env) : List Nat → List Nat
  | [] => []
  | j :: F => if 4000 ≤ j then (if j < 5000 then addO (eget env (j - 4000)) (objsOf env F) else objsOf env F) else objsOf env F
theorem live_un {S : List Nat} {H : List Ob} {a : V} (h : live (blank S H) a) : live H a := by
  cases a
  case ref o c =>
    obtain ⟨cs, h⟩ := h
    exact ⟨cs, blank_get (by simp) h⟩
  case eref o ver i c =>
    obtain ⟨es, l, h, k⟩ := h
    exact ⟨es, l, blank_get (by simp) h, k⟩
  all_goals first | trivial | exact h.elim
theorem xop_un {own : Bool} {ρ : Operand → V} {o : Oper} {pre : Prop} {v : V} {S : List Nat} {H : List Ob} (hs : stabOp o = true) (h : xop T own ρ (blank S H) o.op = .val pre v (blank S H)) (hp : pre) : ∃ pre', xop T own ρ H o.op = .val pre' v H ∧ pre' := by
  obtain ⟨dst, op, ty, pos, after, guard⟩ := o
  cases op
  all_goals first | (simp [stabOp] at hs; done) | skip
  case move x => injection h with e1 e2 e3; subst e1 e2; exact ⟨_, rfl, trivial⟩
  case build t ps =>
    simp only [xop] at h ⊢
    split at h
    · injection h with e1 e2 e3; subst e1 e2; exact ⟨_, rfl, hp⟩
    · injection h with e1 e2 e3; subst e1 e2; exact ⟨_, rfl, hp⟩
    · cases h
  case buildSlice t n ps =>
    simp only [xop] at h ⊢
    split at h
    · cases own with
      | false => injection h with e1 e2 e3; subst e1 e2; exact ⟨_, rfl, hp⟩
      | true => injection h with e1 e2 e3; exact absurd (congrArg List.length e3) (by simp)
    · cases h
  case load t a =>
    simp only [xop] at h ⊢
    split at h
    · cases h
    · rename_i hk
      rw [if_neg hk]
      unfold xload at h ⊢
      split at h
      · split at h
        · rename_i ho
          rw [blank_get (by simp) ho]
          injection h with e1 e2 e3; subst e1 e2; exact ⟨_, rfl, hp⟩
        · cases h
      · injection h with e1 e2 e3; subst e1 e2; exact ⟨_, rfl, hp⟩
      · split at h
        · rename_i ho
          rw [blank_get (by simp) ho]
          injection h with e1 e2 e3; subst e1 e2; exact ⟨_, rfl, hp⟩
        · cases h
      · cases h
  case fieldAddr t a f =>
    simp only [xop] at h ⊢
    unfold xfieldAddr at h ⊢
    split at h
    · split at h
      · split at h
        · injection h with e1 e2 e3; subst e1 e2; exact ⟨_, rfl, live_un hp.1, hp.2⟩
        · injection h with e1 e2 e3; subst e1 e2; exact ⟨_, rfl, live_un hp.1, hp.2⟩
        · injection h with e1 e2 e3; subst e1 e2; exact ⟨_, rfl, live_un hp.1, hp.2⟩
        · cases h
      · cases h
    · cases h
  case indexAddr t x i =>
    simp only [xop] at h ⊢
    unfold xindexAddr at h ⊢
    split at h
    · split at h
      · injection h with e1 e2 e3; subst e1 e2; exact ⟨_, rfl, hp⟩
      · injection h with e1 e2 e3; subst e1 e2; exact ⟨_, rfl, hp⟩
      · split at h
        · rename_i ho
          rw [blank_get (by simp) ho]
          injection h with e1 e2 e3; subst e1 e2; exact ⟨_, rfl, hp⟩
        · cases h
      · cases h
    · split at h
      · injection h with e1 e2 e3; subst e1 e2; exact ⟨_, rfl, live_un hp.1, hp.2⟩
      · injection h with e1 e2 e3; subst e1 e2; exact ⟨_, rfl, hp⟩
      · cases h
    · cases h
  case nilCheck x =>
    simp only [xop] at h ⊢
    split at h
    · injection h with e1 e2 e3; subst e1 e2; exact ⟨_, rfl, live_un hp⟩
    · injection h with e1 e2 e3; subst e1 e2; exact ⟨_, rfl, hp⟩
    · injection h with e1 e2 e3; subst e1 e2; exact ⟨_, rfl, live_un hp⟩
    · cases h
  case lookup t x i ok =>
    simp only [xop] at h ⊢
    unfold xlookup at h ⊢
    split at h
    · split at h
      · split at h
        · rename_i ho
          rw [blank_get (by simp) ho]
          injection h with e1 e2 e3; subst e1 e2; exact ⟨_, rfl, hp⟩
        · cases h
      · injection h with e1 e2 e3; subst e1 e2; exact ⟨_, rfl, hp⟩
      · cases h
    · cases h
  case call c =>
    simp only [stabOp] at hs
    simp only [xop] at h
    split at hs
    · rename_i f hc
      rw [hc] at h
      simp only at h
      split at h <;> cases h
    · cases hs
/-- a read of what is not written, or a call that asks nothing of the heap -/
def BaseW (P : Program) (T : Nat → TD) (own : Bool) (o : Oper) (K : V → Prop) (env : Env) (H : List Ob) : Prop :=
  match xop T own (evl env) H o.op with
  | .val pre v H' => H' = H ∧ Need pre (K v)
  | .call f args => CallE (fun v => ∀ H, SCall P f args H fun r H' => r = v ∧ H' = H) K
  | _ => False

def isBase (F : List Nat) (i : Nat) : Bool := F.contains (i + 2000)
def drawOK3 (n : Nat) (ops : Array Oper) (W F : List Nat) : Bool :=
  let b := bef ops.toList
  (List.range ops.size).all fun j => match ops[j]? with
    | none => true
    | some oj =>
      (W.contains j || F.contains j || (isBase F j && stabOp oj) || (!isBase F j && W.all fun k => ordered b j k)) &&
      (oj.after.toList.all fun e => !Region.binds .any e || decide (e.on < j)) && (match oj.dst with | some d => decide (d < n) | none => true) &&
      (List.range j).all fun i => match ops[i]? with
        | none => true
        | some oi => (oi.apart ops oj || (b.getD j 0).testBit i) && (!(W.contains i && W.contains j) || (b.getD j 0).testBit i)
/-- what is added behind -/
def AddW (P : Program) (T : Nat → TD) (own : Bool) (o : Oper) (K : V → List Ob → Prop) (env : Env) (S : List Nat) (H0 H : List Ob) : Prop :=
  match xop T own (evl env) H o.op with
  | .val pre v H' => Need (pre ∧ ∃ L, blank S H' = H0 ++ L) (K v H')
  | .call f args => CallE2 (fun v H1 => SCall P f args H (fun r H' => r = v ∧ H' = H1)) (fun v H' => Need (∃ L, blank S H' = H0 ++ L) (K v H'))
  | _ => False
def drawStep3 (P : Program) (T : Nat → TD) (own : Bool) (o : Oper) (inW free base : Bool) (K : V → List Ob → Prop) (env : Env) (S : List Nat) (H0 H : List Ob) : Prop :=
  if inW = true then AddW P T own o K env S H0 H else if free = true then FreeW P T own o (fun v => K v H) env else if base = true then BaseW P T own o (fun v => K v H) env H0 else SameW P T own o (fun v => K v H) env H
def ewDraw3 (P : Program) (T : Nat → TD) (own : Bool) (ops : List Oper) (F W : List Nat) (S : List Nat) (H0 : List Ob) : Nat → List Oper → (Env → List Ob → Prop) → Env → List Ob → Prop
  | _, [], K, env, H => K env H
  | k, o :: rest, K, env, H =>
    match o.guard with
    | none => drawStep3 P T own o (W.contains k) (isFree F W k) (isBase F k) (fun v H' => ewDraw3 P T own ops F W S H0 (k + 1) rest K (eput env o.dst v) H') env S H0 H
    | some (j, want) => match gval ops env j with
      | .bool q => IfW (q == want) (drawStep3 P T own o (W.contains k) (isFree F W k) (isBase F k) (fun v H' => ewDraw3 P T own ops F W S H0 (k + 1) rest K (eput env o.dst v) H') env S H0 H) (ewDraw3 P T own ops F W S H0 (k + 1) rest K (eput env o.dst .dead) H)
      | _ => False
def OpFact3 (P : Program) (T : Nat → TD) (own : Bool) (ops : List Oper) (F W : List Nat) (S : List Nat) (H0 : List Ob) (o : Oper) (k : Nat) (env : Env) (H : List Ob) (v : V) (H' : List Ob) : Prop :=
  (match o.guard with
   | none => True
   | some (j, want) => gval ops env j = .bool want) ∧
    ((W.contains k = true ∧ (∃ L, blank S H' = H0 ++ L) ∧ ewOp P T own o (fun v' H1 => v' = v ∧ H1 = H') env H) ∨
     (W.contains k = false ∧ H' = H ∧ isFree F W k = true ∧ ∀ H0, ewOp P T own o (fun v' H1 => v' = v ∧ H1 = H0) env H0) ∨
     (W.contains k = false ∧ H' = H ∧ isFree F W k = false ∧ isBase F k = false ∧ ewOp P T own o (fun v' H1 => v' = v ∧ H1 = H) env H) ∨
     (W.contains k = false ∧ H' = H ∧ isFree F W k = false ∧ isBase F k = true ∧ ∀ HS L, blank S HS = H0 ++ L → stabOp o = true → ewOp P T own o (fun v' H1 => v' = v ∧ H1 = HS) env HS)) ∨
  (∃ j want q, o.guard = some (j, want) ∧ gval ops env j = .bool q ∧ q ≠ want ∧ v = .dead ∧ H' = H)

theorem drawStep3_fact {own : Bool} {F W S : List Nat} {H0 : List Ob} {o : Oper} {k : Nat} {K : V → List Ob → Prop} {env : Env} {H : List Ob} (h : drawStep3 P T own o (W.contains k) (isFree F W k) (isBase F k) K env S H0 H) :
    ∃ v H', ((W.contains k = true ∧ (∃ L, blank S H' = H0 ++ L) ∧ ewOp P T own o (fun v' H1 => v' = v ∧ H1 = H') env H) ∨
     (W.contains k = false ∧ H' = H ∧ isFree F W k = true ∧ ∀ H0, ewOp P T own o (fun v' H1 => v' = v ∧ H1 = H0) env H0) ∨
     (W.contains k = false ∧ H' = H ∧ isFree F W k = false ∧ isBase F k = false ∧ ewOp P T own o (fun v' H1 => v' = v ∧ H1 = H) env H) ∨
     (W.contains k = false ∧ H' = H ∧ isFree F W k = false ∧ isBase F k = true ∧ ∀ HS L, blank S HS = H0 ++ L → stabOp o = true → ewOp P T own o (fun v' H1 => v' = v ∧ H1 = HS) env HS)) ∧ K v H' := by
  unfold drawStep3 at h
  split at h
  · rename_i hW
    unfold AddW at h
    split at h
    · rename_i pre v H' hx
      refine ⟨v, H', .inl ⟨hW, h.1.2, ?_⟩, h.2⟩
      unfold ewOp; rw [hx]; exact ⟨h.1.1, rfl, rfl⟩
    · rename_i f args hx
      obtain ⟨v, H1, h1, h2, h3⟩ := h
      refine ⟨v, H1, .inl ⟨hW, h2, ?_⟩, h3⟩
      unfold ewOp; rw [hx]; exact h1
    · exact h.elim
  · rename_i hW
    have hW : W.contains k = false := by simpa using hW
    split at h
    · rename_i hF
      unfold FreeW at h
      split at h
      · rename_i pre v H' hx
        obtain ⟨rfl, hp, hk⟩ := h
        refine ⟨v, H, .inr (.inl ⟨hW, rfl, hF, fun H0 => ?_⟩), hk⟩
        obtain ⟨pre', h1, h2⟩ := xop_free hx hp H0
        unfold ewOp; rw [h1]; exact ⟨h2, rfl, rfl⟩
      · rename_i f args hx
        obtain ⟨v, h1, h2⟩ := h
        refine ⟨v, H, .inr (.inl ⟨hW, rfl, hF, fun H0 => ?_⟩), h2⟩
        obtain ⟨c, fo, first, cap, ho, hc, hq, ha⟩ := xop_call hx
        have : xop T own (evl env) H0 o.op = .call f args := by
          rw [ho]
          simp only [xop, hc, hq, ha]
        unfold ewOp; rw [this]; exact h1 H0
      · exact h.elim
    · rename_i hF
      have hF : isFree F W k = false := by simpa using hF
      split at h
      · rename_i hS
        unfold BaseW at h
        split at h
        · rename_i pre v H' hx
          obtain ⟨rfl, hp, hk⟩ := h
          refine ⟨v, H, .inr (.inr (.inr ⟨hW, rfl, hF, hS, fun HS L hL hst => ?_⟩)), hk⟩
          obtain ⟨pre1, h1, h2⟩ := xop_ext hst hx hp L
          rw [← hL] at h1
          obtain ⟨pre', h3, h4⟩ := xop_un hst h1 h2
          unfold ewOp; rw [h3]; exact ⟨h4, rfl, rfl⟩
        · rename_i f args hx
          obtain ⟨v, h1, h2⟩ := h
          refine ⟨v, H, .inr (.inr (.inr ⟨hW, rfl, hF, hS, fun HS L _ _ => ?_⟩)), h2⟩
          obtain ⟨c, fo, first, cap, ho, hc, hq, ha⟩ := xop_call hx
          have : xop T own (evl env) HS o.op = .call f args := by
            rw [ho]
            simp only [xop, hc, hq, ha]
          unfold ewOp; rw [this]; exact h1 HS
        · exact h.elim
      · rename_i hS
        have hS : isBase F k = false := by simpa using hS
        unfold SameW at h
        split at h
        · rename_i pre v H' hx
          obtain ⟨rfl, hp, hk⟩ := h
          refine ⟨v, H', .inr (.inr (.inl ⟨hW, rfl, hF, hS, ?_⟩)), hk⟩
          unfold ewOp; rw [hx]; exact ⟨hp, rfl, rfl⟩
        · rename_i f args hx
          obtain ⟨v, h1, h2⟩ := h
          refine ⟨v, H, .inr (.inr (.inl ⟨hW, rfl, hF, hS, ?_⟩)), h2⟩
          unfold ewOp; rw [hx]; exact h1
        · exact h.elim

theorem ewDraw3_table {own : Bool} {ops : List Oper} {F W S : List Nat} {H0 : List Ob} {K : Env → List Ob → Prop} : ∀ (l : List Oper) (k : Nat) (env : Env) (H : List Ob), ewDraw3 P T own ops F W S H0 k l K env H →
    ∃ (es : Nat → Env) (hs : Nat → List Ob) (vs : Nat → V), es k = env ∧ hs k = H ∧ (∀ i o, l[i]? = some o → es (k + i + 1) = eput (es (k + i)) o.dst (vs (k + i)) ∧ OpFact3 P T own ops F W S H0 o (k + i) (es (k + i)) (hs (k + i)) (vs (k + i)) (hs (k + i + 1))) ∧
      K (es (k + l.length)) (hs (k + l.length))
  | [], k, env, H, h => ⟨fun _ => env, fun _ => H, fun _ => .dead, rfl, rfl, fun i o ho => by simp at ho, h⟩
  | o :: rest, k, env, H, h => by
    have fin : ∀ v H', OpFact3 P T own ops F W S H0 o k env H v H' → ewDraw3 P T own ops F W S H0 (k + 1) rest K (eput env o.dst v) H' → ∃ (es : Nat → Env) (hs : Nat → List Ob) (vs : Nat → V), es k = env ∧ hs k = H ∧ (∀ i o', (o :: rest)[i]? = some o' → es (k + i + 1) = eput (es (k + i)) o'.dst (vs (k + i)) ∧ OpFact3 P T own ops F W S H0 o' (k + i) (es (k + i)) (hs (k + i)) (vs (k + i)) (hs (k + i + 1))) ∧
      K (es (k + (o :: rest).length)) (hs (k + (o :: rest).length)) := by
      intro v H' hf hr
      obtain ⟨es, hs, vs, e1, e2, e3, e4⟩ := ewDraw3_table rest (k + 1) _ _ hr
      refine ⟨fun i => if i = k then env else es i, fun i => if i = k then H else hs i, fun i => if i = k then v else vs i, by simp, by simp, fun i o' ho' => ?_, ?_⟩
      · cases i with
        | zero =>
          simp only [List.getElem?_cons_zero, Option.some.injEq] at ho'
          subst ho'
          simp only [Nat.add_zero, if_true]
          have n1 : ¬ (k + 1 = k) := by omega
          simp only [n1, if_false, e1, e2]
          exact ⟨trivial, hf⟩
        | succ i =>
          simp only [List.getElem?_cons_succ] at ho'
          have := e3 i o' ho'
          have n1 : ¬ (k + (i + 1) = k) := by omega
          have n2 : ¬ (k + (i + 1) + 1 = k) := by omega
          simp only [n1, n2, if_false]
          rw [show k + (i + 1) = k + 1 + i by omega]
          exact this
      · have n3 : ¬ (k + (o :: rest).length = k) := by simp
        simp only [n3, if_false]
        rw [List.length_cons, show k + (rest.length + 1) = k + 1 + rest.length by omega]
        exact e4
    simp only [ewDraw3] at h
    cases hg : o.guard with
    | none =>
      rw [hg] at h
      obtain ⟨v, H', h1, h2⟩ := drawStep3_fact h
      exact fin v H' (.inl ⟨by rw [hg]; trivial, h1⟩) h2
    | some jw =>
      obtain ⟨j, want⟩ := jw
      rw [hg] at h
      simp only at h
      split at h
      · rename_i q hq
        by_cases hqw : q = want
        · subst hqw
          obtain ⟨v, H', h1, h2⟩ := drawStep3_fact (h.1 (by simp))
          exact fin v H' (.inl ⟨by rw [hg]; exact hq, h1⟩) h2
        · exact fin .dead H (.inr ⟨j, want, q, hg, hq, hqw, rfl, rfl⟩) (h.2 (by simpa using hqw))
      · exact h.elim

section
variable {own : Bool} {n : Nat} {ops : Array Oper} {W : List Nat}
theorem EW.draw3 (hTO : TyOK P T) (hm : P.follows .mixedOrders = true) {id : Nat} {F : List Nat} (keep : Nat → List Nat) (hd : drawOK3 n ops W F = true) {Q : Exit → Env → List Ob → Prop} {env : Env} {H : List Ob}
    (h : ewDraw3 P T own ops.toList F W (objsOf env F) (blank (objsOf env F) H) 0 ops.toList (fun env' H' => Q .normal (restr (keep id) env') H') env H) : EW P n (.region id ops true) Q env H := by
  intro rd ds g a w hR
  obtain ⟨es, hs, vs, e1, e2, e3, e4⟩ := ewDraw3_table _ _ _ _ h
  simp only [Nat.zero_add, Array.length_toList] at e1 e2 e3 e4
  subst e1 e2
  let m := ops.size
  let dst : Nat → Option Nat := fun j => (ops[j]?).bind (·.dst)
  have hop : ∀ j o, ops[j]? = some o → ops.toList[j]? = some o := fun j o h => by rw [Array.getElem?_toList]; exact h
  have hget : ∀ j, j < m → ∃ o, ops[j]? = some o := fun j hj => ⟨ops[j], by simp [m] at hj; simp [hj]⟩
  -- the look
  have look : ∀ j o, ops[j]? = some o → (W.contains j = true ∨ F.contains j = true ∨ (isBase F j = true ∧ stabOp o = true) ∨ (isBase F j = false ∧ ∀ k ∈ W, ordered (bef ops.toList) j k = true)) ∧ (∀ e ∈ o.after.toList, Region.binds .any e = true → e.on < j) ∧ (∀ d, o.dst = some d → d < n) ∧
      ∀ i oi, i < j → ops[i]? = some oi → (oi.apart ops o = true ∨ ((bef ops.toList).getD j 0).testBit i = true) ∧ (W.contains i = true → W.contains j = true → ((bef ops.toList).getD j 0).testBit i = true) := by
    intro j o hj
    have hjm : j < ops.size := (Array.getElem?_eq_some_iff.1 hj).1
    have := List.all_eq_true.1 hd j (List.mem_range.2 hjm)
    simp only [hj, Bool.and_eq_true, Bool.or_eq_true, List.all_eq_true, List.mem_range, Bool.not_eq_true'] at this
    obtain ⟨⟨⟨q0, q1⟩, q2⟩, q3⟩ := this
    refine ⟨?_, fun e he hb => ?_, fun d hd => ?_, fun i oi hi hoi => ?_⟩
    · rcases q0 with ((q0 | q0) | q0) | q0
      · exact .inl q0
      · exact .inr (.inl q0)
      · exact .inr (.inr (.inl q0))
      · exact .inr (.inr (.inr q0))
    · rcases q1 e he with h | h
      · rw [hb] at h; cases h
      · exact of_decide_eq_true h
    · rw [hd] at q2; exact of_decide_eq_true q2
    · have := q3 i hi
      simp only [hoi, Bool.and_eq_true, Bool.or_eq_true, Bool.not_eq_true'] at this
      refine ⟨this.1, fun h1 h2 => ?_⟩
      rcases this.2 with h | h
      · rw [h1, h2] at h; cases h
      · exact h
  have hes : ∀ i, i < m → es (i + 1) = eput (es i) (dst i) (vs i) := fun i hi => by
    obtain ⟨o, ho⟩ := hget i hi
    have := (e3 i o (hop i o ho)).1
    simpa [dst, ho] using this
  have hhs : ∀ i, i < m → W.contains i = false → hs (i + 1) = hs i := fun i hi hW => by
    obtain ⟨o, ho⟩ := hget i hi
    rcases (e3 i o (hop i o ho)).2 with ⟨_, h | h | h | h⟩ | ⟨j, want, q, _, _, _, _, h⟩
    · rw [h.1] at hW; cases hW
    · exact h.2.1
    · exact h.2.1
    · exact h.2.1
    · exact h
  have hpre : ∀ i, i ≤ m → ∃ L, blank (objsOf (es 0) F) (hs i) = blank (objsOf (es 0) F) (hs 0) ++ L := by
    intro i
    induction i with
    | zero => exact fun _ => ⟨[], by simp⟩
    | succ i ih =>
      intro hi
      obtain ⟨o, ho⟩ := hget i (by omega)
      cases hW : W.contains i with
      | false => rw [hhs i (by omega) hW]; exact ih (by omega)
      | true =>
        rcases (e3 i o (hop i o ho)).2 with ⟨_, h | h | h | h⟩ | ⟨_, _, _, _, _, _, _, h⟩
        · exact h.2.1
        · rw [h.1] at hW; cases hW
        · rw [h.1] at hW; cases hW
        · rw [h.1] at hW; cases hW
        · rw [h]; exact ih (by omega)
  -- every order
  have main : ∀ (fuel : Nat) (listed : Array Bool) (a : Act) (w' : World), listed.size = m → ((List.range m).filter fun j => !listed.getD j false).length ≤ fuel →
      Closed ops.toList (fun j => listed.getD j false = true) →
      a.tmps.size = n → a.defers = ds →
      (∃ H g', SeenH m W hs (fun j => listed.getD j false) H ∧ Good g' H w' ∧ Ext g (hs 0).length w g' H.length w' ∧ ∀ t v, Seen m dst vs (eget (es 0)) (fun j => listed.getD j false) t v → RepV (cxOf g' H.length w') v (a.tmps.getD t undef)) →
      wpAnyIn (fz rd) 0 P .any ops (fun e a' w' => ∃ env' H' g', Rel ds n env' H' g' a' w' ∧ Ext g (hs 0).length w g' H'.length w' ∧ Q e env' H') fuel listed a w' := by
    have ready_nil : ∀ (listed : Array Bool), listed.size = m → Region.ready .any ops listed = [] → ∀ j, j < m → listed.getD j false = true := by
      intro listed hsz hr j
      induction j using Nat.strongRecOn with
      | _ j ih =>
        intro hj
        cases hl : listed.getD j false with
        | true => rfl
        | false =>
          obtain ⟨o, ho⟩ := hget j hj
          have : j ∈ Region.ready .any ops listed := by
            unfold Region.ready
            rw [List.mem_filter]
            refine ⟨List.mem_range.2 hj, ?_⟩
            simp only [ho, Option.map_some, Option.getD_some, Bool.and_eq_true, Bool.not_eq_true']
            refine ⟨?_, ?_⟩
            · have hjs : j < listed.size := by rw [hsz]; exact hj
              simpa [Array.getD, hjs] using hl
            · rw [Array.all_eq_true']
              intro e he
              simp only [Bool.or_eq_true, Bool.not_eq_true']
              by_cases hb : Region.binds .any e = true
              · right
                have hlt := (look j o ho).2.1 e (by simpa using he) hb
                exact ih e.on hlt (by omega)
              · left; simpa using hb
          rw [hr] at this; cases this
    have fin : ∀ (listed : Array Bool) (a : Act) (w' : World), (∀ j, j < m → listed.getD j false = true) → a.tmps.size = n → a.defers = ds →
        (∃ H g', SeenH m W hs (fun j => listed.getD j false) H ∧ Good g' H w' ∧ Ext g (hs 0).length w g' H.length w' ∧ ∀ t v, Seen m dst vs (eget (es 0)) (fun j => listed.getD j false) t v → RepV (cxOf g' H.length w') v (a.tmps.getD t undef)) →
        ∃ env' H' g', Rel ds n env' H' g' a w' ∧ Ext g (hs 0).length w g' H'.length w' ∧ Q .normal env' H' := by
      intro listed a w' hall hsz hdef ⟨H, g', s1, s2, s3, s4⟩
      have hH : H = hs m := by
        refine s1.unique ((seenH_text hhs m (Nat.le_refl _)).congr (fun k h1 h2 => ?_))
        rw [hall k h1]; simpa using h1
      subst hH
      refine ⟨restr (keep id) (es m), hs m, g', ⟨hsz, hdef, EnvRep.restr _ (fun t => s4 t _ ((seen_text hes t m (Nat.le_refl _)).congr (fun k h1 h2 => ?_))), s2⟩, s3, e4⟩
      rw [hall k h1]; simpa using h1
    intro fuel
    induction fuel with
    | zero =>
      intro listed a w' hsz hfu hcl hts hdef hinv
      have hall : ∀ j, j < m → listed.getD j false = true := by
        intro j hj
        cases hl : listed.getD j false with
        | true => rfl
        | false =>
          have : j ∈ (List.range m).filter fun j => !listed.getD j false := List.mem_filter.2 ⟨List.mem_range.2 hj, by simp [hl]⟩
          have hnil : ((List.range m).filter fun j => !listed.getD j false) = [] := List.eq_nil_of_length_eq_zero (Nat.le_zero.1 hfu)
          rw [hnil] at this
          cases this
      refine ⟨?_, fin listed a w' hall hts hdef hinv⟩
      unfold Region.ready
      rw [List.filter_eq_nil_iff]
      intro j hj
      have hj := List.mem_range.1 hj
      have hjs : j < listed.size := by rw [hsz]; exact hj
      have := hall j hj
      have h2 : listed.getD j true = true := by simpa [Array.getD, hjs] using this
      simp only [h2]; simp
    | succ fuel ih =>
      intro listed a w' hsz hfu hcl hts hdef hinv
      refine ⟨fun hr => fin listed a w' (ready_nil listed hsz hr) hts hdef hinv, fun i hi => ?_⟩
      unfold Region.ready at hi
      rw [List.mem_filter] at hi
      obtain ⟨him, hi⟩ := hi
      have him : i < m := List.mem_range.1 him
      have his : i < listed.size := by rw [hsz]; exact him
      obtain ⟨o, ho⟩ := hget i him
      simp only [ho, Option.map_some, Option.getD_some, Bool.and_eq_true, Bool.not_eq_true'] at hi
      obtain ⟨hil, hie⟩ := hi
      have hil : listed.getD i false = false := by simpa [Array.getD, his] using hil
      have hedge : ∀ e ∈ o.after.toList, Region.binds .any e = true → listed.getD e.on false = true := by
        intro e he hb
        rw [Array.all_eq_true'] at hie
        have := hie e (by simpa using he)
        simpa [hb] using this
      -- ahead
      have up : ∀ k, Ahead ops.toList i k → listed.getD k false = true := fun k hk => hk _ hcl (fun o' ho' e he hb => by
        have : ops[i]? = some o' := by rw [← Array.getElem?_toList]; exact ho'
        rw [ho] at this
        injection this with this
        subst this
        exact hedge e he hb)
      have down : ∀ k, Ahead ops.toList k i → listed.getD k false = false := fun k hk => by
        cases hl : listed.getD k false with
        | false => rfl
        | true =>
          have := hk _ hcl (fun o' ho' e he hb => hcl k o' ho' hl e he hb)
          have this : listed.getD i false = true := this
          rw [hil] at this; cases this
      have agree : ∀ k, k < m → (k = i ∨ (k < i ∧ ((bef ops.toList).getD i 0).testBit k = true) ∨ (i < k ∧ ((bef ops.toList).getD k 0).testBit i = true)) → listed.getD k false = decide (k < i) := by
        intro k _ h
        rcases h with rfl | ⟨h1, h2⟩ | ⟨h1, h2⟩
        · rw [hil]; simp
        · rw [up k (ahead_of_bit h2)]; simp [h1]
        · rw [down k (ahead_of_bit h2)]; simp; omega
      have clash : ∀ k ok, k < m → ops[k]? = some ok → k ≠ i → (∃ d, ok.dst = some d ∧ (d ∈ o.looksAt ops ∨ o.dst = some d)) → listed.getD k false = decide (k < i) := by
        intro k ok hk hok hne ⟨d, hd, hl⟩
        refine agree k hk ?_
        rcases Nat.lt_or_gt_of_ne hne with hlt | hgt
        · right; left
          refine ⟨hlt, ?_⟩
          rcases ((look i o ho).2.2.2 k ok hlt hok).1 with h | h
          · obtain ⟨p1, p2, p3⟩ := Oper.apart_spec h
            rcases hl with hl | hl
            · exact absurd hl (p1 d hd)
            · exact absurd hl (p2 d hd)
          · exact h
        · right; right
          refine ⟨hgt, ?_⟩
          rcases ((look k ok hok).2.2.2 i o hgt ho).1 with h | h
          · obtain ⟨p1, p2, p3⟩ := Oper.apart_spec h
            rcases hl with hl | hl
            · exact absurd hl (p3 d hd)
            · exact absurd hd (p2 d hl)
          · exact h
      obtain ⟨HS, g', s1, s2, s3, s4⟩ := hinv
      obtain ⟨_, hfact⟩ := e3 i o (hop i o ho)
      have heq : W.contains i = true ∨ (∀ k ∈ W, ordered (bef ops.toList) i k = true) → HS = hs i := by
        intro hc
        refine s1.unique ((seenH_text hhs i (Nat.le_of_lt him)).congr (fun k hk hW => ?_))
        refine (agree k hk ?_).symm
        by_cases hki : k = i
        · exact .inl hki
        · right
          rcases hc with hc | hc
          · rcases Nat.lt_or_gt_of_ne hki with hlt | hgt
            · obtain ⟨ok, hok⟩ := hget k hk
              exact .inl ⟨hlt, ((look i o ho).2.2.2 k ok hlt hok).2 hW hc⟩
            · obtain ⟨ok, hok⟩ := hget k hk
              exact .inr ⟨hgt, ((look k ok hok).2.2.2 i o hgt ho).2 hc hW⟩
          · have := hc k (by simpa using hW)
            unfold ordered at this
            rcases Nat.lt_or_gt_of_ne hki with hlt | hgt
            · rw [if_neg (by omega), if_pos hlt] at this; exact .inl ⟨hlt, this⟩
            · rw [if_pos hgt] at this; exact .inr ⟨hgt, this⟩
      -- what it sees
      let es' : Env := restr (o.looksAt ops) (es i)
      have hE : EnvRep (cxOf g' HS.length w') es' a := by
        intro t
        show RepV _ (eget (restr (o.looksAt ops) (es i)) t) _
        rw [get_restrict]
        split
        · rename_i ht
          refine s4 t _ ((seen_text hes t i (Nat.le_of_lt him)).congr (fun k hk hdk => ?_))
          by_cases hki : k = i
          · subst hki; rw [hil]; simp
          · obtain ⟨ok, hok⟩ := hget k hk
            have hdk' : ok.dst = some t := by simpa [dst, hok] using hdk
            exact (clash k ok hk hok hki ⟨t, hdk', .inl ht⟩).symm
        · trivial
      have hlook : ∀ x ∈ o.op.operands, evl (es i) x = evl es' x := by
        intro x hx
        cases x with
        | tmp t =>
          show eget (es i) t = eget (restr (o.looksAt ops) (es i)) t
          rw [get_restrict, if_pos]
          unfold Oper.looksAt
          exact List.mem_append_left _ (List.mem_filterMap.2 ⟨.tmp t, by simpa using hx, rfl⟩)
        | _ => rfl
      have hgv : ∀ j want, o.guard = some (j, want) → gval ops.toList es' j = gval ops.toList (es i) j := by
        intro j want hg
        unfold gval
        rw [Array.getElem?_toList]
        cases hx : (ops[j]?).bind (·.dst) with
        | none => rfl
        | some t =>
          show eget (restr (o.looksAt ops) (es i)) t = eget (es i) t
          rw [get_restrict, if_pos]
          unfold Oper.looksAt
          rw [hg]
          simp only [hx]
          simp
      have hcong : ∀ K H, ewOp P T own o K (es i) H → ewOp P T own o K es' H := by
        intro K H h
        unfold ewOp at h ⊢
        rw [← xop_congr o.op hlook]
        exact h
      -- what comes behind it
      have after : ∀ (cv : Value) (H' : List Ob) (g'' : Nat → Option Key) (w'' : World), Good g'' H' w'' → Ext g' HS.length w' g'' H'.length w'' → RepV (cxOf g'' H'.length w'') (vs i) cv → SeenH m W hs (fun j => (listed.setIfInBounds i true).getD j false) H' →
          wpAnyIn (fz rd) 0 P .any ops (fun e a' w' => ∃ env' H' g', Rel ds n env' H' g' a' w' ∧ Ext g (hs 0).length w g' H'.length w' ∧ Q e env' H') fuel (listed.setIfInBounds i true) (a.put o.dst cv) w'' := by
        intro cv H' g'' w'' k1 k2 k3 k4
        have hset : ∀ j, (listed.setIfInBounds i true).getD j false = if j = i then true else listed.getD j false := by
          intro j
          by_cases e : j = i
          · subst e; simp [Array.getD, his]
          · rw [if_neg e]
            simp only [Array.getD_eq_getD_getElem?]
            rw [Array.getElem?_setIfInBounds_ne (Ne.symm e)]
        refine ih _ _ _ (by simp [hsz]) ?_ ?_ (by cases o.dst <;> simp [Act.put, hts]) (by cases o.dst <;> simp [Act.put, hdef]) ⟨H', g'', k4, k1, s3.trans k2, fun t v hv => ?_⟩
        · have := filter_lt (p := fun j => !listed.getD j false) (p' := fun j => !(listed.setIfInBounds i true).getD j false) (i := i) (l := List.range m) (fun j _ hj => by
            simp only [hset] at hj
            split at hj
            · simp at hj
            · exact hj) (List.mem_range.2 him) (by simp [hil]) (by simp [hset])
          omega
        · intro j oj hj hl e he hb
          simp only [hset] at hl ⊢
          split
          · rfl
          · split at hl
            · rename_i e1
              subst e1
              have : ops[j]? = some oj := by rw [← Array.getElem?_toList]; exact hj
              rw [ho] at this
              injection this with this
              subst this
              exact hedge e he hb
            · exact hcl j oj hj hl e he hb
        · have hdn := (look i o ho).2.2.1
          by_cases hdt : o.dst = some t
          · have hv' : v = vs i := by
              have hdi : dst i = some t := by simp [dst, ho, hdt]
              rcases hv with ⟨j, a1, a2, a3, a4, a5⟩ | ⟨a1, _⟩
              · by_cases hji : j = i
                · subst hji; exact a4.symm
                · obtain ⟨oj, hoj⟩ := hget j a1
                  have hdj : oj.dst = some t := by simpa [dst, hoj] using a3
                  have hcl' := clash j oj a1 hoj hji ⟨t, hdj, .inr hdt⟩
                  simp only [hset] at a2
                  rw [if_neg hji, hcl'] at a2
                  exact absurd hdi (a5 i (of_decide_eq_true a2) him (by simp [hset]))
              · exact absurd hdi (a1 i him (by simp [hset]))
            subst hv'
            have : (a.put o.dst cv).tmps.getD t undef = cv := by
              have := hdn t hdt
              rw [hdt]
              simp [Act.put, hts, this]
            rw [this]
            exact k3
          · have hold : Seen m dst vs (eget (es 0)) (fun j => listed.getD j false) t v := hv.congr (fun k hk hdk => by
              simp only [hset]
              rw [if_neg]
              intro e
              subst e
              exact hdt (by simpa [dst, ho] using hdk))
            have := RepV.mono k2.mono (s4 t v hold)
            have e : (a.put o.dst cv).tmps.getD t undef = a.tmps.getD t undef := by
              cases hd : o.dst with
              | none => rfl
              | some d =>
                have hne : d ≠ t := fun e => hdt (by rw [hd, e])
                simp [Act.put, Array.getElem?_setIfInBounds_ne hne]
            rw [e]
            exact this
      have seenW : W.contains i = true → SeenH m W hs (fun j => (listed.setIfInBounds i true).getD j false) (hs (i + 1)) := by
        intro hW
        refine .inl ⟨i, him, hW, by simp [Array.getD, his], rfl, fun k h1 h2 h3 => ?_⟩
        obtain ⟨ok, hok⟩ := hget k h2
        have := agree k h2 (.inr (.inr ⟨h1, ((look k ok hok).2.2.2 i o h1 ho).2 hW h3⟩))
        simp only [Array.getD_eq_getD_getElem?] at this ⊢
        rw [Array.getElem?_setIfInBounds_ne (by omega), this]
        simp; omega
      have seenN : W.contains i = false → SeenH m W hs (fun j => (listed.setIfInBounds i true).getD j false) HS := by
        intro hW
        refine s1.congr (fun k hk hWk => ?_)
        have : k ≠ i := fun e => by subst e; rw [hW] at hWk; cases hWk
        simp only [Array.getD_eq_getD_getElem?]
        rw [Array.getElem?_setIfInBounds_ne (Ne.symm this)]
      -- the step
      unfold wpOpIn
      rw [ho]
      simp only
      rcases hfact with ⟨hg, hk⟩ | ⟨j, want, q, hg, hq, hne, hv, hH⟩
      · have hw : Region.wanted o (yielded ops a.tmps) = true := by
          rw [wanted_iff]
          cases hgd : o.guard with
          | none => rfl
          | some jw =>
            obtain ⟨j, want⟩ := jw
            rw [hgd] at hg
            simp only at hg ⊢
            rw [gval_yield' hE ((hgv j want hgd).trans hg)]
            simp
        rw [if_pos hw]
        rcases hk with ⟨hW, _, hk⟩ | ⟨hW, hH, hF, hk⟩ | ⟨hW, hH, hF, hS, hk⟩ | ⟨hW, hH, hF, hS, hk⟩
        · have hHS := heq (.inl hW)
          subst hHS
          refine op_wp' hTO hE s2 (hcong _ _ hk) fun v cv H' g'' w'' k1 k2 k3 ⟨k4, k5⟩ => ?_
          subst k4 k5
          exact after cv _ g'' w'' k1 k2 k3 (seenW hW)
        · refine op_wp' hTO hE s2 (hcong _ _ (hk HS)) fun v cv H' g'' w'' k1 k2 k3 ⟨k4, k5⟩ => ?_
          subst k4 k5
          exact after cv _ g'' w'' k1 k2 k3 (seenN hW)
        · have hord : ∀ k ∈ W, ordered (bef ops.toList) i k = true := by
            rcases (look i o ho).1 with h | h | h | h
            · rw [hW] at h; cases h
            · unfold isFree at hF; rw [hF] at h; cases h
            · rw [hS] at h; cases h.1
            · exact h.2
          have hHS := heq (.inr hord)
          subst hHS
          refine op_wp' hTO hE s2 (hcong _ _ hk) fun v cv H' g'' w'' k1 k2 k3 ⟨k4, k5⟩ => ?_
          subst k4 k5
          exact after cv _ g'' w'' k1 k2 k3 (seenN hW)
        · have hst : stabOp o = true ∧ ∃ L, blank (objsOf (es 0) F) HS = blank (objsOf (es 0) F) (hs 0) ++ L := by
            rcases (look i o ho).1 with h | h | h | h
            · rw [hW] at h; cases h
            · unfold isFree at hF; rw [hF] at h; cases h
            · refine ⟨h.2, ?_⟩
              rcases s1 with ⟨j, a1, a2, a3, a4, a5⟩ | ⟨a1, a2⟩
              · obtain ⟨L, hL⟩ := hpre (j + 1) a1
                exact ⟨L, by rw [← a4, hL]⟩
              · exact ⟨[], by rw [a2]; simp⟩
            · rw [hS] at h; cases h.1
          obtain ⟨hst, L, hL⟩ := hst
          have hk' := hk HS L hL hst
          refine op_wp' hTO hE s2 (hcong _ _ hk') fun v cv H' g'' w'' k1 k2 k3 ⟨k4, k5⟩ => ?_
          subst k4 k5
          exact after cv _ g'' w'' k1 k2 k3 (seenN hW)
      · have hw : Region.wanted o (yielded ops a.tmps) = false := by
          rw [wanted_iff, hg]
          simp only
          rw [gval_yield' hE ((hgv j want hg).trans hq)]
          simpa using hne
        rw [hw]
        rw [if_neg (by simp)]
        refine ⟨fun _ _ => trivial, ?_⟩
        cases hW : W.contains i with
        | true =>
          have hHS := heq (.inl hW)
          subst hHS
          refine after undef _ g' w' s2 (Ext.refl _ _ _) (by rw [hv]; trivial) ?_
          rw [← hH]
          exact seenW hW
        | false => exact after undef _ g' w' s2 (Ext.refl _ _ _) (by rw [hv]; trivial) (seenN hW)
  refine wpIn_region_any hm (main ops.size _ a _ (by simp [m]) (Nat.le_trans (List.length_filter_le _ _) (by simp [m])) ?_ hR.1 hR.2.1 ?_)
  · intro j o hj hS
    simp [Array.getD] at hS
  · have hdr := step_drawn hR.2.2.2 (w.drawn + 1)
    refine ⟨hs 0, g, .inr ⟨fun k hk hW => by simp [Array.getD], rfl⟩, hdr.1, hdr.2, fun t v hs => ?_⟩
    rcases hs with ⟨j, _, h1, _⟩ | ⟨_, rfl⟩
    · simp [Array.getD] at h1
    · exact RepV.mono hdr.2.mono (hR.2.2.1 t)
end
end Go.EL

/- The value logic, part U: a region whose order is open, walked once in the order of the text. -/
import Derived.Test.YtjplgbalpnlanaaES
set_option linter.unusedVariables false
set_option linter.unusedSimpArgs false
namespace Go.EL
open Go
variable {P : Program} {T : Nat → TD}

/-! ### what stands ahead of what -/
def bits (acc : List Nat) (o : Oper) : Nat := o.after.toList.foldl (fun s e => if Region.binds .any e = true then s ||| (2 ^ e.on ||| acc.getD e.on 0) else s) 0
def befL : List Oper → List Nat → List Nat
  | [], acc => acc
  | o :: os, acc => befL os (acc ++ [bits acc o])

theorem fold_bit {α : Type} (c : α → Bool) (f : α → Nat) (i : Nat) : ∀ (l : List α) (s : Nat), (l.foldl (fun s e => if c e = true then s ||| f e else s) s).testBit i = true → s.testBit i = true ∨ ∃ e ∈ l, c e = true ∧ (f e).testBit i = true
  | [], s, h => .inl h
  | x :: l, s, h => by
    rw [List.foldl_cons] at h
    rcases fold_bit c f i l _ h with h | ⟨e, he, h⟩
    · split at h
      · rename_i hc
        rw [Nat.testBit_or, Bool.or_eq_true] at h
        rcases h with h | h
        · exact .inl h
        · exact .inr ⟨x, by simp, hc, h⟩
      · exact .inl h
    · exact .inr ⟨e, by simp [he], h⟩

def Closed (ops : List Oper) (S : Nat → Prop) : Prop := ∀ j o, ops[j]? = some o → S j → ∀ e ∈ o.after.toList, Region.binds .any e = true → S e.on
def Ahead (ops : List Oper) (j i : Nat) : Prop := ∀ S : Nat → Prop, Closed ops S → (∀ o, ops[j]? = some o → ∀ e ∈ o.after.toList, Region.binds .any e = true → S e.on) → S i

theorem bef_ahead (all : List Oper) : ∀ (os : List Oper) (acc : List Nat), (∀ k o, os[k]? = some o → all[acc.length + k]? = some o) → (∀ j x, acc[j]? = some x → ∀ i, x.testBit i = true → Ahead all j i) →
    ∀ j x, (befL os acc)[j]? = some x → ∀ i, x.testBit i = true → Ahead all j i
  | [], acc, _, h => h
  | o :: os, acc, ho, h => by
    refine bef_ahead all os _ (fun k o' hk => ?_) (fun j x hj i hi => ?_)
    · rw [List.length_append, List.length_singleton, show acc.length + 1 + k = acc.length + (k + 1) by omega]
      exact ho (k + 1) o' hk
    · rcases Nat.lt_or_ge j acc.length with hl | hl
      · rw [List.getElem?_append_left hl] at hj
        exact h j x hj i hi
      · rw [List.getElem?_append_right hl] at hj
        have hj0 : j = acc.length := by
          rcases Nat.lt_or_ge (j - acc.length) 1 with h1 | h1
          · omega
          · rw [List.getElem?_eq_none (by simpa using h1)] at hj; cases hj
        subst hj0
        simp at hj
        subst hj
        intro S hS hE
        have hoo := ho 0 o rfl
        rw [Nat.add_zero] at hoo
        rcases fold_bit _ _ i _ _ hi with h0 | ⟨e, he, hc, hb⟩
        · simp at h0
        · have hse := hE o hoo e he hc
          rw [Nat.testBit_or, Bool.or_eq_true] at hb
          rcases hb with hb | hb
          · rw [Nat.testBit_two_pow] at hb
            have := of_decide_eq_true hb
            rw [← this]; exact hse
          · cases hx : acc[e.on]? with
            | none => rw [List.getD_eq_getElem?_getD, hx] at hb; simp at hb
            | some x =>
              rw [List.getD_eq_getElem?_getD, hx] at hb
              exact h e.on x hx i hb S hS (fun o' ho' e' he' hb' => hS e.on o' ho' hse e' he' hb')

def bef (ops : List Oper) : List Nat := befL ops []
theorem ahead_of_bit {ops : List Oper} {i j : Nat} (h : ((bef ops).getD j 0).testBit i = true) : Ahead ops j i := by
  cases hx : (bef ops)[j]? with
  | none => rw [List.getD_eq_getElem?_getD, hx] at h; simp at h
  | some x =>
    rw [List.getD_eq_getElem?_getD, hx] at h
    exact bef_ahead ops ops [] (fun k o hk => by simpa using hk) (fun j x hj => by simp at hj) j x hx i h

/-- two operations that stand in an order -/
def ordered (b : List Nat) (i k : Nat) : Bool := if i < k then (b.getD k 0).testBit i else if k < i then (b.getD i 0).testBit k else true
/-- operations that only lengthen the heap; and those that read the same at a longer one -/
def isAl (o : Option Oper) : Bool := match o with
  | some o => (match o.op with | .alloc _ => true | .box _ _ => true | _ => false)
  | none => false
def stabOp (o : Oper) : Bool := match o.op with
  | .move _ => true
  | .nilCheck _ => true
  | .lookup _ _ _ _ => true
  | .load _ _ => true
  | .fieldAddr _ _ _ => true
  | .indexAddr _ _ _ => true
  | .build _ _ => true
  | .buildSlice _ _ _ => true
  | .call c => (match c.callee with | .value _ => true | _ => false)
  | _ => false
def isStab (F : List Nat) (i : Nat) : Bool := F.contains (i + 1000)
/-- the look at a region -/
def drawOK (n : Nat) (ops : Array Oper) (W F : List Nat) : Bool :=
  let b := bef ops.toList
  (List.range ops.size).all fun j => match ops[j]? with
    | none => true
    | some oj =>
      (W.contains j || F.contains j || W.all fun k => ordered b j k || (isStab F j && stabOp oj && decide (j < k) && isAl ops[k]?)) &&
      (oj.after.toList.all fun e => !Region.binds .any e || decide (e.on < j)) && (match oj.dst with | some d => decide (d < n) | none => true) &&
      (List.range j).all fun i => match ops[i]? with
        | none => true
        | some oi => (oi.apart ops oj || (b.getD j 0).testBit i) && (!(W.contains i && W.contains j) || (b.getD j 0).testBit i)
def isFree (F : List Nat) (W : List Nat) (i : Nat) : Bool := F.contains i

/-- a call in a drawn region: its answer, and what follows -/
def CallE (S K : V → Prop) [Hold S K] : Prop := ∃ v, S v ∧ K v
def CallE2 (S K : V → List Ob → Prop) [Hold S K] : Prop := ∃ v H, S v H ∧ K v H
theorem CallE.intro {S K : V → Prop} (v : V) (h : S v) (k : K v) : CallE S K := ⟨v, h, k⟩
theorem CallE2.intro {S K : V → List Ob → Prop} (v : V) (H : List Ob) (h : S v H) (k : K v H) : CallE2 S K := ⟨v, H, h, k⟩

def FreeW (P : Program) (T : Nat → TD) (own : Bool) (o : Oper) (K : V → Prop) (env : Env) : Prop :=
  match xop T own (evl env) [] o.op with
  | .val pre v H' => H' = [] ∧ Need pre (K v)
  | .call f args => CallE (fun v => ∀ H, SCall P f args H fun r H' => r = v ∧ H' = H) K
  | _ => False
def SameW (P : Program) (T : Nat → TD) (own : Bool) (o : Oper) (K : V → Prop) (env : Env) (H : List Ob) : Prop :=
  match xop T own (evl env) H o.op with
  | .val pre v H' => H' = H ∧ Need pre (K v)
  | .call f args => CallE (fun v => SCall P f args H (fun r H' => r = v ∧ H' = H)) K
  | _ => False
def ChangeW (P : Program) (T : Nat → TD) (own : Bool) (o : Oper) (K : V → List Ob → Prop) (env : Env) (H : List Ob) : Prop :=
  match xop T own (evl env) H o.op with
  | .val pre v H' => Need pre (K v H')
  | .call f args => CallE2 (fun v H1 => SCall P f args H (fun r H' => r = v ∧ H' = H1)) K
  | _ => False

def StabW (P : Program) (T : Nat → TD) (own : Bool) (o : Oper) (K : V → Prop) (env : Env) (H : List Ob) : Prop :=
  match xop T own (evl env) H o.op with
  | .val pre v H' => H' = H ∧ Need pre (K v)
  | .call f args => CallE (fun v => ∀ L, SCall P f args (H ++ L) (fun r H' => r = v ∧ H' = H ++ L)) K
  | _ => False
/-- one step of the walk, by what kind of operation it is -/
def drawStep (P : Program) (T : Nat → TD) (own : Bool) (o : Oper) (inW free stab : Bool) (K : V → List Ob → Prop) (env : Env) (H : List Ob) : Prop :=
  if inW = true then ChangeW P T own o K env H else if free = true then FreeW P T own o (fun v => K v H) env else if stab = true then StabW P T own o (fun v => K v H) env H else SameW P T own o (fun v => K v H) env H

def ewDraw (P : Program) (T : Nat → TD) (own : Bool) (ops : List Oper) (F W : List Nat) : Nat → List Oper → (Env → List Ob → Prop) → Env → List Ob → Prop
  | _, [], K, env, H => K env H
  | k, o :: rest, K, env, H =>
    match o.guard with
    | none => drawStep P T own o (W.contains k) (isFree F W k) (isStab F k) (fun v H' => ewDraw P T own ops F W (k + 1) rest K (eput env o.dst v) H') env H
    | some (j, want) => GuardW (gval ops env j) want (drawStep P T own o (W.contains k) (isFree F W k) (isStab F k) (fun v H' => ewDraw P T own ops F W (k + 1) rest K (eput env o.dst v) H') env H) (ewDraw P T own ops F W (k + 1) rest K (eput env o.dst (.tuple [])) H)

/-- what is known of one operation, as it stands in the order of the text -/
def OpFact (P : Program) (T : Nat → TD) (own : Bool) (ops : List Oper) (F W : List Nat) (o : Oper) (k : Nat) (env : Env) (H : List Ob) (v : V) (H' : List Ob) : Prop :=
  (match o.guard with
   | none => True
   | some (j, want) => gval ops env j = .bool want) ∧
    ((W.contains k = true ∧ ewOp P T own o (fun v' H1 => v' = v ∧ H1 = H') env H) ∨
     (W.contains k = false ∧ H' = H ∧ isFree F W k = true ∧ ∀ H0, ewOp P T own o (fun v' H1 => v' = v ∧ H1 = H0) env H0) ∨
     (W.contains k = false ∧ H' = H ∧ isFree F W k = false ∧ isStab F k = false ∧ ewOp P T own o (fun v' H1 => v' = v ∧ H1 = H) env H) ∨
     (W.contains k = false ∧ H' = H ∧ isFree F W k = false ∧ isStab F k = true ∧ ((∃ pre, xop T own (evl env) H o.op = .val pre v H ∧ pre) ∨ ∃ f args, xop T own (evl env) H o.op = .call f args ∧ ∀ L, SCall P f args (H ++ L) (fun r H' => r = v ∧ H' = H ++ L)))) ∨
  (∃ j want, o.guard = some (j, want) ∧ ((∃ q, gval ops env j = .bool q ∧ q ≠ want) ∨ ∃ l, gval ops env j = .tuple l) ∧ v = .tuple [] ∧ H' = H)

theorem drawStep_fact {own : Bool} {ops : List Oper} {F W : List Nat} {o : Oper} {k : Nat} {K : V → List Ob → Prop} {env : Env} {H : List Ob} (h : drawStep P T own o (W.contains k) (isFree F W k) (isStab F k) K env H) :
    ∃ v H', ((W.contains k = true ∧ ewOp P T own o (fun v' H1 => v' = v ∧ H1 = H') env H) ∨
     (W.contains k = false ∧ H' = H ∧ isFree F W k = true ∧ ∀ H0, ewOp P T own o (fun v' H1 => v' = v ∧ H1 = H0) env H0) ∨
     (W.contains k = false ∧ H' = H ∧ isFree F W k = false ∧ isStab F k = false ∧ ewOp P T own o (fun v' H1 => v' = v ∧ H1 = H) env H) ∨
     (W.contains k = false ∧ H' = H ∧ isFree F W k = false ∧ isStab F k = true ∧ ((∃ pre, xop T own (evl env) H o.op = .val pre v H ∧ pre) ∨ ∃ f args, xop T own (evl env) H o.op = .call f args ∧ ∀ L, SCall P f args (H ++ L) (fun r H' => r = v ∧ H' = H ++ L)))) ∧ K v H' := by
  unfold drawStep at h
  split at h
  · rename_i hW
    unfold ChangeW at h
    split at h
    · rename_i pre v H' hx
      refine ⟨v, H', .inl ⟨hW, ?_⟩, h.2⟩
      unfold ewOp; rw [hx]; exact ⟨h.1, rfl, rfl⟩
    · rename_i f args hx
      obtain ⟨v, H1, h1, h2⟩ := h
      refine ⟨v, H1, .inl ⟨hW, ?_⟩, h2⟩
      unfold ewOp; rw [hx]; exact h1
    · exact h.elim
  · rename_i hW
    have hW : W.contains k = false := by simpa using hW
    split at h
    · rename_i hF
      unfold FreeW at h
      split at h
      · rename_i pre v H' hx
        obtain ⟨rfl, hp, hk⟩ := h
        refine ⟨v, H, .inr (.inl ⟨hW, rfl, hF, fun H0 => ?_⟩), hk⟩
        obtain ⟨pre', h1, h2⟩ := xop_free hx hp H0
        unfold ewOp; rw [h1]; exact ⟨h2, rfl, rfl⟩
      · rename_i f args hx
        obtain ⟨v, h1, h2⟩ := h
        refine ⟨v, H, .inr (.inl ⟨hW, rfl, hF, fun H0 => ?_⟩), h2⟩
        obtain ⟨c, fo, first, cap, ho, hc, hq, ha⟩ := xop_call hx
        have : xop T own (evl env) H0 o.op = .call f args := by
          rw [ho]
          simp only [xop, hc, hq, ha]
        unfold ewOp; rw [this]; exact h1 H0
      · exact h.elim
    · rename_i hF
      have hF : isFree F W k = false := by simpa using hF
      split at h
      · rename_i hS
        unfold StabW at h
        split at h
        · rename_i pre v H' hx
          obtain ⟨rfl, hp, hk⟩ := h
          exact ⟨v, H', .inr (.inr (.inr ⟨hW, rfl, hF, hS, .inl ⟨pre, hx, hp⟩⟩)), hk⟩
        · rename_i f args hx
          obtain ⟨v, h1, h2⟩ := h
          exact ⟨v, H, .inr (.inr (.inr ⟨hW, rfl, hF, hS, .inr ⟨f, args, hx, h1⟩⟩)), h2⟩
        · exact h.elim
      · rename_i hS
        have hS : isStab F k = false := by simpa using hS
        unfold SameW at h
        split at h
        · rename_i pre v H' hx
          obtain ⟨rfl, hp, hk⟩ := h
          refine ⟨v, H', .inr (.inr (.inl ⟨hW, rfl, hF, hS, ?_⟩)), hk⟩
          unfold ewOp; rw [hx]; exact ⟨hp, rfl, rfl⟩
        · rename_i f args hx
          obtain ⟨v, h1, h2⟩ := h
          refine ⟨v, H, .inr (.inr (.inl ⟨hW, rfl, hF, hS, ?_⟩)), h2⟩
          unfold ewOp; rw [hx]; exact h1
        · exact h.elim

theorem live_ext {H : List Ob} {a : V} (h : live H a) (L : List Ob) : live (H ++ L) a := by
  cases a
  case ref o c =>
    obtain ⟨cs, h⟩ := h
    exact ⟨cs, by rw [List.getElem?_append_left (List.getElem?_eq_some_iff.1 h).1]; exact h⟩
  case eref o ver i c =>
    obtain ⟨es, l, h, k⟩ := h
    exact ⟨es, l, by rw [List.getElem?_append_left (List.getElem?_eq_some_iff.1 h).1]; exact h, k⟩
  all_goals first | trivial | exact h.elim
theorem xop_ext {own : Bool} {ρ : Operand → V} {o : Oper} {pre : Prop} {v : V} {H : List Ob} (hs : stabOp o = true) (h : xop T own ρ H o.op = .val pre v H) (hp : pre) (L : List Ob) : ∃ pre', xop T own ρ (H ++ L) o.op = .val pre' v (H ++ L) ∧ pre' := by
  obtain ⟨dst, op, ty, pos, after, guard⟩ := o
  cases op
  all_goals first | (simp [stabOp] at hs; done) | skip
  case move x => injection h with e1 e2 e3; subst e1 e2; exact ⟨_, rfl, trivial⟩
  case build t ps =>
    simp only [xop] at h ⊢
    split at h
    · injection h with e1 e2 e3; subst e1 e2; exact ⟨_, rfl, hp⟩
    · injection h with e1 e2 e3; subst e1 e2; exact ⟨_, rfl, hp⟩
    · cases h
  case buildSlice t n ps =>
    simp only [xop] at h ⊢
    split at h
    · cases own with
      | false => injection h with e1 e2 e3; subst e1 e2; exact ⟨_, rfl, hp⟩
      | true => injection h with e1 e2 e3; exact absurd (congrArg List.length e3) (by simp)
    · cases h
  case load t a =>
    simp only [xop] at h ⊢
    split at h
    · cases h
    · rename_i hk
      rw [if_neg hk]
      unfold xload at h ⊢
      split at h
      · split at h
        · rename_i ho
          rw [List.getElem?_append_left (List.getElem?_eq_some_iff.1 ho).1, ho]
          injection h with e1 e2 e3; subst e1 e2; exact ⟨_, rfl, hp⟩
        · cases h
      · injection h with e1 e2 e3; subst e1 e2; exact ⟨_, rfl, hp⟩
      · split at h
        · rename_i ho
          rw [List.getElem?_append_left (List.getElem?_eq_some_iff.1 ho).1, ho]
          injection h with e1 e2 e3; subst e1 e2; exact ⟨_, rfl, hp⟩
        · cases h
      · cases h
  case fieldAddr t a f =>
    simp only [xop] at h ⊢
    unfold xfieldAddr at h ⊢
    split at h
    · split at h
      · split at h
        · injection h with e1 e2 e3; subst e1 e2; exact ⟨_, rfl, live_ext hp.1 L, hp.2⟩
        · injection h with e1 e2 e3; subst e1 e2; exact ⟨_, rfl, live_ext hp.1 L, hp.2⟩
        · injection h with e1 e2 e3; subst e1 e2; exact ⟨_, rfl, live_ext hp.1 L, hp.2⟩
        · cases h
      · cases h
    · cases h
  case indexAddr t x i =>
    simp only [xop] at h ⊢
    unfold xindexAddr at h ⊢
    split at h
    · split at h
      · injection h with e1 e2 e3; subst e1 e2; exact ⟨_, rfl, hp⟩
      · injection h with e1 e2 e3; subst e1 e2; exact ⟨_, rfl, hp⟩
      · split at h
        · rename_i ho
          rw [List.getElem?_append_left (List.getElem?_eq_some_iff.1 ho).1, ho]
          injection h with e1 e2 e3; subst e1 e2; exact ⟨_, rfl, hp⟩
        · cases h
      · cases h
    · split at h
      · injection h with e1 e2 e3; subst e1 e2; exact ⟨_, rfl, live_ext hp.1 L, hp.2⟩
      · injection h with e1 e2 e3; subst e1 e2; exact ⟨_, rfl, hp⟩
      · cases h
    · cases h
  case nilCheck x =>
    simp only [xop] at h ⊢
    split at h
    · injection h with e1 e2 e3; subst e1 e2; exact ⟨_, rfl, live_ext hp L⟩
    · injection h with e1 e2 e3; subst e1 e2; exact ⟨_, rfl, hp⟩
    · injection h with e1 e2 e3; subst e1 e2; exact ⟨_, rfl, live_ext hp L⟩
    · cases h
  case lookup t x i ok =>
    simp only [xop] at h ⊢
    unfold xlookup at h ⊢
    split at h
    · split at h
      · split at h
        · rename_i ho
          rw [List.getElem?_append_left (List.getElem?_eq_some_iff.1 ho).1, ho]
          injection h with e1 e2 e3; subst e1 e2; exact ⟨_, rfl, hp⟩
        · cases h
      · injection h with e1 e2 e3; subst e1 e2; exact ⟨_, rfl, hp⟩
      · cases h
    · cases h
  case call c =>
    simp only [stabOp] at hs
    simp only [xop] at h
    split at hs
    · rename_i f hc
      rw [hc] at h
      simp only at h
      split at h <;> cases h
    · cases hs

/-- the whole walk as a table -/
theorem ewDraw_table {own : Bool} {ops : List Oper} {F W : List Nat} {K : Env → List Ob → Prop} : ∀ (l : List Oper) (k : Nat) (env : Env) (H : List Ob), ewDraw P T own ops F W k l K env H →
    ∃ (es : Nat → Env) (hs : Nat → List Ob) (vs : Nat → V), es k = env ∧ hs k = H ∧ (∀ i o, l[i]? = some o → es (k + i + 1) = eput (es (k + i)) o.dst (vs (k + i)) ∧ OpFact P T own ops F W o (k + i) (es (k + i)) (hs (k + i)) (vs (k + i)) (hs (k + i + 1))) ∧
      K (es (k + l.length)) (hs (k + l.length))
  | [], k, env, H, h => ⟨fun _ => env, fun _ => H, fun _ => .dead, rfl, rfl, fun i o ho => by simp at ho, h⟩
  | o :: rest, k, env, H, h => by
    have fin : ∀ v H', OpFact P T own ops F W o k env H v H' → ewDraw P T own ops F W (k + 1) rest K (eput env o.dst v) H' → ∃ (es : Nat → Env) (hs : Nat → List Ob) (vs : Nat → V), es k = env ∧ hs k = H ∧ (∀ i o', (o :: rest)[i]? = some o' → es (k + i + 1) = eput (es (k + i)) o'.dst (vs (k + i)) ∧ OpFact P T own ops F W o' (k + i) (es (k + i)) (hs (k + i)) (vs (k + i)) (hs (k + i + 1))) ∧
      K (es (k + (o :: rest).length)) (hs (k + (o :: rest).length)) := by
      intro v H' hf hr
      obtain ⟨es, hs, vs, e1, e2, e3, e4⟩ := ewDraw_table rest (k + 1) _ _ hr
      refine ⟨fun i => if i = k then env else es i, fun i => if i = k then H else hs i, fun i => if i = k then v else vs i, by simp, by simp, fun i o' ho' => ?_, ?_⟩
      · cases i with
        | zero =>
          simp only [List.getElem?_cons_zero, Option.some.injEq] at ho'
          subst ho'
          simp only [Nat.add_zero, if_true]
          have n1 : ¬ (k + 1 = k) := by omega
          simp only [n1, if_false, e1, e2]
          exact ⟨trivial, hf⟩
        | succ i =>
          simp only [List.getElem?_cons_succ] at ho'
          have := e3 i o' ho'
          have n1 : ¬ (k + (i + 1) = k) := by omega
          have n2 : ¬ (k + (i + 1) + 1 = k) := by omega
          simp only [n1, n2, if_false]
          rw [show k + (i + 1) = k + 1 + i by omega]
          exact this
      · have n3 : ¬ (k + (o :: rest).length = k) := by simp
        simp only [n3, if_false]
        rw [List.length_cons, show k + (rest.length + 1) = k + 1 + rest.length by omega]
        exact e4
    simp only [ewDraw] at h
    cases hg : o.guard with
    | none =>
      rw [hg] at h
      obtain ⟨v, H', h1, h2⟩ := drawStep_fact (ops := ops) h
      exact fin v H' (.inl ⟨by rw [hg]; trivial, h1⟩) h2
    | some jw =>
      obtain ⟨j, want⟩ := jw
      rw [hg] at h
      simp only at h
      unfold GuardW at h
      split at h
      · rename_i q hq
        by_cases hqw : q = want
        · subst hqw
          obtain ⟨v, H', h1, h2⟩ := drawStep_fact (ops := ops) (h.1 (by simp))
          exact fin v H' (.inl ⟨by rw [hg]; exact hq, h1⟩) h2
        · exact fin (.tuple []) H (.inr ⟨j, want, hg, .inl ⟨q, hq, hqw⟩, rfl, rfl⟩) (h.2 (by simpa using hqw))
      · rename_i l hq
        exact fin (.tuple []) H (.inr ⟨j, want, hg, .inr ⟨l, hq⟩, rfl, rfl⟩) h
      · exact h.elim

/-! ### every order -/
section
variable {own : Bool} {n : Nat} {ops : Array Oper} {W : List Nat}

/-- the value of a slot, where some operations have run -/
def Seen {α : Type} (m : Nat) (dst : Nat → Option Nat) (val : Nat → α) (e0 : Nat → α) (fl : Nat → Bool) (t : Nat) (v : α) : Prop :=
  (∃ j, j < m ∧ fl j = true ∧ dst j = some t ∧ val j = v ∧ ∀ k, j < k → k < m → fl k = true → dst k ≠ some t) ∨
  ((∀ k, k < m → fl k = true → dst k ≠ some t) ∧ v = e0 t)
def SeenH (m : Nat) (W : List Nat) (hs : Nat → List Ob) (fl : Nat → Bool) (H : List Ob) : Prop :=
  (∃ j, j < m ∧ W.contains j = true ∧ fl j = true ∧ hs (j + 1) = H ∧ ∀ k, j < k → k < m → W.contains k = true → fl k = false) ∨
  ((∀ k, k < m → W.contains k = true → fl k = false) ∧ H = hs 0)

theorem SeenH.unique {m : Nat} {hs : Nat → List Ob} {fl : Nat → Bool} {H H' : List Ob} (h : SeenH m W hs fl H) (h' : SeenH m W hs fl H') : H = H' := by
  rcases h with ⟨j, a1, a2, a3, a4, a5⟩ | ⟨a1, a2⟩ <;> rcases h' with ⟨j', b1, b2, b3, b4, b5⟩ | ⟨b1, b2⟩
  · rcases Nat.lt_trichotomy j j' with h | h | h
    · have := a5 j' h b1 b2; rw [b3] at this; cases this
    · subst h; exact a4.symm.trans b4
    · have := b5 j h a1 a2; rw [a3] at this; cases this
  · have := b1 j a1 a2; rw [a3] at this; cases this
  · have := a1 j' b1 b2; rw [b3] at this; cases this
  · exact a2.trans b2.symm

theorem Seen.congr {α : Type} {m : Nat} {dst : Nat → Option Nat} {val : Nat → α} {e0 : Nat → α} {fl fl' : Nat → Bool} {t : Nat} {v : α} (hc : ∀ k, k < m → dst k = some t → fl k = fl' k) (h : Seen m dst val e0 fl t v) : Seen m dst val e0 fl' t v := by
  rcases h with ⟨j, a1, a2, a3, a4, a5⟩ | ⟨a1, a2⟩
  · exact .inl ⟨j, a1, by rw [← hc j a1 a3]; exact a2, a3, a4, fun k h1 h2 h3 h4 => a5 k h1 h2 (by rw [hc k h2 h4]; exact h3) h4⟩
  · exact .inr ⟨fun k h1 h2 h3 => a1 k h1 (by rw [hc k h1 h3]; exact h2) h3, a2⟩
theorem SeenH.congr {m : Nat} {hs : Nat → List Ob} {fl fl' : Nat → Bool} {H : List Ob} (hc : ∀ k, k < m → W.contains k = true → fl k = fl' k) (h : SeenH m W hs fl H) : SeenH m W hs fl' H := by
  rcases h with ⟨j, a1, a2, a3, a4, a5⟩ | ⟨a1, a2⟩
  · exact .inl ⟨j, a1, a2, by rw [← hc j a1 a2]; exact a3, a4, fun k h1 h2 h3 => by rw [← hc k h2 h3]; exact a5 k h1 h2 h3⟩
  · exact .inr ⟨fun k h1 h2 => by rw [← hc k h1 h2]; exact a1 k h1 h2, a2⟩

theorem eget_eput (e : Env) (d : Option Nat) (v : V) (t : Nat) : eget (eput e d v) t = if d = some t then v else eget e t := by
  cases d with
  | none => simp [eput]
  | some d => simp only [eput, get_set, Option.some.injEq]

theorem seen_text {m : Nat} {dst : Nat → Option Nat} {val : Nat → V} {es : Nat → Env} (hes : ∀ i, i < m → es (i + 1) = eput (es i) (dst i) (val i)) (t : Nat) : ∀ k, k ≤ m → Seen m dst val (eget (es 0)) (fun j => decide (j < k)) t (eget (es k) t)
  | 0, _ => .inr ⟨fun k _ h => by simp at h, rfl⟩
  | k + 1, hk => by
    have ih := seen_text hes t k (by omega)
    rw [hes k (by omega), eget_eput]
    by_cases hd : dst k = some t
    · rw [if_pos hd]
      exact .inl ⟨k, by omega, by simp, hd, rfl, fun j h1 h2 h3 => by simp at h3; omega⟩
    · rw [if_neg hd]
      refine ih.congr (fun j h1 h2 => ?_)
      have : j ≠ k := fun e => hd (e ▸ h2)
      simp; omega

theorem seenH_text {m : Nat} {hs : Nat → List Ob} (hhs : ∀ i, i < m → W.contains i = false → hs (i + 1) = hs i) : ∀ k, k ≤ m → SeenH m W hs (fun j => decide (j < k)) (hs k)
  | 0, _ => .inr ⟨fun k _ _ => by simp, rfl⟩
  | k + 1, hk => by
    cases hW : W.contains k with
    | true => exact .inl ⟨k, by omega, hW, by simp, rfl, fun j h1 h2 h3 => by simp; omega⟩
    | false =>
      rw [hhs k (by omega) hW]
      refine (seenH_text hhs k (by omega)).congr (fun j h1 h2 => ?_)
      have : j ≠ k := fun e => by subst e; rw [hW] at h2; cases h2
      simp; omega

theorem filter_lt {α : Type} {p p' : α → Bool} {i : α} : ∀ {l : List α}, (∀ j ∈ l, p' j = true → p j = true) → i ∈ l → p i = true → p' i = false → (l.filter p').length < (l.filter p).length
  | [], _, h, _, _ => by cases h
  | x :: l, hs, hi, h1, h2 => by
    have le : ∀ {l : List α}, (∀ j ∈ l, p' j = true → p j = true) → (l.filter p').length ≤ (l.filter p).length := by
      intro l
      induction l with
      | nil => intro _; simp
      | cons y l ih =>
        intro h
        have := ih (fun j hj => h j (by simp [hj]))
        by_cases hy : p' y = true
        · rw [List.filter_cons_of_pos hy, List.filter_cons_of_pos (h y (by simp) hy)]; simpa using this
        · rw [List.filter_cons_of_neg hy]
          by_cases hy' : p y = true
          · rw [List.filter_cons_of_pos hy']; simp; omega
          · rw [List.filter_cons_of_neg hy']; exact this
    rcases List.mem_cons.1 hi with rfl | hi
    · rw [List.filter_cons_of_neg (by simp [h2]), List.filter_cons_of_pos h1]
      have := le (l := l) (fun j hj => hs j (by simp [hj]))
      simp; omega
    · have := filter_lt (l := l) (fun j hj => hs j (by simp [hj])) hi h1 h2
      by_cases hx : p' x = true
      · rw [List.filter_cons_of_pos hx, List.filter_cons_of_pos (hs x (by simp) hx)]; simpa using this
      · rw [List.filter_cons_of_neg hx]
        by_cases hx' : p x = true
        · rw [List.filter_cons_of_pos hx']; simp; omega
        · rw [List.filter_cons_of_neg hx']; exact this

theorem gval_yield' {ops : Array Oper} {j : Nat} {b : Bool} {c : Cx} {env : Env} {a : Act} (he : EnvRep c env a) (h : gval ops.toList env j = .bool b) : yielded ops a.tmps j = some b := by
  unfold gval at h
  unfold yielded
  rw [Array.getElem?_toList] at h
  cases hx : (ops[j]?).bind (·.dst) with
  | none => rw [hx] at h; cases h
  | some t =>
    rw [hx] at h
    have := he t
    simp only at h
    rw [h] at this
    have := this.bool
    simp only [Option.bind_some]
    have ht : a.tmps[t]? = some (.bool b) := by
      by_cases hlt : t < a.tmps.size
      · rw [Array.getElem?_eq_getElem hlt]
        simpa [Array.getD, hlt] using this
      · simp [Array.getD, hlt, undef] at this
    rw [ht]

theorem gval_tuple' {ops : Array Oper} {j : Nat} {l : List V} {c : Cx} {env : Env} {a : Act} (he : EnvRep c env a) (h : gval ops.toList env j = .tuple l) : yielded ops a.tmps j = none := by
  unfold gval at h
  unfold yielded
  rw [Array.getElem?_toList] at h
  cases hx : (ops[j]?).bind (·.dst) with
  | none => rw [hx] at h; cases h
  | some t =>
    rw [hx] at h
    have := he t
    simp only at h
    rw [h] at this
    have h1 := this.1
    simp only [RepC] at h1
    obtain ⟨ws, h2, _⟩ := h1
    simp only [Option.bind_some]
    by_cases hlt : t < a.tmps.size
    · rw [Array.getElem?_eq_getElem hlt]
      have e : a.tmps.getD t undef = a.tmps[t] := by simp [Array.getD, hlt]
      rw [e] at h2
      cases hv : a.tmps[t] with
      | bool b => rw [hv] at h2; simp [Value.cells] at h2
      | _ => rfl
    · rw [Array.getElem?_eq_none (Nat.le_of_not_lt hlt)]

theorem wanted_iff {o : Oper} {y : Nat → Option Bool} : Region.wanted o y = match o.guard with | none => true | some (j, want) => y j == some want := by
  unfold Region.wanted; cases o.guard <;> rfl

theorem EW.draw (hTO : TyOK P T) (hm : P.follows .mixedOrders = true) {id : Nat} {F : List Nat} (keep : Nat → List Nat) (hd : drawOK n ops W F = true) {Q : Exit → Env → List Ob → Prop} {env : Env} {H : List Ob}
    (h : ewDraw P T own ops.toList F W 0 ops.toList (fun env' H' => Q .normal (restr (keep id) env') H') env H) : EW P n (.region id ops true) Q env H := by
  intro rd ds g a w hR
  obtain ⟨es, hs, vs, e1, e2, e3, e4⟩ := ewDraw_table _ _ _ _ h
  simp only [Nat.zero_add, Array.length_toList] at e1 e2 e3 e4
  subst e1 e2
  let m := ops.size
  let dst : Nat → Option Nat := fun j => (ops[j]?).bind (·.dst)
  have hop : ∀ j o, ops[j]? = some o → ops.toList[j]? = some o := fun j o h => by rw [Array.getElem?_toList]; exact h
  have hget : ∀ j, j < m → ∃ o, ops[j]? = some o := fun j hj => ⟨ops[j], by simp [m] at hj; simp [hj]⟩
  -- the look
  have look : ∀ j o, ops[j]? = some o → (W.contains j = true ∨ F.contains j = true ∨ ∀ k ∈ W, ordered (bef ops.toList) j k = true ∨ (((isStab F j = true ∧ stabOp o = true) ∧ decide (j < k) = true) ∧ isAl ops[k]? = true)) ∧ (∀ e ∈ o.after.toList, Region.binds .any e = true → e.on < j) ∧ (∀ d, o.dst = some d → d < n) ∧
      ∀ i oi, i < j → ops[i]? = some oi → (oi.apart ops o = true ∨ ((bef ops.toList).getD j 0).testBit i = true) ∧ (W.contains i = true → W.contains j = true → ((bef ops.toList).getD j 0).testBit i = true) := by
    intro j o hj
    have hjm : j < ops.size := (Array.getElem?_eq_some_iff.1 hj).1
    have := List.all_eq_true.1 hd j (List.mem_range.2 hjm)
    simp only [hj, Bool.and_eq_true, Bool.or_eq_true, List.all_eq_true, List.mem_range] at this
    obtain ⟨⟨⟨q0, q1⟩, q2⟩, q3⟩ := this
    refine ⟨?_, fun e he hb => ?_, fun d hd => ?_, fun i oi hi hoi => ?_⟩
    · rcases q0 with (q0 | q0) | q0
      · exact .inl q0
      · exact .inr (.inl q0)
      · exact .inr (.inr q0)
    · rcases q1 e he with h | h
      · rw [hb] at h; cases h
      · exact of_decide_eq_true h
    · rw [hd] at q2; exact of_decide_eq_true q2
    · have := q3 i hi
      simp only [hoi, Bool.and_eq_true, Bool.or_eq_true, Bool.not_eq_true'] at this
      refine ⟨this.1, fun h1 h2 => ?_⟩
      rcases this.2 with h | h
      · rw [h1, h2] at h; cases h
      · exact h
  have hes : ∀ i, i < m → es (i + 1) = eput (es i) (dst i) (vs i) := fun i hi => by
    obtain ⟨o, ho⟩ := hget i hi
    have := (e3 i o (hop i o ho)).1
    simpa [dst, ho] using this
  have hhs : ∀ i, i < m → W.contains i = false → hs (i + 1) = hs i := fun i hi hW => by
    obtain ⟨o, ho⟩ := hget i hi
    rcases (e3 i o (hop i o ho)).2 with ⟨_, h | h | h | h⟩ | ⟨j, want, _, _, _, h⟩
    · rw [h.1] at hW; cases hW
    · exact h.2.1
    · exact h.2.1
    · exact h.2.1
    · exact h
  -- every order
  have main : ∀ (fuel : Nat) (listed : Array Bool) (a : Act) (w' : World), listed.size = m → ((List.range m).filter fun j => !listed.getD j false).length ≤ fuel →
      Closed ops.toList (fun j => listed.getD j false = true) →
      a.tmps.size = n → a.defers = ds →
      (∃ H g', SeenH m W hs (fun j => listed.getD j false) H ∧ Good g' H w' ∧ Ext g (hs 0).length w g' H.length w' ∧ ∀ t v, Seen m dst vs (eget (es 0)) (fun j => listed.getD j false) t v → RepV (cxOf g' H.length w') v (a.tmps.getD t undef)) →
      wpAnyIn (fz rd) 0 P .any ops (fun e a' w' => ∃ env' H' g', Rel ds n env' H' g' a' w' ∧ Ext g (hs 0).length w g' H'.length w' ∧ Q e env' H') fuel listed a w' := by
    have ready_nil : ∀ (listed : Array Bool), listed.size = m → Region.ready .any ops listed = [] → ∀ j, j < m → listed.getD j false = true := by
      intro listed hsz hr j
      induction j using Nat.strongRecOn with
      | _ j ih =>
        intro hj
        cases hl : listed.getD j false with
        | true => rfl
        | false =>
          obtain ⟨o, ho⟩ := hget j hj
          have : j ∈ Region.ready .any ops listed := by
            unfold Region.ready
            rw [List.mem_filter]
            refine ⟨List.mem_range.2 hj, ?_⟩
            simp only [ho, Option.map_some, Option.getD_some, Bool.and_eq_true, Bool.not_eq_true']
            refine ⟨?_, ?_⟩
            · have hjs : j < listed.size := by rw [hsz]; exact hj
              simpa [Array.getD, hjs] using hl
            · rw [Array.all_eq_true']
              intro e he
              simp only [Bool.or_eq_true, Bool.not_eq_true']
              by_cases hb : Region.binds .any e = true
              · right
                have hlt := (look j o ho).2.1 e (by simpa using he) hb
                exact ih e.on hlt (by omega)
              · left; simpa using hb
          rw [hr] at this; cases this
    have fin : ∀ (listed : Array Bool) (a : Act) (w' : World), (∀ j, j < m → listed.getD j false = true) → a.tmps.size = n → a.defers = ds →
        (∃ H g', SeenH m W hs (fun j => listed.getD j false) H ∧ Good g' H w' ∧ Ext g (hs 0).length w g' H.length w' ∧ ∀ t v, Seen m dst vs (eget (es 0)) (fun j => listed.getD j false) t v → RepV (cxOf g' H.length w') v (a.tmps.getD t undef)) →
        ∃ env' H' g', Rel ds n env' H' g' a w' ∧ Ext g (hs 0).length w g' H'.length w' ∧ Q .normal env' H' := by
      intro listed a w' hall hsz hdef ⟨H, g', s1, s2, s3, s4⟩
      have hH : H = hs m := by
        refine s1.unique ((seenH_text hhs m (Nat.le_refl _)).congr (fun k h1 h2 => ?_))
        rw [hall k h1]; simpa using h1
      subst hH
      refine ⟨restr (keep id) (es m), hs m, g', ⟨hsz, hdef, EnvRep.restr _ (fun t => s4 t _ ((seen_text hes t m (Nat.le_refl _)).congr (fun k h1 h2 => ?_))), s2⟩, s3, e4⟩
      rw [hall k h1]; simpa using h1
    intro fuel
    induction fuel with
    | zero =>
      intro listed a w' hsz hfu hcl hts hdef hinv
      have hall : ∀ j, j < m → listed.getD j false = true := by
        intro j hj
        cases hl : listed.getD j false with
        | true => rfl
        | false =>
          have : j ∈ (List.range m).filter fun j => !listed.getD j false := List.mem_filter.2 ⟨List.mem_range.2 hj, by simp [hl]⟩
          have hnil : ((List.range m).filter fun j => !listed.getD j false) = [] := List.eq_nil_of_length_eq_zero (Nat.le_zero.1 hfu)
          rw [hnil] at this
          cases this
      refine ⟨?_, fin listed a w' hall hts hdef hinv⟩
      unfold Region.ready
      rw [List.filter_eq_nil_iff]
      intro j hj
      have hj := List.mem_range.1 hj
      have hjs : j < listed.size := by rw [hsz]; exact hj
      have := hall j hj
      have h2 : listed.getD j true = true := by simpa [Array.getD, hjs] using this
      simp only [h2]; simp
    | succ fuel ih =>
      intro listed a w' hsz hfu hcl hts hdef hinv
      refine ⟨fun hr => fin listed a w' (ready_nil listed hsz hr) hts hdef hinv, fun i hi => ?_⟩
      unfold Region.ready at hi
      rw [List.mem_filter] at hi
      obtain ⟨him, hi⟩ := hi
      have him : i < m := List.mem_range.1 him
      have his : i < listed.size := by rw [hsz]; exact him
      obtain ⟨o, ho⟩ := hget i him
      simp only [ho, Option.map_some, Option.getD_some, Bool.and_eq_true, Bool.not_eq_true'] at hi
      obtain ⟨hil, hie⟩ := hi
      have hil : listed.getD i false = false := by simpa [Array.getD, his] using hil
      have hedge : ∀ e ∈ o.after.toList, Region.binds .any e = true → listed.getD e.on false = true := by
        intro e he hb
        rw [Array.all_eq_true'] at hie
        have := hie e (by simpa using he)
        simpa [hb] using this
      -- ahead
      have up : ∀ k, Ahead ops.toList i k → listed.getD k false = true := fun k hk => hk _ hcl (fun o' ho' e he hb => by
        have : ops[i]? = some o' := by rw [← Array.getElem?_toList]; exact ho'
        rw [ho] at this
        injection this with this
        subst this
        exact hedge e he hb)
      have down : ∀ k, Ahead ops.toList k i → listed.getD k false = false := fun k hk => by
        cases hl : listed.getD k false with
        | false => rfl
        | true =>
          have := hk _ hcl (fun o' ho' e he hb => hcl k o' ho' hl e he hb)
          have this : listed.getD i false = true := this
          rw [hil] at this; cases this
      have agree : ∀ k, k < m → (k = i ∨ (k < i ∧ ((bef ops.toList).getD i 0).testBit k = true) ∨ (i < k ∧ ((bef ops.toList).getD k 0).testBit i = true)) → listed.getD k false = decide (k < i) := by
        intro k _ h
        rcases h with rfl | ⟨h1, h2⟩ | ⟨h1, h2⟩
        · rw [hil]; simp
        · rw [up k (ahead_of_bit h2)]; simp [h1]
        · rw [down k (ahead_of_bit h2)]; simp; omega
      have clash : ∀ k ok, k < m → ops[k]? = some ok → k ≠ i → (∃ d, ok.dst = some d ∧ (d ∈ o.looksAt ops ∨ o.dst = some d)) → listed.getD k false = decide (k < i) := by
        intro k ok hk hok hne ⟨d, hd, hl⟩
        refine agree k hk ?_
        rcases Nat.lt_or_gt_of_ne hne with hlt | hgt
        · right; left
          refine ⟨hlt, ?_⟩
          rcases ((look i o ho).2.2.2 k ok hlt hok).1 with h | h
          · obtain ⟨p1, p2, p3⟩ := Oper.apart_spec h
            rcases hl with hl | hl
            · exact absurd hl (p1 d hd)
            · exact absurd hl (p2 d hd)
          · exact h
        · right; right
          refine ⟨hgt, ?_⟩
          rcases ((look k ok hok).2.2.2 i o hgt ho).1 with h | h
          · obtain ⟨p1, p2, p3⟩ := Oper.apart_spec h
            rcases hl with hl | hl
            · exact absurd hl (p3 d hd)
            · exact absurd hd (p2 d hl)
          · exact h
      obtain ⟨HS, g', s1, s2, s3, s4⟩ := hinv
      obtain ⟨_, hfact⟩ := e3 i o (hop i o ho)
      have heq : W.contains i = true ∨ (∀ k ∈ W, ordered (bef ops.toList) i k = true) → HS = hs i := by
        intro hc
        refine s1.unique ((seenH_text hhs i (Nat.le_of_lt him)).congr (fun k hk hW => ?_))
        refine (agree k hk ?_).symm
        by_cases hki : k = i
        · exact .inl hki
        · right
          rcases hc with hc | hc
          · rcases Nat.lt_or_gt_of_ne hki with hlt | hgt
            · obtain ⟨ok, hok⟩ := hget k hk
              exact .inl ⟨hlt, ((look i o ho).2.2.2 k ok hlt hok).2 hW hc⟩
            · obtain ⟨ok, hok⟩ := hget k hk
              exact .inr ⟨hgt, ((look k ok hok).2.2.2 i o hgt ho).2 hc hW⟩
          · have := hc k (by simpa using hW)
            unfold ordered at this
            rcases Nat.lt_or_gt_of_ne hki with hlt | hgt
            · rw [if_neg (by omega), if_pos hlt] at this; exact .inl ⟨hlt, this⟩
            · rw [if_pos hgt] at this; exact .inr ⟨hgt, this⟩
      -- what it sees
      let es' : Env := restr (o.looksAt ops) (es i)
      have hE : EnvRep (cxOf g' HS.length w') es' a := by
        intro t
        show RepV _ (eget (restr (o.looksAt ops) (es i)) t) _
        rw [get_restrict]
        split
        · rename_i ht
          refine s4 t _ ((seen_text hes t i (Nat.le_of_lt him)).congr (fun k hk hdk => ?_))
          by_cases hki : k = i
          · subst hki; rw [hil]; simp
          · obtain ⟨ok, hok⟩ := hget k hk
            have hdk' : ok.dst = some t := by simpa [dst, hok] using hdk
            exact (clash k ok hk hok hki ⟨t, hdk', .inl ht⟩).symm
        · trivial
      have hlook : ∀ x ∈ o.op.operands, evl (es i) x = evl es' x := by
        intro x hx
        cases x with
        | tmp t =>
          show eget (es i) t = eget (restr (o.looksAt ops) (es i)) t
          rw [get_restrict, if_pos]
          unfold Oper.looksAt
          exact List.mem_append_left _ (List.mem_filterMap.2 ⟨.tmp t, by simpa using hx, rfl⟩)
        | _ => rfl
      have hgv : ∀ j want, o.guard = some (j, want) → gval ops.toList es' j = gval ops.toList (es i) j := by
        intro j want hg
        unfold gval
        rw [Array.getElem?_toList]
        cases hx : (ops[j]?).bind (·.dst) with
        | none => rfl
        | some t =>
          show eget (restr (o.looksAt ops) (es i)) t = eget (es i) t
          rw [get_restrict, if_pos]
          unfold Oper.looksAt
          rw [hg]
          simp only [hx]
          simp
      have hcong : ∀ K H, ewOp P T own o K (es i) H → ewOp P T own o K es' H := by
        intro K H h
        unfold ewOp at h ⊢
        rw [← xop_congr o.op hlook]
        exact h
      -- what comes behind it
      have after : ∀ (cv : Value) (H' : List Ob) (g'' : Nat → Option Key) (w'' : World), Good g'' H' w'' → Ext g' HS.length w' g'' H'.length w'' → RepV (cxOf g'' H'.length w'') (vs i) cv → SeenH m W hs (fun j => (listed.setIfInBounds i true).getD j false) H' →
          wpAnyIn (fz rd) 0 P .any ops (fun e a' w' => ∃ env' H' g', Rel ds n env' H' g' a' w' ∧ Ext g (hs 0).length w g' H'.length w' ∧ Q e env' H') fuel (listed.setIfInBounds i true) (a.put o.dst cv) w'' := by
        intro cv H' g'' w'' k1 k2 k3 k4
        have hset : ∀ j, (listed.setIfInBounds i true).getD j false = if j = i then true else listed.getD j false := by
          intro j
          by_cases e : j = i
          · subst e; simp [Array.getD, his]
          · rw [if_neg e]
            simp only [Array.getD_eq_getD_getElem?]
            rw [Array.getElem?_setIfInBounds_ne (Ne.symm e)]
        refine ih _ _ _ (by simp [hsz]) ?_ ?_ (by cases o.dst <;> simp [Act.put, hts]) (by cases o.dst <;> simp [Act.put, hdef]) ⟨H', g'', k4, k1, s3.trans k2, fun t v hv => ?_⟩
        · have := filter_lt (p := fun j => !listed.getD j false) (p' := fun j => !(listed.setIfInBounds i true).getD j false) (i := i) (l := List.range m) (fun j _ hj => by
            simp only [hset] at hj
            split at hj
            · simp at hj
            · exact hj) (List.mem_range.2 him) (by simp [hil]) (by simp [hset])
          omega
        · intro j oj hj hl e he hb
          simp only [hset] at hl ⊢
          split
          · rfl
          · split at hl
            · rename_i e1
              subst e1
              have : ops[j]? = some oj := by rw [← Array.getElem?_toList]; exact hj
              rw [ho] at this
              injection this with this
              subst this
              exact hedge e he hb
            · exact hcl j oj hj hl e he hb
        · have hdn := (look i o ho).2.2.1
          by_cases hdt : o.dst = some t
          · have hv' : v = vs i := by
              have hdi : dst i = some t := by simp [dst, ho, hdt]
              rcases hv with ⟨j, a1, a2, a3, a4, a5⟩ | ⟨a1, _⟩
              · by_cases hji : j = i
                · subst hji; exact a4.symm
                · obtain ⟨oj, hoj⟩ := hget j a1
                  have hdj : oj.dst = some t := by simpa [dst, hoj] using a3
                  have hcl' := clash j oj a1 hoj hji ⟨t, hdj, .inr hdt⟩
                  simp only [hset] at a2
                  rw [if_neg hji, hcl'] at a2
                  exact absurd hdi (a5 i (of_decide_eq_true a2) him (by simp [hset]))
              · exact absurd hdi (a1 i him (by simp [hset]))
            subst hv'
            have : (a.put o.dst cv).tmps.getD t undef = cv := by
              have := hdn t hdt
              rw [hdt]
              simp [Act.put, hts, this]
            rw [this]
            exact k3
          · have hold : Seen m dst vs (eget (es 0)) (fun j => listed.getD j false) t v := hv.congr (fun k hk hdk => by
              simp only [hset]
              rw [if_neg]
              intro e
              subst e
              exact hdt (by simpa [dst, ho] using hdk))
            have := RepV.mono k2.mono (s4 t v hold)
            have e : (a.put o.dst cv).tmps.getD t undef = a.tmps.getD t undef := by
              cases hd : o.dst with
              | none => rfl
              | some d =>
                have hne : d ≠ t := fun e => hdt (by rw [hd, e])
                simp [Act.put, Array.getElem?_setIfInBounds_ne hne]
            rw [e]
            exact this
      have seenW : W.contains i = true → SeenH m W hs (fun j => (listed.setIfInBounds i true).getD j false) (hs (i + 1)) := by
        intro hW
        refine .inl ⟨i, him, hW, by simp [Array.getD, his], rfl, fun k h1 h2 h3 => ?_⟩
        obtain ⟨ok, hok⟩ := hget k h2
        have := agree k h2 (.inr (.inr ⟨h1, ((look k ok hok).2.2.2 i o h1 ho).2 hW h3⟩))
        simp only [Array.getD_eq_getD_getElem?] at this ⊢
        rw [Array.getElem?_setIfInBounds_ne (by omega), this]
        simp; omega
      have seenN : W.contains i = false → SeenH m W hs (fun j => (listed.setIfInBounds i true).getD j false) HS := by
        intro hW
        refine s1.congr (fun k hk hWk => ?_)
        have : k ≠ i := fun e => by subst e; rw [hW] at hWk; cases hWk
        simp only [Array.getD_eq_getD_getElem?]
        rw [Array.getElem?_setIfInBounds_ne (Ne.symm this)]
      -- the step
      unfold wpOpIn
      rw [ho]
      simp only
      rcases hfact with ⟨hg, hk⟩ | ⟨j, want, hg, hq, hv, hH⟩
      · have hw : Region.wanted o (yielded ops a.tmps) = true := by
          rw [wanted_iff]
          cases hgd : o.guard with
          | none => rfl
          | some jw =>
            obtain ⟨j, want⟩ := jw
            rw [hgd] at hg
            simp only at hg ⊢
            rw [gval_yield' hE ((hgv j want hgd).trans hg)]
            simp
        rw [if_pos hw]
        rcases hk with ⟨hW, hk⟩ | ⟨hW, hH, hF, hk⟩ | ⟨hW, hH, hF, hS, hk⟩ | ⟨hW, hH, hF, hS, hk⟩
        · have hHS := heq (.inl hW)
          subst hHS
          refine op_wp' hTO hE s2 (hcong _ _ hk) fun v cv H' g'' w'' k1 k2 k3 ⟨k4, k5⟩ => ?_
          subst k4 k5
          exact after cv _ g'' w'' k1 k2 k3 (seenW hW)
        · refine op_wp' hTO hE s2 (hcong _ _ (hk HS)) fun v cv H' g'' w'' k1 k2 k3 ⟨k4, k5⟩ => ?_
          subst k4 k5
          exact after cv _ g'' w'' k1 k2 k3 (seenN hW)
        · have hord : ∀ k ∈ W, ordered (bef ops.toList) i k = true := by
            rcases (look i o ho).1 with h | h | h
            · rw [hW] at h; cases h
            · unfold isFree at hF; rw [hF] at h; cases h
            · intro k hk
              rcases h k hk with h | h
              · exact h
              · rw [hS] at h; cases h.1.1.1
          have hHS := heq (.inr hord)
          subst hHS
          refine op_wp' hTO hE s2 (hcong _ _ hk) fun v cv H' g'' w'' k1 k2 k3 ⟨k4, k5⟩ => ?_
          subst k4 k5
          exact after cv _ g'' w'' k1 k2 k3 (seenN hW)
        · have hord : ∀ k ∈ W, ordered (bef ops.toList) i k = true ∨ (((isStab F i = true ∧ stabOp o = true) ∧ decide (i < k) = true) ∧ isAl ops[k]? = true) := by
            rcases (look i o ho).1 with h | h | h
            · rw [hW] at h; cases h
            · unfold isFree at hF; rw [hF] at h; cases h
            · exact h
          have hex : ∃ L, HS = hs i ++ L ∧ (L = [] ∨ stabOp o = true) := by
            by_cases hc : ∃ j, i < j ∧ j < m ∧ W.contains j = true ∧ listed.getD j false = true
            · obtain ⟨j0, hj0⟩ := hc
              have hst : stabOp o = true := by
                rcases hord j0 (by simpa using hj0.2.2.1) with h | h
                · unfold ordered at h
                  rw [if_pos hj0.1] at h
                  have := down j0 (ahead_of_bit h)
                  rw [hj0.2.2.2] at this; cases this
                · exact h.1.1.2
              rcases s1 with ⟨j, a1, a2, a3, a4, a5⟩ | ⟨a1, a2⟩
              · have hij : i < j := by
                  rcases Nat.lt_trichotomy j j0 with h | h | h
                  · have := a5 j0 h hj0.2.1 hj0.2.2.1
                    have this : listed.getD j0 false = false := this
                    rw [hj0.2.2.2] at this; cases this
                  · omega
                  · omega
                have a3 : listed.getD j false = true := a3
                have key : ∀ t, i ≤ t → t ≤ j + 1 → ∃ L, hs t = hs i ++ L := by
                  intro t
                  induction t with
                  | zero => intro h1 _; exact ⟨[], by rw [List.append_nil, show i = 0 by omega]⟩
                  | succ t iht =>
                    intro h1 h2
                    by_cases hti : t + 1 = i
                    · exact ⟨[], by rw [List.append_nil, hti]⟩
                    · obtain ⟨L, hL⟩ := iht (by omega) (by omega)
                      have htm : t < m := by omega
                      cases hWt : W.contains t with
                      | false => exact ⟨L, by rw [hhs t htm hWt, hL]⟩
                      | true =>
                        have hne : t ≠ i := fun e => by subst e; rw [hW] at hWt; cases hWt
                        obtain ⟨ot, hot⟩ := hget t htm
                        have hlt : listed.getD t false = true := by
                          by_cases htj : t = j
                          · rw [htj]; exact a3
                          · obtain ⟨oj, hoj⟩ := hget j a1
                            have hb := ((look j oj hoj).2.2.2 t ot (by omega) hot).2 hWt a2
                            exact ahead_of_bit hb _ hcl (fun o' ho' e he hb => hcl j o' (by exact ho') a3 e he hb)
                        rcases hord t (by simpa using hWt) with h | h
                        · unfold ordered at h
                          rw [if_pos (by omega)] at h
                          have := down t (ahead_of_bit h)
                          rw [hlt] at this; cases this
                        · have hal := h.2
                          rw [hot] at hal
                          rcases (e3 t ot (hop t ot hot)).2 with ⟨_, k | k | k | k⟩ | ⟨_, _, _, _, _, k⟩
                          · have k2 := k.2
                            unfold ewOp at k2
                            unfold isAl at hal
                            obtain ⟨dst', op', ty', pos', after', guard'⟩ := ot
                            cases op' <;> simp only [Bool.false_eq_true] at hal
                            · simp only [xop] at k2
                              exact ⟨L ++ _, by rw [← k2.2.2, hL, List.append_assoc]⟩
                            · simp only [xop] at k2
                              exact ⟨L ++ _, by rw [← k2.2.2, hL, List.append_assoc]⟩
                          · exact ⟨L, by rw [k.2.1, hL]⟩
                          · exact ⟨L, by rw [k.2.1, hL]⟩
                          · exact ⟨L, by rw [k.2.1, hL]⟩
                          · exact ⟨L, by rw [k, hL]⟩
                obtain ⟨L, hL⟩ := key (j + 1) (by omega) (Nat.le_refl _)
                exact ⟨L, by rw [← a4, hL], .inr hst⟩
              · have := a1 j0 hj0.2.1 hj0.2.2.1
                have this : listed.getD j0 false = false := this
                rw [hj0.2.2.2] at this; cases this
            · refine ⟨[], ?_, .inl rfl⟩
              rw [List.append_nil]
              refine s1.unique ((seenH_text hhs i (Nat.le_of_lt him)).congr (fun k hk hWk => ?_))
              have hki : k ≠ i := fun e => by subst e; rw [hW] at hWk; cases hWk
              rcases Nat.lt_or_gt_of_ne hki with hlt | hgt
              · rcases hord k (by simpa using hWk) with h | h
                · unfold ordered at h
                  rw [if_neg (by omega), if_pos hlt] at h
                  exact (agree k hk (.inr (.inl ⟨hlt, h⟩))).symm
                · have := of_decide_eq_true h.1.2; omega
              · have : listed.getD k false = false := by
                  cases hl : listed.getD k false with
                  | false => rfl
                  | true => exact absurd ⟨k, hgt, hk, hWk, hl⟩ hc
                rw [this]; simp; omega
          obtain ⟨L, hL, hst⟩ := hex
          have hk' : ewOp P T own o (fun v' H1 => v' = vs i ∧ H1 = HS) (es i) HS := by
            rw [hL]
            rcases hk with ⟨pre, hx, hp⟩ | ⟨f, args, hx, hc⟩
            · rcases hst with rfl | hst
              · rw [List.append_nil]
                unfold ewOp; rw [hx]; exact ⟨hp, rfl, rfl⟩
              · obtain ⟨pre', q1, q2⟩ := xop_ext hst hx hp L
                unfold ewOp; rw [q1]; exact ⟨q2, rfl, rfl⟩
            · obtain ⟨c, fo, first, cap, hop', hcc, hq, ha⟩ := xop_call hx
              have : xop T own (evl (es i)) (hs i ++ L) o.op = .call f args := by
                rw [hop']
                simp only [xop, hcc, hq, ha]
              unfold ewOp; rw [this]; exact hc L
          refine op_wp' hTO hE s2 (hcong _ _ hk') fun v cv H' g'' w'' k1 k2 k3 ⟨k4, k5⟩ => ?_
          subst k4 k5
          exact after cv _ g'' w'' k1 k2 k3 (seenN hW)
      · have hw : Region.wanted o (yielded ops a.tmps) = false := by
          rw [wanted_iff, hg]
          simp only
          rcases hq with ⟨q, hq, hne⟩ | ⟨l, hq⟩
          · rw [gval_yield' hE ((hgv j want hg).trans hq)]
            simpa using hne
          · rw [gval_tuple' hE ((hgv j want hg).trans hq)]
            rfl
        rw [hw]
        rw [if_neg (by simp)]
        refine ⟨fun _ _ => trivial, ?_⟩
        cases hW : W.contains i with
        | true =>
          have hHS := heq (.inl hW)
          subst hHS
          refine after undef _ g' w' s2 (Ext.refl _ _ _) (by rw [hv]; exact ⟨by simp only [RepC]; exact ⟨[], rfl, rfl⟩, trivial⟩) ?_
          rw [← hH]
          exact seenW hW
        | false => exact after undef _ g' w' s2 (Ext.refl _ _ _) (by rw [hv]; exact ⟨by simp only [RepC]; exact ⟨[], rfl, rfl⟩, trivial⟩) (seenN hW)
  refine wpIn_region_any hm (main ops.size _ a _ (by simp [m]) (Nat.le_trans (List.length_filter_le _ _) (by simp [m])) ?_ hR.1 hR.2.1 ?_)
  · intro j o hj hS
    simp [Array.getD] at hS
  · have hdr := step_drawn hR.2.2.2 (w.drawn + 1)
    refine ⟨hs 0, g, .inr ⟨fun k hk hW => by simp [Array.getD], rfl⟩, hdr.1, hdr.2, fun t v hs => ?_⟩
    rcases hs with ⟨j, _, h1, _⟩ | ⟨_, rfl⟩
    · simp [Array.getD] at h1
    · exact RepV.mono hdr.2.mono (hR.2.2.1 t)
end
end Go.EL

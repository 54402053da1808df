/- The value logic, part Q: what is left of a heap; returns; ghost steps. -/
import Derived.Test.YtjplgbalpnlanaaEO
set_option linter.unusedVariables false
set_option linter.unusedSimpArgs false
namespace Go.EL
open Go
variable {P : Program} {T : Nat → TD}

def All2 {α β : Type} (R : α → β → Prop) : List α → List β → Prop
  | [], [] => True
  | x :: xs, y :: ys => R x y ∧ All2 R xs ys
  | _, _ => False

/-- a value, as it may be told where the objects from n on are given up -/
def Wk0 (H : List Ob) (n : Nat) : V → V → Prop
  | .vec o ver off k, r => (∃ es l, H[o]? = some (.vec ver es l) ∧ off + k ≤ l.length ∧ r = .slice ((l.drop off).take k) ∧ ltL n l ∧ n ≤ o) ∨ (r = .vec o ver off k ∧ o < n)
  | .fslice l, r => (r = .slice l ∨ r = .fslice l) ∧ ltL n l
  | x, r => r = x ∧ x.lt n
def Wk1 (H : List Ob) (n : Nat) : V → V → Prop
  | .agg cs, r => ∃ cs', r = .agg cs' ∧ All2 (Wk0 H n) cs cs'
  | x, r => Wk0 H n x r
def Wk (H : List Ob) (n : Nat) : V → V → Prop
  | .tuple vs, r => ∃ vs', r = .tuple vs' ∧ All2 (Wk1 H n) vs vs'
  | x, r => Wk1 H n x r

section
variable {g : Nat → Option Key} {H : List Ob} {w : World} {n : Nat}

theorem fslice_slice {c : Cx} {l : List V} {vs : List Value} (h : RepC c (.fslice l) vs) : RepC c (.slice l) vs := by
  simp only [RepC] at h ⊢
  obtain ⟨a, es, h1, h2, h3⟩ := h
  exact ⟨a, _, es, h1, Nat.le_refl _, h2, h3⟩

theorem vec_slice (hG : Good g H w) {o ver off k es : Nat} {l : List V} {vs : List Value} {c : Cx} {m : Nat} (ho : H[o]? = some (.vec ver es l)) (hle : off + k ≤ l.length) (hs : Sub (cxOf g H.length w) c m) (hl : ltL m l)
    (hb : ∀ q b, g o = some q → q.blk = some b → c.imm b) (h : RepC (cxOf g H.length w) (.vec o ver off k) vs) : RepC c (.slice ((l.drop off).take k)) vs := by
  obtain ⟨q, hq, hver, hes, hv1, hcm, hcap, hbk⟩ := hG.vec ho
  simp only [RepC] at h ⊢
  obtain ⟨h1, u, rfl, h2, h3⟩ := h
  obtain ⟨k1, a, rfl, k3⟩ := (h3 q hq).2 hver
  have hlen : ((l.drop off).take k).length = k := by simp; omega
  refine ⟨a, q.cap - off, q.es, by rw [hlen], by omega, by omega, ?_⟩
  rw [← List.length_eq_zero_iff]
  by_cases hk : k = 0
  · left; omega
  · right
    obtain ⟨b, m1, rfl⟩ := k3 (by omega)
    refine ⟨b, _, rfl, hb q b hq m1, ?_⟩
    rcases hbk with ⟨h0, _⟩ | ⟨b', cur, et, fr, hblk, hh, hsz, hr, hu, hone⟩
    · rw [h0] at m1; cases m1
    rw [hblk] at m1
    injection m1 with m1
    subst m1
    have := (RepE.sub hs _ _ _ _ hl hr).drop off
    rw [Nat.zero_add] at this
    exact this.take k

theorem Wk0.repC (hG : Good g H w) {x r : V} {vs : List Value} (hn : n ≤ H.length) (h : Wk0 H n x r) (hx : RepC (cxOf g H.length w) x vs) : RepC (cxOf (cutKey g n) n w) r vs ∧ (x.leaf → r.leaf) ∧ (∀ v, okAgg x v → okAgg r v) := by
  cases x
  case vec o ver off k =>
    rcases h with ⟨es, l, ho, hle, rfl, hl, hno⟩ | ⟨rfl, ho⟩
    · refine ⟨vec_slice hG ho hle cut_sub hl (fun q b hq hb => ?_) hx, fun _ => trivial, fun v hv => by cases v <;> first | trivial | exact hv⟩
      refine ⟨hG.blk_lt hq hb, fun o' k' hk' hb' => ?_⟩
      unfold cutKey at hk'
      split at hk'
      · have := hG.inj _ _ _ _ _ hk' hq hb' hb; omega
      · cases hk'
    · exact ⟨RepC.sub cut_sub _ _ ho hx, fun h => h, fun _ h => h⟩
  case fslice l =>
    obtain ⟨rfl | rfl, hl⟩ := h
    · exact ⟨fslice_slice (RepC.sub cut_sub _ _ hl hx), fun _ => trivial, fun v hv => by cases v <;> first | trivial | exact hv⟩
    · exact ⟨RepC.sub cut_sub _ _ hl hx, fun h => h, fun _ h => h⟩
  all_goals
    obtain ⟨rfl, hl⟩ := h
    exact ⟨RepC.sub cut_sub _ _ hl hx, fun h => h, fun _ h => h⟩

theorem Wk0.reps (hG : Good g H w) (hn : n ≤ H.length) : ∀ {xs rs : List V} {vs : List Value}, All2 (Wk0 H n) xs rs → Reps (cxOf g H.length w) xs vs → Reps (cxOf (cutKey g n) n w) rs vs
  | [], [], _, _, h => by simpa only [Reps] using h
  | x :: xs, r :: rs, vs, h, hx => by
    simp only [Reps] at hx ⊢
    obtain ⟨v, vs', rfl, h1, h2, h3⟩ := hx
    obtain ⟨k1, k2, k3⟩ := h.1.repC hG hn h2
    exact ⟨v, vs', rfl, k2 h1, k1, Wk0.reps hG hn h.2 h3⟩
  | [], _ :: _, _, h, _ => h.elim
  | _ :: _, [], _, h, _ => h.elim

theorem Wk1.repC (hG : Good g H w) {x r : V} {vs : List Value} (hn : n ≤ H.length) (h : Wk1 H n x r) (hx : RepC (cxOf g H.length w) x vs) : RepC (cxOf (cutKey g n) n w) r vs ∧ (∀ v, okAgg x v → okAgg r v) := by
  cases x
  case agg cs =>
    obtain ⟨cs', rfl, h⟩ := h
    simp only [RepC] at hx ⊢
    exact ⟨Wk0.reps hG hn h hx, fun v hv => by cases v <;> first | exact hv | trivial⟩
  all_goals
    simp only [Wk1] at h
    exact ⟨(h.repC hG hn hx).1, (h.repC hG hn hx).2.2⟩

theorem Wk1.repVs (hG : Good g H w) (hn : n ≤ H.length) : ∀ {xs rs : List V} {vs : List Value}, All2 (Wk1 H n) xs rs → RepVs (cxOf g H.length w) xs vs → RepVs (cxOf (cutKey g n) n w) rs vs
  | [], [], _, _, h => by simpa only [RepVs] using h
  | x :: xs, r :: rs, vs, h, hx => by
    simp only [RepVs] at hx ⊢
    obtain ⟨v, vs', rfl, h1, h2, h3⟩ := hx
    obtain ⟨k1, k2⟩ := h.1.repC hG hn h1
    exact ⟨v, vs', rfl, k1, k2 _ h2, Wk1.repVs hG hn h.2 h3⟩
  | [], _ :: _, _, h, _ => h.elim
  | _ :: _, [], _, h, _ => h.elim

theorem Wk1.repV (hG : Good g H w) {x r : V} {v : Value} (hn : n ≤ H.length) (h : Wk1 H n x r) (hx : RepV (cxOf g H.length w) x v) : RepV (cxOf (cutKey g n) n w) r v := by
  cases x
  case dead => obtain ⟨rfl, _⟩ := h; trivial
  all_goals
    have k := Wk1.repC hG hn h hx.1
    exact RepV.of_parts k.1 (k.2 _ hx.2)

theorem Wk.repV (hG : Good g H w) {x r : V} {v : Value} (hn : n ≤ H.length) (h : Wk H n x r) (hx : RepV (cxOf g H.length w) x v) : RepV (cxOf (cutKey g n) n w) r v := by
  cases x
  case tuple vs =>
    obtain ⟨vs', rfl, h⟩ := h
    obtain ⟨ws, rfl, hr⟩ := hx.tuple
    refine RepV.mk_leaf ?_ (by simp) (by simp)
    simp only [RepC]
    exact ⟨ws, rfl, Wk1.repVs hG hn h hr⟩
  all_goals
    simp only [Wk] at h
    exact Wk1.repV hG hn h hx
end

/-- WHAT A FUNCTION ANSWERS: the objects from n on are given up. -/
def RetW (n0 : Nat) (H0 : List Ob) (R : V → List Ob → Prop) [Hold R R] (r : V) (H : List Ob) : Prop :=
  ∃ n r', n0 ≤ n ∧ n ≤ H.length ∧ Wk H n r r' ∧ (∀ o x, o < n → H[o]? = some x → H0[o]? = some x ∨ x.lt n) ∧ R r' (H.take n)

theorem RetW.congr {n0 : Nat} {H0 : List Ob} {R : V → List Ob → Prop} {r r' : V} {H H' : List Ob} (h1 : r = r') (h2 : H = H') : RetW n0 H0 R r H = RetW n0 H0 R r' H' := by rw [h1, h2]

/-- the results' values, one after another -/
def retVals (T : Nat → TD) (env : Env) (H : List Ob) : List ResultVar → (List V → Prop) → Prop
  | [], K => K []
  | .tmp t :: rs, K => retVals T env H rs fun vs => K (eget env t :: vs)
  | .cell t ty :: rs, K => if (T ty).kind = .other then False else match xload (T ty) H (eget env t) with
    | .val pre v _ => Need pre (retVals T env H rs fun vs => K (v :: vs))
    | _ => False

def tupled : List V → V
  | [v] => v
  | vs => .tuple vs

def RetE (T : Nat → TD) (rs : List ResultVar) (H0 : List Ob) (R : V → List Ob → Prop) : Exit → Env → List Ob → Prop
  | .normal, env, H => retVals T env H rs fun vs => Need (vs.any V.isDead = false) (RetW H0.length H0 R (tupled vs) H)
  | .ret, env, H => retVals T env H rs fun vs => Need (vs.any V.isDead = false) (RetW H0.length H0 R (tupled vs) H)
  | _, _, _ => False

def resRun (tmps : Array Value) : ResultVar → Sem Value
  | .tmp t => pure (tmps.getD t undef)
  | .cell p t => do loadVar t (← asAddr (tmps.getD p undef))

theorem retVals_run (hTO : TyOK P T) {g : Nat → Option Key} {H : List Ob} {w : World} {env : Env} {a : Act} (hG : Good g H w) (he : EnvRep (cxOf g H.length w) env a) : ∀ (rs : List ResultVar) {K : List V → Prop}, retVals T env H rs K →
    ∃ vs cvs, K vs ∧ RepVals (cxOf g H.length w) vs cvs ∧ (rs.mapM (resRun a.tmps)).run P w = .ok cvs w
  | [], K, h => ⟨[], [], h, trivial, by simp⟩
  | .tmp t :: rs, K, h => by
    obtain ⟨vs, cvs, h1, h2, h3⟩ := retVals_run hTO hG he rs h
    refine ⟨_, a.tmps.getD t undef :: cvs, h1, ⟨he t, h2⟩, ?_⟩
    rw [List.mapM_cons, Sem.run_bind]
    simp only [resRun, Sem.run_pure, Result.andThen_ok, Sem.run_bind]
    rw [h3]
    rfl
  | .cell t ty :: rs, K, h => by
    simp only [retVals] at h
    split at h
    · exact h.elim
    rename_i hk
    split at h
    · rename_i pre v H' hx
      obtain ⟨hp, h⟩ := h
      obtain ⟨vs, cvs, h1, h2, h3⟩ := retVals_run hTO hG he rs h
      obtain ⟨_, cv, c1, c2⟩ := xload_exact (hTO.at hk) hG (he t) hx hp
      refine ⟨_, cv :: cvs, h1, ⟨c2, h2⟩, ?_⟩
      have c1' : (do loadVar ty (← asAddr (a.tmps.getD t undef)) : Sem Value).run P w = .ok cv w := by
        unfold Instr.loadAt Instr.sureAddr at c1
        unfold asAddr
        generalize a.tmps.getD t undef = u at c1 ⊢
        cases u
        case pointer ad => cases ad with
          | none => simp at c1
          | some ad => simpa using c1
        all_goals simp at c1
      rw [List.mapM_cons, Sem.run_bind]
      rw [show resRun a.tmps (.cell t ty) = (do loadVar ty (← asAddr (a.tmps.getD t undef)) : Sem Value) from rfl, c1']
      simp only [Result.andThen_ok, Sem.run_bind]
      rw [h3]
      rfl
    · exact h.elim

theorem tupled_rep {c : Cx} {vs : List V} {cvs : List Value} (h : RepVals c vs cvs) (hd : ∀ v ∈ vs, v ≠ .dead) : RepV c (tupled vs) (if h : cvs.toArray.size = 1 then cvs.toArray[0] else .tuple cvs.toArray) := by
  have hl := h.length
  match vs, cvs, h with
  | [], [], _ =>
    refine RepV.mk_leaf ?_ (by simp [tupled]) (by simp)
    simp [tupled, RepC, RepVs]
  | [v], [cv], h => simpa [tupled] using h.1
  | v :: u :: vs, cv :: cu :: cvs, h =>
    rw [dif_neg (by simp)]
    refine RepV.mk_leaf ?_ (by simp [tupled]) (by simp)
    simp only [tupled, RepC]
    refine ⟨_, rfl, ?_⟩
    have key : ∀ (vs : List V) (cvs : List Value), (∀ v ∈ vs, v ≠ .dead) → RepVals c vs cvs → RepVs c vs cvs := by
      intro vs
      induction vs with
      | nil => intro cvs _ h; cases cvs with
        | nil => simp [RepVs]
        | cons _ _ => exact h.elim
      | cons v vs ih => intro cvs hd h; cases cvs with
        | nil => exact h.elim
        | cons cv cvs =>
          simp only [RepVs]
          have hv := hd v (by simp)
          refine ⟨cv, cvs, rfl, ?_, ?_, ih cvs (fun u hu => hd u (by simp [hu])) h.2⟩
          · have := h.1; cases v <;> first | exact absurd rfl hv | exact this.1
          · have := h.1; cases v <;> first | exact absurd rfl hv | exact this.2
    exact key _ _ hd h

theorem results_eq {fn : Func} {a : Act} {w : World} {cvs : List Value} (h : (fn.results.toList.mapM (resRun a.tmps)).run P w = .ok cvs w) :
    (results fn a.tmps).run P w = .ok (if h : cvs.toArray.size = 1 then cvs.toArray[0] else .tuple cvs.toArray) w := by
  have e : results fn a.tmps = (do let vs ← fn.results.mapM (resRun a.tmps); pure (if h : vs.size = 1 then vs[0] else .tuple vs)) := by
    unfold results
    congr 1
  rw [e, Array.mapM_eq_mapM_toList]
  simp only [Sem.run_bind, Sem.run_map]
  rw [h]
  rfl

def argEnv : Nat → List V → Env
  | _, [] => []
  | k, x :: xs => (k, x) :: argEnv (k + 1) xs

theorem argEnv_rep {c : Cx} : ∀ (args : List V) (cargs : List Value) (k : Nat) (tmps : Nat → Value), RepVals c args cargs → (∀ i v, cargs[i]? = some v → tmps (k + i) = v) → ∀ t, RepV c (eget (argEnv k args) t) (tmps t)
  | [], _, _, _, _, _, t => trivial
  | x :: xs, [], _, _, h, _, t => h.elim
  | x :: xs, v :: vs, k, tmps, h, hc, t => by
    simp only [argEnv, eget]
    split
    · rename_i e
      subst e
      have := hc 0 v rfl
      rw [Nat.add_zero] at this
      rw [this]
      exact h.1
    · exact argEnv_rep xs vs (k + 1) tmps h.2 (fun i u hu => by rw [show k + 1 + i = k + (i + 1) by omega]; exact hc (i + 1) u hu) t

/-- A CALL, BY THE FUNCTION's CODE. -/
theorem SCall.of_code (hTO : TyOK P T) {f : FuncId} {fn : Func} {c : Code} {args : List V} {H : List Ob} {R : V → List Ob → Prop} (hf : P.funcs[f]? = some fn) (hb : fn.body = some c) (hcall : ∀ args w, (callFunc f args).run P w = .ok (.enter f args) w)
    {n : Nat} (hn : fn.ntmps = n) (hargs : args.length ≤ n) {rs : List ResultVar} (hrs : fn.results = rs.toArray) (h : EW P n c (RetE T rs H R) (argEnv 0 args) H) : SCall P f args H R := by
  intro g w cargs hG ha
  have hlen := ha.length
  simp only [Array.length_toList] at hlen
  unfold CallR
  rw [hcall]
  simp only
  refine callsIn_wide.1 (callsIn_of_wp (n := 0) hf hb trivial ?_)
  have hR : Rel [] n (argEnv 0 args) H g { tmps := cargs ++ Array.replicate (fn.ntmps - cargs.size) undef, defers := [] } w := by
    refine ⟨by simp; omega, rfl, fun t => ?_, hG⟩
    refine argEnv_rep args cargs.toList 0 (fun t => (cargs ++ Array.replicate (fn.ntmps - cargs.size) undef).getD t undef) ha (fun i v hv => ?_) t
    have hi : i < cargs.size := by have := (List.getElem?_eq_some_iff.1 hv).1; simpa using this
    simp only [Nat.zero_add]
    rw [Array.getElem?_toList] at hv
    rw [Array.getElem?_eq_getElem hi] at hv
    injection hv with hv
    simp [Array.getElem?_append, hi, hv]
  refine wpIn_mono (h none [] g _ w hR) fun e a' w' ⟨env', H', g', h1, h2, h3⟩ => ?_
  have key : retVals T env' H' rs (fun vs => Need (vs.any V.isDead = false) (RetW H.length H R (tupled vs) H')) →
      a'.defers = [] ∧ ∃ v, (results fn a'.tmps).run P w' = .ok v w' ∧ ∃ v', Ending.returned v = .returned v' ∧ ∃ r H'' g'', Good g'' H'' w' ∧ Ext g H.length w g'' H''.length w' ∧ RepV (cxOf g'' H''.length w') r v' ∧ R r H'' := by
    intro h3
    obtain ⟨vs, cvs, ⟨k0, n1, r', k1, k2, k3, k4, k5⟩, k6, k7⟩ := retVals_run hTO h1.2.2.2 h1.2.2.1 rs h3
    have hrun := results_eq (P := P) (fn := fn) (a := a') (w := w') (cvs := cvs) (by rw [hrs]; exact k7)
    refine ⟨h1.2.1, _, hrun, _, rfl, r', H'.take n1, cutKey g' n1, ?_, ?_, ?_, k5⟩
    · refine h1.2.2.2.cut n1 k2 (fun o x ho hx => ?_)
      rcases k4 o x ho hx with e | e
      · have := hG.lt e
        cases x with
        | gone => trivial
        | hole => trivial
        | var cs => exact ltL_le k1 _ this
        | vec _ _ l => exact ltL_le k1 _ this
        | raw _ _ vs _ => exact ltL_le k1 _ this
        | map l _ => exact ltL_le k1 _ this
        | iter _ _ _ _ => exact Nat.lt_of_lt_of_le this k1
      · exact e
    · rw [List.length_take, Nat.min_eq_left k2]
      exact h2.cut n1 k1
    · rw [List.length_take, Nat.min_eq_left k2]
      exact k3.repV h1.2.2.2 k2 (tupled_rep k6 (fun v hv e => by
        have := List.any_eq_false.1 k0 v hv
        subst e
        simp [V.isDead] at this))
  cases e with
  | normal => exact key h3
  | ret => exact key h3
  | exit id => exact h3.elim
  | goto l => exact h3.elim
  | panic ch => exact h3.elim
  | outgrown => exact h3.elim
end Go.EL

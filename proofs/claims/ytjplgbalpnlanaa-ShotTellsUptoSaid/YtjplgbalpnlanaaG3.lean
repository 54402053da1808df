import Derived.Test.YtjplgbalpnlanaaG2
import Derived.Deep.Slices
import Derived.Carry
import Derived.Test.YtjplgbalpnlanaaProg
/- The value logic, part UH: a region whose order is open, told by what its heap is when some of it has run. -/
set_option linter.unusedVariables false
set_option linter.unusedSimpArgs false
namespace Go.EL
open Go
variable {P : Program} {T : Nat → TD}
/-- the look at a region -/
def drawOKH (n : Nat) (ops : Array Oper) : Bool :=
  let b := bef ops.toList
  (List.range ops.size).all fun j => match ops[j]? with
    | none => true
    | some oj => oj.guard.isNone &&
      (oj.after.toList.all fun e => !Region.binds .any e || decide (e.on < j)) && (match oj.dst with | some d => decide (d < n) | none => true) &&
      (List.range j).all fun i => match ops[i]? with
        | none => true
        | some oi => oi.apart ops oj || (b.getD j 0).testBit i
def envAt (vs : Nat → V) : List Oper → Nat → Env → Env
  | [], _, env => env
  | o :: l, k, env => envAt vs l (k + 1) (eput env o.dst (vs k))
theorem envAt_snoc (vs : Nat → V) (o : Oper) : ∀ (l : List Oper) (k : Nat) (env : Env), envAt vs (l ++ [o]) k env = eput (envAt vs l k env) o.dst (vs (k + l.length))
  | [], k, env => rfl
  | x :: l, k, env => by
    rw [List.cons_append, envAt, envAt, envAt_snoc vs o l, List.length_cons, show k + 1 + l.length = k + (l.length + 1) from by omega]
/-- a region, by its values, and its heaps -/
def DrawH (P : Program) (T : Nat → TD) (own : Bool) (ops : List Oper) (K : Env → List Ob → Prop) (env : Env) (H : List Ob) : Prop :=
  ∃ (vs : Nat → V) (Hf : (Nat → Bool) → List Ob), Hf (fun _ => false) = H ∧ (∀ fl fl' : Nat → Bool, (∀ j, j < ops.length → fl j = fl' j) → Hf fl = Hf fl') ∧
    (∀ i o, ops[i]? = some o → ∀ fl : Nat → Bool, Closed ops (fun j => fl j = true) → fl i = false → (∀ e ∈ o.after.toList, Region.binds .any e = true → fl e.on = true) →
      ewOp P T own o (fun v' H1 => v' = vs i ∧ H1 = Hf (fun j => if j = i then true else fl j)) (envAt vs (ops.take i) 0 env) (Hf fl)) ∧
    K (envAt vs ops 0 env) (Hf fun _ => true)
section
variable {own : Bool} {n : Nat} {ops : Array Oper}
theorem EW.drawH (hTO : TyOK P T) (hm : P.follows .mixedOrders = true) {id : Nat} (keep : Nat → List Nat) (hd : drawOKH n ops = true) {Q : Exit → Env → List Ob → Prop} {env : Env} {H : List Ob}
    (h : DrawH P T own ops.toList (fun env' H' => Q .normal (restr (keep id) env') H') env H) : EW P n (.region id ops true) Q env H := by
  intro rd ds g a w hR
  obtain ⟨vs, Hf, hH0, hfl, hops, e4⟩ := h
  let m := ops.size
  let es : Nat → Env := fun k => envAt vs (ops.toList.take k) 0 env
  let dst : Nat → Option Nat := fun j => (ops[j]?).bind (·.dst)
  have hop : ∀ j o, ops[j]? = some o → ops.toList[j]? = some o := fun j o h => by rw [Array.getElem?_toList]; exact h
  have hget : ∀ j, j < m → ∃ o, ops[j]? = some o := fun j hj => ⟨ops[j], by simp [m] at hj; simp [hj]⟩
  have look : ∀ j o, ops[j]? = some o → o.guard = none ∧ (∀ e ∈ o.after.toList, Region.binds .any e = true → e.on < j) ∧ (∀ d, o.dst = some d → d < n) ∧
      ∀ i oi, i < j → ops[i]? = some oi → (oi.apart ops o = true ∨ ((bef ops.toList).getD j 0).testBit i = true) := by
    intro j o hj
    have hjm : j < ops.size := (Array.getElem?_eq_some_iff.1 hj).1
    have := List.all_eq_true.1 hd j (List.mem_range.2 hjm)
    simp only [hj, Bool.and_eq_true, Bool.or_eq_true, List.all_eq_true, List.mem_range] at this
    obtain ⟨⟨⟨q0, q1⟩, q2⟩, q3⟩ := this
    refine ⟨by simpa using q0, fun e he hb => ?_, fun d hd => ?_, fun i oi hi hoi => ?_⟩
    · rcases q1 e he with h | h
      · rw [hb] at h; cases h
      · exact of_decide_eq_true h
    · rw [hd] at q2; exact of_decide_eq_true q2
    · have := q3 i hi
      simp only [hoi, Bool.or_eq_true] at this
      exact this
  have hes : ∀ i, i < m → es (i + 1) = eput (es i) (dst i) (vs i) := fun i hi => by
    obtain ⟨o, ho⟩ := hget i hi
    have hi' : i < ops.toList.length := by simpa [m] using hi
    have e0 : ops.toList[i] = o := by have := hop i o ho; rw [List.getElem?_eq_getElem hi'] at this; injection this
    show envAt vs (ops.toList.take (i + 1)) 0 env = _
    rw [List.take_succ_eq_append_getElem hi', envAt_snoc, e0]
    simp only [dst, ho, Option.bind_some, List.length_take, Nat.zero_add]
    rw [Nat.min_eq_left (by omega)]
  have main : ∀ (fuel : Nat) (listed : Array Bool) (a : Act) (w' : World), listed.size = m → ((List.range m).filter fun j => !listed.getD j false).length ≤ fuel →
      Closed ops.toList (fun j => listed.getD j false = true) →
      a.tmps.size = n → a.defers = ds →
      (∃ g', Good g' (Hf fun j => listed.getD j false) w' ∧ Ext g H.length w g' (Hf fun j => listed.getD j false).length w' ∧ ∀ t v, Seen m dst vs (eget (es 0)) (fun j => listed.getD j false) t v → RepV (cxOf g' (Hf fun j => listed.getD j false).length w') v (a.tmps.getD t undef)) →
      wpAnyIn (fz rd) 0 P .any ops (fun e a' w' => ∃ env' H' g', Rel ds n env' H' g' a' w' ∧ Ext g H.length w g' H'.length w' ∧ Q e env' H') fuel listed a w' := by
    have ready_nil : ∀ (listed : Array Bool), listed.size = m → Region.ready .any ops listed = [] → ∀ j, j < m → listed.getD j false = true := by
      intro listed hsz hr j
      induction j using Nat.strongRecOn with
      | _ j ih =>
        intro hj
        cases hl : listed.getD j false with
        | true => rfl
        | false =>
          obtain ⟨o, ho⟩ := hget j hj
          have : j ∈ Region.ready .any ops listed := by
            unfold Region.ready
            rw [List.mem_filter]
            refine ⟨List.mem_range.2 hj, ?_⟩
            simp only [ho, Option.map_some, Option.getD_some, Bool.and_eq_true, Bool.not_eq_true']
            refine ⟨?_, ?_⟩
            · have hjs : j < listed.size := by rw [hsz]; exact hj
              simpa [Array.getD, hjs] using hl
            · rw [Array.all_eq_true']
              intro e he
              simp only [Bool.or_eq_true, Bool.not_eq_true']
              by_cases hb : Region.binds .any e = true
              · right
                have hlt := (look j o ho).2.1 e (by simpa using he) hb
                exact ih e.on hlt (by omega)
              · left; simpa using hb
          rw [hr] at this; cases this
    have fin : ∀ (listed : Array Bool) (a : Act) (w' : World), (∀ j, j < m → listed.getD j false = true) → a.tmps.size = n → a.defers = ds →
        (∃ g', Good g' (Hf fun j => listed.getD j false) w' ∧ Ext g H.length w g' (Hf fun j => listed.getD j false).length w' ∧ ∀ t v, Seen m dst vs (eget (es 0)) (fun j => listed.getD j false) t v → RepV (cxOf g' (Hf fun j => listed.getD j false).length w') v (a.tmps.getD t undef)) →
        ∃ env' H' g', Rel ds n env' H' g' a w' ∧ Ext g H.length w g' H'.length w' ∧ Q .normal env' H' := by
      intro listed a w' hall hsz hdef ⟨g', s2, s3, s4⟩
      have hH : (Hf fun j => listed.getD j false) = Hf fun _ => true := hfl _ _ (fun j hj => hall j (by simpa [m] using hj))
      rw [hH] at s2 s3 s4
      refine ⟨restr (keep id) (es m), Hf (fun _ => true), g', ⟨hsz, hdef, EnvRep.restr _ (fun t => s4 t _ ((seen_text hes t m (Nat.le_refl _)).congr (fun k h1 h2 => ?_))), s2⟩, s3, ?_⟩
      · rw [hall k h1]; simpa using h1
      · have : es m = envAt vs ops.toList 0 env := by
          show envAt vs (ops.toList.take m) 0 env = _
          rw [List.take_of_length_le (by simp [m])]
        rw [this]; exact e4
    intro fuel
    induction fuel with
    | zero =>
      intro listed a w' hsz hfu hcl hts hdef hinv
      have hall : ∀ j, j < m → listed.getD j false = true := by
        intro j hj
        cases hl : listed.getD j false with
        | true => rfl
        | false =>
          have : j ∈ (List.range m).filter fun j => !listed.getD j false := List.mem_filter.2 ⟨List.mem_range.2 hj, by simp [hl]⟩
          have hnil : ((List.range m).filter fun j => !listed.getD j false) = [] := List.eq_nil_of_length_eq_zero (Nat.le_zero.1 hfu)
          rw [hnil] at this
          cases this
      refine ⟨?_, fin listed a w' hall hts hdef hinv⟩
      unfold Region.ready
      rw [List.filter_eq_nil_iff]
      intro j hj
      have hj := List.mem_range.1 hj
      have hjs : j < listed.size := by rw [hsz]; exact hj
      have := hall j hj
      have h2 : listed.getD j true = true := by simpa [Array.getD, hjs] using this
      simp only [h2]; simp
    | succ fuel ih =>
      intro listed a w' hsz hfu hcl hts hdef hinv
      refine ⟨fun hr => fin listed a w' (ready_nil listed hsz hr) hts hdef hinv, fun i hi => ?_⟩
      unfold Region.ready at hi
      rw [List.mem_filter] at hi
      obtain ⟨him, hi⟩ := hi
      have him : i < m := List.mem_range.1 him
      have his : i < listed.size := by rw [hsz]; exact him
      obtain ⟨o, ho⟩ := hget i him
      simp only [ho, Option.map_some, Option.getD_some, Bool.and_eq_true, Bool.not_eq_true'] at hi
      obtain ⟨hil, hie⟩ := hi
      have hil : listed.getD i false = false := by simpa [Array.getD, his] using hil
      have hedge : ∀ e ∈ o.after.toList, Region.binds .any e = true → listed.getD e.on false = true := by
        intro e he hb
        rw [Array.all_eq_true'] at hie
        have := hie e (by simpa using he)
        simpa [hb] using this
      -- ahead
      have up : ∀ k, Ahead ops.toList i k → listed.getD k false = true := fun k hk => hk _ hcl (fun o' ho' e he hb => by
        have : ops[i]? = some o' := by rw [← Array.getElem?_toList]; exact ho'
        rw [ho] at this
        injection this with this
        subst this
        exact hedge e he hb)
      have down : ∀ k, Ahead ops.toList k i → listed.getD k false = false := fun k hk => by
        cases hl : listed.getD k false with
        | false => rfl
        | true =>
          have := hk _ hcl (fun o' ho' e he hb => hcl k o' ho' hl e he hb)
          have this : listed.getD i false = true := this
          rw [hil] at this; cases this
      have agree : ∀ k, k < m → (k = i ∨ (k < i ∧ ((bef ops.toList).getD i 0).testBit k = true) ∨ (i < k ∧ ((bef ops.toList).getD k 0).testBit i = true)) → listed.getD k false = decide (k < i) := by
        intro k _ h
        rcases h with rfl | ⟨h1, h2⟩ | ⟨h1, h2⟩
        · rw [hil]; simp
        · rw [up k (ahead_of_bit h2)]; simp [h1]
        · rw [down k (ahead_of_bit h2)]; simp; omega
      have clash : ∀ k ok, k < m → ops[k]? = some ok → k ≠ i → (∃ d, ok.dst = some d ∧ (d ∈ o.looksAt ops ∨ o.dst = some d)) → listed.getD k false = decide (k < i) := by
        intro k ok hk hok hne ⟨d, hd, hl⟩
        refine agree k hk ?_
        rcases Nat.lt_or_gt_of_ne hne with hlt | hgt
        · right; left
          refine ⟨hlt, ?_⟩
          rcases ((look i o ho).2.2.2 k ok hlt hok) with h | h
          · obtain ⟨p1, p2, p3⟩ := Oper.apart_spec h
            rcases hl with hl | hl
            · exact absurd hl (p1 d hd)
            · exact absurd hl (p2 d hd)
          · exact h
        · right; right
          refine ⟨hgt, ?_⟩
          rcases ((look k ok hok).2.2.2 i o hgt ho) with h | h
          · obtain ⟨p1, p2, p3⟩ := Oper.apart_spec h
            rcases hl with hl | hl
            · exact absurd hl (p3 d hd)
            · exact absurd hd (p2 d hl)
          · exact h
      obtain ⟨g', s2, s3, s4⟩ := hinv
      have hk := hops i o (hop i o ho) (fun j => listed.getD j false) hcl hil hedge
      -- what it sees
      let es' : Env := restr (o.looksAt ops) (es i)
      have hE : EnvRep (cxOf g' (Hf fun j => listed.getD j false).length w') es' a := by
        intro t
        show RepV _ (eget (restr (o.looksAt ops) (es i)) t) _
        rw [get_restrict]
        split
        · rename_i ht
          refine s4 t _ ((seen_text hes t i (Nat.le_of_lt him)).congr (fun k hk hdk => ?_))
          by_cases hki : k = i
          · subst hki; rw [hil]; simp
          · obtain ⟨ok, hok⟩ := hget k hk
            have hdk' : ok.dst = some t := by simpa [dst, hok] using hdk
            exact (clash k ok hk hok hki ⟨t, hdk', .inl ht⟩).symm
        · trivial
      have hlook : ∀ x ∈ o.op.operands, evl (es i) x = evl es' x := by
        intro x hx
        cases x with
        | tmp t =>
          show eget (es i) t = eget (restr (o.looksAt ops) (es i)) t
          rw [get_restrict, if_pos]
          unfold Oper.looksAt
          exact List.mem_append_left _ (List.mem_filterMap.2 ⟨.tmp t, by simpa using hx, rfl⟩)
        | _ => rfl
      have hcong : ∀ K H, ewOp P T own o K (es i) H → ewOp P T own o K es' H := by
        intro K H h
        unfold ewOp at h ⊢
        rw [← xop_congr o.op hlook]
        exact h
      have after : ∀ (cv : Value) (H' : List Ob) (g'' : Nat → Option Key) (w'' : World), Good g'' H' w'' → Ext g' (Hf fun j => listed.getD j false).length w' g'' H'.length w'' → RepV (cxOf g'' H'.length w'') (vs i) cv → (Hf fun j => (listed.setIfInBounds i true).getD j false) = H' →
          wpAnyIn (fz rd) 0 P .any ops (fun e a' w' => ∃ env' H' g', Rel ds n env' H' g' a' w' ∧ Ext g H.length w g' H'.length w' ∧ Q e env' H') fuel (listed.setIfInBounds i true) (a.put o.dst cv) w'' := by
        intro cv H' g'' w'' k1 k2 k3 k4
        have hset : ∀ j, (listed.setIfInBounds i true).getD j false = if j = i then true else listed.getD j false := by
          intro j
          by_cases e : j = i
          · subst e; simp [Array.getD, his]
          · rw [if_neg e]
            simp only [Array.getD_eq_getD_getElem?]
            rw [Array.getElem?_setIfInBounds_ne (Ne.symm e)]
        refine ih _ _ _ (by simp [hsz]) ?_ ?_ (by cases o.dst <;> simp [Act.put, hts]) (by cases o.dst <;> simp [Act.put, hdef]) ⟨g'', by rw [k4]; exact k1, by rw [k4]; exact s3.trans k2, fun t v hv => ?_⟩
        · have := filter_lt (p := fun j => !listed.getD j false) (p' := fun j => !(listed.setIfInBounds i true).getD j false) (i := i) (l := List.range m) (fun j _ hj => by
            simp only [hset] at hj
            split at hj
            · simp at hj
            · exact hj) (List.mem_range.2 him) (by simp [hil]) (by simp [hset])
          omega
        · intro j oj hj hl e he hb
          simp only [hset] at hl ⊢
          split
          · rfl
          · split at hl
            · rename_i e1
              subst e1
              have : ops[j]? = some oj := by rw [← Array.getElem?_toList]; exact hj
              rw [ho] at this
              injection this with this
              subst this
              exact hedge e he hb
            · exact hcl j oj hj hl e he hb
        · rw [k4]
          have hdn := (look i o ho).2.2.1
          by_cases hdt : o.dst = some t
          · have hv' : v = vs i := by
              have hdi : dst i = some t := by simp [dst, ho, hdt]
              rcases hv with ⟨j, a1, a2, a3, a4, a5⟩ | ⟨a1, _⟩
              · by_cases hji : j = i
                · subst hji; exact a4.symm
                · obtain ⟨oj, hoj⟩ := hget j a1
                  have hdj : oj.dst = some t := by simpa [dst, hoj] using a3
                  have hcl' := clash j oj a1 hoj hji ⟨t, hdj, .inr hdt⟩
                  simp only [hset] at a2
                  rw [if_neg hji, hcl'] at a2
                  exact absurd hdi (a5 i (of_decide_eq_true a2) him (by simp [hset]))
              · exact absurd hdi (a1 i him (by simp [hset]))
            subst hv'
            have : (a.put o.dst cv).tmps.getD t undef = cv := by
              have := hdn t hdt
              rw [hdt]
              simp [Act.put, hts, this]
            rw [this]
            exact k3
          · have hold : Seen m dst vs (eget (es 0)) (fun j => listed.getD j false) t v := hv.congr (fun k hk hdk => by
              simp only [hset]
              rw [if_neg]
              intro e
              subst e
              exact hdt (by simpa [dst, ho] using hdk))
            have := RepV.mono k2.mono (s4 t v hold)
            have e : (a.put o.dst cv).tmps.getD t undef = a.tmps.getD t undef := by
              cases hd : o.dst with
              | none => rfl
              | some d =>
                have hne : d ≠ t := fun e => hdt (by rw [hd, e])
                simp [Act.put, Array.getElem?_setIfInBounds_ne hne]
            rw [e]
            exact this
      unfold wpOpIn
      rw [ho]
      simp only
      have hw : Region.wanted o (yielded ops a.tmps) = true := by
        rw [wanted_iff, (look i o ho).1]
      rw [if_pos hw]
      refine op_wp' hTO hE s2 (hcong _ _ hk) fun v cv H' g'' w'' k1 k2 k3 ⟨k4, k5⟩ => ?_
      subst k4 k5
      refine after cv _ g'' w'' k1 k2 k3 (hfl _ _ fun j _ => ?_)
      by_cases e : j = i
      · subst e; simp [Array.getD, his]
      · rw [if_neg e]
        simp only [Array.getD_eq_getD_getElem?]
        rw [Array.getElem?_setIfInBounds_ne (Ne.symm e)]
  have hstart : (Hf fun j => (Array.replicate ops.size false).getD j false) = H := by
    rw [← hH0]
    exact hfl _ _ (fun j hj => by simp [Array.getD])
  refine wpIn_region_any hm (main ops.size _ a _ (by simp [m]) (Nat.le_trans (List.length_filter_le _ _) (by simp [m])) ?_ hR.1 hR.2.1 ?_)
  · intro j o hj hS
    simp [Array.getD] at hS
  · have hdr := step_drawn hR.2.2.2 (w.drawn + 1)
    refine ⟨g, by rw [hstart]; exact hdr.1, by rw [hstart]; exact hdr.2, fun t v hs => ?_⟩
    rw [hstart]
    rcases hs with ⟨j, _, h1, _⟩ | ⟨_, rfl⟩
    · simp [Array.getD] at h1
    · exact RepV.mono hdr.2.mono (by have := hR.2.2.1 t; simpa [es, envAt] using this)
end
end Go.EL

/- The value logic, part W: ghost steps; calls that borrow. -/
set_option linter.unusedVariables false
set_option linter.unusedSimpArgs false
namespace Go.EL
open Go
variable {P : Program} {T : Nat → TD}

/-- the same world, told otherwise; n0 counts the objects that were at the beginning -/
def Gho (n0 : Nat) (env : Env) (H : List Ob) (env' : Env) (H' : List Ob) : Prop :=
  ∀ g w, Good g H w → ∃ g', Good g' H' w ∧ (∀ gs ws, Ext gs n0 ws g H.length w → Ext gs n0 ws g' H'.length w) ∧
    ∀ t v, RepV (cxOf g H.length w) (eget env t) v → RepV (cxOf g' H'.length w) (eget env' t) v

theorem Gho.refl (n0 : Nat) (env : Env) (H : List Ob) : Gho n0 env H env H := fun g w hG => ⟨g, hG, fun _ _ h => h, fun _ _ h => h⟩
theorem Gho.trans {n0 : Nat} {e0 e1 e2 : Env} {H0 H1 H2 : List Ob} (h : Gho n0 e0 H0 e1 H1) (k : Gho n0 e1 H1 e2 H2) : Gho n0 e0 H0 e2 H2 := by
  intro g w hG
  obtain ⟨g1, a1, a2, a3⟩ := h g w hG
  obtain ⟨g2, b1, b2, b3⟩ := k g1 w a1
  exact ⟨g2, b1, fun gs ws h => b2 _ _ (a2 _ _ h), fun t v hv => b3 t v (a3 t v hv)⟩

theorem Gho.rel {n0 n : Nat} {env env' : Env} {H H' : List Ob} {ds : List Deferred} {g : Nat → Option Key} {a : Act} {w : World} (h : Gho n0 env H env' H') (hR : Rel ds n env H g a w) :
    ∃ g', Rel ds n env' H' g' a w ∧ (∀ gs ws, Ext gs n0 ws g H.length w → Ext gs n0 ws g' H'.length w) := by
  obtain ⟨h1, h2, h3, h4⟩ := hR
  obtain ⟨g', k1, k2, k3⟩ := h g w h4
  exact ⟨g', ⟨h1, h2, fun t => k3 t _ (h3 t), k1⟩, k2⟩

theorem EW.ghost {n : Nat} {c : Code} {Q : Exit → Env → List Ob → Prop} {env env' : Env} {H H' : List Ob} (h : Gho H.length env H env' H') (k : EW P n c Q env' H') : EW P n c Q env H := by
  intro rd ds g a w hR
  obtain ⟨g', hR', he⟩ := h.rel hR
  have he := he g w (Ext.refl _ _ _)
  exact wpIn_mono (k rd ds g' a w hR') fun e a' w' ⟨env'', H'', g'', h1, h2, h3⟩ => ⟨env'', H'', g'', h1, he.trans h2, h3⟩

/-- up to a ghost step -/
def UpTo (n0 : Nat) (Q : Env → List Ob → Prop) [Hold Q Q] (env : Env) (H : List Ob) : Prop := ∃ env' H', Gho n0 env H env' H' ∧ Q env' H'
theorem UpTo.here {n0 : Nat} {Q : Env → List Ob → Prop} {env : Env} {H : List Ob} (h : Q env H) : UpTo n0 Q env H := ⟨env, H, Gho.refl _ _ _, h⟩
theorem UpTo.step {n0 : Nat} {Q : Env → List Ob → Prop} {env env' : Env} {H H' : List Ob} (h : Gho n0 env H env' H') (k : UpTo n0 Q env' H') : UpTo n0 Q env H := by
  obtain ⟨e, h', a, b⟩ := k
  exact ⟨e, h', h.trans a, b⟩

theorem EW.upto {n : Nat} {c : Code} {Q : Exit → Env → List Ob → Prop} {env : Env} {H : List Ob} (h : EW P n c (fun e => UpTo H.length (Q e)) env H) : EW P n c Q env H := by
  intro rd ds g a w hR
  refine wpIn_mono (h rd ds g a w hR) fun e a' w' ⟨env', H', g', h1, h2, env'', H'', h3, h4⟩ => ?_
  obtain ⟨g'', k1, k2⟩ := h3.rel h1
  exact ⟨env'', H'', g'', k1, k2 _ _ h2, h4⟩

/-- A LOOP: an invariant, with a number that goes down; the round's end is told anew. -/
theorem EW.loopG {n : Nat} {env : Env} {H : List Ob} {c : Code} {Q : Exit → Env → List Ob → Prop} (I : Nat → Env → List Ob → Prop) (m : Nat) (h0 : I m env H)
    (hb : ∀ k env H, I k env H → EW P n c (thenE (UpTo H.length fun env' H' => ∃ k', k' < k ∧ I k' env' H') Q) env H) : EW P n (.loop c) Q env H := by
  refine EW.loop I m h0 fun k env H hI => EW.upto ((hb k env H hI).mono fun e env' H' h => ?_)
  cases e with
  | normal => exact h
  | exit id => exact UpTo.here h
  | goto l => exact UpTo.here h
  | ret => exact UpTo.here h
  | panic ch => exact UpTo.here h
  | outgrown => exact UpTo.here h

def EnvG (R : V → V → Prop) (env env' : Env) : Prop := All2 (fun p q => p.1 = q.1 ∧ (q.2 = .dead ∨ R p.2 q.2)) env env'
theorem EnvG.get {R : V → V → Prop} : ∀ (env env' : Env), EnvG R env env' → ∀ t, eget env' t = .dead ∨ R (eget env t) (eget env' t)
  | [], [], _, t => .inl rfl
  | (a, x) :: e, (b, y) :: e', h, t => by
    obtain ⟨⟨h1, h2⟩, h3⟩ := h
    simp only at h1 h2
    subst h1
    simp only [eget]
    split
    · exact h2
    · exact EnvG.get _ _ h3 t
  | [], _ :: _, h, _ => h.elim
  | _ :: _, [], h, _ => h.elim

def HLt (n : Nat) (H : List Ob) : Prop := ∀ x ∈ H, x.lt n
theorem HLt.nil (n : Nat) : HLt n [] := fun x hx => by cases hx
theorem HLt.cons {n : Nat} {x : Ob} {H : List Ob} (h : x.lt n) (k : HLt n H) : HLt n (x :: H) := fun y hy => by
  rcases List.mem_cons.1 hy with rfl | hy
  · exact h
  · exact k y hy
theorem Ob.lt_le {m n : Nat} (h : m ≤ n) {x : Ob} (k : x.lt m) : x.lt n := by
  cases x with
  | gone => trivial
  | hole => trivial
  | var cs => exact ltL_le h _ k
  | vec _ _ l => exact ltL_le h _ k
  | raw _ _ vs _ => exact ltL_le h _ k
  | map l _ => exact ltL_le h _ k
  | iter _ _ _ _ => exact Nat.lt_of_lt_of_le k h

/-- objects are given up -/
theorem Gho.cut {n0 : Nat} {H0 L1 L2 : List Ob} {env env' : Env} (h0 : n0 ≤ H0.length + L1.length) (hH : HLt H0.length H0) (hL : HLt (H0.length + L1.length) L1) (he : EnvG (Wk (H0 ++ (L1 ++ L2)) (H0.length + L1.length)) env env') :
    Gho n0 env (H0 ++ (L1 ++ L2)) env' (H0 ++ L1) := by
  intro g w hG
  have hn : H0.length + L1.length ≤ (H0 ++ (L1 ++ L2)).length := by simp
  have htake : (H0 ++ (L1 ++ L2)).take (H0.length + L1.length) = H0 ++ L1 := by
    rw [← List.append_assoc, ← List.length_append, List.take_left]
  have hlen : (H0 ++ L1).length = H0.length + L1.length := by simp
  refine ⟨cutKey g (H0.length + L1.length), ?_, fun gs ws h => ?_, fun t v hv => ?_⟩
  · rw [← htake]
    refine hG.cut _ hn fun o x ho hx => ?_
    have hx' : (H0 ++ L1)[o]? = some x := by rw [← htake, List.getElem?_take, if_pos ho]; exact hx
    rcases List.mem_append.1 (List.mem_of_getElem? hx') with h | h
    · exact Ob.lt_le (Nat.le_add_right _ _) (hH x h)
    · exact hL x h
  · rw [hlen]; exact h.cut _ h0
  · rcases EnvG.get _ _ he t with h | h
    · rw [h]; trivial
    · rw [hlen]; exact h.repV hG hn hv

/-- an empty list that nobody has becomes one's own -/
theorem Gho.adopt {n0 : Nat} {H : List Ob} {env : Env} (t : Nat) (es : Nat) (ht : eget env t = .fslice []) : Gho n0 env H (eset env t (.vec H.length 1 0 0)) (H ++ [.vec 1 es []]) := by
  intro g w hG
  have hz : g H.length = none := hG.none_of_ge (Nat.le_refl _)
  obtain ⟨h1, h2⟩ := step_one hG H.length (setKey g H.length (some ⟨1, none, es, 0⟩)) (H ++ [.vec 1 es []]) w rfl rfl rfl
    (fun o ho => getElem?_snoc_ne ho) (fun o ho => setKey_other ho) (by simp) (Nat.le_refl _) (fun b hb _ => rfl)
    (fun k' b hk' hb => by rw [setKey_same] at hk'; injection hk' with e; subst e; cases hb)
    (fun h => absurd h (Nat.lt_irrefl _))
    (fun m => by
      rw [setKey_same, getElem?_snoc_eq]
      exact ⟨_, rfl, rfl, rfl, Nat.le_refl _, Nat.zero_le _, Nat.le_refl _, .inl ⟨rfl, rfl⟩⟩)
  refine ⟨_, h1, fun gs ws h => h.trans h2, fun s v hv => ?_⟩
  have key : ∀ (e : Env) (x : V), eget (eset e t x) s = if s = t then x else eget e s := by
    intro e x
    induction e with
    | nil => simp only [eset, eget]; by_cases h : t = s <;> simp [h, eq_comm]
    | cons p e ih =>
      obtain ⟨a, y⟩ := p
      simp only [eset]
      by_cases h : a = t
      · simp only [h, if_true, eget]
        by_cases h' : t = s <;> simp [h', eq_comm]
      · simp only [h, if_false, eget, ih]
        by_cases h' : a = s
        · simp only [h', if_true]
          have : s ≠ t := by omega
          simp [this]
        · simp [h']
  rw [key]
  split
  · rename_i e
    subst e
    rw [ht] at hv
    have hl := hv.leaf (by simp) (by simp)
    simp only [RepC] at hl
    obtain ⟨a, es', h3, h4, h5⟩ := hl
    injection h3 with h3
    subst h3
    refine RepV.mk_leaf ?_ (by simp) (by simp)
    simp only [RepC]
    refine ⟨has_set (by simp) (.inr (Nat.le_refl _)), _, rfl, rfl, fun k hk => ?_⟩
    have hk : setKey g H.length (some ⟨1, none, es, 0⟩) H.length = some k := hk
    rw [setKey_same] at hk
    injection hk with hk
    subst hk
    refine ⟨Nat.le_refl _, fun _ => ⟨Nat.le_refl _, a, rfl, fun h => absurd h (Nat.lt_irrefl _)⟩⟩
  · exact hv.mono h2.mono

def withN (M : Env → List Ob → Prop) (Q : Exit → Env → List Ob → Prop) : Exit → Env → List Ob → Prop
  | .normal => M
  | .exit id => Q (.exit id)
  | .goto l => Q (.goto l)
  | .ret => Q .ret
  | .panic ch => Q (.panic ch)
  | .outgrown => Q .outgrown

/-- A LOOP that is left in more than one way: what holds behind it is told once. -/
theorem EW.loopM {n id : Nat} {env : Env} {H : List Ob} {c : Code} {Q : Exit → Env → List Ob → Prop} (I : Nat → Env → List Ob → Prop) (m : Nat) (M : Env → List Ob → Prop) (h0 : I m env H)
    (hb : ∀ k env H, I k env H → EW P n c (thenE (UpTo H.length fun env' H' => ∃ k', k' < k ∧ I k' env' H') (inBlockE id (withN (UpTo H.length M) Q))) env H)
    (hk : ∀ env H, M env H → Q .normal env H) : EW P n (.loop c) (inBlockE id Q) env H := by
  have hk' : ∀ {n0 env H}, UpTo n0 M env H → UpTo n0 (Q .normal) env H := fun ⟨e, h, a, b⟩ => ⟨e, h, a, hk _ _ b⟩
  refine EW.loop I m h0 fun k env H hI => EW.upto ((hb k env H hI).mono fun e env' H' h => ?_)
  cases e with
  | normal => exact h
  | exit id' =>
    have h : (if id' = id then UpTo H.length M else Q (.exit id')) env' H' := h
    by_cases e : id' = id
    · have e2 : thenE (fun env' H' => ∃ k', k' < k ∧ I k' env' H') (inBlockE id Q) (.exit id') = Q .normal := by simp only [thenE, inBlockE]; rw [if_pos e]
      rw [if_pos e] at h
      rw [e2]; exact hk' h
    · have e2 : thenE (fun env' H' => ∃ k', k' < k ∧ I k' env' H') (inBlockE id Q) (.exit id') = Q (.exit id') := by simp only [thenE, inBlockE]; rw [if_neg e]
      rw [if_neg e] at h
      rw [e2]; exact UpTo.here h
  | goto l => exact UpTo.here h
  | ret => exact UpTo.here h
  | panic ch => exact UpTo.here h
  | outgrown => exact UpTo.here h

/-- objects are given up of which nobody tells -/
theorem Gho.drop {n0 : Nat} {H0 : List Ob} (L1 L2 : List Ob) {env : Env} (hH : HLt H0.length H0) (h0 : n0 ≤ H0.length + L1.length) (hL : HLt (H0.length + L1.length) L1) (he : ∀ p ∈ env, p.2.lt (H0.length + L1.length)) :
    Gho n0 env (H0 ++ (L1 ++ L2)) env (H0 ++ L1) := by
  intro g w hG
  have hn : H0.length + L1.length ≤ (H0 ++ (L1 ++ L2)).length := by simp
  have htake : (H0 ++ (L1 ++ L2)).take (H0.length + L1.length) = H0 ++ L1 := by
    rw [← List.append_assoc, ← List.length_append, List.take_left]
  have hlen : (H0 ++ L1).length = H0.length + L1.length := by simp
  have hget : ∀ (e : Env) t, (∀ p ∈ e, p.2.lt (H0.length + L1.length)) → (eget e t).lt (H0.length + L1.length) := by
    intro e t
    induction e with
    | nil => intro _; trivial
    | cons p e ih =>
      intro h
      obtain ⟨a, y⟩ := p
      simp only [eget]
      split
      · exact h _ (List.mem_cons_self ..)
      · exact ih fun q hq => h q (List.mem_cons_of_mem _ hq)
  refine ⟨cutKey g (H0.length + L1.length), ?_, fun gs ws h => ?_, fun t v hv => ?_⟩
  · rw [← htake]
    refine hG.cut _ hn fun o x ho hx => ?_
    have hx' : (H0 ++ L1)[o]? = some x := by rw [← htake, List.getElem?_take, if_pos ho]; exact hx
    rcases List.mem_append.1 (List.mem_of_getElem? hx') with h | h
    · exact Ob.lt_le (Nat.le_add_right _ _) (hH x h)
    · exact hL x h
  · rw [hlen]; exact h.cut _ h0
  · rw [hlen]; exact hv.sub cut_sub (hget _ t he)

theorem Sized_nil (n : Nat) : Sized n [] = True := by simp [Sized]
theorem Sized_cons (n : Nat) (x : V) (l : List V) : Sized n (x :: l) = (x.cells.length = n ∧ Sized n l) := by simp [Sized]
theorem Gho.restr {n0 : Nat} {env : Env} {H : List Ob} (ks : List Nat) : Gho n0 env H (restr ks env) H := by
  intro g w hG
  refine ⟨g, hG, fun _ _ h => h, fun t v hv => ?_⟩
  rw [get_restrict]
  split
  · exact hv
  · trivial

/-- a list of one's own is answered -/
theorem RetW.vec {H L : List Ob} {R : V → List Ob → Prop} {o ver es n : Nat} {l : List V} (h : (H ++ L)[o]? = some (.vec ver es l)) (ho : H.length ≤ o) (hn : n = l.length) (hl : ltL H.length l) (hR : R (.slice l) H) :
    RetW H.length H R (.vec o ver 0 n) (H ++ L) := by
  subst hn
  exact RetW.pure L rfl (.inl ⟨es, l, h, by omega, by rw [List.drop_zero, List.take_length], hl, ho⟩) hR

/-! calls -/
def WkB (x y : V) : Prop := y = x ∨ ∃ l, x = .fslice l ∧ y = .slice l
theorem WkB.reps {c : Cx} : ∀ {xs ys : List V} {vs : List Value}, All2 WkB xs ys → Reps c xs vs → Reps c ys vs
  | [], [], _, _, h => h
  | x :: xs, y :: ys, vs, h, k => by
    simp only [Reps] at k ⊢
    obtain ⟨v, vs', rfl, h1, h2, h3⟩ := k
    refine ⟨v, vs', rfl, ?_, ?_, WkB.reps h.2 h3⟩
    · rcases h.1 with rfl | ⟨l, rfl, rfl⟩
      · exact h1
      · trivial
    · rcases h.1 with rfl | ⟨l, rfl, rfl⟩
      · exact h2
      · exact fslice_slice h2
  | [], _ :: _, _, h, _ => h.elim
  | _ :: _, [], _, h, _ => h.elim
def WkA (x y : V) : Prop := WkB x y ∨ ∃ xs ys, x = .agg xs ∧ y = .agg ys ∧ All2 WkB xs ys
theorem WkA.rep {c : Cx} {x y : V} {v : Value} (h : WkA x y) (hx : RepV c x v) : RepV c y v := by
  rcases h with (rfl | ⟨l, rfl, rfl⟩) | ⟨xs, ys, rfl, rfl, h⟩
  · exact hx
  · refine RepV.mk_leaf (fslice_slice (hx.leaf (by simp) (by simp))) (by simp) (fun cs e => ?_)
    subst e
    exact hx.2
  · obtain ⟨h1, h2⟩ := hx
    simp only [RepC] at h1
    refine ⟨by simp only [RepC]; exact WkB.reps h h1, ?_⟩
    cases v <;> first | exact h2 | trivial
theorem WkA.reps {c : Cx} : ∀ {xs ys : List V} {vs : List Value}, All2 WkA xs ys → RepVals c xs vs → RepVals c ys vs
  | [], [], [], _, _ => trivial
  | x :: xs, y :: ys, v :: vs, h, k => ⟨h.1.rep k.1, WkA.reps h.2 k.2⟩
  | [], [], _ :: _, _, k => k.elim
  | _ :: _, _ :: _, [], _, k => k.elim
  | [], _ :: _, _, h, _ => h.elim
  | _ :: _, [], _, h, _ => h.elim

theorem SCall.arg {f : FuncId} {args args' : List V} {H : List Ob} {R : V → List Ob → Prop} (ha : All2 WkA args args') (h : SCall P f args' H R) : SCall P f args H R :=
  fun g w cargs hG hr => h g w cargs hG (WkA.reps ha hr)

/-- a value without any address -/
def V.plain : V → Prop
  | .int _ _ | .bool _ | .str _ => True
  | .agg cs => ∀ x ∈ cs, (match x with | .int _ _ | .bool _ | .str _ => True | _ => False)
  | _ => False

theorem Reps.plain {c c' : Cx} : ∀ {cs : List V} {vs : List Value}, (∀ x ∈ cs, (match x with | .int _ _ | .bool _ | .str _ => True | _ => False)) → Reps c cs vs → Reps c' cs vs
  | [], _, _, h => by simpa only [Reps] using h
  | x :: xs, _, hp, h => by
    simp only [Reps] at h ⊢
    obtain ⟨v, vs', rfl, h1, h2, h3⟩ := h
    refine ⟨v, vs', rfl, h1, ?_, Reps.plain (fun y hy => hp y (List.mem_cons_of_mem _ hy)) h3⟩
    have := hp x (by simp)
    cases x <;> first | exact this.elim | (simpa only [RepC] using h2)
theorem RepV.plain {c c' : Cx} {x : V} {v : Value} (hp : x.plain) (h : RepV c x v) : RepV c' x v := by
  cases x with
  | int k n => exact ⟨by simpa only [RepC] using h.1, h.2⟩
  | bool b => exact ⟨by simpa only [RepC] using h.1, h.2⟩
  | str l => exact ⟨by simpa only [RepC] using h.1, h.2⟩
  | agg cs => exact ⟨by have := h.1; simp only [RepC] at this ⊢; exact Reps.plain hp this, h.2⟩
  | _ => exact hp.elim

/-- what a callee may be told of an argument -/
def Bo (H : List Ob) : V → V → Prop
  | .vec o ver off k, r => ∃ es l, H[o]? = some (.vec ver es l) ∧ off + k ≤ l.length ∧ r = .slice ((l.drop off).take k) ∧ ltL 0 l
  | .fslice l, r => (r = .slice l ∨ r = .fslice l) ∧ ltL 0 l
  | x, r => r = x ∧ x.lt 0

theorem zero_sub {g : Nat → Option Key} {n : Nat} {w : World} : Sub (cxOf g n w) (cxOf (fun _ => none) 0 w) 0 :=
  ⟨fun b hb => ⟨hb.1, fun o k hk => by cases hk⟩, rfl, fun o ho => absurd ho (Nat.not_lt_zero _), rfl⟩
theorem Good.zero (w : World) : Good (fun _ => none) [] w := ⟨fun o => by simp [ObOK], fun o o' k k' b h => by cases h⟩

theorem Bo.rep {g : Nat → Option Key} {H : List Ob} {w : World} (hG : Good g H w) {x r : V} {v : Value} (h : Bo H x r) (hx : RepV (cxOf g H.length w) x v) : RepV (cxOf (fun _ => none) 0 w) r v := by
  cases x
  case vec o ver off k =>
    obtain ⟨es, l, ho, hle, rfl, hl⟩ := h
    have := vec_slice hG ho hle zero_sub hl (fun q b hq hb => ⟨hG.blk_lt hq hb, fun o' k' hk' => by cases hk'⟩) (hx.leaf (by simp) (by simp))
    exact RepV.mk_leaf this (by simp) (fun cs e => by subst e; exact hx.2)
  case fslice l =>
    obtain ⟨rfl | rfl, hl⟩ := h
    · exact WkA.rep (.inl (.inr ⟨_, rfl, rfl⟩)) (hx.sub zero_sub hl)
    · exact hx.sub zero_sub hl
  all_goals
    obtain ⟨rfl, hl⟩ := h
    exact hx.sub zero_sub hl
theorem Bo.reps {g : Nat → Option Key} {H : List Ob} {w : World} (hG : Good g H w) : ∀ {xs ys : List V} {vs : List Value}, All2 (Bo H) xs ys → RepVals (cxOf g H.length w) xs vs → RepVals (cxOf (fun _ => none) 0 w) ys vs
  | [], [], [], _, _ => trivial
  | x :: xs, y :: ys, v :: vs, h, k => ⟨h.1.rep hG k.1, Bo.reps hG h.2 k.2⟩
  | [], [], _ :: _, _, k => k.elim
  | _ :: _, _ :: _, [], _, k => k.elim
  | [], _ :: _, _, h, _ => h.elim
  | _ :: _, [], _, h, _ => h.elim

/-- A CALL THAT BORROWS. -/
theorem SCall.borrow {f : FuncId} {args args' : List V} {H : List Ob} {R : V → Prop} (ha : All2 (Bo H) args args') (h : SCall P f args' [] (fun r _ => R r ∧ r.plain)) : SCall P f args H (fun r H' => R r ∧ H' = H) := by
  intro g w cargs hG hr
  refine (h (fun _ => none) w cargs (Good.zero w) (Bo.reps hG ha hr)).mono fun v w' ⟨r, H', g', h1, h2, h3, h4, h5⟩ => ?_
  obtain ⟨k1, k2⟩ := step_none hG w' h2.os h2.output h2.tape h2.size (fun b hb => (h2.frame b ⟨hb, fun o k hk => by cases hk⟩).1)
  exact ⟨r, H, g, k1, k2, h3.plain h5, h4, rfl⟩

/-- A CALL, BY THE FUNCTION's CODE; of the heap it is known that it is whole. -/
theorem SCall.of_good {f : FuncId} {args : List V} {H : List Ob} {R : V → List Ob → Prop} (h : HLt H.length H → SCall P f args H R) : SCall P f args H R := by
  intro g w cargs hG hr
  exact h (fun x hx => by obtain ⟨i, hi⟩ := List.getElem?_of_mem hx; exact hG.lt hi) g w cargs hG hr

theorem SCall.sized {f : FuncId} {args : List V} {H : List Ob} {R : V → List Ob → Prop} (i : Nat) {l : List V} (hi : args[i]? = some (.slice l)) (h : l.length ≤ maxLen → SCall P f args H R) : SCall P f args H R := by
  intro g w cargs hG hr
  have key : ∀ (args : List V) (vs : List Value) (i : Nat), RepVals (cxOf g H.length w) args vs → args[i]? = some (.slice l) → l.length ≤ maxLen := by
    intro args
    induction args with
    | nil => intro vs i _ hi; simp at hi
    | cons x xs ih =>
      intro vs i hr hi
      cases vs with
      | nil => exact hr.elim
      | cons v vs =>
        cases i with
        | succ i => exact ih vs i hr.2 (by simpa using hi)
        | zero =>
          simp at hi
          subst hi
          have := hr.1.leaf (by simp) (by simp)
          simp only [RepC] at this
          obtain ⟨a, cap, es, _, h1, h2, _⟩ := this
          omega
  exact h (key _ _ _ hr hi) g w cargs hG hr

/-- a list of one's own is written no more: it may be told as a list -/
def Fz (o ver : Nat) (l : List V) (p q : V) : Prop := q = p ∨ ∃ off k, p = .vec o ver off k ∧ off + k ≤ l.length ∧ q = .slice ((l.drop off).take k)
theorem Gho.freeze {n0 : Nat} {H : List Ob} {env env' : Env} (o : Nat) {ver es : Nat} {l : List V} (ho : H[o]? = some (.vec ver es l)) (he : EnvG (Fz o ver l) env env') : Gho n0 env H env' (H.set o .gone) := by
  intro g w hG
  have hlt : o < H.length := (List.getElem?_eq_some_iff.1 ho).1
  obtain ⟨h1, h2⟩ := step_one hG o (setKey g o none) (H.set o .gone) w rfl rfl rfl
    (fun o' ho' => List.getElem?_set_ne (Ne.symm ho')) (fun o' ho' => setKey_other ho') (by simp) (Nat.le_refl _) (fun b hb _ => rfl)
    (fun k' b hk' hb => by rw [setKey_same] at hk'; cases hk')
    (fun _ k' hk' => by rw [setKey_same] at hk'; cases hk')
    (fun m => by rw [setKey_same, List.getElem?_set_self hlt]; exact rfl)
  refine ⟨_, h1, fun gs ws h => h.trans h2, fun t v hv => ?_⟩
  rcases EnvG.get _ _ he t with h | h | ⟨off, k, e1, hle, e2⟩
  · rw [h]; trivial
  · rw [h]; exact hv.mono h2.mono
  · rw [e1] at hv
    rw [e2]
    have hs : Sub (cxOf g H.length w) (cxOf (setKey g o none) (H.set o .gone).length w) H.length := by
      refine ⟨fun b hb => ⟨hb.1, fun o' k' hk' => ?_⟩, rfl, fun o' _ => ?_, by show (H.set o .gone).length = _; simp⟩
      · unfold setKey at hk'
        split at hk'
        · cases hk'
        · exact hb.2 o' k' hk'
      · show setKey g o none o' = g o' ∨ setKey g o none o' = none
        by_cases e : o' = o
        · subst e; exact .inr (setKey_same _ _ _)
        · exact .inl (setKey_other e)
    have := vec_slice hG ho hle hs (hG.lt ho) (fun q b hq hb => ⟨hG.blk_lt hq hb, fun o' k' hk' hb' => by
      unfold setKey at hk'
      split at hk'
      · cases hk'
      · rename_i hne; exact hne (hG.inj _ _ _ _ _ hk' hq hb' hb)⟩) (hv.leaf (by simp) (by simp))
    exact RepV.mk_leaf this (by simp) (fun cs e => by subst e; exact hv.2)

/-- two branches that come together -/
theorem IfW.mid {n : Nat} {b : Bool} {c d : Code} {Q : Exit → Env → List Ob → Prop} {X : Env → List Ob → Prop} {env : Env} {H : List Ob} (M : Env → List Ob → Prop) (h1 : b = true → EW P n c (thenE (UpTo H.length M) Q) env H) (h2 : b = false → EW P n d (thenE (UpTo H.length M) Q) env H)
    (hk : ∀ env H, M env H → X env H) : IfW b (EW P n c (thenE X Q) env H) (EW P n d (thenE X Q) env H) := by
  have key : ∀ c, EW P n c (thenE (UpTo H.length M) Q) env H → EW P n c (thenE X Q) env H := fun c h => EW.upto (h.mono fun e env' H' h => by
    cases e with
    | normal =>
      obtain ⟨a, b, k1, k2⟩ := h
      exact ⟨a, b, k1, hk _ _ k2⟩
    | _ => exact UpTo.here h)
  exact ⟨fun h => key c (h1 h), fun h => key d (h2 h)⟩

/-! told otherwise, everywhere -/
def CvB (z : Option (Nat × Nat × List V)) (x y : V) : Prop := WkB x y ∨ ∃ o ver l off k, z = some (o, ver, l) ∧ x = .vec o ver off k ∧ off + k ≤ l.length ∧ y = .slice ((l.drop off).take k)
def CvA (z : Option (Nat × Nat × List V)) (x y : V) : Prop := CvB z x y ∨ ∃ xs ys, x = .agg xs ∧ y = .agg ys ∧ All2 (CvB z) xs ys
def CvO (z : Option (Nat × Nat × List V)) : Ob → Ob → Prop
  | .gone, .gone => True
  | .hole, .hole => True
  | .var cs, .var cs' => All2 (CvB z) cs cs'
  | .vec v e l, .vec v' e' l' => v' = v ∧ e' = e ∧ All2 (CvA z) l l'
  | .raw b x vs cs, .raw b' x' vs' cs' => b' = b ∧ x' = x ∧ vs' = vs ∧ cs' = cs
  | .map l c, .map l' c' => c' = c ∧ All2 (fun p q => q.1 = p.1 ∧ q.2.1 = p.2.1 ∧ CvA z p.2.2 q.2.2) l l'
  | .iter o s e t, .iter o' s' e' t' => o' = o ∧ s' = s ∧ e' = e ∧ t' = t
  | _, _ => False
def isZ (z : Option (Nat × Nat × List V)) (i : Nat) : Bool := match z with | some (o, _, _) => i == o | none => false
def keyZ (z : Option (Nat × Nat × List V)) (g : Nat → Option Key) : Nat → Option Key := fun i => if isZ z i then none else g i

section
variable {z : Option (Nat × Nat × List V)} {g : Nat → Option Key} {H : List Ob} {w : World} {n : Nat}
theorem keyZ_mono : Mono (cxOf g n w) (cxOf (keyZ z g) n w) := by
  refine ⟨fun b hb => ⟨⟨hb.1, fun o k hk => ?_⟩, fun _ _ => rfl⟩, fun o _ k hk => ?_, Nat.le_refl _⟩
  · unfold keyZ at hk; split at hk
    · cases hk
    · exact hb.2 o k hk
  · have hk : keyZ z g o = some k := hk
    unfold keyZ at hk; split at hk
    · cases hk
    · exact .inl ⟨k, hk, Nat.le_refl _, fun _ => rfl⟩
theorem keyZ_sub : Sub (cxOf g n w) (cxOf (keyZ z g) n w) n := by
  refine ⟨fun b hb => (keyZ_mono.imm b hb).1, rfl, fun o _ => ?_, rfl⟩
  show keyZ z g o = g o ∨ keyZ z g o = none
  unfold keyZ; split
  · exact .inr rfl
  · exact .inl rfl
theorem CvB.rep (hG : Good g H w) (hz : ∀ o ver l, z = some (o, ver, l) → ∃ es, H[o]? = some (.vec ver es l)) {x y : V} {vs : List Value} (h : CvB z x y) (hx : RepC (cxOf g H.length w) x vs) :
    RepC (cxOf (keyZ z g) H.length w) y vs ∧ (x.leaf → y.leaf) ∧ (∀ v, okAgg x v → okAgg y v) := by
  rcases h with (rfl | ⟨l, rfl, rfl⟩) | ⟨o, ver, l, off, k, hzz, rfl, hle, rfl⟩
  · exact ⟨RepC.mono keyZ_mono _ _ hx, fun h => h, fun _ h => h⟩
  · exact ⟨fslice_slice (RepC.mono keyZ_mono _ _ hx), fun _ => trivial, fun v hv => by cases v <;> first | trivial | exact hv⟩
  · obtain ⟨es, ho⟩ := hz _ _ _ hzz
    refine ⟨vec_slice hG ho hle keyZ_sub (hG.lt ho) (fun q b hq hb => ⟨hG.blk_lt hq hb, fun o' k' hk' hb' => ?_⟩) hx, fun _ => trivial, fun v hv => by cases v <;> first | trivial | exact hv⟩
    unfold keyZ at hk'
    split at hk'
    · cases hk'
    · rename_i hne
      have := hG.inj _ _ _ _ _ hk' hq hb' hb
      rw [this, hzz] at hne
      simp [isZ] at hne
theorem CvB.reps (hG : Good g H w) (hz : ∀ o ver l, z = some (o, ver, l) → ∃ es, H[o]? = some (.vec ver es l)) : ∀ {xs ys : List V} {vs : List Value}, All2 (CvB z) xs ys → Reps (cxOf g H.length w) xs vs → Reps (cxOf (keyZ z g) H.length w) ys vs
  | [], [], _, _, h => by simpa only [Reps] using h
  | x :: xs, y :: ys, vs, h, k => by
    simp only [Reps] at k ⊢
    obtain ⟨v, vs', rfl, h1, h2, h3⟩ := k
    obtain ⟨k1, k2, _⟩ := CvB.rep hG hz h.1 h2
    exact ⟨v, vs', rfl, k2 h1, k1, CvB.reps hG hz h.2 h3⟩
  | [], _ :: _, _, h, _ => h.elim
  | _ :: _, [], _, h, _ => h.elim
theorem CvA.rep (hG : Good g H w) (hz : ∀ o ver l, z = some (o, ver, l) → ∃ es, H[o]? = some (.vec ver es l)) {x y : V} {vs : List Value} (h : CvA z x y) (hx : RepC (cxOf g H.length w) x vs) :
    RepC (cxOf (keyZ z g) H.length w) y vs ∧ (x.storable → y.storable) ∧ (∀ v, okAgg x v → okAgg y v) := by
  rcases h with h | ⟨xs, ys, rfl, rfl, h⟩
  · have hk := h.rep hG hz hx
    refine ⟨hk.1, fun hs => ?_, hk.2.2⟩
    rcases h with (rfl | ⟨l, rfl, rfl⟩) | ⟨o, ver, l, off, k, hzz, rfl, hle, rfl⟩
    · exact hs
    · trivial
    · trivial
  · simp only [RepC] at hx ⊢
    exact ⟨CvB.reps hG hz h hx, fun _ => trivial, fun v hv => by cases v <;> first | exact hv | trivial⟩
theorem CvA.repE (hG : Good g H w) (hz : ∀ o ver l, z = some (o, ver, l) → ∃ es, H[o]? = some (.vec ver es l)) {es b : Nat} : ∀ {xs ys : List V} {off : Nat}, All2 (CvA z) xs ys → RepE (cxOf g H.length w) es b off xs → RepE (cxOf (keyZ z g) H.length w) es b off ys
  | [], [], _, _, h => by simp only [RepE]
  | x :: xs, y :: ys, off, h, k => by
    simp only [RepE] at k ⊢
    obtain ⟨vs, ⟨h1, h2⟩, h3, h4, h5⟩ := k
    obtain ⟨k1, k2, _⟩ := CvA.rep hG hz h.1 h2
    exact ⟨vs, ⟨k2 h1, k1⟩, h3, h4, CvA.repE hG hz h.2 h5⟩
  | [], _ :: _, _, h, _ => h.elim
  | _ :: _, [], _, h, _ => h.elim
theorem CvA.repM (hG : Good g H w) (hz : ∀ o ver l, z = some (o, ver, l) → ∃ es, H[o]? = some (.vec ver es l)) : ∀ {xs ys : List (Int × Nat × V)} {es : List MapEntry}, All2 (fun p q => q.1 = p.1 ∧ q.2.1 = p.2.1 ∧ CvA z p.2.2 q.2.2) xs ys → RepM (cxOf g H.length w) xs es → RepM (cxOf (keyZ z g) H.length w) ys es
  | [], [], [], _, _ => trivial
  | x :: xs, y :: ys, e :: es, h, k => by
    obtain ⟨⟨h1, h2, h3⟩, h4⟩ := h
    obtain ⟨⟨k1, k2, k3, k4, k5⟩, k6⟩ := k
    obtain ⟨j1, j2, j3⟩ := CvA.rep hG hz h3 k4
    exact ⟨⟨by rw [k1, h1], by rw [k2, h2], j2 k3, j1, j3 _ k5⟩, CvA.repM hG hz h4 k6⟩
  | [], _ :: _, _, h, _ => h.elim
  | _ :: _, [], _, h, _ => h.elim
  | [], [], _ :: _, _, k => k.elim
  | _ :: _, _ :: _, [], _, k => k.elim
theorem All2.length {α β : Type} {R : α → β → Prop} : ∀ {l : List α} {m : List β}, All2 R l m → m.length = l.length
  | [], [], _ => rfl
  | _ :: _, _ :: _, h => by simp [All2.length h.2]
  | [], _ :: _, h => h.elim
  | _ :: _, [], h => h.elim
theorem All2.rfl' {α : Type} {R : α → α → Prop} (hr : ∀ x, R x x) : ∀ (l : List α), All2 R l l
  | [] => trivial
  | x :: l => ⟨hr x, All2.rfl' hr l⟩
theorem All2.app {α β : Type} {R : α → β → Prop} : ∀ {l : List α} {m : List β} {l' : List α} {m' : List β}, All2 R l m → All2 R l' m' → All2 R (l ++ l') (m ++ m')
  | [], [], _, _, _, h => h
  | _ :: _, _ :: _, _, _, h, k => ⟨h.1, All2.app h.2 k⟩
  | [], _ :: _, _, _, h, _ => h.elim
  | _ :: _, [], _, _, h, _ => h.elim
theorem CvA.rfl' {z : Option (Nat × Nat × List V)} (x : V) : CvA z x x := .inl (.inl (.inl rfl))
theorem EnvG.rfl' {R : V → V → Prop} (hr : ∀ x, R x x) : ∀ (e : Env), EnvG R e e
  | [] => trivial
  | (t, x) :: e => ⟨⟨rfl, .inr (hr x)⟩, EnvG.rfl' hr e⟩

/-- TOLD OTHERWISE: an object may be given up, and what it held is then told as lists, wherever it is told. -/
theorem Gho.conv {n0 : Nat} {env env' : Env} {H' : List Ob} (z : Option (Nat × Nat × List V)) (hz : ∀ o ver l, z = some (o, ver, l) → (∃ es, H[o]? = some (.vec ver es l)) ∧ H'[o]? = some .gone) (hl : H'.length = H.length)
    (ho : ∀ i x, H[i]? = some x → isZ z i = false → ∃ y, H'[i]? = some y ∧ CvO z x y) (he : EnvG (CvA z) env env') : Gho n0 env H env' H' := by
  intro g w hG
  have hz' : ∀ o ver l, z = some (o, ver, l) → ∃ es, H[o]? = some (.vec ver es l) := fun o ver l h => (hz o ver l h).1
  refine ⟨keyZ z g, ⟨fun i => ?_, fun o o' k k' b hk hk' hb hb' => ?_⟩, fun gs ws h => h.trans ?_, fun t v hv => ?_⟩
  · rw [hl]
    cases hx : H[i]? with
    | none =>
      have h1 : H'[i]? = none := by rw [List.getElem?_eq_none_iff] at hx ⊢; omega
      rw [h1]
      show keyZ z g i = none
      unfold keyZ
      split
      · rfl
      · exact hG.none_of_ge (by rw [List.getElem?_eq_none_iff] at hx; exact hx)
    | some x =>
      cases hi : isZ z i with
      | true =>
        obtain ⟨o, ver, l, rfl⟩ : ∃ o ver l, z = some (o, ver, l) := by
          cases z with
          | none => simp [isZ] at hi
          | some q => exact ⟨q.1, q.2.1, q.2.2, rfl⟩
        have hio : i = o := by simpa [isZ] using hi
        subst hio
        rw [(hz _ _ _ rfl).2]
        show keyZ _ g i = none
        simp [keyZ, hi]
      | false =>
        obtain ⟨y, hy, hc⟩ := ho i x hx hi
        rw [hy]
        have hk : keyZ z g i = g i := by simp [keyZ, hi]
        rw [hk]
        have hob := hG.ob i
        rw [hx] at hob
        cases x with
        | gone => cases y <;> first | exact hc.elim | exact hob
        | hole => cases y <;> first | exact hc.elim | exact hob
        | raw b x vs cs =>
          cases y with
          | raw b' x' vs' cs' => obtain ⟨rfl, rfl, rfl, rfl⟩ := hc; exact ⟨hob.1, hob.2.mono keyZ_mono⟩
          | _ => exact hc.elim
        | map l ck =>
          cases y with
          | map l' ck' =>
            obtain ⟨rfl, hc⟩ := hc
            obtain ⟨b, es, h1, h2, h3⟩ := hob
            exact ⟨b, es, h1, h2, CvA.repM hG hz' hc h3⟩
          | _ => exact hc.elim
        | iter o' since seen last =>
          cases y with
          | iter o2 since2 seen2 last2 =>
            obtain ⟨rfl, rfl, rfl, rfl⟩ := hc
            obtain ⟨b, mb, h1, h2, h3⟩ := hob
            exact ⟨b, mb, h1, h2, RepC.mono keyZ_mono _ _ h3⟩
          | _ => exact hc.elim
        | var cs =>
          cases y with
          | var cs' =>
            obtain ⟨b, cur, et, fr, h1, h2, h3, h4⟩ := hob
            exact ⟨b, cur, et, fr, h1, h2, CvB.reps hG hz' hc h3, h4⟩
          | _ => exact hc.elim
        | vec ver es l =>
          cases y with
          | vec ver' es' l' =>
            obtain ⟨rfl, rfl, hc⟩ := hc
            obtain ⟨q, h1, h2, h2', h3, h4, h5, h6⟩ := hob
            refine ⟨q, h1, h2, h2', h3, h4, by rw [hc.length]; exact h5, ?_⟩
            rcases h6 with h6 | ⟨b, cur, et, fr, h7, h8, h9, h10, h11, h12⟩
            · exact .inl h6
            · exact .inr ⟨b, cur, et, fr, h7, h8, h9, CvA.repE hG hz' hc h10, h11, h12⟩
          | _ => exact hc.elim
  · unfold keyZ at hk hk'
    split at hk
    · cases hk
    · split at hk'
      · cases hk'
      · exact hG.inj _ _ _ _ _ hk hk' hb hb'
  · rw [hl]
    refine ⟨rfl, rfl, rfl, Nat.le_refl _, fun b hb => ⟨rfl, ((keyZ_mono (z := z)).imm b hb).1⟩, (keyZ_mono (z := z) (g := g) (w := w) (n := H.length)).key, Nat.le_refl _⟩
  · rw [hl]
    rcases EnvG.get _ _ he t with h | h
    · rw [h]; trivial
    · have := eget env t
      generalize hx : eget env t = x at *
      generalize hy : eget env' t = y at *
      cases x
      case dead =>
        rcases h with ((h | ⟨l, h, _⟩) | ⟨_, _, _, _, _, _, h, _⟩) | ⟨_, _, h, _⟩
        · rw [h]; trivial
        all_goals cases h
      all_goals
        obtain ⟨h1, h2⟩ := hv
        obtain ⟨k1, _, k3⟩ := CvA.rep hG hz' h h1
        exact RepV.of_parts k1 (k3 _ h2)
end
/-- one object's values are told otherwise -/
theorem Gho.weakOb {n0 : Nat} {env : Env} {H : List Ob} (o : Nat) {x y : Ob} (hx : H[o]? = some x) (h : CvO none x y) : Gho n0 env H env (H.set o y) := by
  refine Gho.conv none (fun _ _ _ h => by cases h) (by simp) (fun i u hu _ => ?_) (EnvG.rfl' CvA.rfl' _)
  by_cases e : i = o
  · subst e
    rw [hx] at hu
    injection hu with hu
    subst hu
    exact ⟨y, by rw [List.getElem?_set_self (List.getElem?_eq_some_iff.1 hx).1], h⟩
  · refine ⟨u, by rw [List.getElem?_set_ne (Ne.symm e)]; exact hu, ?_⟩
    cases u with
    | gone => trivial
    | hole => trivial
    | var cs => exact All2.rfl' (fun _ => .inl (.inl rfl)) _
    | vec v e l => exact ⟨rfl, rfl, All2.rfl' CvA.rfl' _⟩
    | raw _ _ _ _ => exact ⟨rfl, rfl, rfl, rfl⟩
    | map _ _ => exact ⟨rfl, All2.rfl' (fun _ => ⟨rfl, rfl, CvA.rfl' _⟩) _⟩
    | iter _ _ _ _ => exact ⟨rfl, rfl, rfl, rfl⟩
theorem Gho.weakEnv {n0 : Nat} {env env' : Env} {H : List Ob} (he : EnvG (CvA none) env env') : Gho n0 env H env' H := by
  refine Gho.conv none (fun _ _ _ h => by cases h) rfl (fun i u hu _ => ⟨u, hu, ?_⟩) he
  cases u with
  | gone => trivial
  | hole => trivial
  | var cs => exact All2.rfl' (fun _ => .inl (.inl rfl)) _
  | vec v e l => exact ⟨rfl, rfl, All2.rfl' CvA.rfl' _⟩
  | raw _ _ _ _ => exact ⟨rfl, rfl, rfl, rfl⟩
  | map _ _ => exact ⟨rfl, All2.rfl' (fun _ => ⟨rfl, rfl, CvA.rfl' _⟩) _⟩
  | iter _ _ _ _ => exact ⟨rfl, rfl, rfl, rfl⟩
/-- the last elements of a list of one's own are told otherwise -/
theorem Gho.weakLast {n0 : Nat} {env : Env} {H : List Ob} (o : Nat) {ver es : Nat} {l m m' : List V} (hx : H[o]? = some (.vec ver es (l ++ m))) (h : All2 (CvA none) m m') : Gho n0 env H env (H.set o (.vec ver es (l ++ m'))) :=
  Gho.weakOb o hx ⟨rfl, rfl, All2.app (All2.rfl' CvA.rfl' l) h⟩
/-- the end of a list of one's own is given up -/
theorem Gho.trunc {n0 : Nat} {env : Env} {H : List Ob} (o n : Nat) {ver es : Nat} {l : List V} (ho : H[o]? = some (.vec ver es l)) : Gho n0 env H env (H.set o (.vec ver es (l.take n))) := by
  intro g w hG
  have hlt : o < H.length := (List.getElem?_eq_some_iff.1 ho).1
  obtain ⟨h1, h2⟩ := step_one hG o g (H.set o (.vec ver es (l.take n))) w rfl rfl rfl
    (fun o' ho' => List.getElem?_set_ne (Ne.symm ho')) (fun _ _ => rfl) (by simp) (Nat.le_refl _) (fun b hb _ => rfl)
    (fun k' b hk' hb => .inr ⟨k', hk', hb⟩) (fun _ k' hk' => ⟨k', hk', Nat.le_refl _, fun _ => rfl⟩)
    (fun m => by
      rw [List.getElem?_set_self hlt]
      have hob := hG.ob o
      rw [ho] at hob
      obtain ⟨q, h1, h2, h2', h3, h4, h5, h6⟩ := ObOK.mono m (fun q b hq hb => ⟨rfl, fun _ _ => rfl⟩) hob
      refine ⟨q, h1, h2, h2', h3, h4, by rw [List.length_take]; omega, ?_⟩
      rcases h6 with h6 | ⟨b, cur, et, fr, h7, h8, h9, h10, h11, h12⟩
      · exact .inl h6
      · exact .inr ⟨b, cur, et, fr, h7, h8, h9, RepE.take n h10, h11, h12⟩)
  exact ⟨g, h1, fun gs ws h => h.trans h2, fun t v hv => hv.mono h2.mono⟩

/-! told otherwise, deep within -/
mutual
def wdV : V → V
  | .fslice l => .slice (wdVs l)
  | .slice l => .slice (wdVs l)
  | .agg cs => .agg (wdVs cs)
  | .dead => .dead
  | .int k n => .int k n
  | .bool b => .bool b
  | .str l => .str l
  | .nilp => .nilp
  | .ref o c => .ref o c
  | .eref o v i c => .eref o v i c
  | .cref cs c => .cref cs c
  | .vec o v a b => .vec o v a b
  | .fn f a b => .fn f a b
  | .nilf => .nilf
  | .mapr o => .mapr o
  | .nilm => .nilm
  | .iface t v => .iface t v
  | .nili => .nili
  | .tuple vs => .tuple vs
def wdVs : List V → List V
  | [] => []
  | x :: xs => wdV x :: wdVs xs
end
theorem wdVs_map : ∀ l : List V, wdVs l = l.map wdV
  | [] => by simp only [wdVs, List.map_nil]
  | x :: l => by simp only [wdVs, List.map_cons, wdVs_map l]
theorem wdVs_len (l : List V) : (wdVs l).length = l.length := by rw [wdVs_map, List.length_map]
theorem wdV_leaf {x : V} (h : x.leaf) : (wdV x).leaf := by cases x <;> first | exact h | trivial
theorem wdV_storable {x : V} (h : x.storable) : (wdV x).storable := by cases x <;> first | exact h | trivial
mutual
theorem RepC.wd {c : Cx} : ∀ (x : V) (vs : List Value), RepC c x vs → RepC c (wdV x) vs
  | .fslice l, vs, h => by
    simp only [RepC, wdV] at h ⊢
    obtain ⟨a, es, hv, hm, h⟩ := h
    refine ⟨a, l.length, es, by rw [wdVs_len]; exact hv, by rw [wdVs_len]; exact Nat.le_refl _, hm, ?_⟩
    rcases h with rfl | ⟨b, off, ha, hi, he⟩
    · exact .inl (by simp only [wdVs])
    · exact .inr ⟨b, off, ha, hi, RepE.wd es b off l he⟩
  | .slice l, vs, h => by
    simp only [RepC, wdV] at h ⊢
    obtain ⟨a, cap, es, hv, hl, hm, h⟩ := h
    refine ⟨a, cap, es, by rw [wdVs_len]; exact hv, by rw [wdVs_len]; exact hl, hm, ?_⟩
    rcases h with rfl | ⟨b, off, ha, hi, he⟩
    · exact .inl (by simp only [wdVs])
    · exact .inr ⟨b, off, ha, hi, RepE.wd es b off l he⟩
  | .agg cs, vs, h => by
    simp only [RepC, wdV] at h ⊢
    exact Reps.wd cs vs h
  | .dead, _, h | .int _ _, _, h | .bool _, _, h | .str _, _, h | .nilp, _, h | .ref _ _, _, h | .eref _ _ _ _, _, h | .cref _ _, _, h | .vec _ _ _ _, _, h
  | .fn _ _ _, _, h | .nilf, _, h | .mapr _, _, h | .nilm, _, h | .iface _ _, _, h | .nili, _, h | .tuple _, _, h => by simpa only [wdV] using h
theorem Reps.wd {c : Cx} : ∀ (xs : List V) (vs : List Value), Reps c xs vs → Reps c (wdVs xs) vs
  | [], vs, h => by simpa only [Reps, wdVs] using h
  | x :: xs, vs, h => by
    simp only [Reps, wdVs] at h ⊢
    obtain ⟨v, vs', rfl, h1, h2, h3⟩ := h
    exact ⟨v, vs', rfl, wdV_leaf h1, RepC.wd x _ h2, Reps.wd xs vs' h3⟩
theorem RepE.wd {c : Cx} (es b : Nat) : ∀ (off : Nat) (xs : List V), RepE c es b off xs → RepE c es b off (wdVs xs)
  | off, [], _ => by simp only [wdVs, RepE]
  | off, x :: xs, h => by
    simp only [RepE, wdVs] at h ⊢
    obtain ⟨vs, ⟨h1, h2⟩, h3, h4, h5⟩ := h
    exact ⟨vs, ⟨wdV_storable h1, RepC.wd x vs h2⟩, h3, h4, RepE.wd es b (off + es) xs h5⟩
end
theorem RepV.wd {c : Cx} {x : V} {v : Value} (h : RepV c x v) : RepV c (wdV x) v := by
  cases x
  case dead => trivial
  all_goals
    obtain ⟨h1, h2⟩ := h
    refine RepV.of_parts (RepC.wd _ _ h1) ?_
    cases v <;> first | exact h2 | trivial
theorem RepVals.wd {c : Cx} : ∀ {xs : List V} {vs : List Value}, RepVals c xs vs → RepVals c (wdVs xs) vs
  | [], [], h => by simpa only [wdVs] using h
  | x :: xs, v :: vs, h => by
    simp only [wdVs]
    exact ⟨h.1.wd, RepVals.wd h.2⟩
  | [], _ :: _, h => h.elim
  | _ :: _, [], h => h.elim
theorem SCall.deep {f : FuncId} {args : List V} {H : List Ob} {R : V → List Ob → Prop} (h : SCall P f (wdVs args) H R) : SCall P f args H R :=
  fun g w cargs hG hr => h g w cargs hG hr.wd
theorem CallE.deep {f : FuncId} {args : List V} {H : List Ob} {K : V → Prop} (h : CallE (fun v => SCall P f (wdVs args) H (fun r H' => r = v ∧ H' = H)) K) : CallE (fun v => SCall P f args H (fun r H' => r = v ∧ H' = H)) K := by
  obtain ⟨v, h1, h2⟩ := h
  exact ⟨v, SCall.deep h1, h2⟩
end Go.EL

/- The value logic, part X: from what a claim's arguments read to abstract values; the row. -/
set_option linter.unusedVariables false
set_option linter.unusedSimpArgs false
namespace Go.EL
open Go Go.ChangeShapes Go.WideShapes Go.RowKit
variable {P : Program} {T : Nat → TD}

abbrev cx0 (W : World) : Cx := cxOf (fun _ => none) 0 W
theorem imm0 {W : World} {b : Nat} (h : b < W.heap.size) : (cx0 W).imm b := ⟨h, fun o k hk => by cases hk⟩

/-! how much a reading holds -/
mutual
def bulk {H : Type} : DataW H → Nat
  | .lit (.string bytes) => bytes.length + 1
  | .lit _ => 1
  | .nil => 1
  | .ptr d => bulk d + 1
  | .slice elems spare => bulkAll elems + bulkAll spare + 1
  | .agg parts => bulkAll parts + 1
  | .iface _ d => bulk d + 1
  | .map entries => bulkEntries entries + 1
  | .held _ => 1
def bulkAll {H : Type} : List (DataW H) → Nat
  | [] => 0
  | d :: r => bulk d + bulkAll r
def bulkEntries {H : Type} : List (Lit × DataW H) → Nat
  | [] => 0
  | x :: r => bulkEntry x + bulkEntries r
def bulkEntry {H : Type} : Lit × DataW H → Nat
  | (.string bytes, d) => bytes.length + bulk d + 1
  | (_, d) => bulk d + 1
end
theorem bulkAll_append {H : Type} : ∀ (l r : List (DataW H)), bulkAll (l ++ r) = bulkAll l + bulkAll r
  | [], r => by simp [bulkAll]
  | x :: l, r => by simp only [List.cons_append, bulkAll, bulkAll_append l r]; omega

/-- what a type's values are, as abstract values; 'sz': how much they hold at least -/
def Dec (P : Program) (t : TypeId) {α : Type} (f : α → V) (p : α → Prop) (sz : α → Nat) : Prop :=
  ∀ (H : Type) (enc : TypeId × Value → H) (W : World) (sp : Nat → Bool) (held : Bool) (fuel : Nat) (cs : List Value) (x : DataW H × List MemPlace),
    DataW.trod enc P W 0 sp held fuel t cs = some x → ∃ a, p a ∧ sz a ≤ bulk x.1 ∧ (f a).storable ∧ RepC (cx0 W) (f a) cs

theorem Dec.bool {t : TypeId} (ht : P.underlying t = some .bool) : Dec P t (fun b : Bool => V.bool b) (fun _ => True) (fun _ => 1) := by
  intro H enc W sp held fuel cs x h
  obtain ⟨b, rfl, rfl⟩ := DataW.trod_bool ht h
  exact ⟨b, trivial, by simp [bulk], trivial, by simp only [RepC]⟩
theorem Dec.int {t : TypeId} {k : IntKind} (ht : P.underlying t = some (.int k)) : Dec P t (fun n : Int => V.int k n) (fun n => (Lit.int k n).wf = true) (fun _ => 1) := by
  intro H enc W sp held fuel cs x h
  obtain ⟨n, rfl, rfl, hw⟩ := DataW.trod_int ht h
  exact ⟨n, hw, by simp [bulk], trivial, by simp only [RepC]⟩
theorem Dec.str {t : TypeId} (ht : P.underlying t = some .string) : Dec P t (fun l : List UInt8 => V.str l) (fun l => l.length ≤ maxLen) (fun l => l.length + 1) := by
  intro H enc W sp held fuel cs x h
  obtain ⟨s, rfl, rfl, hw⟩ := DataW.trod_string ht h
  refine ⟨s.data.toList, by show s.data.toList.length ≤ maxLen; rw [Array.length_toList]; exact hw, by simp [bulk], trivial, by simp only [RepC]⟩

theorem RepE.of_index {c : Cx} {es b : Nat} : ∀ {l : List V} {off : Nat}, (∀ i x, l[i]? = some x → ∃ vs, (x.storable ∧ RepC c x vs) ∧ vs.length = es ∧ ∀ j v, vs[j]? = some v → c.cell ⟨b, off + i * es + j, none⟩ = some v) → RepE c es b off l
  | [], _, _ => by simp only [RepE]
  | x :: xs, off, h => by
    simp only [RepE]
    obtain ⟨vs, h1, h2, h3⟩ := h 0 x rfl
    refine ⟨vs, h1, h2, fun i v hv => by have := h3 i v hv; rwa [Nat.zero_mul, Nat.add_zero] at this, RepE.of_index fun i y hy => ?_⟩
    obtain ⟨us, k1, k2, k3⟩ := h (i + 1) y hy
    refine ⟨us, k1, k2, fun j v hv => ?_⟩
    have := k3 j v hv
    rwa [show off + (i + 1) * es + j = off + es + i * es + j by rw [Nat.add_mul]; omega] at this

theorem Dec.slice {t e : TypeId} {α : Type} {f : α → V} {p : α → Prop} {sz : α → Nat} (ht : P.underlying t = some (.slice e)) (hc : 0 < P.cellsOf e) (hd : Dec P e f p sz) : Dec P t (fun l : List α => V.slice (l.map f)) (fun l => l.length ≤ maxLen ∧ ∀ a ∈ l, p a) (fun l => (l.map sz).sum + 1) := by
  intro H enc W sp held fuel cs x h
  rcases Deep.open_slice ht h with ⟨rfl, rfl⟩ | ⟨a, len, cap, m, n, D, Pl, rfl, hb, hl, hm, hmm, rfl, hx⟩
  · refine ⟨[], ⟨Nat.zero_le _, by simp⟩, by simp [bulk], trivial, ?_⟩
    simp only [List.map_nil, RepC, List.length_nil]
    exact ⟨none, 0, 0, rfl, Nat.le_refl _, Nat.zero_le _, .inl trivial⟩
  · have hlm : len ≤ m := by rw [hmm]; split <;> omega
    have key : ∀ i, i < len → ∃ (q : α) (ws : List Value), p q ∧ sz q ≤ bulk (D i) ∧ (f q).storable ∧ RepC (cx0 W) (f q) ws ∧ ws.length = P.cellsOf e ∧ ∀ j, j < P.cellsOf e → W.cell? ((a.add (i * P.cellsOf e)).add j) = ws[j]? := by
      intro i hi
      obtain ⟨ws, h1, h2⟩ := hx i (by omega)
      obtain ⟨_, h3, h4⟩ := World.cells?_some h1
      obtain ⟨q, k1, k0, k2, k3⟩ := hd H enc W sp held n ws _ h2
      exact ⟨q, ws, k1, k0, k2, k3, h3, fun j hj => h4 j hj⟩
    have mk : ∀ k, k ≤ len → ∃ l : List α, (l.length = k ∧ (l.map sz).sum ≤ bulkAll ((List.range k).map D)) ∧ ∀ i q, l[i]? = some q → ∃ ws : List Value, p q ∧ (f q).storable ∧ RepC (cx0 W) (f q) ws ∧ ws.length = P.cellsOf e ∧ ∀ j, j < P.cellsOf e → W.cell? ((a.add (i * P.cellsOf e)).add j) = ws[j]? := by
      intro k
      induction k with
      | zero => intro _; exact ⟨[], ⟨rfl, by simp⟩, fun i q hq => by simp at hq⟩
      | succ k ih =>
        intro hk
        obtain ⟨l, ⟨h1, h0⟩, h2⟩ := ih (by omega)
        obtain ⟨q, ws, w1, w0, w2⟩ := key k (by omega)
        refine ⟨l ++ [q], ⟨by simp [h1], ?_⟩, fun i r hr => ?_⟩
        · rw [List.range_succ, List.map_append, List.map_append, bulkAll_append, List.sum_append]
          simp only [List.map_cons, List.map_nil, bulkAll, List.sum_cons, List.sum_nil]
          omega
        by_cases hi : i < l.length
        · rw [List.getElem?_append_left hi] at hr; exact h2 i r hr
        · rw [List.getElem?_append_right (by omega)] at hr
          have : i - l.length = 0 := by
            rcases Nat.eq_zero_or_pos (i - l.length) with e | e
            · exact e
            · rw [List.getElem?_eq_none (by simp; omega)] at hr; cases hr
          rw [this] at hr
          simp at hr
          subst hr
          have : i = k := by omega
          subst this
          exact ⟨ws, w1, w2⟩
    obtain ⟨l, ⟨h1, h0⟩, h2⟩ := mk len (Nat.le_refl _)
    refine ⟨l, ⟨by omega, fun q hq => ?_⟩, ?_, trivial, ?_⟩
    · obtain ⟨i, hi⟩ := List.getElem?_of_mem hq
      obtain ⟨ws, k, _⟩ := h2 i q hi
      exact k
    · simp only [bulk]; omega
    · simp only [RepC, List.length_map]
      refine ⟨some a, cap, P.cellsOf e, by rw [h1], by omega, hm, ?_⟩
      by_cases h0 : len = 0
      · left; rw [List.map_eq_nil_iff]; exact List.eq_nil_of_length_eq_zero (by omega)
      · right
        obtain ⟨b, off, spot⟩ := a
        obtain ⟨q0, ws0, _, _, _, _, w1, w2⟩ := key 0 (by omega)
        have c0 := w2 0 hc
        rw [List.getElem?_eq_getElem (by omega)] at c0
        simp only [Nat.zero_mul, Addr.add, if_true] at c0
        unfold World.cell? at c0
        have hsp : spot = none ∧ b < W.heap.size := by
          split at c0
          · rename_i cur et fr hh
            simp only at c0 hh
            cases spot with
            | none => exact ⟨rfl, (Array.getElem?_eq_some_iff.1 hh).1⟩
            | some _ => simp at c0
          · cases c0
        obtain ⟨rfl, hlt⟩ := hsp
        refine ⟨b, off, rfl, imm0 hlt, RepE.of_index fun i x hxi => ?_⟩
        rw [List.getElem?_map] at hxi
        obtain ⟨q, hq, rfl⟩ := Option.map_eq_some_iff.1 hxi
        obtain ⟨ws, _, k2, k3, k4, k5⟩ := h2 i q hq
        refine ⟨ws, ⟨k2, k3⟩, k4, fun j v hv => ?_⟩
        have hj : j < P.cellsOf e := by rw [← k4]; exact (List.getElem?_eq_some_iff.1 hv).1
        have := k5 j hj
        rw [hv] at this
        rw [← this]
        show W.cell? _ = W.cell? _
        congr 1
        unfold Addr.add
        split <;> split <;> simp_all [Nat.add_assoc]

def DecFs (P : Program) (fs : List Field) (start total : Nat) {β : Type} (g : β → List V) (p : β → Prop) (sz : β → Nat) : Prop :=
  ∀ (H : Type) (enc : TypeId × Value → H) (W : World) (sp : Nat → Bool) (held : Bool) (n : Nat) (cs : List Value) (xs : List (DataW H × List MemPlace)), cs.length = total →
    All2 (fun f x => DataW.trod enc P W 0 sp held n f.type ((cs.drop f.offset).take (P.cellsOf f.type)) = some x) fs xs → ∃ b, p b ∧ sz b ≤ bulkAll (xs.map (·.1)) ∧ Reps (cx0 W) (g b) (cs.drop start)

theorem DecFs.nil {total : Nat} : DecFs P [] total total (fun _ : Unit => []) (fun _ => True) (fun _ => 0) := by
  intro H enc W sp held n cs xs hl _
  refine ⟨(), trivial, Nat.zero_le _, ?_⟩
  simp only [Reps]
  exact List.drop_eq_nil_of_le (by omega)

theorem DecFs.cons {fd : Field} {fs : List Field} {start next total : Nat} {α β : Type} {f : α → V} {p : α → Prop} {sz : α → Nat} {g : β → List V} {q : β → Prop} {sz2 : β → Nat} (ho : fd.offset = start) (hn : start + P.cellsOf fd.type = next) (hd : Dec P fd.type f p sz) (hs : DecFs P fs next total g q sz2) :
    DecFs P (fd :: fs) start total (fun x : α × β => (f x.1).cells ++ g x.2) (fun x => p x.1 ∧ q x.2) (fun x => sz x.1 + sz2 x.2) := by
  intro H enc W sp held n cs xs hl hx
  cases xs with
  | nil => exact hx.elim
  | cons x xs =>
    obtain ⟨hx0, hx⟩ := hx
    obtain ⟨a, h1, h0, h2, h3⟩ := hd _ _ _ _ _ _ _ _ hx0
    obtain ⟨b, k1, k0, k2⟩ := hs H enc W sp held n cs xs hl hx
    refine ⟨(a, b), ⟨h1, k1⟩, by simp only [List.map_cons, bulkAll]; omega, ?_⟩
    have := Reps.append (RepC.to_cells h3 h2) k2
    rw [ho, ← hn] at this
    have e : List.take (P.cellsOf fd.type) (List.drop start cs) ++ List.drop (start + P.cellsOf fd.type) cs = List.drop start cs := by
      rw [← List.drop_drop, List.take_append_drop]
    rwa [e] at this

theorem All2.of_index {α β : Type} {R : α → β → Prop} : ∀ {l : List α} {m : List β}, m.length = l.length → (∀ (i : Nat) (a : α) (b : β), l[i]? = some a → m[i]? = some b → R a b) → All2 R l m
  | [], [], _, _ => trivial
  | a :: l, b :: m, h, k => ⟨k 0 a b rfl rfl, All2.of_index (by simpa using h) (fun i x y hx hy => k (i + 1) x y hx hy)⟩
  | [], _ :: _, h, _ => by simp at h
  | _ :: _, [], h, _ => by simp at h

theorem Dec.struct {t : TypeId} {fs : Array Field} {β : Type} {g : β → List V} {p : β → Prop} {sz : β → Nat} (ht : P.underlying t = some (.struct fs)) (hd : DecFs P fs.toList 0 (P.cellsOf t) g p sz) : Dec P t (fun b : β => V.agg (g b)) p (fun b => sz b + 1) := by
  intro H enc W sp held fuel cs x h
  obtain ⟨xs, n, rfl, rfl, hl, hlen, hf⟩ := DataW.trod_struct ht h
  obtain ⟨b, h1, h0, h2⟩ := hd H enc W sp held n cs xs hl (All2.of_index (by simpa using hlen) (fun i f x hi hx => by
    rw [Array.getElem?_toList] at hi
    rw [hf i f hi, hx]))
  rw [List.drop_zero] at h2
  exact ⟨b, h1, by simp only [bulk]; omega, trivial, by simp only [RepC]; exact h2⟩

theorem Dec.of {t : TypeId} {α β : Type} {f : α → V} {p : α → Prop} {sz : α → Nat} {g : β → V} {q : β → Prop} {sz2 : β → Nat} (h : Dec P t f p sz) (φ : α → β) (hf : ∀ a, p a → f a = g (φ a) ∧ q (φ a) ∧ sz2 (φ a) ≤ sz a) : Dec P t g q sz2 := by
  intro H enc W sp held fuel cs x hx
  obtain ⟨a, h1, h0, h2, h3⟩ := h H enc W sp held fuel cs x hx
  obtain ⟨e, k, k0⟩ := hf a h1
  rw [e] at h2 h3
  exact ⟨φ a, k, Nat.le_trans k0 h0, h2, h3⟩

theorem ok_slice {t e : TypeId} {W : World} {base : Nat} {v : Value} (ht : P.underlying t = some (.slice e)) (h : Value.okWide P W .any base t v) : ∀ cs, v ≠ .agg cs := by
  rintro cs rfl
  simp [Value.okWide, ht, Cell.okWide, Cell.ok] at h
theorem ok_int {t : TypeId} {k : IntKind} {W : World} {base : Nat} {v : Value} (ht : P.underlying t = some (.int k)) (h : Value.okWide P W .any base t v) : ∀ cs, v ≠ .agg cs := by
  rintro cs rfl
  simp [Value.okWide, ht, Cell.okWide, Cell.ok] at h
theorem ok_bool {t : TypeId} {W : World} {base : Nat} {v : Value} (ht : P.underlying t = some .bool) (h : Value.okWide P W .any base t v) : ∀ cs, v ≠ .agg cs := by
  rintro cs rfl
  simp [Value.okWide, ht, Cell.okWide, Cell.ok] at h
theorem ok_str {t : TypeId} {W : World} {base : Nat} {v : Value} (ht : P.underlying t = some .string) (h : Value.okWide P W .any base t v) : ∀ cs, v ≠ .agg cs := by
  rintro cs rfl
  simp [Value.okWide, ht, Cell.okWide, Cell.ok] at h
theorem ok_struct {t : TypeId} {fs : Array Field} {W : World} {base : Nat} {v : Value} (ht : P.underlying t = some (.struct fs)) (h : Value.okWide P W .any base t v) : ∃ cs, v = .agg cs := by
  simp only [Value.okWide, ht] at h
  exact ⟨h.choose, h.choose_spec.1⟩
theorem okAgg_leaf {x : V} {v : Value} (hx : ∀ cs, x ≠ .agg cs) (h : ∀ cs, v ≠ .agg cs) : okAgg x v := by
  cases x <;> cases v <;> first | trivial | exact absurd rfl (h _) | exact absurd rfl (hx _)
theorem okAgg_agg {cs : List V} {v : Value} (h : ∃ cs, v = .agg cs) : okAgg (.agg cs) v := by
  obtain ⟨_, rfl⟩ := h
  trivial

theorem Dec.value {t : TypeId} {α : Type} {f : α → V} {p : α → Prop} {sz : α → Nat} (h : Dec P t f p sz) {H : Type} {enc : TypeId × Value → H} {W : World} {sp : Nat → Bool} {held : Bool} {v : Value} {d : DataW H} {ps : List MemPlace} (hv : DataW.Trod enc P W 0 sp held t v d ps)
    (hag : ∀ a, okAgg (f a) v) : ∃ a, p a ∧ sz a ≤ bulk d ∧ RepV (cx0 W) (f a) v := by
  obtain ⟨fuel, hx⟩ := hv
  obtain ⟨a, h1, h0, h2, h3⟩ := h H enc W sp held fuel _ _ hx
  exact ⟨a, h1, h0, RepV.of_parts h3 (hag a)⟩

theorem TrodAll_stays {H : Type} {enc : TypeId × Value → H} (hl : laidOutB P = true) {W W' : World} (hb : Below W.heap.size W W') {sp : Nat → Bool} : ∀ (ts : List TypeId) (vs : List Value) (ds : List (DataW H)) (ps : List MemPlace),
    (∀ t ∈ ts, P.readableRec t = true ∧ t < P.types.size) → DataW.TrodAll enc P W 0 (fun _ => true) true ts vs ds ps → (∀ x ∈ ps, x.block < W.heap.size) → (∀ x ∈ ps, sp x.block = true) → DataW.TrodAll enc P W' 0 sp true ts vs ds ps
  | [], [], [], ps, _, h, _, _ => h
  | t :: ts, v :: vs, d :: ds, ps, hr, h, h1, h2 => by
    obtain ⟨p, q, k1, k2, rfl⟩ := h
    refine ⟨p, q, WideElems.Trod_stays hl (hr t (by simp)).1 (hr t (by simp)).2 k1 (fun x hx => hb.same (h1 x (by simp [hx]))) (fun x hx => h2 x (by simp [hx])), ?_, rfl⟩
    exact TrodAll_stays hl hb ts vs ds q (fun t ht => hr t (by simp [ht])) k2 (fun x hx => h1 x (by simp [hx])) (fun x hx => h2 x (by simp [hx]))
  | [], [], _ :: _, _, _, h, _, _ => h.elim
  | [], _ :: _, _, _, _, h, _, _ => h.elim
  | _ :: _, [], _, _, _, h, _, _ => h.elim
  | _ :: _, _ :: _, [], _, _, h, _, _ => h.elim

theorem SCall.row {f : FuncId} {vs : List V} {cargs : Array Value} {W : World} (hcall : ∀ args w, (callFunc f args).run P w = .ok (.enter f args) w) (h : SCall P f vs [] (fun r _ => r = .bool true)) (hr : RepVals (cx0 W) vs cargs.toList) :
    Calls P f cargs W fun e W' => e = .returned (.bool true) ∧ Below W.heap.size W W' := by
  have := h (fun _ => none) W cargs (Good.zero W) hr
  unfold CallR at this
  rw [hcall] at this
  refine Calls.mono this fun e W' ⟨v, he, r, H', g', h1, h2, h3, h4⟩ => ?_
  subst h4
  have hv := h3.bool
  subst hv
  exact ⟨he, h2.os, h2.tape, h2.output, h2.size, fun k hk => (h2.frame k (imm0 hk)).1⟩

/-- THE ROW: what such a statement asks of one function, from the function's contract. -/
theorem row_contract {H : Type} {enc : TypeId × Value → H} {f : FuncId} {fn : Func} {s : ChangeSpec} {apart fresh handsOn : Bool} (hl : laidOutB P = true)
    (hts : (fn.params.toList.all fun t => P.readableRec t && decide (t < P.types.size)) = true) (hvars : s.vars = []) (hcall : ∀ args w, (callFunc f args).run P w = .ok (.enter f args) w)
    {tb : TypeId} (hres : fn.resultTypes = #[tb]) (htb : P.underlying tb = some .bool) {W : World} {args : Array Value} {ds gs : List (DataW H)} {before : List MemPlace}
    (hW : DataW.Whole enc P fn.params.toList s.vars apart W args.toList ds gs before)
    (hspec : (s.fn H ds).results = [.lit (.bool true)] ∧ (s.fn H ds).args = ds ∧ (s.fn H ds).vars = [])
    {vs : List V} (hv : RepVals (cx0 W) vs args.toList) (h : SCall P f vs [] (fun r _ => r = .bool true)) :
    Calls P f args W fun e W' => ∃ v, e = .returned v ∧ s.post enc P fn apart fresh handsOn false W args v W' := by
  refine (SCall.row hcall h hv).mono fun e W' ⟨he, hb⟩ => ⟨_, he, ?_⟩
  have hW' := hW
  obtain ⟨p, q, hA, hV, rfl, hfz, hnd⟩ := hW
  rw [hvars] at hV
  have hgs : gs = [] ∧ q = [] := by
    cases gs with
    | nil => exact ⟨rfl, hV⟩
    | cons _ _ => exact hV.elim
  obtain ⟨rfl, rfl⟩ := hgs
  obtain ⟨r1, r2, r3⟩ := hspec
  have hlt : ∀ x ∈ p, x.block < W.heap.size := fun x hx => by simpa using hW'.lt x (by simp [hx])
  have htr : ∀ t ∈ fn.params.toList, P.readableRec t = true ∧ t < P.types.size := fun t ht => by
    have := List.all_eq_true.1 hts t ht
    rw [Bool.and_eq_true] at this
    exact ⟨this.1, of_decide_eq_true this.2⟩
  refine ⟨ds, [], p, [], p, [], by simpa using hW', ?_, ?_, ?_, hb.frame _, fun h => by cases h⟩
  · rw [List.append_nil, r1, hres]
    exact ⟨[], [], ⟨1, by simp [Value.resultList, Value.cells, DataW.trod, htb]⟩, rfl, rfl⟩
  · rw [List.append_nil, r2]
    exact TrodAll_stays hl hb _ _ _ _ htr hA hlt (fun x hx => by simpa using hlt x hx)
  · rw [List.append_nil, r3, hvars]
    rfl
end Go.EL

/- The value logic, part Y: code by one pass; loops over prefixes; answers. -/
set_option linter.unusedVariables false
set_option linter.unusedSimpArgs false
namespace Go.EL
open Go
variable {P : Program} {T : Nat → TD}

/-- code, where the objects from n0 on are one's own: what was there before is as it was -/
def EWn (P : Program) (n0 n : Nat) (c : Code) (Q : Exit → Env → List Ob → Prop) [Hold c Q] (env : Env) (H : List Ob) : Prop :=
  ∀ rd ds gs ws g a w, Rel ds n env H g a w → Ext gs n0 ws g H.length w → c.wpIn (fz rd) 0 P (fun e a' w' => ∃ env' H' g', Rel ds n env' H' g' a' w' ∧ Ext gs n0 ws g' H'.length w' ∧ Q e env' H') a w

section
variable {n0 n : Nat} {env : Env} {H : List Ob}
theorem EWn.of {c : Code} {Q : Exit → Env → List Ob → Prop} (h : EW P n c Q env H) : EWn P n0 n c Q env H :=
  fun rd ds gs ws g a w hR he => wpIn_mono (h rd ds g a w hR) fun e a' w' ⟨env', H', g', h1, h2, h3⟩ => ⟨env', H', g', h1, he.trans h2, h3⟩
theorem EWn.to {c : Code} {Q : Exit → Env → List Ob → Prop} (h : EWn P H.length n c Q env H) : EW P n c Q env H :=
  fun rd ds g a w hR => h rd ds g w g a w hR (Ext.refl _ _ _)
theorem EWn.mono {c : Code} {Q Q' : Exit → Env → List Ob → Prop} (h : EWn P n0 n c Q env H) (hq : ∀ e env' H', Q e env' H' → Q' e env' H') : EWn P n0 n c Q' env H :=
  fun rd ds gs ws g a w hR he => wpIn_mono (h rd ds gs ws g a w hR he) fun e a' w' ⟨env', H', g', h1, h2, h3⟩ => ⟨env', H', g', h1, h2, hq _ _ _ h3⟩
theorem EWn.ghost {c : Code} {Q : Exit → Env → List Ob → Prop} {env' : Env} {H' : List Ob} (h : Gho n0 env H env' H') (k : EWn P n0 n c Q env' H') : EWn P n0 n c Q env H := by
  intro rd ds gs ws g a w hR he
  obtain ⟨g', hR', he'⟩ := h.rel hR
  exact k rd ds gs ws g' a w hR' (he' _ _ he)
theorem EWn.upto {c : Code} {Q : Exit → Env → List Ob → Prop} (h : EWn P n0 n c (fun e => UpTo n0 (Q e)) env H) : EWn P n0 n c Q env H := by
  intro rd ds gs ws g a w hR he
  refine wpIn_mono (h rd ds gs ws g a w hR he) fun e a' w' ⟨env', H', g', h1, h2, env'', H'', h3, h4⟩ => ?_
  obtain ⟨g'', k1, k2⟩ := h3.rel h1
  exact ⟨env'', H'', g'', k1, k2 _ _ h2, h4⟩
theorem EWn.seq {c d : Code} {Q : Exit → Env → List Ob → Prop} (h : EWn P n0 n c (thenE (EWn P n0 n d Q) Q) env H) : EWn P n0 n (.seq c d) Q env H := by
  intro rd ds gs ws g a w hR he
  refine wpIn_seq (wpIn_mono (h rd ds gs ws g a w hR he) fun e a' w' ⟨env', H', g', h1, h2, h3⟩ => ?_)
  cases e with
  | normal => exact h3 rd ds gs ws g' a' w' h1 h2
  | exit id => exact ⟨env', H', g', h1, h2, h3⟩
  | goto l => exact ⟨env', H', g', h1, h2, h3⟩
  | ret => exact ⟨env', H', g', h1, h2, h3⟩
  | panic ch => exact ⟨env', H', g', h1, h2, h3⟩
  | outgrown => exact ⟨env', H', g', h1, h2, h3⟩
theorem EWn.cond {c : Operand} {x y : Code} {Q : Exit → Env → List Ob → Prop} (h : condW (evl env c) (EWn P n0 n x Q env H) (EWn P n0 n y Q env H)) : EWn P n0 n (.cond c x y) Q env H := by
  intro rd ds gs ws g a w hR he
  have hc := hR.2.2.1.ev c
  unfold condW at h
  split at h
  · rename_i b hb
    rw [hb] at hc
    have := hc.bool
    cases b with
    | true => exact wpIn_cond_true this ((h.1 rfl) rd ds gs ws g a w hR he)
    | false => exact wpIn_cond_false this ((h.2 rfl) rd ds gs ws g a w hR he)
  · exact h.elim
theorem EWn.block {id : Nat} {c : Code} {Q : Exit → Env → List Ob → Prop} (h : EWn P n0 n c (inBlockE id Q) env H) : EWn P n0 n (.block id c) Q env H := by
  intro rd ds gs ws g a w hR he
  refine wpIn_block (wpIn_mono (h rd ds gs ws g a w hR he) fun e a' w' ⟨env', H', g', h1, h2, h3⟩ => ?_)
  cases e with
  | exit id' =>
    simp only [Exit.inBlock, inBlockE] at h3 ⊢
    split
    · rename_i e; rw [if_pos e] at h3; exact ⟨env', H', g', h1, h2, h3⟩
    · rename_i e; rw [if_neg e] at h3; exact ⟨env', H', g', h1, h2, h3⟩
  | _ => exact ⟨env', H', g', h1, h2, h3⟩
/-- A LOOP: an invariant, with a number that goes down; the round's end is told anew. -/
theorem EWn.loop {c : Code} {Q : Exit → Env → List Ob → Prop} (I : Nat → Env → List Ob → Prop) (m : Nat) (h0 : I m env H)
    (hb : ∀ k env H, I k env H → EWn P n0 n c (thenE (UpTo n0 fun env' H' => ∃ k', k' < k ∧ I k' env' H') Q) env H) : EWn P n0 n (.loop c) Q env H := by
  intro rd ds gs ws g a w hR he
  let J : Act → World → Nat → Prop := fun a' w' k => ∃ env' H' g', Rel ds n env' H' g' a' w' ∧ Ext gs n0 ws g' H'.length w' ∧ I k env' H'
  refine wpIn_loop (fun a' w' => ∃ k, J a' w' k) (fun a' w' => least (J a' w')) ⟨m, env, H, g, hR, he, h0⟩ ?_
  intro a' w' hJ
  have hmin := (least_spec hJ).1
  generalize least (J a' w') = k at hmin ⊢
  obtain ⟨env', H', g', h1, h2, h3⟩ := hmin
  refine wpIn_mono (hb k env' H' h3 rd ds gs ws g' a' w' h1 h2) fun e a'' w'' ⟨env'', H'', g'', k1, k2, k3⟩ => ?_
  cases e with
  | normal =>
    obtain ⟨e3, H3, k4, k', hk', hI⟩ := k3
    obtain ⟨g3, r1, r2⟩ := k4.rel k1
    have hJ2 : J a'' w'' k' := ⟨e3, H3, g3, r1, r2 _ _ k2, hI⟩
    exact ⟨⟨k', hJ2⟩, Nat.lt_of_le_of_lt ((least_spec ⟨k', hJ2⟩).2 k' hJ2) hk'⟩
  | exit id => exact ⟨env'', H'', g'', k1, k2, k3⟩
  | goto l => exact ⟨env'', H'', g'', k1, k2, k3⟩
  | ret => exact ⟨env'', H'', g'', k1, k2, k3⟩
  | panic ch => exact ⟨env'', H'', g'', k1, k2, k3⟩
  | outgrown => exact ⟨env'', H'', g'', k1, k2, k3⟩
end

/-- what follows a region -/
def regK (ks : List Nat) (Q : Exit → Env → List Ob → Prop) (env : Env) (H : List Ob) : Prop := Q .normal (restr ks env) H
/-- a region whose order is open, by one rule or the other -/
def ewDrawX (P : Program) (T : Nat → TD) (own : Bool) (ops : List Oper) (F W : List Nat) (K : Env → List Ob → Prop) (env : Env) (H : List Ob) : Prop :=
  if F.contains 9997 = true then DrawH P T own ops K env H else if F.contains 9999 = true then ewDraw2 P T own ops F W H 0 ops K env H else if F.contains 9998 = true then ewDraw3 P T own ops F W (objsOf env F) (blank (objsOf env F) H) 0 ops K env H else ewDraw P T own ops F W 0 ops K env H
def drawOKX (n : Nat) (ops : Array Oper) (W F : List Nat) : Bool := if F.contains 9997 = true then drawOKH n ops else if F.contains 9999 = true then drawOK2 n ops W F else if F.contains 9998 = true then drawOK3 n ops W F else drawOK n ops W F
theorem EW.drawX {P : Program} {T : Nat → TD} {n : Nat} {ops : Array Oper} {own : Bool} {W : List Nat} (hTO : TyOK P T) (hm : P.follows .mixedOrders = true) {id : Nat} {F : List Nat} (keep : Nat → List Nat) (hd : drawOKX n ops W F = true) {Q : Exit → Env → List Ob → Prop} {env : Env} {H : List Ob}
    (h : ewDrawX P T own ops.toList F W (regK (keep id) Q) env H) : EW P n (.region id ops true) Q env H := by
  unfold drawOKX at hd
  unfold ewDrawX at h
  split at h
  · rename_i hc
    rw [if_pos hc] at hd
    exact EW.drawH hTO hm keep hd h
  rename_i hc0
  rw [if_neg hc0] at hd
  split at h
  · rename_i hc
    rw [if_pos hc] at hd
    exact EW.draw2 hTO hm keep hd h
  · rename_i hc
    rw [if_neg hc] at hd
    split at h
    · rename_i hc2
      rw [if_pos hc2] at hd
      exact EW.draw3 hTO hm keep hd h
    · rename_i hc2
      rw [if_neg hc2] at hd
      exact EW.draw hTO hm keep hd h

/-- code, up to its loops -/
def ewC (P : Program) (T : Nat → TD) (own : Bool) (n0 n : Nat) (keep : Nat → List Nat) (tab : Nat → List Nat × List Nat) : (c : Code) → (Q : Exit → Env → List Ob → Prop) → [Hold c Q] → Env → List Ob → Prop
  | .skip, Q, _, env, H => Q .normal env H
  | .region id ops draw, Q, _, env, H => match draw with
    | true => ewDrawX P T own ops.toList (tab id).2 (tab id).1 (regK (keep id) Q) env H
    | false => ewOps P T own ops.toList ops.toList (regK (keep id) Q) env H
  | .seq a b, Q, _, env, H => ewC P T own n0 n keep tab a (thenE (ewC P T own n0 n keep tab b Q) Q) env H
  | .cond c a b, Q, _, env, H => condW (evl env c) (ewC P T own n0 n keep tab a Q env H) (ewC P T own n0 n keep tab b Q env H)
  | .block id b, Q, _, env, H => ewC P T own n0 n keep tab b (inBlockE id Q) env H
  | .exit id, Q, _, env, H => Q (.exit id) env H
  | .ret, Q, _, env, H => Q .ret env H
  | c, Q, _, env, H => EWn P n0 n c Q env H

def okC (n : Nat) (tab : Nat → List Nat × List Nat) : Code → Bool
  | .region id ops draw => match draw with
    | true => drawOKX n ops (tab id).1 (tab id).2
    | false => codeOK n (.region id ops false)
  | .seq a b => okC n tab a && okC n tab b
  | .cond _ a b => okC n tab a && okC n tab b
  | .block _ b => okC n tab b
  | _ => true

theorem EWn.of_c (hTO : TyOK P T) (hm : P.follows .mixedOrders = true) {own : Bool} {n0 n : Nat} (keep : Nat → List Nat) (tab : Nat → List Nat × List Nat) : ∀ {c : Code} {Q : Exit → Env → List Ob → Prop} {env : Env} {H : List Ob}, okC n tab c = true →
    ewC P T own n0 n keep tab c Q env H → EWn P n0 n c Q env H
  | .skip, _, _, _, _, h => .of (EW.skip h)
  | .region id ops true, _, _, _, ho, h => .of (EW.drawX hTO hm keep ho h)
  | .region id ops false, _, _, _, ho, h => .of (EW.region hTO keep ho h)
  | .seq a b, _, _, _, ho, h => by
    simp only [okC, Bool.and_eq_true] at ho
    refine EWn.seq ?_
    refine EWn.mono (EWn.of_c hTO hm keep tab ho.1 h) fun e env' H' h' => ?_
    cases e with
    | normal => exact EWn.of_c hTO hm keep tab ho.2 h'
    | _ => exact h'
  | .cond c a b, _, _, _, ho, h => by
    simp only [okC, Bool.and_eq_true] at ho
    refine EWn.cond ?_
    simp only [ewC] at h
    unfold condW at h ⊢
    split at h
    · exact ⟨fun hb => EWn.of_c hTO hm keep tab ho.1 (h.1 hb), fun hb => EWn.of_c hTO hm keep tab ho.2 (h.2 hb)⟩
    · exact h.elim
  | .block id b, _, _, _, ho, h => EWn.block (EWn.of_c hTO hm keep tab (c := b) (by simpa only [okC] using ho) h)
  | .exit id, _, _, _, _, h => .of (EW.exit h)
  | .ret, _, _, _, _, h => .of (EW.ret h)
  | .loop _, _, _, _, _, h => h
  | .rangeFunc .., _, _, _, _, h => h
  | .scope _, _, _, _, _, h => h
  | .label _, _, _, _, _, h => h
  | .goto _, _, _, _, _, h => h
  | .refuse _, _, _, _, _, h => h

/-- the first k + 1 statements; and the others -/
def headC : List Unit → Code → Code
  | _ :: k, .seq a b => .seq a (headC k b)
  | [], .seq a _ => a
  | _, c => c
def tailC : List Unit → Code → Code
  | _ :: k, .seq _ b => tailC k b
  | [], .seq _ b => b
  | _, _ => .skip
def longC : List Unit → Code → Bool
  | _ :: k, .seq _ b => longC k b
  | [], .seq _ _ => true
  | _, _ => false
/-- THE CODE IS CUT behind its first k + 1 statements: what holds there is told. -/
theorem EWn.cut (hTO : TyOK P T) (hm : P.follows .mixedOrders = true) {own : Bool} {n0 n : Nat} (keep : Nat → List Nat) (tab : Nat → List Nat × List Nat) (M : Env → List Ob → Prop) {Q : Exit → Env → List Ob → Prop} : ∀ (k : List Unit) {c : Code} {env : Env} {H : List Ob}, longC k c = true → okC n tab (headC k c) = true →
    ewC P T own n0 n keep tab (headC k c) (thenE (UpTo n0 M) Q) env H → (∀ env H, M env H → EWn P n0 n (tailC k c) Q env H) → EWn P n0 n c Q env H
  | [], .seq a b, env, H, _, ho, h, hk => by
    refine EWn.seq (EWn.mono (EWn.of_c hTO hm keep tab ho h) fun e env' H' h' => ?_)
    cases e with
    | normal => obtain ⟨e2, H2, h1, h2⟩ := h'; exact EWn.ghost h1 (hk _ _ h2)
    | _ => exact h'
  | _ :: k, .seq a b, env, H, hl, ho, h, hk => by
    simp only [headC, okC, Bool.and_eq_true] at ho
    refine EWn.seq (EWn.mono (EWn.of_c hTO hm keep tab ho.1 h) fun e env' H' h' => ?_)
    cases e with
    | normal => exact EWn.cut hTO hm keep tab M k hl ho.2 h' hk
    | _ => exact h'

/-! answers -/
def wk0 (fs : Bool) (H : List Ob) (n : Nat) : V → V
  | .vec o ver off k => if n ≤ o then (match H[o]? with | some (.vec _ _ l) => .slice ((l.drop off).take k) | _ => .dead) else .vec o ver off k
  | .fslice l => if fs then .fslice l else .slice l
  | x => x
def wk1 (fs : Bool) (H : List Ob) (n : Nat) : V → V
  | .agg cs => .agg (cs.map (wk0 fs H n))
  | x => wk0 fs H n x
def wk (fs : Bool) (H : List Ob) (n : Nat) : V → V
  | .tuple vs => .tuple (vs.map (wk1 fs H n))
  | x => wk1 fs H n x
def okW0 (H : List Ob) (n : Nat) : V → Prop
  | .vec o ver off k => n ≤ o → (match H[o]? with | some (.vec ver' _ l) => ver' = ver ∧ off + k ≤ l.length ∧ ltL n l | _ => False)
  | .fslice l => ltL n l
  | x => x.lt n
def okW1 (H : List Ob) (n : Nat) : V → Prop
  | .agg cs => ∀ x ∈ cs, okW0 H n x
  | x => okW0 H n x
def okW (H : List Ob) (n : Nat) : V → Prop
  | .tuple vs => ∀ x ∈ vs, okW1 H n x
  | x => okW1 H n x

theorem okW0.wk {fs : Bool} {H : List Ob} {n : Nat} {x : V} (h : okW0 H n x) : Wk0 H n x (wk0 fs H n x) := by
  cases x
  case vec o ver off k =>
    simp only [okW0] at h
    simp only [Wk0, wk0]
    by_cases hn : n ≤ o
    · left
      have h := h hn
      split at h
      · rename_i ver' es l ho
        obtain ⟨rfl, h1, h2⟩ := h
        exact ⟨es, l, ho, h1, by rw [if_pos hn], h2, hn⟩
      · exact h.elim
    · right
      rw [if_neg hn]
      exact ⟨rfl, by omega⟩
  case fslice l =>
    cases fs
    · exact ⟨.inl rfl, h⟩
    · exact ⟨.inr rfl, h⟩
  all_goals exact ⟨rfl, h⟩
theorem All2.map_mem {α : Type} {R : α → α → Prop} {f : α → α} : ∀ {l : List α}, (∀ x ∈ l, R x (f x)) → All2 R l (l.map f)
  | [], _ => trivial
  | x :: l, h => ⟨h x (by simp), All2.map_mem fun y hy => h y (by simp [hy])⟩
theorem okW1.wk {fs : Bool} {H : List Ob} {n : Nat} {x : V} (h : okW1 H n x) : Wk1 H n x (wk1 fs H n x) := by
  cases x
  case agg cs => exact ⟨_, rfl, All2.map_mem fun y hy => (h y hy).wk⟩
  all_goals
    simp only [okW1] at h
    exact okW0.wk (fs := fs) h
theorem okW.wk {fs : Bool} {H : List Ob} {n : Nat} {x : V} (h : okW H n x) : Wk H n x (wk fs H n x) := by
  cases x
  case tuple cs => exact ⟨_, rfl, All2.map_mem fun y hy => (h y hy).wk⟩
  all_goals
    simp only [okW] at h
    exact okW1.wk (fs := fs) h

/-- AN ANSWER: the objects of L1 stay. -/
theorem RetW.auto {H0 H : List Ob} {R : V → List Ob → Prop} {r : V} (fs : Bool) (L1 L2 : List Ob) (hH : H = H0 ++ (L1 ++ L2)) (hL : HLt (H0.length + L1.length) L1) (hok : okW H (H0.length + L1.length) r) (hR : R (EL.wk fs H (H0.length + L1.length) r) (H0 ++ L1)) : RetW H0.length H0 R r H := by
  subst hH
  have htake : (H0 ++ (L1 ++ L2)).take (H0.length + L1.length) = H0 ++ L1 := by
    rw [← List.append_assoc, ← List.length_append, List.take_left]
  refine ⟨H0.length + L1.length, _, by omega, by simp, hok.wk (fs := fs), fun o x ho hx => ?_, ?_⟩
  · by_cases h : o < H0.length
    · left; rw [List.getElem?_append_left h] at hx; exact hx
    · right
      have hx' : (H0 ++ L1)[o]? = some x := by rw [← htake, List.getElem?_take, if_pos ho]; exact hx
      rw [List.getElem?_append_right (by omega)] at hx'
      exact hL x (List.mem_of_getElem? hx')
  · rw [htake]; exact hR

/-- nothing is left of what was new -/
theorem RetW.auto0 {H0 H : List Ob} {R : V → List Ob → Prop} {r : V} (fs : Bool) (L2 : List Ob) (hH : H = H0 ++ L2) (hok : okW H H0.length r) (hR : R (EL.wk fs H H0.length r) H0) : RetW H0.length H0 R r H :=
  RetW.auto fs [] L2 (by simpa using hH) (HLt.nil _) (by simpa using hok) (by simpa using hR)

/-! loops -/
def upd (env : Env) : List (Nat × V) → Env
  | [] => env
  | (t, v) :: us => upd (eset env t v) us

/-- what the end of a round shows -/
def RoundE {ι : Type} (ok : ι → Prop) (m : ι → Nat) (e : ι → Env) (hs : ι → List Ob) (k : Nat) (env : Env) (H : List Ob) : Prop :=
  ∃ x, ok x ∧ m x < k ∧ env = e x ∧ ∃ L, H = hs x ++ L
/-- what the end of a part shows -/
def MidE {κ : Type} (ok : κ → Prop) (e : κ → Env) (hs : κ → List Ob) (env : Env) (H : List Ob) : Prop := ∃ x, ok x ∧ env = e x ∧ ∃ L, H = hs x ++ L

theorem HLt.take {n : Nat} {H : List Ob} (h : HLt n H) (k : Nat) : HLt n (H.take k) := fun x hx => h x (List.mem_of_mem_take hx)

theorem drop_rest {n0 : Nat} {env : Env} {H L : List Ob} (h0 : n0 ≤ H.length) (hH : HLt H.length H) (he : ∀ p ∈ env, p.2.lt H.length) : Gho n0 env (H ++ L) env H := by
  have hd := Gho.drop (n0 := n0) (H0 := H) [] L (env := env) hH (by simpa using h0) (HLt.nil _) (by simpa using he)
  simpa only [List.nil_append, List.append_nil] using hd

/-- A LOOP by its rounds' states; what a round leaves in memory beside them is given up. -/
theorem EWn.loopE {ι : Type} {n0 n : Nat} {env : Env} {H : List Ob} {c : Code} {Q : Exit → Env → List Ob → Prop} (ok : ι → Prop) (m : ι → Nat) (us : ι → List (Nat × V)) (hs : ι → List Ob) (x0 : ι) (he : env = upd env (us x0)) (hH : H = hs x0)
    (hlt : ∀ x, ok x → n0 ≤ (hs x).length ∧ HLt (hs x).length (hs x) ∧ ∀ p ∈ upd env (us x), p.2.lt (hs x).length)
    (h0 : ok x0) (hb : ∀ x, ok x → EWn P n0 n c (thenE (UpTo n0 (RoundE ok m (fun x => upd env (us x)) hs (m x))) Q) (upd env (us x)) (hs x)) : EWn P n0 n (.loop c) Q env H := by
  refine EWn.loop (fun k env' H' => ∃ x, ok x ∧ k = m x ∧ env' = upd env (us x) ∧ H' = hs x) (m x0) ⟨x0, h0, rfl, he, hH⟩ ?_
  rintro k env' H' ⟨x, hx, rfl, rfl, rfl⟩
  refine (hb x hx).mono fun e env'' H'' h => ?_
  cases e with
  | normal =>
    have h : UpTo n0 (RoundE ok m (fun x => upd env (us x)) hs (m x)) env'' H'' := h
    obtain ⟨e2, H2, hg, y, hy, hym, rfl, L, rfl⟩ := h
    obtain ⟨k1, k2, k3⟩ := hlt y hy
    exact UpTo.step hg (UpTo.step (drop_rest k1 k2 k3) (UpTo.here ⟨m y, hym, y, hy, rfl, rfl, rfl⟩))
  | _ => exact h

/-- the same; what holds behind the loop is told once -/
theorem EWn.loopF {ι κ : Type} {n0 n id : Nat} {env : Env} {H : List Ob} {c : Code} {Q : Exit → Env → List Ob → Prop} (ok : ι → Prop) (m : ι → Nat) (us : ι → List (Nat × V)) (hs : ι → List Ob) (x0 : ι) (ok2 : κ → Prop) (e2 : κ → Env) (hs2 : κ → List Ob) (he : env = upd env (us x0)) (hH : H = hs x0)
    (hlt : ∀ x, ok x → n0 ≤ (hs x).length ∧ HLt (hs x).length (hs x) ∧ ∀ p ∈ upd env (us x), p.2.lt (hs x).length)
    (hlt2 : ∀ x, ok2 x → n0 ≤ (hs2 x).length ∧ HLt (hs2 x).length (hs2 x) ∧ ∀ p ∈ e2 x, p.2.lt (hs2 x).length)
    (h0 : ok x0) (hb : ∀ x, ok x → EWn P n0 n c (thenE (UpTo n0 (RoundE ok m (fun x => upd env (us x)) hs (m x))) (inBlockE id (withN (UpTo n0 (MidE ok2 e2 hs2)) Q))) (upd env (us x)) (hs x))
    (hk : ∀ y, ok2 y → UpTo n0 (Q .normal) (e2 y) (hs2 y)) : EWn P n0 n (.loop c) (inBlockE id Q) env H := by
  have key : ∀ {env'' H''}, UpTo n0 (MidE ok2 e2 hs2) env'' H'' → UpTo n0 (Q .normal) env'' H'' := by
    rintro env'' H'' ⟨e3, H2, hg, y, hy, rfl, L, rfl⟩
    obtain ⟨k1, k2, k3⟩ := hlt2 y hy
    exact UpTo.step hg (UpTo.step (drop_rest k1 k2 k3) (hk y hy))
  refine EWn.loop (fun k env' H' => ∃ x, ok x ∧ k = m x ∧ env' = upd env (us x) ∧ H' = hs x) (m x0) ⟨x0, h0, rfl, he, hH⟩ ?_
  rintro k env' H' ⟨x, hx, rfl, rfl, rfl⟩
  refine EWn.upto ((hb x hx).mono fun e env'' H'' h => ?_)
  cases e with
  | normal =>
    have h : UpTo n0 (RoundE ok m (fun x => upd env (us x)) hs (m x)) env'' H'' := h
    obtain ⟨e2, H2, hg, y, hy, hym, rfl, L, rfl⟩ := h
    obtain ⟨k1, k2, k3⟩ := hlt y hy
    exact UpTo.here (UpTo.step hg (UpTo.step (drop_rest k1 k2 k3) (UpTo.here ⟨m y, hym, y, hy, rfl, rfl, rfl⟩)))
  | exit id' =>
    have h : (if id' = id then UpTo n0 (MidE ok2 e2 hs2) else Q (.exit id')) env'' H'' := h
    show UpTo n0 (if id' = id then Q .normal else Q (.exit id')) env'' H''
    by_cases e : id' = id
    · rw [if_pos e] at h ⊢; exact key h
    · rw [if_neg e] at h ⊢; exact UpTo.here h
  | _ => exact UpTo.here h

/-- A CUT by a state. -/
theorem EWn.cutE (hTO : TyOK P T) (hm : P.follows .mixedOrders = true) {κ : Type} {own : Bool} {n0 n : Nat} (keep : Nat → List Nat) (tab : Nat → List Nat × List Nat) (k : List Unit) (ok : κ → Prop) (e : κ → Env) (hs : κ → List Ob) {Q : Exit → Env → List Ob → Prop} {c c1 c2 : Code} {env : Env} {H : List Ob} (hh : headC k c = c1) (ht : tailC k c = c2) (hl : longC k c = true) (ho : okC n tab (headC k c) = true)
    (hlt : ∀ x, ok x → n0 ≤ (hs x).length ∧ HLt (hs x).length (hs x) ∧ ∀ p ∈ e x, p.2.lt (hs x).length)
    (h : ewC P T own n0 n keep tab c1 (thenE (UpTo n0 (MidE ok e hs)) Q) env H) (hk : ∀ x, ok x → EWn P n0 n c2 Q (e x) (hs x)) : EWn P n0 n c Q env H := by
  subst hh ht
  refine EWn.cut hTO hm keep tab (MidE ok e hs) k hl ho h ?_
  rintro env' H' ⟨x, hx, rfl, L, rfl⟩
  obtain ⟨k1, k2, k3⟩ := hlt x hx
  exact EWn.ghost (drop_rest k1 k2 k3) (hk x hx)
end Go.EL
namespace Go.EL
theorem HLt.le {m n : Nat} {H : List Ob} (h : HLt m H) (hm : m ≤ n) : HLt n H := fun x hx => Ob.lt_le hm (h x hx)
theorem HLt.add {m : Nat} {H : List Ob} (h : HLt m H) : ∀ k, HLt (m + k) H := fun k => h.le (Nat.le_add_right _ _)
theorem HLt_append {n : Nat} {H L : List Ob} : HLt n (H ++ L) ↔ HLt n H ∧ HLt n L := by
  unfold HLt
  simp only [List.mem_append]
  exact ⟨fun h => ⟨fun x hx => h x (.inl hx), fun x hx => h x (.inr hx)⟩, fun h x hx => hx.elim (h.1 x) (h.2 x)⟩
theorem HLt_cons {n : Nat} {x : Ob} {H : List Ob} : HLt n (x :: H) ↔ x.lt n ∧ HLt n H := by
  unfold HLt
  simp only [List.mem_cons, forall_eq_or_imp]
theorem HLt_nil {n : Nat} : HLt n [] := fun x hx => by cases hx
theorem IfW_not (b : Bool) (X Y : Prop) (i : Hold X Y) : @IfW (!b) X Y i = IfW b Y X := by cases b <;> simp [IfW]
theorem live_var (l : List V) : (∃ cs, some (Ob.var l) = some (Ob.var cs)) = True := eq_true ⟨_, rfl⟩
theorem live_vec (ver ver' es' i : Nat) (l' : List V) : (∃ es l, some (Ob.vec ver' es' l') = some (Ob.vec ver es l) ∧ i < l.length) = (ver' = ver ∧ i < l'.length) := by
  apply propext
  constructor
  · rintro ⟨es, l, h, hi⟩
    injection h with h
    injection h with h1 h2 h3
    subst h1 h3
    exact ⟨rfl, hi⟩
  · rintro ⟨rfl, hi⟩
    exact ⟨_, _, rfl, hi⟩
def vb (b : UInt8) : V := .int .u8 b.toNat
theorem map_vb (l : List UInt8) : List.map (fun b : UInt8 => V.int .u8 b.toNat) l = l.map vb := rfl
def byt (n : Int) : UInt8 := UInt8.ofNat (n % 256).toNat
theorem wrap_u8 (n : Int) : IntKind.u8.wrap n = ((byt n).toNat : Int) := by
  unfold IntKind.wrap byt
  simp only [IntKind.bits, IntKind.signed]
  simp
  omega
theorem fold_vb (b : UInt8) : V.int .u8 (b.toNat : Int) = vb b := rfl
def vi (n : Int) : V := .int .i64 n
theorem Sized_append (n : Nat) (l m : List V) : Sized n (l ++ m) = (Sized n l ∧ Sized n m) := by
  apply propext
  unfold Sized
  simp only [List.mem_append]
  exact ⟨fun h => ⟨fun x hx => h x (.inl hx), fun x hx => h x (.inr hx)⟩, fun h x hx => hx.elim (h.1 x) (h.2 x)⟩
theorem st_vb (l : List UInt8) : (∀ x, x ∈ l.map vb → x.storable) = True := eq_true (storable_map (f := vb) (fun _ => trivial) l)
theorem st_vi (l : List Int) : (∀ x, x ∈ l.map vi → x.storable) = True := eq_true (storable_map (f := vi) (fun _ => trivial) l)
theorem st_str (l : List (List UInt8)) : (∀ x, x ∈ l.map V.str → x.storable) = True := eq_true (storable_map (f := V.str) (fun _ => trivial) l)
theorem sz_vb (l : List UInt8) : Sized 1 (l.map vb) = True := eq_true (sizedMapV (f := vb) (fun _ => rfl) l)
theorem sz_vi (l : List Int) : Sized 1 (l.map vi) = True := eq_true (sizedMapV (f := vi) (fun _ => rfl) l)
theorem sz_str (l : List (List UInt8)) : Sized 1 (l.map V.str) = True := eq_true (sizedMapV (f := V.str) (fun _ => rfl) l)
theorem isEmpty_mapV {α : Type} (f : α → V) (l : List α) : (l.map f).isEmpty = l.isEmpty := by cases l <;> rfl
variable {P : Program} {T : Nat → TD}
theorem RepVals.get {c : Cx} : ∀ {xs : List V} {vs : List Value}, RepVals c xs vs → ∀ t, ∀ v, vs[t]? = some v → RepV c (eget (argEnv 0 xs) t) v := by
  have key : ∀ (xs : List V) (vs : List Value) (k : Nat), RepVals c xs vs → ∀ t v, vs[t]? = some v → RepV c (eget (argEnv k xs) (k + t)) v := by
    intro xs
    induction xs with
    | nil => intro vs k h t v hv; cases vs with
      | nil => simp at hv
      | cons _ _ => exact h.elim
    | cons x xs ih =>
      intro vs k h t v hv
      cases vs with
      | nil => exact h.elim
      | cons u us =>
        cases t with
        | zero => simp at hv; subst hv; simp only [argEnv, eget, Nat.add_zero, if_true]; exact h.1
        | succ t =>
          simp only [List.getElem?_cons_succ] at hv
          have := ih us (k + 1) h.2 t v hv
          simp only [argEnv, eget]
          rw [if_neg (by omega), show k + (t + 1) = k + 1 + t by omega]
          exact this
  intro xs vs h t v hv
  have := key xs vs 0 h t v hv
  rwa [Nat.zero_add] at this
theorem RepVals.of_get {c : Cx} : ∀ (xs : List V) (vs : List Value), xs.length = vs.length → (∀ t v, vs[t]? = some v → RepV c (eget (argEnv 0 xs) t) v) → RepVals c xs vs := by
  have key : ∀ (xs : List V) (vs : List Value) (k : Nat), xs.length = vs.length → (∀ t v, vs[t]? = some v → RepV c (eget (argEnv k xs) (k + t)) v) → RepVals c xs vs := by
    intro xs
    induction xs with
    | nil => intro vs k hl h; cases vs with
      | nil => trivial
      | cons _ _ => simp at hl
    | cons x xs ih =>
      intro vs k hl h
      cases vs with
      | nil => simp at hl
      | cons u us =>
        refine ⟨?_, ih us (k + 1) (by simpa using hl) fun t v hv => ?_⟩
        · have := h 0 u rfl
          simpa only [argEnv, eget, Nat.add_zero, if_true] using this
        · have := h (t + 1) v (by simpa using hv)
          simp only [argEnv, eget] at this
          rw [if_neg (by omega), show k + (t + 1) = k + 1 + t by omega] at this
          exact this
  intro xs vs hl h
  exact key xs vs 0 hl fun t v hv => by rw [Nat.zero_add]; exact h t v hv
/-- a call, told otherwise -/
theorem SCall.ghost {f : FuncId} {args args' : List V} {H H' : List Ob} {R : V → List Ob → Prop} (h : Gho H.length (argEnv 0 args) H (argEnv 0 args') H') (hl : args'.length = args.length) (k : SCall P f args' H' R) : SCall P f args H R := by
  intro g w cargs hG ha
  obtain ⟨g', k1, k2, k3⟩ := h g w hG
  have he := k2 g w (Ext.refl _ _ _)
  have ha' : RepVals (cxOf g' H'.length w) args' cargs.toList := RepVals.of_get _ _ (by rw [hl]; exact ha.length.symm) fun t v hv => k3 t v (ha.get t v hv)
  refine (k g' w cargs k1 ha').mono fun v w' ⟨r, H'', g'', h1, h2, h3, h4⟩ => ⟨r, H'', g'', h1, he.trans h2, h3, h4⟩
theorem argEnv_G {R : V → V → Prop} (hr : ∀ x, R x x) {a b : V} (h : R a b) : ∀ (xs : List V) (i k : Nat), xs[i]? = some a → EnvG R (argEnv k xs) (argEnv k (xs.set i b))
  | [], i, k, hi => by simp at hi
  | x :: xs, 0, k, hi => by
    simp at hi
    subst hi
    have rest : ∀ (xs : List V) (k : Nat), EnvG R (argEnv k xs) (argEnv k xs) := by
      intro xs
      induction xs with
      | nil => intro k; trivial
      | cons y ys ih => intro k; exact ⟨⟨rfl, .inr (hr y)⟩, ih (k + 1)⟩
    exact ⟨⟨rfl, .inr h⟩, rest xs (k + 1)⟩
  | x :: xs, i + 1, k, hi => ⟨⟨rfl, .inr (hr x)⟩, argEnv_G hr h xs i (k + 1) (by simpa using hi)⟩
/-- a list of one's own is handed over for good -/
theorem SCall.freeze (i : Nat) {f : FuncId} {args : List V} {H : List Ob} {R : V → List Ob → Prop} {o ver n : Nat} {l : List V} (ha : args[i]? = some (.vec o ver 0 n)) (ho : ∃ es, H[o]? = some (.vec ver es l)) (hn : n = l.length) (h : SCall P f (args.set i (.slice l)) (H.set o .gone) R) : SCall P f args H R := by
  subst hn
  obtain ⟨es, ho⟩ := ho
  refine SCall.ghost (Gho.freeze o ho (argEnv_G (R := Fz o ver l) (fun x => .inl rfl) (.inr ⟨0, l.length, rfl, by simp, by simp⟩) args i 0 ha)) (by simp) h
theorem AllBytes_vb (l : List UInt8) : AllBytes (l.map vb) = True := eq_true fun x hx => by
  obtain ⟨b, _, rfl⟩ := List.mem_map.1 hx
  exact ⟨_, rfl⟩
theorem toByte_vb (l : List UInt8) : (l.map vb).map toByte = l := by
  rw [List.map_map]
  have : toByte ∘ vb = id := by
    funext b
    simp [vb, toByte, Function.comp]
  rw [this, List.map_id]
theorem maxLen_eq : maxLen = 9223372036854775807 := by decide
theorem isSlice1 (l : List V) : (V.slice l).isSlice = true := rfl
theorem isSlice2 (l : List V) : (V.fslice l).isSlice = true := rfl
theorem isSlice3 (o v a b : Nat) : (V.vec o v a b).isSlice = true := rfl
theorem SCall.then {f : FuncId} {args : List V} {H H1 : List Ob} {v : V} {R : V → List Ob → Prop} (h : SCall P f args H (fun r H' => r = v ∧ H' = H1)) (k : R v H1) : SCall P f args H R :=
  h.mono fun r H' ⟨h1, h2⟩ => by subst h1 h2; exact k
theorem HLt_set {n o : Nat} {H : List Ob} {x : Ob} (h : HLt n H) (hx : x.lt n) : HLt n (H.set o x) := fun y hy => by
  rcases List.mem_or_eq_of_mem_set hy with hy | rfl
  · exact h y hy
  · exact hx
theorem set_same {o : Nat} {H : List Ob} {x : Ob} (h : H[o]? = some x) : H.set o x = H := by
  apply List.ext_getElem?
  intro i
  by_cases hi : i = o
  · subst hi; rw [set_get_eq h, h]
  · rw [set_get_ne hi]
theorem HLt.get {n o : Nat} {H : List Ob} {x : Ob} (h : HLt n H) (hx : H[o]? = some x) : x.lt n := h x (List.mem_of_getElem? hx)
/-- AN ANSWER: all objects stay. -/
theorem RetW.keep {H0 H : List Ob} {R : V → List Ob → Prop} {r : V} (fs : Bool) (hl : H0.length ≤ H.length) (hL : HLt H.length H) (hok : okW H H.length r) (hR : R (EL.wk fs H H.length r) H) : RetW H0.length H0 R r H := by
  refine ⟨H.length, _, hl, Nat.le_refl _, hok.wk (fs := fs), fun o x ho hx => .inr (hL x (List.mem_of_getElem? hx)), ?_⟩
  rw [List.take_length]; exact hR
theorem ltL_rep {n k : Nat} {x : V} (h : x.lt n) : ltL n (List.replicate k x) := by
  rw [ltL_iff]
  intro y hy
  rw [(List.mem_replicate.1 hy).2]; exact h
theorem SCall.thenA {f : FuncId} {args args' : List V} {H H1 : List Ob} {v : V} {R : V → List Ob → Prop} (h : SCall P f args' H (fun r H' => r = v ∧ H' = H1)) (ha : All2 WkA args args') (k : R v H1) : SCall P f args H R :=
  (SCall.arg ha h).then k
theorem CallE.introA {f : FuncId} {args args' : List V} {H : List Ob} {v : V} {K : V → Prop} (h : SCall P f args' H (fun r H' => r = v ∧ H' = H)) (ha : All2 WkA args args') (k : K v) : CallE (fun v => SCall P f args H (fun r H' => r = v ∧ H' = H)) K :=
  CallE.intro v (SCall.arg ha h) k
theorem bne_eqI (a b : Int) : (a != b) = !(a == b) := rfl
theorem bne_eqB (a b : Bool) : (a != b) = !(a == b) := rfl
theorem Bo.vec {H : List Ob} {o ver es n : Nat} {l : List V} (ho : H[o]? = some (.vec ver es l)) (hn : n = l.length) (hl : ltL 0 l) : Bo H (.vec o ver 0 n) (.slice l) := by
  subst hn
  exact ⟨es, l, ho, by simp, by simp, hl⟩
theorem Bo.pre {H : List Ob} {o ver es n : Nat} {l : List V} (ho : H[o]? = some (.vec ver es l)) (hn : n ≤ l.length) (hl : ltL 0 l) : Bo H (.vec o ver 0 n) (.slice (l.take n)) :=
  ⟨es, l, ho, by simpa using hn, by simp, hl⟩
theorem Bo.fs {H : List Ob} {l : List V} (hl : ltL 0 l) : Bo H (.fslice l) (.slice l) := ⟨.inl rfl, hl⟩
theorem Bo.sl {H : List Ob} {l : List V} (hl : ltL 0 l) : Bo H (.slice l) (.slice l) := ⟨rfl, hl⟩
theorem take_mapV {α : Type} (f : α → V) (n : Nat) (l : List α) : List.take n (List.map f l) = List.map f (List.take n l) := List.map_take.symm
theorem drop_mapV {α : Type} (f : α → V) (n : Nat) (l : List α) : List.drop n (List.map f l) = List.map f (List.drop n l) := List.map_drop.symm
theorem wrap_byte (x : UInt8) : IntKind.i64.wrap (x.toNat : Int) = (x.toNat : Int) := by
  have := x.toNat_lt
  exact wrap64_id (by omega)
/-- an empty list in a variable of one's own becomes one's own -/
theorem Gho.adoptCell {n0 : Nat} {H : List Ob} {env : Env} (o i es : Nat) {cs : List V} (ho : H[o]? = some (.var cs)) (hi : cs[i]? = some (.fslice [])) (hn : n0 ≤ H.length) : Gho n0 env H env (H.set o (.var (cs.set i (.vec H.length 1 0 0))) ++ [.vec 1 es []]) := by
  intro g w hG
  have hz : g H.length = none := hG.none_of_ge (Nat.le_refl _)
  have hlt := lt_of_get ho
  obtain ⟨h1, h2⟩ := step_one hG H.length (setKey g H.length (some ⟨1, none, es, 0⟩)) (H ++ [.vec 1 es []]) w rfl rfl rfl
    (fun o ho => getElem?_snoc_ne ho) (fun o ho => setKey_other ho) (by simp) (Nat.le_refl _) (fun b hb _ => rfl)
    (fun k' b hk' hb => by rw [setKey_same] at hk'; injection hk' with e; subst e; cases hb)
    (fun h => absurd h (Nat.lt_irrefl _))
    (fun m => by
      rw [setKey_same, getElem?_snoc_eq]
      exact ⟨_, rfl, rfl, rfl, Nat.le_refl _, Nat.zero_le _, Nat.le_refl _, .inl ⟨rfl, rfl⟩⟩)
  have ho1 : (H ++ [Ob.vec 1 es []])[o]? = some (.var cs) := by rw [List.getElem?_append_left hlt]; exact ho
  obtain ⟨b, cur, et, fr, hq, hh, hr, hu⟩ := h1.var ho1
  have hset : (H ++ [Ob.vec 1 es []]).set o (.var (cs.set i (.vec H.length 1 0 0))) = H.set o (.var (cs.set i (.vec H.length 1 0 0))) ++ [.vec 1 es []] := List.set_append_left _ _ hlt
  have hrep : ∀ {c : Cx}, c.nobj = H.length + 1 → c.key = setKey g H.length (some ⟨1, none, es, 0⟩) → ∀ {cs : List V} {vs : List Value} {i : Nat}, cs[i]? = some (.fslice []) → Reps c cs vs → Reps c (cs.set i (.vec H.length 1 0 0)) vs := by
    intro c hc1 hc2 cs
    induction cs with
    | nil => intro vs i hi _; simp at hi
    | cons x cs ih =>
      intro vs i hi hr
      simp only [Reps] at hr
      obtain ⟨v, vs', rfl, k1, k2, k3⟩ := hr
      cases i with
      | zero =>
        simp at hi
        subst hi
        simp only [List.set_cons_zero, Reps]
        simp only [RepC] at k2
        obtain ⟨a, es', e1, _, _⟩ := k2
        injection e1 with e1
        subst e1
        refine ⟨_, vs', rfl, trivial, ?_, k3⟩
        simp only [RepC]
        refine ⟨⟨by omega, by rw [hc2, setKey_same]; intro e; injection e with e; injection e with e _; cases e⟩, _, rfl, rfl, fun k hk => ?_⟩
        rw [hc2, setKey_same] at hk
        injection hk with hk
        subst hk
        exact ⟨Nat.le_refl _, fun _ => ⟨Nat.le_refl _, a, rfl, fun h => absurd h (Nat.lt_irrefl _)⟩⟩
      | succ i =>
        simp only [List.set_cons_succ, Reps]
        exact ⟨v, vs', rfl, k1, k2, ih (by simpa using hi) k3⟩
  have hlen : (H.set o (.var (cs.set i (.vec H.length 1 0 0))) ++ [Ob.vec 1 es []]).length = (H ++ [Ob.vec 1 es []]).length := by simp
  obtain ⟨h3, h4⟩ := step_one h1 o (setKey g H.length (some ⟨1, none, es, 0⟩)) (H.set o (.var (cs.set i (.vec H.length 1 0 0))) ++ [.vec 1 es []]) w rfl rfl rfl
    (fun o' ho' => by rw [← hset]; exact set_get_ne ho') (fun _ _ => rfl) (by rw [hlen]; exact Nat.le_refl _) (Nat.le_refl _) (fun _ _ _ => rfl)
    (fun k' b hk' hb => .inr ⟨k', hk', hb⟩) (fun _ k' hk' => ⟨k', hk', Nat.le_refl _, fun _ => rfl⟩)
    (fun m => by
      rw [show (H.set o (.var (cs.set i (.vec H.length 1 0 0))) ++ [Ob.vec 1 es []])[o]? = some (.var (cs.set i (.vec H.length 1 0 0))) from by rw [← hset, set_get_eq ho1]]
      refine ⟨b, cur, et, fr, hq, hh, hrep (by simp [cxOf]) rfl hi ?_, hu⟩
      exact Reps.mono m _ _ hr)
  refine ⟨_, h3, fun gs ws h => (h.trans h2).trans h4, fun t v hv => (hv.mono h2.mono).mono h4.mono⟩
theorem wrap_m1 : IntKind.i64.wrap (-1) = -1 := by decide
theorem wrap_z : IntKind.i64.wrap 0 = 0 := by decide
theorem wrap_1 : IntKind.i64.wrap 1 = 1 := by decide
theorem ltL_set {n i : Nat} {l : List V} {x : V} (h : ltL n l) (hx : x.lt n) : ltL n (l.set i x) := by
  rw [ltL_iff] at *
  intro y hy
  rcases List.mem_or_eq_of_mem_set hy with hy | rfl
  · exact h y hy
  · exact hx
theorem hgetS {H L : List Ob} {o k : Nat} {x : Ob} : (H.set o x ++ L)[H.length + k]? = L[k]? := by
  rw [List.getElem?_append_right (by simp), List.length_set, Nat.add_sub_cancel_left]
theorem hget0S {H L : List Ob} {o : Nat} {x : Ob} : (H.set o x ++ L)[H.length]? = L[0]? := by
  rw [List.getElem?_append_right (by simp), List.length_set, Nat.sub_self]
theorem hsetS {H L : List Ob} {o k : Nat} {x y : Ob} : (H.set o x ++ L).set (H.length + k) y = H.set o x ++ L.set k y := by
  rw [List.set_append_right _ _ (by simp), List.length_set, Nat.add_sub_cancel_left]
theorem hset0S {H L : List Ob} {o : Nat} {x y : Ob} : (H.set o x ++ L).set H.length y = H.set o x ++ L.set 0 y := by
  rw [List.set_append_right _ _ (by simp), List.length_set, Nat.sub_self]
theorem getset {H L : List Ob} {o : Nat} (h : o < H.length) {x : Ob} : (H.set o x ++ L)[o]? = some x := by
  rw [List.getElem?_append_left (by simpa using h), List.getElem?_set_self h]
theorem setset {H L : List Ob} {o : Nat} (h : o < H.length) {x y : Ob} : (H.set o x ++ L).set o y = H.set o y ++ L := by
  rw [List.set_append_left _ _ (by simpa using h), List.set_set]
theorem getold {H L : List Ob} {o : Nat} {x : Ob} (h : H[o]? = some x) : (H ++ L)[o]? = some x := by
  rw [List.getElem?_append_left (lt_of_get h), h]
theorem setold {H L : List Ob} {o : Nat} (h : o < H.length) {y : Ob} : (H ++ L).set o y = H.set o y ++ L := List.set_append_left _ _ h
theorem at_mapA {α : Type} (f : α → V) (l : List α) (m : List V) (i : Nat) (h : i < l.length) : V.at (l.map f ++ m) i = f l[i] := by
  unfold V.at
  rw [List.getD_eq_getElem?_getD, List.getElem?_append_left (by simpa using h), List.getElem?_map, List.getElem?_eq_getElem h]
  rfl
/-- so many rounds -/
def rndE (P : Program) (n0 n : Nat) (c : Code) (Q : Exit → Env → List Ob → Prop) : Nat → Env → List Ob → Prop
  | 0, _, _ => False
  | k + 1, env, H => EWn P n0 n c (thenE (rndE P n0 n c Q k) Q) env H
theorem EWn.rounds {n0 n : Nat} {c : Code} {Q : Exit → Env → List Ob → Prop} {env : Env} {H : List Ob} (k : Nat) (h : rndE P n0 n c Q k env H) : EWn P n0 n (.loop c) Q env H := by
  refine EWn.loop (fun k env H => rndE P n0 n c Q k env H) k h fun k env H h => ?_
  cases k with
  | zero => exact h.elim
  | succ k =>
    refine EWn.mono (show EWn P n0 n c (thenE (rndE P n0 n c Q k) Q) env H from h) fun e env' H' h => ?_
    cases e with
    | normal => exact UpTo.here ⟨k, Nat.lt_succ_self _, h⟩
    | _ => exact h
/-- a loop, its first round -/
theorem EWn.first {n0 n : Nat} {c : Code} {Q : Exit → Env → List Ob → Prop} {env : Env} {H : List Ob} (I : Nat → Env → List Ob → Prop) (m : Nat) (h : EWn P n0 n c (thenE (UpTo n0 fun env' H' => I m env' H') Q) env H)
    (hb : ∀ k env H, I k env H → EWn P n0 n c (thenE (UpTo n0 fun env' H' => ∃ k', k' < k ∧ I k' env' H') Q) env H) : EWn P n0 n (.loop c) Q env H := by
  refine EWn.loop (fun k e h => (k = m + 1 ∧ e = env ∧ h = H) ∨ (k ≤ m ∧ I k e h)) (m + 1) (.inl ⟨rfl, rfl, rfl⟩) fun k e h hk => ?_
  rcases hk with ⟨rfl, rfl, rfl⟩ | ⟨hk, hI⟩
  · refine h.mono fun e' env' H' h => ?_
    cases e' with
    | normal => obtain ⟨e2, H2, h1, h2⟩ := h; exact ⟨e2, H2, h1, m, Nat.lt_succ_self _, .inr ⟨Nat.le_refl _, h2⟩⟩
    | _ => exact h
  · refine (hb k e h hI).mono fun e' env' H' h => ?_
    cases e' with
    | normal => obtain ⟨e2, H2, h1, k', hk', h2⟩ := h; exact ⟨e2, H2, h1, k', hk', .inr ⟨by omega, h2⟩⟩
    | _ => exact h
theorem eset_G {R : V → V → Prop} (hr : ∀ x, R x x) {t : Nat} {x y : V} (h : R x y) (hd : x ≠ .dead) : ∀ {env : Env}, eget env t = x → EnvG R env (eset env t y)
  | [], hx => absurd hx.symm hd
  | (t', z) :: env, hx => by
    simp only [eget] at hx
    simp only [eset]
    split
    · rename_i e
      rw [if_pos e] at hx
      subst hx
      exact ⟨⟨e, .inr h⟩, EnvG.rfl' hr env⟩
    · rename_i e
      rw [if_neg e] at hx
      exact ⟨⟨rfl, .inr (hr z)⟩, eset_G hr h hd hx⟩
/-- a list of one's own that one slot has is told as a list -/
theorem Gho.frz {n0 : Nat} {H : List Ob} {env : Env} (t : Nat) {o ver es k : Nat} {l : List V} (ht : eget env t = .vec o ver 0 k) (ho : H[o]? = some (.vec ver es l)) (hk : k = l.length) : Gho n0 env H (eset env t (.slice l)) (H.set o .gone) := by
  subst hk
  exact Gho.freeze o ho (eset_G (fun x => .inl rfl) (.inr ⟨0, l.length, rfl, by simp, by simp⟩) (by simp) ht)
/-- AN ANSWER: the objects of H1 stay, those behind are given up. -/
theorem RetW.cutK {H0 H : List Ob} {R : V → List Ob → Prop} {r : V} (fs : Bool) (H1 L2 : List Ob) (hH : H = H1 ++ L2) (hl : H0.length ≤ H1.length) (hL : HLt H1.length H1) (hok : okW H H1.length r) (hR : R (EL.wk fs H H1.length r) H1) : RetW H0.length H0 R r H := by
  subst hH
  have ht : (H1 ++ L2).take H1.length = H1 := List.take_left
  refine ⟨H1.length, _, hl, by simp, hok.wk (fs := fs), fun o x ho hx => .inr ?_, ?_⟩
  · rw [List.getElem?_append_left ho] at hx
    exact hL x (List.mem_of_getElem? hx)
  · rw [ht]; exact hR
theorem LTB : type_of% (And.intro (And.intro (And.intro (And.intro (And.intro (@Ob.lt.eq_5) (@Ob.lt.eq_6)) (And.intro (@Ob.lt.eq_7) (@HLt_append))) (And.intro (And.intro (@HLt_cons) (@HLt_nil)) (And.intro (@Ob.lt.eq_1) (@Ob.lt.eq_2)))) (And.intro (And.intro (And.intro (@Ob.lt.eq_3) (@Ob.lt.eq_4)) (And.intro (@ltL_append) (@ltL.eq_1))) (And.intro (And.intro (@ltL.eq_2) (@V.lt.eq_1)) (And.intro (@V.lt.eq_2) (@V.lt.eq_3))))) (And.intro (And.intro (And.intro (And.intro (@V.lt.eq_4) (@V.lt.eq_5)) (And.intro (@V.lt.eq_6) (@V.lt.eq_7))) (And.intro (And.intro (@V.lt.eq_8) (@V.lt.eq_9)) (And.intro (@V.lt.eq_10) (@V.lt.eq_11)))) (And.intro (And.intro (And.intro (@V.lt.eq_12) (@okW0.eq_1)) (And.intro (@okW0.eq_2) (@okW0.eq_3))) (And.intro (And.intro (@okW1.eq_1) (@okW1.eq_2)) (And.intro (@okW.eq_1) (@okW.eq_2)))))) := And.intro (And.intro (And.intro (And.intro (And.intro (@Ob.lt.eq_5) (@Ob.lt.eq_6)) (And.intro (@Ob.lt.eq_7) (@HLt_append))) (And.intro (And.intro (@HLt_cons) (@HLt_nil)) (And.intro (@Ob.lt.eq_1) (@Ob.lt.eq_2)))) (And.intro (And.intro (And.intro (@Ob.lt.eq_3) (@Ob.lt.eq_4)) (And.intro (@ltL_append) (@ltL.eq_1))) (And.intro (And.intro (@ltL.eq_2) (@V.lt.eq_1)) (And.intro (@V.lt.eq_2) (@V.lt.eq_3))))) (And.intro (And.intro (And.intro (And.intro (@V.lt.eq_4) (@V.lt.eq_5)) (And.intro (@V.lt.eq_6) (@V.lt.eq_7))) (And.intro (And.intro (@V.lt.eq_8) (@V.lt.eq_9)) (And.intro (@V.lt.eq_10) (@V.lt.eq_11)))) (And.intro (And.intro (And.intro (@V.lt.eq_12) (@okW0.eq_1)) (And.intro (@okW0.eq_2) (@okW0.eq_3))) (And.intro (And.intro (@okW1.eq_1) (@okW1.eq_2)) (And.intro (@okW.eq_1) (@okW.eq_2)))))
end Go.EL

/- The value logic, part YR: a range over a function. -/
set_option linter.unusedVariables false
set_option linter.unusedSimpArgs false
namespace Go.EL
open Go
variable {P : Program} {T : Nat → TD}

theorem Ext.trans0 {g0 n0 w0 g1 n1 w1 g2 n2 w2} (h : Ext g0 n0 w0 g1 n1 w1) (j : Ext g1 n0 w1 g2 n2 w2) : Ext g0 n0 w0 g2 n2 w2 := by
  refine ⟨j.os.trans h.os, j.output.trans h.output, j.tape.trans h.tape, Nat.le_trans h.size j.size, fun b hb => ?_, fun o ho k hk => ?_, j.nobj⟩
  · have a := h.frame b hb
    have c := j.frame b ⟨a.2.1, a.2.2⟩
    exact ⟨c.1.trans a.1, c.2⟩
  · rcases j.key o ho k hk with ⟨k1, h1, h2, h3⟩ | h1
    · rcases h.key o ho k1 h1 with ⟨k0, g1, g2, g3⟩ | g1
      · refine .inl ⟨k0, g1, Nat.le_trans g2 h2, fun e => ?_⟩
        have e1 : k = k1 := h3 (by omega)
        subst e1
        exact g3 e
      · exact .inr g1
    · rcases h.key o ho hole h1 with ⟨k0, g1, g2, g3⟩ | g1
      · right
        have : k0.ver = 0 := Nat.le_zero.1 g2
        rw [g1, ← g3 (by rw [this]; rfl)]
      · exact .inr g1
theorem Good.raw {g H w} (hG : Good g H w) {o b : Nat} {x : Obj} {vs cs} (h : H[o]? = some (.raw b x vs cs)) : (g o = some ⟨0, some b, 0, 0⟩ ∧ w.heap[b]? = some x) ∧ RepL (cxOf g H.length w) vs cs := by
  have := hG.ob o; rw [h] at this; exact this
/-- a raw object is written -/
theorem step_raw_set {g H w} (hG : Good g H w) {o b : Nat} {x : Obj} {vs cs} (y : Obj) (h : H[o]? = some (.raw b x vs cs)) :
    Good g (H.set o (.raw b y vs cs)) (w.putObj b y) ∧ Ext g H.length w g H.length (w.putObj b y) := by
  obtain ⟨⟨hk, hh⟩, hr⟩ := hG.raw h
  have hlt := (Array.getElem?_eq_some_iff.1 hh).1
  have hlo := (List.getElem?_eq_some_iff.1 h).1
  have := step_one hG o g (H.set o (.raw b y vs cs)) (w.putObj b y) rfl rfl rfl
    (fun o' ho' => List.getElem?_set_ne (Ne.symm ho')) (fun _ _ => rfl) (by simp) (by simp)
    (fun b' _ hb' => World.putObj_heap_other (fun e => hb' _ hk (by rw [e])))
    (fun k' b' hk' hb' => .inr ⟨k', hk', hb'⟩) (fun _ k' hk' => ⟨k', hk', Nat.le_refl _, fun _ => rfl⟩)
    (fun m => by
      rw [List.getElem?_set_self hlo]
      refine ⟨⟨hk, World.putObj_heap_same hlt⟩, hr.mono m⟩)
  rw [List.length_set] at this
  exact this
/-- a new raw object -/
theorem step_raw_new {g H w} (hG : Good g H w) (x : Obj) (vs : List V) (cs : List Value) (hr : RepL (cxOf g H.length w) vs cs) :
    Good (setKey g H.length (some ⟨0, some w.heap.size, 0, 0⟩)) (H ++ [.raw w.heap.size x vs cs]) (w.alloc x) ∧ Ext g H.length w (setKey g H.length (some ⟨0, some w.heap.size, 0, 0⟩)) (H.length + 1) (w.alloc x) := by
  have := step_new hG (.raw w.heap.size x vs cs) x ⟨0, some w.heap.size, 0, 0⟩ rfl (fun g' _ m => ⟨⟨rfl, heap_pushW_new w x⟩, hr.mono m⟩)
  exact this
theorem RepL.of {c : Cx} : ∀ {xs : List V} {vs : List Value}, xs.length = vs.length → (∀ (i : Nat) x v, xs[i]? = some x → vs[i]? = some v → RepV c x v) → RepL c xs vs
  | [], [], _, _ => trivial
  | x :: xs, v :: vs, hl, h => ⟨h 0 x v rfl rfl, RepL.of (by simpa using hl) fun i x v hx hv => h (i + 1) x v hx hv⟩
  | [], _ :: _, hl, _ => by simp at hl
  | _ :: _, [], hl, _ => by simp at hl
theorem RepL.get {c : Cx} : ∀ {xs : List V} {vs : List Value}, RepL c xs vs → ∀ {i : Nat} {x v}, xs[i]? = some x → vs[i]? = some v → RepV c x v
  | x :: xs, v :: vs, h, 0, y, u, hy, hu => by simp at hy hu; subst hy hu; exact h.1
  | x :: xs, v :: vs, h, i + 1, y, u, hy, hu => RepL.get h.2 (by simpa using hy) (by simpa using hu)
  | [], [], _, _, _, _, hy, _ => by simp at hy
  | [], _ :: _, h, _, _, _, _, _ => h.elim
  | _ :: _, [], h, _, _, _, _, _ => h.elim
def envL (n : Nat) (env : Env) : List V := (List.range n).map (eget env)
theorem eget_dead {n : Nat} : ∀ {env : Env}, (∀ p ∈ env, p.1 < n) → ∀ t, n ≤ t → eget env t = .dead
  | [], _, t, _ => rfl
  | (s, x) :: env, h, t, ht => by
    simp only [eget]
    have := h (s, x) (List.mem_cons_self ..)
    simp only at this
    rw [if_neg (by omega)]
    exact eget_dead (fun p hp => h p (List.mem_cons_of_mem _ hp)) t ht
theorem envL_rep {c : Cx} {n : Nat} {env : Env} {tm : Array Value} (hn : tm.size = n) (h : ∀ t, RepV c (eget env t) (tm.getD t undef)) : RepL c (envL n env) tm.toList := by
  refine RepL.of (by simp [envL, hn]) fun i x v hx hv => ?_
  have hi : i < n := by have := (List.getElem?_eq_some_iff.1 hv).1; simpa [hn] using this
  have e1 : x = eget env i := by
    unfold envL at hx
    rw [List.getElem?_map, List.getElem?_range hi] at hx
    injection hx with hx
    exact hx.symm
  have e2 : v = tm.getD i undef := by
    rw [Array.getElem?_toList] at hv
    simp [Array.getD_eq_getD_getElem?, hv]
  rw [e1, e2]; exact h i
theorem envL_get {c : Cx} {n : Nat} {env : Env} {tm : Array Value} (hn : tm.size = n) (hk : ∀ p ∈ env, p.1 < n) (h : RepL c (envL n env) tm.toList) : ∀ t, RepV c (eget env t) (tm.getD t undef) := by
  intro t
  by_cases ht : t < n
  · refine h.get (i := t) ?_ ?_
    · unfold envL; rw [List.getElem?_map, List.getElem?_range ht]; rfl
    · rw [Array.getElem?_toList]
      have : t < tm.size := by omega
      simp [Array.getD_eq_getD_getElem?, this]
  · rw [eget_dead hk t (by omega)]; trivial

def updP (env : Env) : List (Nat × V) → Env
  | [] => env
  | (t, v) :: us => updP (eset env t v) us
theorem eget_eset (env : Env) (t s : Nat) (x : V) : eget (eset env t x) s = if s = t then x else eget env s := by
  have := eget_eput env (some t) x s
  simp only [eput, Option.some.injEq] at this
  rw [this]
  by_cases h : t = s
  · subst h; simp
  · rw [if_neg h, if_neg (Ne.symm h)]
theorem updP_rep {c : Cx} : ∀ {l : List (Nat × V)} {m : List (Nat × Value)} {env : Env} {tmps : Array Value}, l.map Prod.fst = m.map Prod.fst → RepVals c (l.map Prod.snd) (m.map Prod.snd) → (∀ p ∈ l, p.1 < tmps.size) → (∀ t, RepV c (eget env t) (tmps.getD t undef)) →
    (m.foldl (fun tmps (t, a) => tmps.setIfInBounds t a) tmps).size = tmps.size ∧ ∀ t, RepV c (eget (updP env l) t) ((m.foldl (fun tmps (t, a) => tmps.setIfInBounds t a) tmps).getD t undef)
  | [], [], _, _, _, _, _, h => ⟨rfl, h⟩
  | (t, x) :: l, (s, v) :: m, env, tmps, he, hv, hl, h => by
    simp only [List.map_cons, List.cons.injEq] at he
    obtain ⟨e1, e2⟩ := he
    subst e1
    have hlt := hl _ (List.mem_cons_self ..)
    simp only at hlt
    have := updP_rep (c := c) (l := l) (m := m) (env := eset env t x) (tmps := tmps.setIfInBounds t v) e2 hv.2 (fun p hp => by rw [Array.size_setIfInBounds]; exact hl p (List.mem_cons_of_mem _ hp)) (fun u => by
      rw [eget_eset]
      by_cases hu : u = t
      · subst hu
        rw [if_pos rfl]
        have : (tmps.setIfInBounds u v).getD u undef = v := by simp [Array.getD_eq_getD_getElem?, hlt]
        rw [this]; exact hv.1
      · rw [if_neg hu]
        have : (tmps.setIfInBounds t v).getD u undef = tmps.getD u undef := by
          simp only [Array.getD_eq_getD_getElem?]
          rw [Array.getElem?_setIfInBounds_ne (Ne.symm hu)]
        rw [this]; exact h u)
    rw [Array.size_setIfInBounds] at this
    exact this
  | [], _ :: _, _, _, he, _, _, _ => by simp at he
  | _ :: _, [], _, _, he, _, _, _ => by simp at he

def mkD (D : Nat) : Deferred := { target := .collected D, args := #[] }
def dfr : Obj := .deferred (some [])

/-- A RANGE OVER A FUNCTION, whose rounds all go on. -/
theorem range_wp {ps : Array Tmp} {assign body : Code} {tg : Operand} {gf : FuncId} {cap : List V} {α ι : Type} (xs : List α) (enc : α → List V) (hs : ι → List Ob) (ok : List α → ι → Prop) (x0 : ι) (eM : α → Nat → Env) (M : α → Nat → List Ob)
    {n : Nat} {env : Env} (hcall : ∀ args w, (callFunc gf args).run P w = .ok (.enter gf args) w) (hg : evl env tg = .fn (.func gf) [] cap)
    (h0 : ok [] x0) (hlen : ∀ x, (hs x).length = (hs x0).length) (henc : ∀ a, (enc a).length = ps.size) (hps : ∀ t ∈ ps.toList, t < n) (hkn : ∀ p ∈ env, p.1 < n)
    (hit : ∀ l R, (∀ pre a post x L, xs = pre ++ a :: post → ok pre x → YSCall P l (enc a) (hs x ++ (R ++ L)) (fun r H' => r = .bool true ∧ ∃ x', ok (pre ++ [a]) x' ∧ H' = hs x' ++ (R ++ L))) →
      SCall P gf (.fn (.yield l) [] [] :: cap) (hs x0 ++ R) (fun _ H' => ∃ x', ok xs x' ∧ H' = hs x' ++ R))
    (hassign : ∀ pre a post x R, xs = pre ++ a :: post → ok pre x → EWn P (hs x ++ R).length n assign (thenE (fun e h => e = eM a (hs x ++ R).length ∧ h = hs x ++ R ++ M a (hs x ++ R).length) (fun _ _ _ => False)) (updP env (ps.toList.zip (enc a))) (hs x ++ R))
    (hbody : ∀ pre a post x R, xs = pre ++ a :: post → ok pre x → HLt (hs x ++ R).length (hs x ++ R) → EWn P (hs x ++ R).length n body (fun e => UpTo (hs x ++ R).length (fun _ h => e = .normal ∧ ∃ x', ok (pre ++ [a]) x' ∧ h = hs x' ++ R)) (eM a (hs x ++ R).length) (hs x ++ R ++ M a (hs x ++ R).length))
    {a : Act} {w : World} {g : Nat → Option Key} (hR : Rel [] n env (hs x0) g a w) {Q : Exit → Act → World → Prop}
    (hQ : ∀ D l y vs cs x' g' w', ok xs x' → Rel [mkD D] n env (hs x' ++ [Ob.raw D dfr [] [], Ob.raw l y vs cs]) g' { a with defers := [mkD D] } w' → Ext g (hs x0).length w g' (hs x' ++ [Ob.raw D dfr [] [], Ob.raw l y vs cs]).length w' → Q .normal { a with defers := [mkD D] } w') :
    (Code.rangeFunc tg ps assign body).wpIn (fz none) 0 P Q a w := by
  refine wpIn_rangeFunc fun fn _ => ?_
  obtain ⟨hn, hd, hE, hG⟩ := hR
  obtain ⟨D, hD⟩ : ∃ D, D = w.heap.size := ⟨_, rfl⟩
  obtain ⟨rec, hrec⟩ : ∃ rec : Loop, rec = { state := .ready, pending := none, fn, tmps := a.tmps, params := ps, assign, body, defers := D } := ⟨_, rfl⟩
  obtain ⟨vs, hvs⟩ : ∃ vs, vs = envL n env := ⟨_, rfl⟩
  obtain ⟨cs, hcs⟩ : ∃ cs, cs = a.tmps.toList := ⟨_, rfl⟩
  have hrl : RepL (cxOf g (hs x0).length w) vs cs := by rw [hvs, hcs]; exact envL_rep hn hE
  obtain ⟨W1, hW1⟩ : ∃ W1, W1 = (w.alloc dfr).alloc (.loop rec) := ⟨_, rfl⟩
  obtain ⟨R, hRd⟩ : ∃ R : List Ob, R = [Ob.raw D dfr [] [], Ob.raw (D + 1) (.loop rec) vs cs] := ⟨_, rfl⟩
  have hlenR : ∀ x, (hs x ++ R).length = (hs x0).length + 1 + 1 := fun x => by rw [hRd, List.length_append, hlen]; rfl
  obtain ⟨g2, hG2, hX2⟩ : ∃ g2, Good g2 (hs x0 ++ R) W1 ∧ Ext g (hs x0).length w g2 (hs x0 ++ R).length W1 := by
    obtain ⟨hG1, hX1⟩ := step_raw_new hG dfr [] [] trivial
    have hX1' := hX1
    have e1 : (hs x0).length + 1 = (hs x0 ++ [Ob.raw w.heap.size dfr [] []]).length := by simp
    rw [e1] at hX1'
    obtain ⟨hG2, hX2⟩ := step_raw_new hG1 (.loop rec) vs cs (hrl.mono hX1'.mono)
    have hT := hX1'.trans hX2
    refine ⟨setKey (setKey g (hs x0).length (some ⟨0, some w.heap.size, 0, 0⟩)) (hs x0 ++ [Ob.raw w.heap.size dfr [] []]).length (some ⟨0, some (w.alloc dfr).heap.size, 0, 0⟩), ?_, ?_⟩
    · rw [hRd, hW1, hD]
      have h3 := hG2
      simp only [World.size_alloc, List.append_assoc] at h3 ⊢
      exact h3
    · rw [hlenR x0, hW1, show (hs x0).length + 1 + 1 = (hs x0 ++ [Ob.raw w.heap.size dfr [] []]).length + 1 from by simp]
      exact hT
  have hf := hE.ev tg
  rw [hg] at hf
  have hl := hf.leaf (by simp) (by simp)
  have hcapm := hl
  simp only [RepC] at hl
  obtain ⟨x, y, hu, hx1, hy1⟩ := hl
  injection hu with hu
  have hxe : x = [] := by simpa only [RepVs] using hx1
  subst hxe
  refine ⟨D + 1, [mkD D], W1, { target := .fn (.func gf) y.toArray, args := #[.func (.yield (D + 1)) #[] #[]] }, W1, gf, #[.func (.yield (D + 1)) #[] #[]] ++ y.toArray, W1, ?_, ?_, ?_, ?_, fz_depth, ?_⟩
  · rw [hW1, hrec, hD]; exact run_enterLoop_outer _ _ _ _ _
  · simp only [resolve, hu]
    simp [go_sem]
  · intro f' _; trivial
  · simp [invoke, go_sem, hcall]
  have hidx : ∀ x L, (hs x ++ (R ++ L))[(hs x).length + 1]? = some (Ob.raw (D + 1) (.loop rec) vs cs) := fun x L => by rw [hRd, hget]; rfl
  -- one round
  have hY : ∀ pre a' post x L, xs = pre ++ a' :: post → ok pre x → YSCall P (D + 1) (enc a') (hs x ++ (R ++ L)) (fun r H' => r = .bool true ∧ ∃ x', ok (pre ++ [a']) x' ∧ H' = hs x' ++ (R ++ L)) := by
    intro pre a' post x L hxs hok g3 w3 cargs hG3 hca
    obtain ⟨⟨hk3, hh3⟩, hr3⟩ := hG3.raw (hidx x L)
    have hcsz : cargs.size = ps.size := by
      have := hca.length
      rw [henc] at this
      rw [Array.length_toList] at this
      exact this
    have hy := run_yield (P := P) (args := cargs) hh3 (by rw [hrec]; exact hcsz)
    refine ⟨_, _, _, _, hy, roundIn_of_wpIn trivial ?_⟩
    have hup := updP_rep (c := cxOf g3 (hs x ++ (R ++ L)).length w3) (l := ps.toList.zip (enc a')) (m := (ps.zip cargs).toList) (env := env) (tmps := a.tmps)
      (by rw [Array.toList_zip, List.map_fst_zip (by rw [henc]; simp), List.map_fst_zip (by simp [hcsz])])
      (by rw [Array.toList_zip, List.map_snd_zip (by rw [henc]; simp), List.map_snd_zip (by simp [hcsz])]; exact hca)
      (fun p hp => by rw [hn]; exact hps _ (List.of_mem_zip hp).1)
      (by rw [hvs, hcs] at hr3; exact envL_get hn hkn hr3)
    have hfold : (ps.zip cargs).foldl (fun tmps (t, a) => tmps.setIfInBounds t a) a.tmps = (ps.zip cargs).toList.foldl (fun tmps (t, a) => tmps.setIfInBounds t a) a.tmps := by rw [Array.foldl_toList]
    have hRel0 : Rel [] n (updP env (ps.toList.zip (enc a'))) (hs x ++ (R ++ L)) g3 { tmps := (rec.params.zip cargs).foldl (fun tmps (t, a) => tmps.setIfInBounds t a) rec.tmps, defers := [] } w3 := by
      rw [hrec]
      simp only
      rw [hfold]
      exact ⟨by rw [hup.1, hn], rfl, hup.2, hG3⟩
    have hea : rec.assign = assign := by rw [hrec]
    have heb : rec.body = body := by rw [hrec]
    rw [hea, heb]
    refine wpIn_mono (hassign pre a' post x (R ++ L) hxs hok (some (D + 1)) [] g3 w3 g3 _ w3 hRel0 (Ext.refl _ _ _)) fun e a4 w4 ⟨env4, H4, g4, hR4, hX4, hm⟩ => ?_
    cases e with
    | normal =>
      obtain ⟨he4, hH4⟩ : env4 = eM a' (hs x ++ (R ++ L)).length ∧ H4 = hs x ++ (R ++ L) ++ M a' (hs x ++ (R ++ L)).length := hm
      subst he4 hH4
      have hlt1 : (hs x).length + 1 < (hs x ++ (R ++ L)).length := by rw [hRd]; simp
      have hi4 : ∀ z, (hs z ++ (R ++ L) ++ M a' (hs x ++ (R ++ L)).length)[(hs z).length + 1]? = some (Ob.raw (D + 1) (.loop rec) vs cs) := fun z => by
        rw [List.getElem?_append_left (by rw [hRd]; simp)]; exact hidx z L
      obtain ⟨⟨hk4, hh4⟩, _⟩ := hR4.2.2.2.raw (hi4 x)
      refine ⟨_, run_beginRound hh4 (by rw [hrec]), ?_⟩
      obtain ⟨hG5, hX5⟩ := step_raw_set hR4.2.2.2 (.loop { rec with state := .busy }) (hi4 x)
      obtain ⟨Rb, hRb⟩ : ∃ Rb : List Ob, Rb = [Ob.raw D dfr [] [], Ob.raw (D + 1) (.loop { rec with state := .busy }) vs cs] := ⟨_, rfl⟩
      have hset : (hs x ++ (R ++ L) ++ M a' (hs x ++ (R ++ L)).length).set ((hs x).length + 1) (.raw (D + 1) (.loop { rec with state := .busy }) vs cs) = hs x ++ (Rb ++ L) ++ M a' (hs x ++ (Rb ++ L)).length := by
        have el : (hs x ++ (Rb ++ L)).length = (hs x ++ (R ++ L)).length := by rw [hRd, hRb]; simp
        rw [el, List.set_append_left _ _ hlt1, List.set_append_right _ _ (by omega), Nat.add_sub_cancel_left, hRd, hRb]
        rfl
      rw [hset] at hG5
      have hlb : (hs x ++ (Rb ++ L)).length = (hs x ++ (R ++ L)).length := by rw [hRd, hRb]; simp
      have hll : (hs x ++ (R ++ L) ++ M a' (hs x ++ (R ++ L)).length).length = (hs x ++ (Rb ++ L) ++ M a' (hs x ++ (Rb ++ L)).length).length := by rw [@List.length_append _ (hs x ++ (R ++ L)) _, @List.length_append _ (hs x ++ (Rb ++ L)) _, hlb]
      have hR5 : Rel [] n (eM a' (hs x ++ (Rb ++ L)).length) (hs x ++ (Rb ++ L) ++ M a' (hs x ++ (Rb ++ L)).length) g4 a4 (w4.putObj (D + 1) (.loop { rec with state := .busy })) := by
        refine ⟨hR4.1, hR4.2.1, ?_, hG5⟩
        have := hR4.2.2.1.mono hX5.mono
        rw [← hll, hlb]
        exact this
      have hX45 := hX4.trans hX5
      rw [hll] at hX45
      rw [← hlb] at hX45
      have hltb : HLt (hs x ++ (Rb ++ L)).length (hs x ++ (Rb ++ L)) := by
        have h3 : HLt (hs x ++ (R ++ L)).length (hs x ++ (R ++ L)) := fun x hx => by obtain ⟨i, hi⟩ := List.getElem?_of_mem hx; exact hG3.lt hi
        rw [hlb]
        rw [hRd] at h3 ⊢
        rw [hRb]
        simp only [HLt_append, HLt_cons] at h3 ⊢
        exact h3
      refine wpIn_mono (hbody pre a' post x (Rb ++ L) hxs hok hltb (some (D + 1)) [] g3 w3 g4 a4 _ hR5 hX45) fun e a6 w6 ⟨env6, H6, g6, hR6, hX6, hm6⟩ => ?_
      obtain ⟨env7, H7, hg7, rfl, x', hok', hH7⟩ := hm6
      obtain ⟨g7, hR7, hX7⟩ := hg7.rel hR6
      have hX7 := hX7 _ _ hX6
      subst hH7
      have hi7 : (hs x' ++ (Rb ++ L))[(hs x').length + 1]? = some (Ob.raw (D + 1) (.loop { rec with state := .busy }) vs cs) := by rw [hRb, hget]; rfl
      obtain ⟨⟨hk7, hh7⟩, _⟩ := hR7.2.2.2.raw hi7
      have hend := run_endRound (P := P) none hh7
      refine ⟨_, _, hend, .bool true, rfl, .bool true, hs x' ++ (R ++ L), g7, ?_, ?_, ?_, rfl, x', hok', rfl⟩
      all_goals
        have hrr : ({ { rec with state := .busy } with state := if (none : Option Code).isNone then .ready else .done, pending := none } : Loop) = rec := by rw [hrec]; rfl
        rw [hrr]
        obtain ⟨hG8, hX8⟩ := step_raw_set hR7.2.2.2 (.loop rec) hi7
        have hset8 : (hs x' ++ (Rb ++ L)).set ((hs x').length + 1) (.raw (D + 1) (.loop rec) vs cs) = hs x' ++ (R ++ L) := by
          rw [List.set_append_right _ _ (by omega), Nat.add_sub_cancel_left, hRd, hRb]
          rfl
        rw [hset8] at hG8
        have hl8 : (hs x' ++ (Rb ++ L)).length = (hs x' ++ (R ++ L)).length := by rw [hRd, hRb]; simp
      · exact hG8
      · have := hX7.trans hX8
        rw [hlb] at this
        rw [← hl8]
        exact this
      · exact RepV.mk_leaf (by simp only [RepC]) (by simp) (by simp)
    | ret => exact hm.elim
    | exit id => exact hm.elim
    | goto l => exact hm.elim
    | panic ch => exact hm.elim
    | outgrown => exact hm.elim
  -- the function that is ranged over
  have hS := hit (D + 1) R hY g2 W1 (#[.func (.yield (D + 1)) #[] #[]] ++ y.toArray) hG2 (by
    rw [Array.toList_append]
    refine ⟨RepV.mk_leaf (by simp only [RepC]; exact ⟨[], [], rfl, by simp only [RepVs], by simp only [RepVs]⟩) (by simp) (by simp), ?_⟩
    have : RepVs (cxOf g2 (hs x0 ++ R).length W1) cap y := RepVs.mono hX2.mono cap y hy1
    simpa using this.vals)
  unfold CallR at hS
  rw [hcall] at hS
  refine callsIn_fz (Calls.mono hS fun e w9 ⟨v, he, r, H9, g9, hG9, hX9, hr9, x', hok', hH9⟩ => ?_)
  subst he hH9
  have hi9 : (hs x' ++ R)[(hs x').length + 1]? = some (Ob.raw (D + 1) (.loop rec) vs cs) := by have := hidx x' []; rwa [List.append_nil] at this
  obtain ⟨⟨hk9, hh9⟩, _⟩ := hG9.raw hi9
  have hel := run_endLoop (P := P) hh9 (by rw [hrec]; simp)
  refine ⟨rec.pending, _, hel, ?_⟩
  have hpn : rec.pending = none := by rw [hrec]
  rw [hpn]
  simp only
  obtain ⟨hGA, hXA⟩ := step_raw_set hG9 (.loop { rec with state := .exhausted }) hi9
  have hsetA : (hs x' ++ R).set ((hs x').length + 1) (.raw (D + 1) (.loop { rec with state := .exhausted }) vs cs) = hs x' ++ [.raw D dfr [] [], .raw (D + 1) (.loop { rec with state := .exhausted }) vs cs] := by
    rw [List.set_append_right _ _ (by omega), Nat.add_sub_cancel_left, hRd]
    rfl
  rw [hsetA] at hGA
  have hlA : (hs x' ++ R).length = (hs x' ++ [Ob.raw D dfr [] [], .raw (D + 1) (.loop { rec with state := .exhausted }) vs cs]).length := by rw [hRd]; simp
  have hXf := (hX2.trans hX9).trans hXA
  rw [hlA] at hXf
  rw [hpn] at hGA hXf
  have hdd : ({ a with defers := [mkD D] ++ a.defers } : Act) = { a with defers := [mkD D] } := by rw [hd]; rfl
  rw [hdd]
  exact hQ D (D + 1) _ vs cs x' g9 _ hok' ⟨hn, rfl, fun t => (hE t).mono hXf.mono, hGA⟩ hXf

/-- the walk of the first k + 1 statements: the rest is any code -/
theorem cut_wp (hTO : TyOK P T) (hm : P.follows .mixedOrders = true) {own : Bool} {n0 n : Nat} (keep : Nat → List Nat) (tab : Nat → List Nat × List Nat) (M : Env → List Ob → Prop) {Q' : Exit → Act → World → Prop} {rd : Option Nat} {ds : List Deferred} {gs : Nat → Option Key} {ws : World} : ∀ (k : List Unit) {c : Code} {env : Env} {H : List Ob}, longC k c = true → okC n tab (headC k c) = true →
    ewC P T own n0 n keep tab (headC k c) (thenE M (fun _ _ _ => False)) env H → (∀ env' H' g' a' w', M env' H' → Rel ds n env' H' g' a' w' → Ext gs n0 ws g' H'.length w' → (tailC k c).wpIn (fz rd) 0 P Q' a' w') →
    ∀ {g : Nat → Option Key} {a : Act} {w : World}, Rel ds n env H g a w → Ext gs n0 ws g H.length w → c.wpIn (fz rd) 0 P Q' a w
  | [], .seq a b, env, H, _, ho, h, hk, g, ac, w, hR, he => by
    refine wpIn_seq (wpIn_mono (EWn.of_c hTO hm keep tab ho h rd ds gs ws g ac w hR he) fun e a' w' ⟨env', H', g', h1, h2, h3⟩ => ?_)
    cases e with
    | normal => exact hk _ _ _ _ _ h3 h1 h2
    | _ => exact h3.elim
  | _ :: k, .seq a b, env, H, hl, ho, h, hk, g, ac, w, hR, he => by
    simp only [headC, okC, Bool.and_eq_true] at ho
    refine wpIn_seq (wpIn_mono (EWn.of_c hTO hm keep tab ho.1 h rd ds gs ws g ac w hR he) fun e a' w' ⟨env', H', g', h1, h2, h3⟩ => ?_)
    cases e with
    | normal => exact cut_wp hTO hm keep tab M k hl ho.2 h3 hk h1 h2
    | _ => exact h3.elim

/-- the answer of a function that ranged over a function: the block of the rounds' deferred calls, shut -/
def RetD (T : Nat → TD) (rs : List ResultVar) (H0 : List Ob) (o D : Nat) (R : V → List Ob → Prop) (e : Exit) (env : Env) (H : List Ob) : Prop :=
  H[o]? = some (.raw D dfr [] []) ∧ RetE T rs H0 R e env (H.set o (.raw D (.deferred none) [] []))

/-- A CALL OF A FUNCTION WITH ONE RANGE OVER A FUNCTION, whose rounds all go on. -/
theorem SCall.of_range (hTO : TyOK P T) (hmx : P.follows .mixedOrders = true) {f : FuncId} {fn : Func} {c : Code} {args : List V} {H : List Ob} {R : V → List Ob → Prop} (hf : P.funcs[f]? = some fn) (hb : fn.body = some c) (hcall : ∀ args w, (callFunc f args).run P w = .ok (.enter f args) w)
    {n : Nat} (hn : fn.ntmps = n) (hargs : args.length ≤ n) {rs : List ResultVar} (hrs : fn.results = rs.toArray)
    (k : List Unit) {c1 ch post assign body : Code} {bid : Nat} {tg : Operand} {ps : Array Tmp} (hh : headC k c = c1) (ht : tailC k c = .seq (.seq ch (.block bid (.rangeFunc tg ps assign body))) post) (hl : longC k c = true)
    {own : Bool} (keep : Nat → List Nat) (tab : Nat → List Nat × List Nat) (hok : okC n tab c1 = true) (hok2 : okC n tab ch = true)
    {env : Env} {gf : FuncId} {cap : List V} {α ι : Type} (xs : List α) (enc : α → List V) (hs : ι → List Ob) (ok : List α → ι → Prop) (x0 : ι) (eM : α → Nat → Env) (M : α → Nat → List Ob)
    (hhead : ewC P T own H.length n keep tab c1 (thenE (ewC P T own H.length n keep tab ch (thenE (UpTo H.length fun e h => e = env ∧ h = hs x0) (fun _ _ _ => False))) (fun _ _ _ => False)) (argEnv 0 args) H)
    (hcall2 : ∀ args w, (callFunc gf args).run P w = .ok (.enter gf args) w) (hg : evl env tg = .fn (.func gf) [] cap)
    (h0 : ok [] x0) (hlen : ∀ x, (hs x).length = (hs x0).length) (henc : ∀ a, (enc a).length = ps.size) (hps : ∀ t ∈ ps.toList, t < n) (hkn : ∀ p ∈ env, p.1 < n)
    (hit : ∀ l R, (∀ pre a post x L, xs = pre ++ a :: post → ok pre x → YSCall P l (enc a) (hs x ++ (R ++ L)) (fun r H' => r = .bool true ∧ ∃ x', ok (pre ++ [a]) x' ∧ H' = hs x' ++ (R ++ L))) →
      SCall P gf (.fn (.yield l) [] [] :: cap) (hs x0 ++ R) (fun _ H' => ∃ x', ok xs x' ∧ H' = hs x' ++ R))
    (hassign : ∀ pre a post x R, xs = pre ++ a :: post → ok pre x → EWn P (hs x ++ R).length n assign (thenE (fun e h => e = eM a (hs x ++ R).length ∧ h = hs x ++ R ++ M a (hs x ++ R).length) (fun _ _ _ => False)) (updP env (ps.toList.zip (enc a))) (hs x ++ R))
    (hbody : ∀ pre a post x R, xs = pre ++ a :: post → ok pre x → HLt (hs x ++ R).length (hs x ++ R) → EWn P (hs x ++ R).length n body (fun e => UpTo (hs x ++ R).length (fun _ h => e = .normal ∧ ∃ x', ok (pre ++ [a]) x' ∧ h = hs x' ++ R)) (eM a (hs x ++ R).length) (hs x ++ R ++ M a (hs x ++ R).length))
    (hpost : ∀ D l y vs cs x', ok xs x' → EWn P H.length n post (RetD T rs H (hs x0).length D R) env (hs x' ++ [.raw D dfr [] [], .raw l y vs cs])) : SCall P f args H R := by
  intro g w cargs hG ha
  have hlena := ha.length
  simp only [Array.length_toList] at hlena
  unfold CallR
  rw [hcall]
  simp only
  refine callsIn_wide.1 (callsIn_of_wp_marks (n := 0) hf hb trivial ?_)
  have hR : Rel [] n (argEnv 0 args) H g { tmps := cargs ++ Array.replicate (fn.ntmps - cargs.size) undef, defers := [] } w := by
    refine ⟨by simp; omega, rfl, fun t => ?_, hG⟩
    refine argEnv_rep args cargs.toList 0 (fun t => (cargs ++ Array.replicate (fn.ntmps - cargs.size) undef).getD t undef) ha (fun i v hv => ?_) t
    have hi : i < cargs.size := by have := (List.getElem?_eq_some_iff.1 hv).1; simpa using this
    simp only [Nat.zero_add]
    rw [Array.getElem?_toList] at hv
    rw [Array.getElem?_eq_getElem hi] at hv
    injection hv with hv
    simp [Array.getElem?_append, hi, hv]
  subst hh
  refine cut_wp hTO hmx keep tab _ k hl hok hhead ?_ hR (Ext.refl g H.length w)
  intro env0 H0 g0 a0 w0 hch hR0 hX0
  rw [ht]
  refine wpIn_seq (wpIn_seq (wpIn_mono (EWn.of_c hTO hmx keep tab hok2 hch none [] g w g0 a0 w0 hR0 hX0) fun e0 a1 w1 ⟨env1', H1, g1', h1, h2, h3⟩ => ?_))
  cases e0 with
  | normal => ?_
  | _ => exact h3.elim
  obtain ⟨e2, H2, h3, rfl, rfl⟩ := h3
  obtain ⟨g1, hR1, hX1⟩ := h3.rel h1
  have hX1 := hX1 _ _ h2
  refine wpIn_block ((range_wp xs enc hs ok x0 eM M hcall2 hg h0 hlen henc hps hkn hit hassign hbody hR1 fun D l y vs cs x' g2 w2 hok2 hR2 hX2 => ?_))
  have hX3 : Ext g H.length w g2 (hs x' ++ [Ob.raw D dfr [] [], Ob.raw l y vs cs]).length w2 := hX1.trans hX2
  refine wpIn_mono (hpost D l y vs cs x' hok2 none [mkD D] g w g2 _ w2 hR2 hX3) fun e a4 w4 ⟨env4, H4, g4, hR4, hX4, hD4, hE4⟩ => ?_
  obtain ⟨⟨hk4, hh4⟩, _⟩ := hR4.2.2.2.raw hD4
  obtain ⟨hG5, hX5⟩ := step_raw_set hR4.2.2.2 (.deferred none) hD4
  have hX6 := hX4.trans hX5
  have hE5 : EnvRep (cxOf g4 H4.length (w4.putObj D (.deferred none))) env4 a4 := hR4.2.2.1.mono hX5.mono
  have hl5 : H4.length = (H4.set (hs x0).length (.raw D (.deferred none) [] [])).length := by rw [List.length_set]
  rw [hl5] at hX6 hE5
  have key : ∀ {u : FrameMode}, u = .returning → retVals T env4 (H4.set (hs x0).length (.raw D (.deferred none) [] [])) rs (fun vs => Need (vs.any V.isDead = false) (RetW H.length H R (tupled vs) (H4.set (hs x0).length (.raw D (.deferred none) [] [])))) →
      LeavesInM Fence.wide 0 P fn a4.tmps (fun e w' => ∃ v, e = .returned v ∧ ∃ r H'' g'', Good g'' H'' w' ∧ Ext g H.length w g'' H''.length w' ∧ RepV (cxOf g'' H''.length w') r v ∧ R r H'') a4.defers u w4 := by
    intro u hu h3
    subst hu
    rw [hR4.2.1]
    refine ⟨by simp, .inl ⟨D, _, rfl, run_takeDeferred hh4, ?_⟩⟩
    obtain ⟨vs, cvs, ⟨k0, n1, r', k1, k2, k3, k4, k5⟩, k6, k7⟩ := retVals_run hTO hG5 hE5 rs h3
    have hrun := results_eq (P := P) (fn := fn) (a := a4) (cvs := cvs) (by rw [hrs]; exact k7)
    refine ⟨_, hrun, _, rfl, r', (H4.set (hs x0).length (.raw D (.deferred none) [] [])).take n1, cutKey g4 n1, ?_, ?_, ?_, k5⟩
    · refine hG5.cut n1 k2 (fun o x ho hx => ?_)
      rcases k4 o x ho hx with e | e
      · have := hG.lt e
        cases x with
        | gone => trivial
        | hole => trivial
        | var cs => exact ltL_le k1 _ this
        | vec _ _ l => exact ltL_le k1 _ this
        | raw _ _ vs _ => exact ltL_le k1 _ this
        | map l _ => exact ltL_le k1 _ this
        | iter _ _ _ _ => exact Nat.lt_of_lt_of_le this k1
      · exact e
    · rw [List.length_take, Nat.min_eq_left k2]
      exact hX6.cut n1 k1
    · rw [List.length_take, Nat.min_eq_left k2]
      exact k3.repV hG5 k2 (tupled_rep k6 (fun v hv e => by
        have := List.any_eq_false.1 k0 v hv
        subst e
        simp [V.isDead] at this))
  cases e with
  | normal => exact key rfl hE4
  | ret => exact key rfl hE4
  | exit id => exact hE4.elim
  | goto l => exact hE4.elim
  | panic ch => exact hE4.elim
  | outgrown => exact hE4.elim
end Go.EL

/- The value logic, part Z: the rules of the walk, in one. -/
set_option linter.unusedVariables false
set_option linter.unusedSimpArgs false
namespace Go.EL
open Go
theorem RB : type_of% (And.intro (And.intro (And.intro (And.intro (And.intro (And.intro (And.intro (And.intro (@ewDraw3.eq_1) (@ewDraw3.eq_2)) (And.intro (@drawStep3.eq_1) (And.intro (@isBase.eq_1) (@List.getElem?_cons_succ.{0})))) (And.intro (And.intro (@List.getElem?_cons_zero.{0}) (And.intro (@List.getElem?_nil.{0}) (@xbuiltin.eq_6))) (And.intro (@xop.eq_1) (And.intro (@xop.eq_2) (@xop.eq_3))))) (And.intro (And.intro (And.intro (@xop.eq_4) (And.intro (@xop.eq_5) (@xop.eq_6))) (And.intro (@xop.eq_7) (And.intro (@xop.eq_8) (@xop.eq_9)))) (And.intro (And.intro (@xop.eq_10) (And.intro (@xop.eq_11) (@xop.eq_12))) (And.intro (@xop.eq_13) (And.intro (@xop.eq_14) (@xop.eq_15)))))) (And.intro (And.intro (And.intro (And.intro (@xop.eq_16) (@xop.eq_17)) (And.intro (@xop.eq_18) (And.intro (@xop.eq_19) (@xop.eq_20)))) (And.intro (And.intro (@xop.eq_21) (And.intro (@xop.eq_22) (@xop.eq_23))) (And.intro (@xop.eq_24) (And.intro (@xop.eq_25) (@xop.eq_26))))) (And.intro (And.intro (And.intro (@xop.eq_27) (And.intro (@xop.eq_28) (@xop.eq_29))) (And.intro (@xop.eq_30) (And.intro (@xop.eq_31) (@xop.eq_32)))) (And.intro (And.intro (@drawStep.eq_1) (And.intro (@isStab.eq_1) (@xlookup.eq_1))) (And.intro (@xmapUpdate.eq_1) (And.intro (@xdelete.eq_1) (@xentry.eq_1))))))) (And.intro (And.intro (And.intro (And.intro (And.intro (@xentry.eq_2) (@xmapLen.eq_1)) (And.intro (@xmapLen.eq_2) (And.intro (@xmapLen.eq_3) (@isNilS.eq_1)))) (And.intro (And.intro (@isNilS.eq_2) (And.intro (@xmaybe.eq_1) (@xmaybe.eq_2))) (And.intro (@xmaybe.eq_3) (And.intro (@xfound.eq_1) (@mclk.eq_1))))) (And.intro (And.intro (And.intro (@Int.toNat_zero) (And.intro (@Int.toNat_one) (@decide_true))) (And.intro (@decide_false) (And.intro (@ewDraw2.eq_1) (@ewDraw2.eq_2)))) (And.intro (And.intro (@ewDrawX.eq_1) (And.intro (@drawStep2.eq_1) (@ewOps.eq_1))) (And.intro (@ewOps.eq_2) (And.intro (@xload.eq_1) (@xload.eq_2)))))) (And.intro (And.intro (And.intro (And.intro (@xload.eq_3) (@xload.eq_4)) (And.intro (@xstore.eq_1) (And.intro (@xstore.eq_2) (@xstore.eq_3)))) (And.intro (And.intro (@xfieldAddr.eq_1) (And.intro (@xbin.eq_1) (@xbin.eq_2))) (And.intro (@xbin.eq_3) (And.intro (@xbin.eq_4) (@xbin.eq_5))))) (And.intro (And.intro (And.intro (@xbin.eq_6) (And.intro (@xbin.eq_7) (@xbin.eq_8))) (And.intro (@xbin.eq_9) (And.intro (@xbin.eq_10) (@xbin.eq_11)))) (And.intro (And.intro (@xbin.eq_12) (And.intro (@xbin.eq_13) (@xbin.eq_14))) (And.intro (@xbin.eq_15) (And.intro (@xbin.eq_16) (@xbin.eq_17)))))))) (And.intro (And.intro (And.intro (And.intro (And.intro (And.intro (@xbin.eq_18) (@xbin.eq_19)) (And.intro (@xbin.eq_20) (And.intro (@xbin.eq_21) (@xbin.eq_22)))) (And.intro (And.intro (@xbin.eq_23) (And.intro (@xbin.eq_24) (@xbin.eq_25))) (And.intro (@xbin.eq_26) (And.intro (@xbin.eq_27) (@xbin.eq_28))))) (And.intro (And.intro (And.intro (@xbin.eq_29) (And.intro (@xtoStr.eq_1) (@xbuiltin.eq_1))) (And.intro (@xbuiltin.eq_2) (And.intro (@xbuiltin.eq_3) (@xbuiltin.eq_4)))) (And.intro (And.intro (@xbuiltin.eq_5) (And.intro (@xappend.eq_1) (@xmin.eq_1))) (And.intro (@xmin.eq_2) (And.intro (@elems.eq_1) (@elems.eq_2)))))) (And.intro (And.intro (And.intro (And.intro (@elems.eq_3) (@elems.eq_4)) (And.intro (@elems.eq_5) (And.intro (@live.eq_1) (@live.eq_2)))) (And.intro (And.intro (@live.eq_3) (And.intro (@live.eq_4) (@eqLeaves.eq_1))) (And.intro (@eqLeaves.eq_2) (And.intro (@eqLeaves.eq_3) (@eqLeaf.eq_1))))) (And.intro (And.intro (And.intro (@eqLeaf.eq_2) (And.intro (@eqLeaf.eq_3) (@eqLeaf.eq_4))) (And.intro (@mkV.eq_1) (And.intro (@TK.isAgg.eq_1) (@TK.isAgg.eq_2)))) (And.intro (And.intro (@TK.isAgg.eq_3) (And.intro (@evl.eq_1) (@evl.eq_2))) (And.intro (@evl.eq_3) (And.intro (@evl.eq_4) (@ofValue.eq_1))))))) (And.intro (And.intro (And.intro (And.intro (And.intro (@ofValue.eq_2) (@ofLeaf.eq_1)) (And.intro (@ofLeaf.eq_2) (And.intro (@ofLeaf.eq_3) (@ofLeaf.eq_4)))) (And.intro (And.intro (@ofLeaf.eq_5) (And.intro (@ofLeaf.eq_6) (@ofLeaf.eq_7))) (And.intro (@ofLeaf.eq_8) (And.intro (@ofLeaf.eq_9) (@V.isDead.eq_1))))) (And.intro (And.intro (And.intro (@V.isDead.eq_2) (And.intro (@eput.eq_1) (@eput.eq_2))) (And.intro (@eset.eq_1) (And.intro (@eset.eq_2) (@eget.eq_1)))) (And.intro (And.intro (@eget.eq_2) (And.intro (@argEnv.eq_1) (@argEnv.eq_2))) (And.intro (@restr.eq_1) (And.intro (@thenE.eq_1) (@thenE.eq_2)))))) (And.intro (And.intro (And.intro (And.intro (@thenE.eq_3) (And.intro (@thenE.eq_4) (@thenE.eq_5))) (And.intro (@thenE.eq_6) (And.intro (@inBlockE.eq_1) (@inBlockE.eq_2)))) (And.intro (And.intro (@inBlockE.eq_3) (And.intro (@inBlockE.eq_4) (@inBlockE.eq_5))) (And.intro (@inBlockE.eq_6) (And.intro (@gval.eq_1) (@V.cells.eq_1))))) (And.intro (And.intro (And.intro (@V.cells.eq_2) (And.intro (@V.storable.eq_1) (@V.storable.eq_2))) (And.intro (@V.leaf.eq_1) (And.intro (@V.leaf.eq_2) (@V.leaf.eq_3)))) (And.intro (And.intro (@V.leaf.eq_4) (And.intro (@V.withCells.eq_1) (@V.withCells.eq_2))) (And.intro (@splice.eq_1) (And.intro (@fillV.eq_1) (@fillV.eq_2))))))))) (And.intro (And.intro (And.intro (And.intro (And.intro (And.intro (And.intro (@loOf.eq_1) (@loOf.eq_2)) (And.intro (@loOf.eq_3) (And.intro (@hiOf.eq_1) (@hiOf.eq_2)))) (And.intro (And.intro (@hiOf.eq_3) (And.intro (@RetE.eq_1) (@RetE.eq_2))) (And.intro (@RetE.eq_3) (And.intro (@retVals.eq_1) (@retVals.eq_2))))) (And.intro (And.intro (And.intro (@retVals.eq_3) (And.intro (@tupled.eq_1) (@tupled.eq_2))) (And.intro (@chunks.eq_1) (And.intro (@chunks.eq_2) (@kindsOK.eq_1)))) (And.intro (And.intro (@kindsOK.eq_2) (And.intro (@kindsOK.eq_3) (@kindsOK.eq_4))) (And.intro (@kindsOK.eq_5) (And.intro (@kindsOK.eq_6) (And.intro (@ewDraw.eq_1) (And.intro (@GuardW_bool) (@GuardW_tuple)))))))) (And.intro (And.intro (And.intro (And.intro (@ewDraw.eq_2) (@isFree.eq_1)) (And.intro (@withN.eq_1) (And.intro (@withN.eq_2) (@withN.eq_3)))) (And.intro (And.intro (@withN.eq_4) (And.intro (@withN.eq_5) (@withN.eq_6))) (And.intro (@ewC.eq_1) (And.intro (@ewC.eq_2) (@ewC.eq_3))))) (And.intro (And.intro (And.intro (@ewC.eq_4) (And.intro (@ewC.eq_5) (@ewC.eq_6))) (And.intro (@ewC.eq_7) (And.intro (@ewC.eq_8) (@ewC.eq_9)))) (And.intro (And.intro (@regK.eq_1) (And.intro (@upd.eq_1) (@upd.eq_2))) (And.intro (@V.at.eq_1) (And.intro (@Go.EL.partAt.eq_1) (@condW_bool))))))) (And.intro (And.intro (And.intro (And.intro (And.intro (@IfW_true) (@IfW_false)) (And.intro (@Need_true) (And.intro (@List.map_nil.{0, 0}) (@List.map_cons.{0, 0})))) (And.intro (And.intro (@List.getD_cons_zero.{0}) (And.intro (@List.getD_cons_succ.{0}) (@List.getD_nil.{0}))) (And.intro (@Option.getD_some.{0}) (And.intro (@Option.bind_some.{0, 0}) (@List.toList_toArray.{0}))))) (And.intro (And.intro (And.intro (@hget) (And.intro (@hget0) (@hset))) (And.intro (@hset0) (And.intro (@List.length_append.{0}) (@List.length_cons.{0})))) (And.intro (And.intro (@List.length_nil.{0}) (And.intro (@Nat.add_assoc) (@List.append_assoc.{0}))) (And.intro (@List.cons_append.{0}) (And.intro (@List.nil_append.{0}) (@List.set_cons_zero.{0})))))) (And.intro (And.intro (And.intro (And.intro (@List.set_cons_succ.{0}) (And.intro (@Bool.not_true) (@Bool.not_false))) (And.intro (@and_true) (And.intro (@true_and) (@List.any_cons.{0})))) (And.intro (And.intro (@List.any_nil.{0}) (And.intro (@Bool.or_false) (@Bool.false_or))) (And.intro (@Bool.false_eq_true) (And.intro (@Bool.and_true) (@Bool.true_and))))) (And.intro (And.intro (And.intro (@beq_self_eq_true.{0}) (And.intro (@List.mem_cons.{0}) (@List.not_mem_nil.{0}))) (And.intro (@or_false) (And.intro (@forall_eq.{1}) (@forall_eq_or_imp.{1})))) (And.intro (And.intro (@Option.map_some.{0, 0}) (And.intro (@eq_self.{1}) (@List.contains_nil.{0}))) (And.intro (@Int.toNat_natCast) (And.intro (@List.length_map.{0, 0}) (@List.drop_zero.{0})))))))) (And.intro (And.intro (And.intro (And.intro (And.intro (And.intro (@Int.cast_ofNat_Int) (@Int.natCast_zero)) (And.intro (@Int.natCast_one) (And.intro (@bne_self_eq_false.{0}) (@beq_true)))) (And.intro (And.intro (@beq_false) (And.intro (@Sized_nil) (@Sized_cons))) (And.intro (@List.drop_succ_cons.{0}) (And.intro (@List.drop_nil.{0}) (@List.append_nil.{0}))))) (And.intro (And.intro (And.intro (@List.take_succ_cons.{0}) (And.intro (@List.take_zero.{0}) (@List.headD_cons.{0}))) (And.intro (@implies_true.{1}) (And.intro (@Nat.le_refl) (@not_false_eq_true)))) (And.intro (And.intro (@List.length_replicate.{0}) (And.intro (@IfW_not) (@wk.eq_1))) (And.intro (@wk.eq_2) (And.intro (@wk1.eq_1) (@wk1.eq_2)))))) (And.intro (And.intro (And.intro (And.intro (@wk0.eq_1) (@wk0.eq_2)) (And.intro (@wk0.eq_3) (And.intro (@live_var) (@live_vec)))) (And.intro (And.intro (@hgetS) (And.intro (@hget0S) (@hsetS))) (And.intro (@hset0S) (And.intro (@xpart.eq_1) (@nilEq.eq_1))))) (And.intro (And.intro (And.intro (@nilEq.eq_2) (And.intro (@nilEq.eq_3) (@nilEq.eq_4))) (And.intro (@xnil.eq_1) (And.intro (@wrap_m1) (@wrap_z)))) (And.intro (And.intro (@wrap_1) (And.intro (@take_mapV) (@drop_mapV))) (And.intro (@wrap_byte) (And.intro (@List.contains_cons.{0}) (@Bool.or_true))))))) (And.intro (And.intro (And.intro (And.intro (And.intro (@bne_eqI) (@bne_eqB)) (And.intro (@imp_self) (And.intro (@true_imp_iff) (@Option.map_none.{0, 0})))) (And.intro (And.intro (@List.length_set.{0}) (And.intro (@xmake.eq_1) (@xclear.eq_1))) (And.intro (@xclear.eq_2) (And.intro (@xsliceA.eq_1) (@parts.eq_1))))) (And.intro (And.intro (And.intro (@parts.eq_2) (And.intro (@AllBytes_vb) (@toByte_vb))) (And.intro (@maxLen_eq) (And.intro (@isSlice1) (@isSlice2)))) (And.intro (And.intro (@isSlice3) (And.intro (@Bool.true_eq_false) (@false_and))) (And.intro (@and_false) (And.intro (@Nat.zero_add) (@Nat.add_zero)))))) (And.intro (And.intro (And.intro (And.intro (@true_or) (And.intro (@or_true) (@false_or))) (And.intro (@false_imp_iff) (And.intro (@List.range_zero) (@isEmpty_mapV)))) (And.intro (And.intro (@map_vb) (And.intro (@st_vb) (@st_vi))) (And.intro (@st_str) (And.intro (@sz_vb) (@sz_vi))))) (And.intro (And.intro (And.intro (@sz_str) (And.intro (@Sized_append) (@List.isEmpty_nil.{0}))) (And.intro (@List.isEmpty_cons.{0}) (And.intro (@Option.isSome_none.{0}) (@Option.isSome_some.{0})))) (And.intro (And.intro (@blank.eq_1) (And.intro (@blank.eq_2) (@objsOf.eq_1))) (And.intro (@objsOf.eq_2) (And.intro (@addO.eq_1) (@addO.eq_2)))))))))) := And.intro (And.intro (And.intro (And.intro (And.intro (And.intro (And.intro (And.intro (@ewDraw3.eq_1) (@ewDraw3.eq_2)) (And.intro (@drawStep3.eq_1) (And.intro (@isBase.eq_1) (@List.getElem?_cons_succ.{0})))) (And.intro (And.intro (@List.getElem?_cons_zero.{0}) (And.intro (@List.getElem?_nil.{0}) (@xbuiltin.eq_6))) (And.intro (@xop.eq_1) (And.intro (@xop.eq_2) (@xop.eq_3))))) (And.intro (And.intro (And.intro (@xop.eq_4) (And.intro (@xop.eq_5) (@xop.eq_6))) (And.intro (@xop.eq_7) (And.intro (@xop.eq_8) (@xop.eq_9)))) (And.intro (And.intro (@xop.eq_10) (And.intro (@xop.eq_11) (@xop.eq_12))) (And.intro (@xop.eq_13) (And.intro (@xop.eq_14) (@xop.eq_15)))))) (And.intro (And.intro (And.intro (And.intro (@xop.eq_16) (@xop.eq_17)) (And.intro (@xop.eq_18) (And.intro (@xop.eq_19) (@xop.eq_20)))) (And.intro (And.intro (@xop.eq_21) (And.intro (@xop.eq_22) (@xop.eq_23))) (And.intro (@xop.eq_24) (And.intro (@xop.eq_25) (@xop.eq_26))))) (And.intro (And.intro (And.intro (@xop.eq_27) (And.intro (@xop.eq_28) (@xop.eq_29))) (And.intro (@xop.eq_30) (And.intro (@xop.eq_31) (@xop.eq_32)))) (And.intro (And.intro (@drawStep.eq_1) (And.intro (@isStab.eq_1) (@xlookup.eq_1))) (And.intro (@xmapUpdate.eq_1) (And.intro (@xdelete.eq_1) (@xentry.eq_1))))))) (And.intro (And.intro (And.intro (And.intro (And.intro (@xentry.eq_2) (@xmapLen.eq_1)) (And.intro (@xmapLen.eq_2) (And.intro (@xmapLen.eq_3) (@isNilS.eq_1)))) (And.intro (And.intro (@isNilS.eq_2) (And.intro (@xmaybe.eq_1) (@xmaybe.eq_2))) (And.intro (@xmaybe.eq_3) (And.intro (@xfound.eq_1) (@mclk.eq_1))))) (And.intro (And.intro (And.intro (@Int.toNat_zero) (And.intro (@Int.toNat_one) (@decide_true))) (And.intro (@decide_false) (And.intro (@ewDraw2.eq_1) (@ewDraw2.eq_2)))) (And.intro (And.intro (@ewDrawX.eq_1) (And.intro (@drawStep2.eq_1) (@ewOps.eq_1))) (And.intro (@ewOps.eq_2) (And.intro (@xload.eq_1) (@xload.eq_2)))))) (And.intro (And.intro (And.intro (And.intro (@xload.eq_3) (@xload.eq_4)) (And.intro (@xstore.eq_1) (And.intro (@xstore.eq_2) (@xstore.eq_3)))) (And.intro (And.intro (@xfieldAddr.eq_1) (And.intro (@xbin.eq_1) (@xbin.eq_2))) (And.intro (@xbin.eq_3) (And.intro (@xbin.eq_4) (@xbin.eq_5))))) (And.intro (And.intro (And.intro (@xbin.eq_6) (And.intro (@xbin.eq_7) (@xbin.eq_8))) (And.intro (@xbin.eq_9) (And.intro (@xbin.eq_10) (@xbin.eq_11)))) (And.intro (And.intro (@xbin.eq_12) (And.intro (@xbin.eq_13) (@xbin.eq_14))) (And.intro (@xbin.eq_15) (And.intro (@xbin.eq_16) (@xbin.eq_17)))))))) (And.intro (And.intro (And.intro (And.intro (And.intro (And.intro (@xbin.eq_18) (@xbin.eq_19)) (And.intro (@xbin.eq_20) (And.intro (@xbin.eq_21) (@xbin.eq_22)))) (And.intro (And.intro (@xbin.eq_23) (And.intro (@xbin.eq_24) (@xbin.eq_25))) (And.intro (@xbin.eq_26) (And.intro (@xbin.eq_27) (@xbin.eq_28))))) (And.intro (And.intro (And.intro (@xbin.eq_29) (And.intro (@xtoStr.eq_1) (@xbuiltin.eq_1))) (And.intro (@xbuiltin.eq_2) (And.intro (@xbuiltin.eq_3) (@xbuiltin.eq_4)))) (And.intro (And.intro (@xbuiltin.eq_5) (And.intro (@xappend.eq_1) (@xmin.eq_1))) (And.intro (@xmin.eq_2) (And.intro (@elems.eq_1) (@elems.eq_2)))))) (And.intro (And.intro (And.intro (And.intro (@elems.eq_3) (@elems.eq_4)) (And.intro (@elems.eq_5) (And.intro (@live.eq_1) (@live.eq_2)))) (And.intro (And.intro (@live.eq_3) (And.intro (@live.eq_4) (@eqLeaves.eq_1))) (And.intro (@eqLeaves.eq_2) (And.intro (@eqLeaves.eq_3) (@eqLeaf.eq_1))))) (And.intro (And.intro (And.intro (@eqLeaf.eq_2) (And.intro (@eqLeaf.eq_3) (@eqLeaf.eq_4))) (And.intro (@mkV.eq_1) (And.intro (@TK.isAgg.eq_1) (@TK.isAgg.eq_2)))) (And.intro (And.intro (@TK.isAgg.eq_3) (And.intro (@evl.eq_1) (@evl.eq_2))) (And.intro (@evl.eq_3) (And.intro (@evl.eq_4) (@ofValue.eq_1))))))) (And.intro (And.intro (And.intro (And.intro (And.intro (@ofValue.eq_2) (@ofLeaf.eq_1)) (And.intro (@ofLeaf.eq_2) (And.intro (@ofLeaf.eq_3) (@ofLeaf.eq_4)))) (And.intro (And.intro (@ofLeaf.eq_5) (And.intro (@ofLeaf.eq_6) (@ofLeaf.eq_7))) (And.intro (@ofLeaf.eq_8) (And.intro (@ofLeaf.eq_9) (@V.isDead.eq_1))))) (And.intro (And.intro (And.intro (@V.isDead.eq_2) (And.intro (@eput.eq_1) (@eput.eq_2))) (And.intro (@eset.eq_1) (And.intro (@eset.eq_2) (@eget.eq_1)))) (And.intro (And.intro (@eget.eq_2) (And.intro (@argEnv.eq_1) (@argEnv.eq_2))) (And.intro (@restr.eq_1) (And.intro (@thenE.eq_1) (@thenE.eq_2)))))) (And.intro (And.intro (And.intro (And.intro (@thenE.eq_3) (And.intro (@thenE.eq_4) (@thenE.eq_5))) (And.intro (@thenE.eq_6) (And.intro (@inBlockE.eq_1) (@inBlockE.eq_2)))) (And.intro (And.intro (@inBlockE.eq_3) (And.intro (@inBlockE.eq_4) (@inBlockE.eq_5))) (And.intro (@inBlockE.eq_6) (And.intro (@gval.eq_1) (@V.cells.eq_1))))) (And.intro (And.intro (And.intro (@V.cells.eq_2) (And.intro (@V.storable.eq_1) (@V.storable.eq_2))) (And.intro (@V.leaf.eq_1) (And.intro (@V.leaf.eq_2) (@V.leaf.eq_3)))) (And.intro (And.intro (@V.leaf.eq_4) (And.intro (@V.withCells.eq_1) (@V.withCells.eq_2))) (And.intro (@splice.eq_1) (And.intro (@fillV.eq_1) (@fillV.eq_2))))))))) (And.intro (And.intro (And.intro (And.intro (And.intro (And.intro (And.intro (@loOf.eq_1) (@loOf.eq_2)) (And.intro (@loOf.eq_3) (And.intro (@hiOf.eq_1) (@hiOf.eq_2)))) (And.intro (And.intro (@hiOf.eq_3) (And.intro (@RetE.eq_1) (@RetE.eq_2))) (And.intro (@RetE.eq_3) (And.intro (@retVals.eq_1) (@retVals.eq_2))))) (And.intro (And.intro (And.intro (@retVals.eq_3) (And.intro (@tupled.eq_1) (@tupled.eq_2))) (And.intro (@chunks.eq_1) (And.intro (@chunks.eq_2) (@kindsOK.eq_1)))) (And.intro (And.intro (@kindsOK.eq_2) (And.intro (@kindsOK.eq_3) (@kindsOK.eq_4))) (And.intro (@kindsOK.eq_5) (And.intro (@kindsOK.eq_6) (And.intro (@ewDraw.eq_1) (And.intro (@GuardW_bool) (@GuardW_tuple)))))))) (And.intro (And.intro (And.intro (And.intro (@ewDraw.eq_2) (@isFree.eq_1)) (And.intro (@withN.eq_1) (And.intro (@withN.eq_2) (@withN.eq_3)))) (And.intro (And.intro (@withN.eq_4) (And.intro (@withN.eq_5) (@withN.eq_6))) (And.intro (@ewC.eq_1) (And.intro (@ewC.eq_2) (@ewC.eq_3))))) (And.intro (And.intro (And.intro (@ewC.eq_4) (And.intro (@ewC.eq_5) (@ewC.eq_6))) (And.intro (@ewC.eq_7) (And.intro (@ewC.eq_8) (@ewC.eq_9)))) (And.intro (And.intro (@regK.eq_1) (And.intro (@upd.eq_1) (@upd.eq_2))) (And.intro (@V.at.eq_1) (And.intro (@Go.EL.partAt.eq_1) (@condW_bool))))))) (And.intro (And.intro (And.intro (And.intro (And.intro (@IfW_true) (@IfW_false)) (And.intro (@Need_true) (And.intro (@List.map_nil.{0, 0}) (@List.map_cons.{0, 0})))) (And.intro (And.intro (@List.getD_cons_zero.{0}) (And.intro (@List.getD_cons_succ.{0}) (@List.getD_nil.{0}))) (And.intro (@Option.getD_some.{0}) (And.intro (@Option.bind_some.{0, 0}) (@List.toList_toArray.{0}))))) (And.intro (And.intro (And.intro (@hget) (And.intro (@hget0) (@hset))) (And.intro (@hset0) (And.intro (@List.length_append.{0}) (@List.length_cons.{0})))) (And.intro (And.intro (@List.length_nil.{0}) (And.intro (@Nat.add_assoc) (@List.append_assoc.{0}))) (And.intro (@List.cons_append.{0}) (And.intro (@List.nil_append.{0}) (@List.set_cons_zero.{0})))))) (And.intro (And.intro (And.intro (And.intro (@List.set_cons_succ.{0}) (And.intro (@Bool.not_true) (@Bool.not_false))) (And.intro (@and_true) (And.intro (@true_and) (@List.any_cons.{0})))) (And.intro (And.intro (@List.any_nil.{0}) (And.intro (@Bool.or_false) (@Bool.false_or))) (And.intro (@Bool.false_eq_true) (And.intro (@Bool.and_true) (@Bool.true_and))))) (And.intro (And.intro (And.intro (@beq_self_eq_true.{0}) (And.intro (@List.mem_cons.{0}) (@List.not_mem_nil.{0}))) (And.intro (@or_false) (And.intro (@forall_eq.{1}) (@forall_eq_or_imp.{1})))) (And.intro (And.intro (@Option.map_some.{0, 0}) (And.intro (@eq_self.{1}) (@List.contains_nil.{0}))) (And.intro (@Int.toNat_natCast) (And.intro (@List.length_map.{0, 0}) (@List.drop_zero.{0})))))))) (And.intro (And.intro (And.intro (And.intro (And.intro (And.intro (@Int.cast_ofNat_Int) (@Int.natCast_zero)) (And.intro (@Int.natCast_one) (And.intro (@bne_self_eq_false.{0}) (@beq_true)))) (And.intro (And.intro (@beq_false) (And.intro (@Sized_nil) (@Sized_cons))) (And.intro (@List.drop_succ_cons.{0}) (And.intro (@List.drop_nil.{0}) (@List.append_nil.{0}))))) (And.intro (And.intro (And.intro (@List.take_succ_cons.{0}) (And.intro (@List.take_zero.{0}) (@List.headD_cons.{0}))) (And.intro (@implies_true.{1}) (And.intro (@Nat.le_refl) (@not_false_eq_true)))) (And.intro (And.intro (@List.length_replicate.{0}) (And.intro (@IfW_not) (@wk.eq_1))) (And.intro (@wk.eq_2) (And.intro (@wk1.eq_1) (@wk1.eq_2)))))) (And.intro (And.intro (And.intro (And.intro (@wk0.eq_1) (@wk0.eq_2)) (And.intro (@wk0.eq_3) (And.intro (@live_var) (@live_vec)))) (And.intro (And.intro (@hgetS) (And.intro (@hget0S) (@hsetS))) (And.intro (@hset0S) (And.intro (@xpart.eq_1) (@nilEq.eq_1))))) (And.intro (And.intro (And.intro (@nilEq.eq_2) (And.intro (@nilEq.eq_3) (@nilEq.eq_4))) (And.intro (@xnil.eq_1) (And.intro (@wrap_m1) (@wrap_z)))) (And.intro (And.intro (@wrap_1) (And.intro (@take_mapV) (@drop_mapV))) (And.intro (@wrap_byte) (And.intro (@List.contains_cons.{0}) (@Bool.or_true))))))) (And.intro (And.intro (And.intro (And.intro (And.intro (@bne_eqI) (@bne_eqB)) (And.intro (@imp_self) (And.intro (@true_imp_iff) (@Option.map_none.{0, 0})))) (And.intro (And.intro (@List.length_set.{0}) (And.intro (@xmake.eq_1) (@xclear.eq_1))) (And.intro (@xclear.eq_2) (And.intro (@xsliceA.eq_1) (@parts.eq_1))))) (And.intro (And.intro (And.intro (@parts.eq_2) (And.intro (@AllBytes_vb) (@toByte_vb))) (And.intro (@maxLen_eq) (And.intro (@isSlice1) (@isSlice2)))) (And.intro (And.intro (@isSlice3) (And.intro (@Bool.true_eq_false) (@false_and))) (And.intro (@and_false) (And.intro (@Nat.zero_add) (@Nat.add_zero)))))) (And.intro (And.intro (And.intro (And.intro (@true_or) (And.intro (@or_true) (@false_or))) (And.intro (@false_imp_iff) (And.intro (@List.range_zero) (@isEmpty_mapV)))) (And.intro (And.intro (@map_vb) (And.intro (@st_vb) (@st_vi))) (And.intro (@st_str) (And.intro (@sz_vb) (@sz_vi))))) (And.intro (And.intro (And.intro (@sz_str) (And.intro (@Sized_append) (@List.isEmpty_nil.{0}))) (And.intro (@List.isEmpty_cons.{0}) (And.intro (@Option.isSome_none.{0}) (@Option.isSome_some.{0})))) (And.intro (And.intro (@blank.eq_1) (And.intro (@blank.eq_2) (@objsOf.eq_1))) (And.intro (@objsOf.eq_2) (And.intro (@addO.eq_1) (@addO.eq_2)))))))))
end Go.EL

/- The table of types of this seat, and of each function the slots that are read behind a region: reckoned by a program. -/
set_option linter.unusedVariables false
set_option maxRecDepth 100000
namespace Go.Proofs.Ytjplgbalpnlanaa
open Go Go.EL
def TL : List TD := [
  ⟨.other, 0, 0, [], false⟩,
  ⟨.func, 1, 8, [.nilf], false⟩,
  ⟨(.int .i64), 1, 8, [.int .i64 0], false⟩,
  ⟨(.int .i64), 1, 8, [.int .i64 0], false⟩,
  ⟨.bool, 1, 1, [.bool false], false⟩,
  ⟨(.int .u8), 1, 1, [.int .u8 0], false⟩,
  ⟨.other, 0, 0, [], false⟩,
  ⟨.other, 0, 0, [], false⟩,
  ⟨.other, 0, 0, [], false⟩,
  ⟨.str, 1, 16, [.str []], false⟩,
  ⟨.other, 0, 0, [], false⟩,
  ⟨.other, 0, 0, [], false⟩,
  ⟨(.int .u64), 1, 8, [.int .u64 0], false⟩,
  ⟨(.struct [(9, 0), (12, 1)]), 2, 24, [.str [], .int .u64 0], false⟩,
  ⟨.other, 0, 0, [], false⟩,
  ⟨.other, 0, 0, [], false⟩,
  ⟨.other, 0, 0, [], false⟩,
  ⟨.other, 0, 0, [], false⟩,
  ⟨.other, 0, 0, [], false⟩,
  ⟨(.struct [(17, 0)]), 1, 8, [.nilp], false⟩,
  ⟨.iface, 1, 16, [.nili], false⟩,
  ⟨(.int .i32), 1, 4, [.int .i32 0], false⟩,
  ⟨(.slice 33), 1, 24, [.fslice []], false⟩,
  ⟨.func, 1, 8, [.nilf], false⟩,
  ⟨(.slice 136), 1, 24, [.fslice []], false⟩,
  ⟨.other, 0, 0, [], false⟩,
  ⟨.func, 1, 8, [.nilf], false⟩,
  ⟨(.slice 9), 1, 24, [.fslice []], false⟩,
  ⟨(.slice 213), 1, 24, [.fslice []], false⟩,
  ⟨(.struct [(9, 0), (28, 1)]), 2, 40, [.str [], .fslice []], false⟩,
  ⟨(.struct [(9, 0), (28, 1)]), 2, 40, [.str [], .fslice []], false⟩,
  ⟨(.slice 126), 1, 24, [.fslice []], false⟩,
  ⟨(.struct [(3, 0), (30, 1), (31, 3), (4, 4), (30, 5)]), 7, 120, [.int .i64 0, .str [], .fslice [], .fslice [], .bool false, .str [], .fslice []], false⟩,
  ⟨(.struct [(3, 0), (30, 1), (31, 3), (4, 4), (30, 5)]), 7, 120, [.int .i64 0, .str [], .fslice [], .fslice [], .bool false, .str [], .fslice []], false⟩,
  ⟨.func, 1, 8, [.nilf], false⟩,
  ⟨.func, 1, 8, [.nilf], false⟩,
  ⟨.func, 1, 8, [.nilf], false⟩,
  ⟨.func, 1, 8, [.nilf], false⟩,
  ⟨.func, 1, 8, [.nilf], false⟩,
  ⟨.func, 1, 8, [.nilf], false⟩,
  ⟨.func, 1, 8, [.nilf], false⟩,
  ⟨.func, 1, 8, [.nilf], false⟩,
  ⟨.func, 1, 8, [.nilf], false⟩,
  ⟨.func, 1, 8, [.nilf], false⟩,
  ⟨.func, 1, 8, [.nilf], false⟩,
  ⟨.func, 1, 8, [.nilf], false⟩,
  ⟨.func, 1, 8, [.nilf], false⟩,
  ⟨.func, 1, 8, [.nilf], false⟩,
  ⟨.func, 1, 8, [.nilf], false⟩,
  ⟨.func, 1, 8, [.nilf], false⟩,
  ⟨(.slice 64), 1, 24, [.fslice []], false⟩,
  ⟨(.ptr 167), 1, 8, [.nilp], false⟩,
  ⟨.func, 1, 8, [.nilf], false⟩,
  ⟨(.int .i64), 1, 8, [.int .i64 0], false⟩,
  ⟨.other, 0, 0, [], false⟩,
  ⟨.func, 1, 8, [.nilf], false⟩,
  ⟨.func, 1, 8, [.nilf], false⟩,
  ⟨.func, 1, 8, [.nilf], false⟩,
  ⟨(.slice 3), 1, 24, [.fslice []], false⟩,
  ⟨(.struct [(3, 0), (3, 1), (3, 2), (3, 3), (30, 4), (9, 6), (3, 7), (31, 8), (50, 9), (58, 10), (30, 11)]), 13, 208, [.int .i64 0, .int .i64 0, .int .i64 0, .int .i64 0, .str [], .fslice [], .str [], .int .i64 0, .fslice [], .fslice [], .fslice [], .str [], .fslice []], false⟩,
  ⟨(.struct [(3, 0), (3, 1), (3, 2), (3, 3), (30, 4), (9, 6), (3, 7), (31, 8), (50, 9), (58, 10), (30, 11)]), 13, 208, [.int .i64 0, .int .i64 0, .int .i64 0, .int .i64 0, .str [], .fslice [], .str [], .int .i64 0, .fslice [], .fslice [], .fslice [], .str [], .fslice []], false⟩,
  ⟨.other, 0, 0, [], false⟩,
  ⟨.func, 1, 8, [.nilf], false⟩,
  ⟨(.struct [(3, 0), (4, 1), (3, 2)]), 3, 24, [.int .i64 0, .bool false, .int .i64 0], true⟩,
  ⟨(.struct [(3, 0), (4, 1), (3, 2)]), 3, 24, [.int .i64 0, .bool false, .int .i64 0], true⟩,
  ⟨.func, 1, 8, [.nilf], false⟩,
  ⟨(.slice 177), 1, 24, [.fslice []], false⟩,
  ⟨.other, 0, 0, [], false⟩,
  ⟨.func, 1, 8, [.nilf], false⟩,
  ⟨.func, 1, 8, [.nilf], false⟩,
  ⟨.func, 1, 8, [.nilf], false⟩,
  ⟨.func, 1, 8, [.nilf], false⟩,
  ⟨.func, 1, 8, [.nilf], false⟩,
  ⟨.func, 1, 8, [.nilf], false⟩,
  ⟨.func, 1, 8, [.nilf], false⟩,
  ⟨(.slice 79), 1, 24, [.fslice []], false⟩,
  ⟨(.ptr 183), 1, 8, [.nilp], false⟩,
  ⟨.func, 1, 8, [.nilf], false⟩,
  ⟨(.struct [(3, 0), (9, 1)]), 2, 24, [.int .i64 0, .str []], true⟩,
  ⟨(.struct [(3, 0), (9, 1)]), 2, 24, [.int .i64 0, .str []], true⟩,
  ⟨.func, 1, 8, [.nilf], false⟩,
  ⟨.func, 1, 8, [.nilf], false⟩,
  ⟨.func, 1, 8, [.nilf], false⟩,
  ⟨.other, 0, 0, [], false⟩,
  ⟨.func, 1, 8, [.nilf], false⟩,
  ⟨.func, 1, 8, [.nilf], false⟩,
  ⟨.other, 0, 0, [], false⟩,
  ⟨.func, 1, 8, [.nilf], false⟩,
  ⟨.func, 1, 8, [.nilf], false⟩,
  ⟨(.slice 186), 1, 24, [.fslice []], false⟩,
  ⟨.func, 1, 8, [.nilf], false⟩,
  ⟨.func, 1, 8, [.nilf], false⟩,
  ⟨(.slice 97), 1, 24, [.fslice []], false⟩,
  ⟨.func, 1, 8, [.nilf], false⟩,
  ⟨.func, 1, 8, [.nilf], false⟩,
  ⟨.func, 1, 8, [.nilf], false⟩,
  ⟨(.struct [(3, 0), (3, 1), (3, 2), (3, 3)]), 4, 32, [.int .i64 0, .int .i64 0, .int .i64 0, .int .i64 0], true⟩,
  ⟨(.struct [(3, 0), (3, 1), (3, 2), (3, 3)]), 4, 32, [.int .i64 0, .int .i64 0, .int .i64 0, .int .i64 0], true⟩,
  ⟨.func, 1, 8, [.nilf], false⟩,
  ⟨.func, 1, 8, [.nilf], false⟩,
  ⟨(.ptr 197), 1, 8, [.nilp], false⟩,
  ⟨.func, 1, 8, [.nilf], false⟩,
  ⟨.func, 1, 8, [.nilf], false⟩,
  ⟨.func, 1, 8, [.nilf], false⟩,
  ⟨.other, 0, 0, [], false⟩,
  ⟨.func, 1, 8, [.nilf], false⟩,
  ⟨.func, 1, 8, [.nilf], false⟩,
  ⟨(.slice 200), 1, 24, [.fslice []], false⟩,
  ⟨.func, 1, 8, [.nilf], false⟩,
  ⟨.func, 1, 8, [.nilf], false⟩,
  ⟨.func, 1, 8, [.nilf], false⟩,
  ⟨.other, 0, 0, [], false⟩,
  ⟨.func, 1, 8, [.nilf], false⟩,
  ⟨.func, 1, 8, [.nilf], false⟩,
  ⟨.func, 1, 8, [.nilf], false⟩,
  ⟨.func, 1, 8, [.nilf], false⟩,
  ⟨.func, 1, 8, [.nilf], false⟩,
  ⟨(.slice 128), 1, 24, [.fslice []], false⟩,
  ⟨(.ptr 123), 1, 8, [.nilp], false⟩,
  ⟨(.struct [(3, 0), (3, 1), (58, 2), (31, 3), (30, 4), (4, 6)]), 7, 112, [.int .i64 0, .int .i64 0, .fslice [], .fslice [], .str [], .fslice [], .bool false], false⟩,
  ⟨(.struct [(3, 0), (3, 1), (58, 2), (31, 3), (30, 4), (4, 6)]), 7, 112, [.int .i64 0, .int .i64 0, .fslice [], .fslice [], .str [], .fslice [], .bool false], false⟩,
  ⟨(.slice 120), 1, 24, [.fslice []], false⟩,
  ⟨(.struct [(121, 0)]), 1, 24, [.fslice []], false⟩,
  ⟨(.struct [(121, 0)]), 1, 24, [.fslice []], false⟩,
  ⟨.func, 1, 8, [.nilf], false⟩,
  ⟨(.struct [(30, 0), (30, 2)]), 4, 80, [.str [], .fslice [], .str [], .fslice []], false⟩,
  ⟨(.struct [(30, 0), (30, 2)]), 4, 80, [.str [], .fslice [], .str [], .fslice []], false⟩,
  ⟨(.struct [(3, 0), (3, 1), (3, 2), (126, 3)]), 7, 104, [.int .i64 0, .int .i64 0, .int .i64 0, .str [], .fslice [], .str [], .fslice []], false⟩,
  ⟨(.struct [(3, 0), (3, 1), (3, 2), (126, 3)]), 7, 104, [.int .i64 0, .int .i64 0, .int .i64 0, .str [], .fslice [], .str [], .fslice []], false⟩,
  ⟨.func, 1, 8, [.nilf], false⟩,
  ⟨.func, 1, 8, [.nilf], false⟩,
  ⟨.func, 1, 8, [.nilf], false⟩,
  ⟨.func, 1, 8, [.nilf], false⟩,
  ⟨.func, 1, 8, [.nilf], false⟩,
  ⟨.func, 1, 8, [.nilf], false⟩,
  ⟨(.struct [(30, 0), (31, 2), (24, 3), (30, 4)]), 6, 128, [.str [], .fslice [], .fslice [], .fslice [], .str [], .fslice []], false⟩,
  ⟨(.struct [(30, 0), (31, 2), (24, 3), (30, 4)]), 6, 128, [.str [], .fslice [], .fslice [], .fslice [], .str [], .fslice []], false⟩,
  ⟨(.ptr 140), 1, 8, [.nilp], false⟩,
  ⟨.func, 1, 8, [.nilf], false⟩,
  ⟨(.struct [(24, 0)]), 1, 24, [.fslice []], false⟩,
  ⟨(.struct [(24, 0)]), 1, 24, [.fslice []], false⟩,
  ⟨(.ptr 136), 1, 8, [.nilp], false⟩,
  ⟨.func, 1, 8, [.nilf], false⟩,
  ⟨.func, 1, 8, [.nilf], false⟩,
  ⟨.func, 1, 8, [.nilf], false⟩,
  ⟨.func, 1, 8, [.nilf], false⟩,
  ⟨.func, 1, 8, [.nilf], false⟩,
  ⟨.func, 1, 8, [.nilf], false⟩,
  ⟨.func, 1, 8, [.nilf], false⟩,
  ⟨.func, 1, 8, [.nilf], false⟩,
  ⟨(.ptr 153), 1, 8, [.nilp], false⟩,
  ⟨(.slice 5), 1, 24, [.fslice []], false⟩,
  ⟨(.struct [(150, 0), (151, 1)]), 2, 32, [.nilp, .fslice []], false⟩,
  ⟨(.struct [(150, 0), (151, 1)]), 2, 32, [.nilp, .fslice []], false⟩,
  ⟨.iface, 1, 16, [.nili], false⟩,
  ⟨.iface, 1, 16, [.nili], false⟩,
  ⟨.other, 0, 0, [], false⟩,
  ⟨.func, 1, 8, [.nilf], false⟩,
  ⟨.func, 1, 8, [.nilf], false⟩,
  ⟨.func, 1, 8, [.nilf], false⟩,
  ⟨.func, 1, 8, [.nilf], false⟩,
  ⟨(.slice 222), 1, 24, [.fslice []], false⟩,
  ⟨.func, 1, 8, [.nilf], false⟩,
  ⟨(.slice 30), 1, 24, [.fslice []], false⟩,
  ⟨(.map 3 60), 1, 8, [.nilm], false⟩,
  ⟨(.array 4 3), 4, 32, [.int .i64 0, .int .i64 0, .int .i64 0, .int .i64 0], false⟩,
  ⟨(.struct [(164, 0), (165, 1), (165, 5)]), 9, 72, [.nilm, .int .i64 0, .int .i64 0, .int .i64 0, .int .i64 0, .int .i64 0, .int .i64 0, .int .i64 0, .int .i64 0], false⟩,
  ⟨(.struct [(164, 0), (165, 1), (165, 5)]), 9, 72, [.nilm, .int .i64 0, .int .i64 0, .int .i64 0, .int .i64 0, .int .i64 0, .int .i64 0, .int .i64 0, .int .i64 0], false⟩,
  ⟨.func, 1, 8, [.nilf], false⟩,
  ⟨.func, 1, 8, [.nilf], false⟩,
  ⟨.func, 1, 8, [.nilf], false⟩,
  ⟨.func, 1, 8, [.nilf], false⟩,
  ⟨.func, 1, 8, [.nilf], false⟩,
  ⟨.func, 1, 8, [.nilf], false⟩,
  ⟨(.slice 225), 1, 24, [.fslice []], false⟩,
  ⟨.func, 1, 8, [.nilf], false⟩,
  ⟨(.struct [(3, 0), (3, 1), (3, 2), (3, 3), (30, 4)]), 6, 72, [.int .i64 0, .int .i64 0, .int .i64 0, .int .i64 0, .str [], .fslice []], false⟩,
  ⟨(.struct [(3, 0), (3, 1), (3, 2), (3, 3), (30, 4)]), 6, 72, [.int .i64 0, .int .i64 0, .int .i64 0, .int .i64 0, .str [], .fslice []], false⟩,
  ⟨.func, 1, 8, [.nilf], false⟩,
  ⟨.func, 1, 8, [.nilf], false⟩,
  ⟨.func, 1, 8, [.nilf], false⟩,
  ⟨(.slice 51), 1, 24, [.fslice []], false⟩,
  ⟨(.struct [(3, 0), (181, 1), (3, 2)]), 3, 40, [.int .i64 0, .fslice [], .int .i64 0], false⟩,
  ⟨(.struct [(3, 0), (181, 1), (3, 2)]), 3, 40, [.int .i64 0, .fslice [], .int .i64 0], false⟩,
  ⟨.func, 1, 8, [.nilf], false⟩,
  ⟨(.struct [(3, 0), (3, 1), (3, 2), (3, 3), (50, 4)]), 5, 56, [.int .i64 0, .int .i64 0, .int .i64 0, .int .i64 0, .fslice []], false⟩,
  ⟨(.struct [(3, 0), (3, 1), (3, 2), (3, 3), (50, 4)]), 5, 56, [.int .i64 0, .int .i64 0, .int .i64 0, .int .i64 0, .fslice []], false⟩,
  ⟨.func, 1, 8, [.nilf], false⟩,
  ⟨.func, 1, 8, [.nilf], false⟩,
  ⟨.func, 1, 8, [.nilf], false⟩,
  ⟨.func, 1, 8, [.nilf], false⟩,
  ⟨.func, 1, 8, [.nilf], false⟩,
  ⟨.func, 1, 8, [.nilf], false⟩,
  ⟨.func, 1, 8, [.nilf], false⟩,
  ⟨.func, 1, 8, [.nilf], false⟩,
  ⟨.func, 1, 8, [.nilf], false⟩,
  ⟨(.struct [(3, 0), (58, 1)]), 2, 32, [.int .i64 0, .fslice []], false⟩,
  ⟨(.struct [(3, 0), (58, 1)]), 2, 32, [.int .i64 0, .fslice []], false⟩,
  ⟨.func, 1, 8, [.nilf], false⟩,
  ⟨(.struct [(3, 0), (3, 1), (4, 2), (4, 3)]), 4, 24, [.int .i64 0, .int .i64 0, .bool false, .bool false], true⟩,
  ⟨(.struct [(3, 0), (3, 1), (4, 2), (4, 3)]), 4, 24, [.int .i64 0, .int .i64 0, .bool false, .bool false], true⟩,
  ⟨.func, 1, 8, [.nilf], false⟩,
  ⟨.func, 1, 8, [.nilf], false⟩,
  ⟨.func, 1, 8, [.nilf], false⟩,
  ⟨.func, 1, 8, [.nilf], false⟩,
  ⟨.func, 1, 8, [.nilf], false⟩,
  ⟨.func, 1, 8, [.nilf], false⟩,
  ⟨.func, 1, 8, [.nilf], false⟩,
  ⟨.func, 1, 8, [.nilf], false⟩,
  ⟨.func, 1, 8, [.nilf], false⟩,
  ⟨.func, 1, 8, [.nilf], false⟩,
  ⟨.func, 1, 8, [.nilf], false⟩,
  ⟨(.struct [(3, 0), (3, 1)]), 2, 16, [.int .i64 0, .int .i64 0], true⟩,
  ⟨(.struct [(3, 0), (3, 1)]), 2, 16, [.int .i64 0, .int .i64 0], true⟩,
  ⟨.func, 1, 8, [.nilf], false⟩,
  ⟨.func, 1, 8, [.nilf], false⟩,
  ⟨(.int .u64), 1, 8, [.int .u64 0], false⟩,
  ⟨.func, 1, 8, [.nilf], false⟩,
  ⟨.func, 1, 8, [.nilf], false⟩,
  ⟨.func, 1, 8, [.nilf], false⟩,
  ⟨(.ptr 5), 1, 8, [.nilp], false⟩,
  ⟨(.struct [(5, 0), (3, 1)]), 2, 16, [.int .u8 0, .int .i64 0], true⟩,
  ⟨(.struct [(5, 0), (3, 1)]), 2, 16, [.int .u8 0, .int .i64 0], true⟩,
  ⟨.func, 1, 8, [.nilf], false⟩,
  ⟨(.struct [(3, 0), (30, 1), (9, 3), (31, 4), (50, 5), (174, 6), (30, 7), (3, 9)]), 10, 184, [.int .i64 0, .str [], .fslice [], .str [], .fslice [], .fslice [], .fslice [], .str [], .fslice [], .int .i64 0], false⟩,
  ⟨(.struct [(3, 0), (30, 1), (9, 3), (31, 4), (50, 5), (174, 6), (30, 7), (3, 9)]), 10, 184, [.int .i64 0, .str [], .fslice [], .str [], .fslice [], .fslice [], .fslice [], .str [], .fslice [], .int .i64 0], false⟩,
  ⟨.func, 1, 8, [.nilf], false⟩,
  ⟨.func, 1, 8, [.nilf], false⟩,
  ⟨.func, 1, 8, [.nilf], false⟩,
  ⟨.other, 0, 0, [], false⟩,
  ⟨.func, 1, 8, [.nilf], false⟩,
  ⟨.func, 1, 8, [.nilf], false⟩,
  ⟨.func, 1, 8, [.nilf], false⟩,
  ⟨.func, 1, 8, [.nilf], false⟩,
  ⟨.func, 1, 8, [.nilf], false⟩,
  ⟨.func, 1, 8, [.nilf], false⟩,
  ⟨.func, 1, 8, [.nilf], false⟩,
  ⟨.other, 0, 0, [], false⟩,
  ⟨.func, 1, 8, [.nilf], false⟩,
  ⟨.func, 1, 8, [.nilf], false⟩,
  ⟨.func, 1, 8, [.nilf], false⟩,
  ⟨.func, 1, 8, [.nilf], false⟩,
  ⟨.other, 0, 0, [], false⟩,
  ⟨.other, 0, 0, [], false⟩,
  ⟨.other, 0, 0, [], false⟩,
  ⟨.other, 0, 0, [], false⟩,
  ⟨.other, 0, 0, [], false⟩,
  ⟨(.int .u32), 1, 4, [.int .u32 0], false⟩,
  ⟨.other, 0, 0, [], false⟩,
  ⟨.other, 0, 0, [], false⟩,
  ⟨.func, 1, 8, [.nilf], false⟩,
  ⟨.other, 0, 0, [], false⟩,
  ⟨.other, 0, 0, [], false⟩,
  ⟨.other, 0, 0, [], false⟩,
  ⟨.other, 0, 0, [], false⟩]
def T (t : Nat) : TD := TL.getD t ⟨.other, 0, 0, [], false⟩
theorem T_1 : T 1 = ⟨.func, 1, 8, [.nilf], false⟩ := rfl
theorem T_2 : T 2 = ⟨(.int .i64), 1, 8, [.int .i64 0], false⟩ := rfl
theorem T_3 : T 3 = ⟨(.int .i64), 1, 8, [.int .i64 0], false⟩ := rfl
theorem T_4 : T 4 = ⟨.bool, 1, 1, [.bool false], false⟩ := rfl
theorem T_5 : T 5 = ⟨(.int .u8), 1, 1, [.int .u8 0], false⟩ := rfl
theorem T_9 : T 9 = ⟨.str, 1, 16, [.str []], false⟩ := rfl
theorem T_12 : T 12 = ⟨(.int .u64), 1, 8, [.int .u64 0], false⟩ := rfl
theorem T_13 : T 13 = ⟨(.struct [(9, 0), (12, 1)]), 2, 24, [.str [], .int .u64 0], false⟩ := rfl
theorem T_19 : T 19 = ⟨(.struct [(17, 0)]), 1, 8, [.nilp], false⟩ := rfl
theorem T_20 : T 20 = ⟨.iface, 1, 16, [.nili], false⟩ := rfl
theorem T_21 : T 21 = ⟨(.int .i32), 1, 4, [.int .i32 0], false⟩ := rfl
theorem T_22 : T 22 = ⟨(.slice 33), 1, 24, [.fslice []], false⟩ := rfl
theorem T_23 : T 23 = ⟨.func, 1, 8, [.nilf], false⟩ := rfl
theorem T_24 : T 24 = ⟨(.slice 136), 1, 24, [.fslice []], false⟩ := rfl
theorem T_26 : T 26 = ⟨.func, 1, 8, [.nilf], false⟩ := rfl
theorem T_27 : T 27 = ⟨(.slice 9), 1, 24, [.fslice []], false⟩ := rfl
theorem T_28 : T 28 = ⟨(.slice 213), 1, 24, [.fslice []], false⟩ := rfl
theorem T_29 : T 29 = ⟨(.struct [(9, 0), (28, 1)]), 2, 40, [.str [], .fslice []], false⟩ := rfl
theorem T_30 : T 30 = ⟨(.struct [(9, 0), (28, 1)]), 2, 40, [.str [], .fslice []], false⟩ := rfl
theorem T_31 : T 31 = ⟨(.slice 126), 1, 24, [.fslice []], false⟩ := rfl
theorem T_32 : T 32 = ⟨(.struct [(3, 0), (30, 1), (31, 3), (4, 4), (30, 5)]), 7, 120, [.int .i64 0, .str [], .fslice [], .fslice [], .bool false, .str [], .fslice []], false⟩ := rfl
theorem T_33 : T 33 = ⟨(.struct [(3, 0), (30, 1), (31, 3), (4, 4), (30, 5)]), 7, 120, [.int .i64 0, .str [], .fslice [], .fslice [], .bool false, .str [], .fslice []], false⟩ := rfl
theorem T_34 : T 34 = ⟨.func, 1, 8, [.nilf], false⟩ := rfl
theorem T_35 : T 35 = ⟨.func, 1, 8, [.nilf], false⟩ := rfl
theorem T_36 : T 36 = ⟨.func, 1, 8, [.nilf], false⟩ := rfl
theorem T_37 : T 37 = ⟨.func, 1, 8, [.nilf], false⟩ := rfl
theorem T_38 : T 38 = ⟨.func, 1, 8, [.nilf], false⟩ := rfl
theorem T_39 : T 39 = ⟨.func, 1, 8, [.nilf], false⟩ := rfl
theorem T_40 : T 40 = ⟨.func, 1, 8, [.nilf], false⟩ := rfl
theorem T_41 : T 41 = ⟨.func, 1, 8, [.nilf], false⟩ := rfl
theorem T_42 : T 42 = ⟨.func, 1, 8, [.nilf], false⟩ := rfl
theorem T_43 : T 43 = ⟨.func, 1, 8, [.nilf], false⟩ := rfl
theorem T_44 : T 44 = ⟨.func, 1, 8, [.nilf], false⟩ := rfl
theorem T_45 : T 45 = ⟨.func, 1, 8, [.nilf], false⟩ := rfl
theorem T_46 : T 46 = ⟨.func, 1, 8, [.nilf], false⟩ := rfl
theorem T_47 : T 47 = ⟨.func, 1, 8, [.nilf], false⟩ := rfl
theorem T_48 : T 48 = ⟨.func, 1, 8, [.nilf], false⟩ := rfl
theorem T_49 : T 49 = ⟨.func, 1, 8, [.nilf], false⟩ := rfl
theorem T_50 : T 50 = ⟨(.slice 64), 1, 24, [.fslice []], false⟩ := rfl
theorem T_51 : T 51 = ⟨(.ptr 167), 1, 8, [.nilp], false⟩ := rfl
theorem T_52 : T 52 = ⟨.func, 1, 8, [.nilf], false⟩ := rfl
theorem T_53 : T 53 = ⟨(.int .i64), 1, 8, [.int .i64 0], false⟩ := rfl
theorem T_55 : T 55 = ⟨.func, 1, 8, [.nilf], false⟩ := rfl
theorem T_56 : T 56 = ⟨.func, 1, 8, [.nilf], false⟩ := rfl
theorem T_57 : T 57 = ⟨.func, 1, 8, [.nilf], false⟩ := rfl
theorem T_58 : T 58 = ⟨(.slice 3), 1, 24, [.fslice []], false⟩ := rfl
theorem T_59 : T 59 = ⟨(.struct [(3, 0), (3, 1), (3, 2), (3, 3), (30, 4), (9, 6), (3, 7), (31, 8), (50, 9), (58, 10), (30, 11)]), 13, 208, [.int .i64 0, .int .i64 0, .int .i64 0, .int .i64 0, .str [], .fslice [], .str [], .int .i64 0, .fslice [], .fslice [], .fslice [], .str [], .fslice []], false⟩ := rfl
theorem T_60 : T 60 = ⟨(.struct [(3, 0), (3, 1), (3, 2), (3, 3), (30, 4), (9, 6), (3, 7), (31, 8), (50, 9), (58, 10), (30, 11)]), 13, 208, [.int .i64 0, .int .i64 0, .int .i64 0, .int .i64 0, .str [], .fslice [], .str [], .int .i64 0, .fslice [], .fslice [], .fslice [], .str [], .fslice []], false⟩ := rfl
theorem T_62 : T 62 = ⟨.func, 1, 8, [.nilf], false⟩ := rfl
theorem T_63 : T 63 = ⟨(.struct [(3, 0), (4, 1), (3, 2)]), 3, 24, [.int .i64 0, .bool false, .int .i64 0], true⟩ := rfl
theorem T_64 : T 64 = ⟨(.struct [(3, 0), (4, 1), (3, 2)]), 3, 24, [.int .i64 0, .bool false, .int .i64 0], true⟩ := rfl
theorem T_65 : T 65 = ⟨.func, 1, 8, [.nilf], false⟩ := rfl
theorem T_66 : T 66 = ⟨(.slice 177), 1, 24, [.fslice []], false⟩ := rfl
theorem T_68 : T 68 = ⟨.func, 1, 8, [.nilf], false⟩ := rfl
theorem T_69 : T 69 = ⟨.func, 1, 8, [.nilf], false⟩ := rfl
theorem T_70 : T 70 = ⟨.func, 1, 8, [.nilf], false⟩ := rfl
theorem T_71 : T 71 = ⟨.func, 1, 8, [.nilf], false⟩ := rfl
theorem T_72 : T 72 = ⟨.func, 1, 8, [.nilf], false⟩ := rfl
theorem T_73 : T 73 = ⟨.func, 1, 8, [.nilf], false⟩ := rfl
theorem T_74 : T 74 = ⟨.func, 1, 8, [.nilf], false⟩ := rfl
theorem T_75 : T 75 = ⟨(.slice 79), 1, 24, [.fslice []], false⟩ := rfl
theorem T_76 : T 76 = ⟨(.ptr 183), 1, 8, [.nilp], false⟩ := rfl
theorem T_77 : T 77 = ⟨.func, 1, 8, [.nilf], false⟩ := rfl
theorem T_78 : T 78 = ⟨(.struct [(3, 0), (9, 1)]), 2, 24, [.int .i64 0, .str []], true⟩ := rfl
theorem T_79 : T 79 = ⟨(.struct [(3, 0), (9, 1)]), 2, 24, [.int .i64 0, .str []], true⟩ := rfl
theorem T_80 : T 80 = ⟨.func, 1, 8, [.nilf], false⟩ := rfl
theorem T_81 : T 81 = ⟨.func, 1, 8, [.nilf], false⟩ := rfl
theorem T_82 : T 82 = ⟨.func, 1, 8, [.nilf], false⟩ := rfl
theorem T_84 : T 84 = ⟨.func, 1, 8, [.nilf], false⟩ := rfl
theorem T_85 : T 85 = ⟨.func, 1, 8, [.nilf], false⟩ := rfl
theorem T_87 : T 87 = ⟨.func, 1, 8, [.nilf], false⟩ := rfl
theorem T_88 : T 88 = ⟨.func, 1, 8, [.nilf], false⟩ := rfl
theorem T_89 : T 89 = ⟨(.slice 186), 1, 24, [.fslice []], false⟩ := rfl
theorem T_90 : T 90 = ⟨.func, 1, 8, [.nilf], false⟩ := rfl
theorem T_91 : T 91 = ⟨.func, 1, 8, [.nilf], false⟩ := rfl
theorem T_92 : T 92 = ⟨(.slice 97), 1, 24, [.fslice []], false⟩ := rfl
theorem T_93 : T 93 = ⟨.func, 1, 8, [.nilf], false⟩ := rfl
theorem T_94 : T 94 = ⟨.func, 1, 8, [.nilf], false⟩ := rfl
theorem T_95 : T 95 = ⟨.func, 1, 8, [.nilf], false⟩ := rfl
theorem T_96 : T 96 = ⟨(.struct [(3, 0), (3, 1), (3, 2), (3, 3)]), 4, 32, [.int .i64 0, .int .i64 0, .int .i64 0, .int .i64 0], true⟩ := rfl
theorem T_97 : T 97 = ⟨(.struct [(3, 0), (3, 1), (3, 2), (3, 3)]), 4, 32, [.int .i64 0, .int .i64 0, .int .i64 0, .int .i64 0], true⟩ := rfl
theorem T_98 : T 98 = ⟨.func, 1, 8, [.nilf], false⟩ := rfl
theorem T_99 : T 99 = ⟨.func, 1, 8, [.nilf], false⟩ := rfl
theorem T_100 : T 100 = ⟨(.ptr 197), 1, 8, [.nilp], false⟩ := rfl
theorem T_101 : T 101 = ⟨.func, 1, 8, [.nilf], false⟩ := rfl
theorem T_102 : T 102 = ⟨.func, 1, 8, [.nilf], false⟩ := rfl
theorem T_103 : T 103 = ⟨.func, 1, 8, [.nilf], false⟩ := rfl
theorem T_105 : T 105 = ⟨.func, 1, 8, [.nilf], false⟩ := rfl
theorem T_106 : T 106 = ⟨.func, 1, 8, [.nilf], false⟩ := rfl
theorem T_107 : T 107 = ⟨(.slice 200), 1, 24, [.fslice []], false⟩ := rfl
theorem T_108 : T 108 = ⟨.func, 1, 8, [.nilf], false⟩ := rfl
theorem T_109 : T 109 = ⟨.func, 1, 8, [.nilf], false⟩ := rfl
theorem T_110 : T 110 = ⟨.func, 1, 8, [.nilf], false⟩ := rfl
theorem T_112 : T 112 = ⟨.func, 1, 8, [.nilf], false⟩ := rfl
theorem T_113 : T 113 = ⟨.func, 1, 8, [.nilf], false⟩ := rfl
theorem T_114 : T 114 = ⟨.func, 1, 8, [.nilf], false⟩ := rfl
theorem T_115 : T 115 = ⟨.func, 1, 8, [.nilf], false⟩ := rfl
theorem T_116 : T 116 = ⟨.func, 1, 8, [.nilf], false⟩ := rfl
theorem T_117 : T 117 = ⟨(.slice 128), 1, 24, [.fslice []], false⟩ := rfl
theorem T_118 : T 118 = ⟨(.ptr 123), 1, 8, [.nilp], false⟩ := rfl
theorem T_119 : T 119 = ⟨(.struct [(3, 0), (3, 1), (58, 2), (31, 3), (30, 4), (4, 6)]), 7, 112, [.int .i64 0, .int .i64 0, .fslice [], .fslice [], .str [], .fslice [], .bool false], false⟩ := rfl
theorem T_120 : T 120 = ⟨(.struct [(3, 0), (3, 1), (58, 2), (31, 3), (30, 4), (4, 6)]), 7, 112, [.int .i64 0, .int .i64 0, .fslice [], .fslice [], .str [], .fslice [], .bool false], false⟩ := rfl
theorem T_121 : T 121 = ⟨(.slice 120), 1, 24, [.fslice []], false⟩ := rfl
theorem T_122 : T 122 = ⟨(.struct [(121, 0)]), 1, 24, [.fslice []], false⟩ := rfl
theorem T_123 : T 123 = ⟨(.struct [(121, 0)]), 1, 24, [.fslice []], false⟩ := rfl
theorem T_124 : T 124 = ⟨.func, 1, 8, [.nilf], false⟩ := rfl
theorem T_125 : T 125 = ⟨(.struct [(30, 0), (30, 2)]), 4, 80, [.str [], .fslice [], .str [], .fslice []], false⟩ := rfl
theorem T_126 : T 126 = ⟨(.struct [(30, 0), (30, 2)]), 4, 80, [.str [], .fslice [], .str [], .fslice []], false⟩ := rfl
theorem T_127 : T 127 = ⟨(.struct [(3, 0), (3, 1), (3, 2), (126, 3)]), 7, 104, [.int .i64 0, .int .i64 0, .int .i64 0, .str [], .fslice [], .str [], .fslice []], false⟩ := rfl
theorem T_128 : T 128 = ⟨(.struct [(3, 0), (3, 1), (3, 2), (126, 3)]), 7, 104, [.int .i64 0, .int .i64 0, .int .i64 0, .str [], .fslice [], .str [], .fslice []], false⟩ := rfl
theorem T_129 : T 129 = ⟨.func, 1, 8, [.nilf], false⟩ := rfl
theorem T_130 : T 130 = ⟨.func, 1, 8, [.nilf], false⟩ := rfl
theorem T_131 : T 131 = ⟨.func, 1, 8, [.nilf], false⟩ := rfl
theorem T_132 : T 132 = ⟨.func, 1, 8, [.nilf], false⟩ := rfl
theorem T_133 : T 133 = ⟨.func, 1, 8, [.nilf], false⟩ := rfl
theorem T_134 : T 134 = ⟨.func, 1, 8, [.nilf], false⟩ := rfl
theorem T_135 : T 135 = ⟨(.struct [(30, 0), (31, 2), (24, 3), (30, 4)]), 6, 128, [.str [], .fslice [], .fslice [], .fslice [], .str [], .fslice []], false⟩ := rfl
theorem T_136 : T 136 = ⟨(.struct [(30, 0), (31, 2), (24, 3), (30, 4)]), 6, 128, [.str [], .fslice [], .fslice [], .fslice [], .str [], .fslice []], false⟩ := rfl
theorem T_137 : T 137 = ⟨(.ptr 140), 1, 8, [.nilp], false⟩ := rfl
theorem T_138 : T 138 = ⟨.func, 1, 8, [.nilf], false⟩ := rfl
theorem T_139 : T 139 = ⟨(.struct [(24, 0)]), 1, 24, [.fslice []], false⟩ := rfl
theorem T_140 : T 140 = ⟨(.struct [(24, 0)]), 1, 24, [.fslice []], false⟩ := rfl
theorem T_141 : T 141 = ⟨(.ptr 136), 1, 8, [.nilp], false⟩ := rfl
theorem T_142 : T 142 = ⟨.func, 1, 8, [.nilf], false⟩ := rfl
theorem T_143 : T 143 = ⟨.func, 1, 8, [.nilf], false⟩ := rfl
theorem T_144 : T 144 = ⟨.func, 1, 8, [.nilf], false⟩ := rfl
theorem T_145 : T 145 = ⟨.func, 1, 8, [.nilf], false⟩ := rfl
theorem T_146 : T 146 = ⟨.func, 1, 8, [.nilf], false⟩ := rfl
theorem T_147 : T 147 = ⟨.func, 1, 8, [.nilf], false⟩ := rfl
theorem T_148 : T 148 = ⟨.func, 1, 8, [.nilf], false⟩ := rfl
theorem T_149 : T 149 = ⟨.func, 1, 8, [.nilf], false⟩ := rfl
theorem T_150 : T 150 = ⟨(.ptr 153), 1, 8, [.nilp], false⟩ := rfl
theorem T_151 : T 151 = ⟨(.slice 5), 1, 24, [.fslice []], false⟩ := rfl
theorem T_152 : T 152 = ⟨(.struct [(150, 0), (151, 1)]), 2, 32, [.nilp, .fslice []], false⟩ := rfl
theorem T_153 : T 153 = ⟨(.struct [(150, 0), (151, 1)]), 2, 32, [.nilp, .fslice []], false⟩ := rfl
theorem T_154 : T 154 = ⟨.iface, 1, 16, [.nili], false⟩ := rfl
theorem T_155 : T 155 = ⟨.iface, 1, 16, [.nili], false⟩ := rfl
theorem T_157 : T 157 = ⟨.func, 1, 8, [.nilf], false⟩ := rfl
theorem T_158 : T 158 = ⟨.func, 1, 8, [.nilf], false⟩ := rfl
theorem T_159 : T 159 = ⟨.func, 1, 8, [.nilf], false⟩ := rfl
theorem T_160 : T 160 = ⟨.func, 1, 8, [.nilf], false⟩ := rfl
theorem T_161 : T 161 = ⟨(.slice 222), 1, 24, [.fslice []], false⟩ := rfl
theorem T_162 : T 162 = ⟨.func, 1, 8, [.nilf], false⟩ := rfl
theorem T_163 : T 163 = ⟨(.slice 30), 1, 24, [.fslice []], false⟩ := rfl
theorem T_164 : T 164 = ⟨(.map 3 60), 1, 8, [.nilm], false⟩ := rfl
theorem T_165 : T 165 = ⟨(.array 4 3), 4, 32, [.int .i64 0, .int .i64 0, .int .i64 0, .int .i64 0], false⟩ := rfl
theorem T_166 : T 166 = ⟨(.struct [(164, 0), (165, 1), (165, 5)]), 9, 72, [.nilm, .int .i64 0, .int .i64 0, .int .i64 0, .int .i64 0, .int .i64 0, .int .i64 0, .int .i64 0, .int .i64 0], false⟩ := rfl
theorem T_167 : T 167 = ⟨(.struct [(164, 0), (165, 1), (165, 5)]), 9, 72, [.nilm, .int .i64 0, .int .i64 0, .int .i64 0, .int .i64 0, .int .i64 0, .int .i64 0, .int .i64 0, .int .i64 0], false⟩ := rfl
theorem T_168 : T 168 = ⟨.func, 1, 8, [.nilf], false⟩ := rfl
theorem T_169 : T 169 = ⟨.func, 1, 8, [.nilf], false⟩ := rfl
theorem T_170 : T 170 = ⟨.func, 1, 8, [.nilf], false⟩ := rfl
theorem T_171 : T 171 = ⟨.func, 1, 8, [.nilf], false⟩ := rfl
theorem T_172 : T 172 = ⟨.func, 1, 8, [.nilf], false⟩ := rfl
theorem T_173 : T 173 = ⟨.func, 1, 8, [.nilf], false⟩ := rfl
theorem T_174 : T 174 = ⟨(.slice 225), 1, 24, [.fslice []], false⟩ := rfl
theorem T_175 : T 175 = ⟨.func, 1, 8, [.nilf], false⟩ := rfl
theorem T_176 : T 176 = ⟨(.struct [(3, 0), (3, 1), (3, 2), (3, 3), (30, 4)]), 6, 72, [.int .i64 0, .int .i64 0, .int .i64 0, .int .i64 0, .str [], .fslice []], false⟩ := rfl
theorem T_177 : T 177 = ⟨(.struct [(3, 0), (3, 1), (3, 2), (3, 3), (30, 4)]), 6, 72, [.int .i64 0, .int .i64 0, .int .i64 0, .int .i64 0, .str [], .fslice []], false⟩ := rfl
theorem T_178 : T 178 = ⟨.func, 1, 8, [.nilf], false⟩ := rfl
theorem T_179 : T 179 = ⟨.func, 1, 8, [.nilf], false⟩ := rfl
theorem T_180 : T 180 = ⟨.func, 1, 8, [.nilf], false⟩ := rfl
theorem T_181 : T 181 = ⟨(.slice 51), 1, 24, [.fslice []], false⟩ := rfl
theorem T_182 : T 182 = ⟨(.struct [(3, 0), (181, 1), (3, 2)]), 3, 40, [.int .i64 0, .fslice [], .int .i64 0], false⟩ := rfl
theorem T_183 : T 183 = ⟨(.struct [(3, 0), (181, 1), (3, 2)]), 3, 40, [.int .i64 0, .fslice [], .int .i64 0], false⟩ := rfl
theorem T_184 : T 184 = ⟨.func, 1, 8, [.nilf], false⟩ := rfl
theorem T_185 : T 185 = ⟨(.struct [(3, 0), (3, 1), (3, 2), (3, 3), (50, 4)]), 5, 56, [.int .i64 0, .int .i64 0, .int .i64 0, .int .i64 0, .fslice []], false⟩ := rfl
theorem T_186 : T 186 = ⟨(.struct [(3, 0), (3, 1), (3, 2), (3, 3), (50, 4)]), 5, 56, [.int .i64 0, .int .i64 0, .int .i64 0, .int .i64 0, .fslice []], false⟩ := rfl
theorem T_187 : T 187 = ⟨.func, 1, 8, [.nilf], false⟩ := rfl
theorem T_188 : T 188 = ⟨.func, 1, 8, [.nilf], false⟩ := rfl
theorem T_189 : T 189 = ⟨.func, 1, 8, [.nilf], false⟩ := rfl
theorem T_190 : T 190 = ⟨.func, 1, 8, [.nilf], false⟩ := rfl
theorem T_191 : T 191 = ⟨.func, 1, 8, [.nilf], false⟩ := rfl
theorem T_192 : T 192 = ⟨.func, 1, 8, [.nilf], false⟩ := rfl
theorem T_193 : T 193 = ⟨.func, 1, 8, [.nilf], false⟩ := rfl
theorem T_194 : T 194 = ⟨.func, 1, 8, [.nilf], false⟩ := rfl
theorem T_195 : T 195 = ⟨.func, 1, 8, [.nilf], false⟩ := rfl
theorem T_196 : T 196 = ⟨(.struct [(3, 0), (58, 1)]), 2, 32, [.int .i64 0, .fslice []], false⟩ := rfl
theorem T_197 : T 197 = ⟨(.struct [(3, 0), (58, 1)]), 2, 32, [.int .i64 0, .fslice []], false⟩ := rfl
theorem T_198 : T 198 = ⟨.func, 1, 8, [.nilf], false⟩ := rfl
theorem T_199 : T 199 = ⟨(.struct [(3, 0), (3, 1), (4, 2), (4, 3)]), 4, 24, [.int .i64 0, .int .i64 0, .bool false, .bool false], true⟩ := rfl
theorem T_200 : T 200 = ⟨(.struct [(3, 0), (3, 1), (4, 2), (4, 3)]), 4, 24, [.int .i64 0, .int .i64 0, .bool false, .bool false], true⟩ := rfl
theorem T_201 : T 201 = ⟨.func, 1, 8, [.nilf], false⟩ := rfl
theorem T_202 : T 202 = ⟨.func, 1, 8, [.nilf], false⟩ := rfl
theorem T_203 : T 203 = ⟨.func, 1, 8, [.nilf], false⟩ := rfl
theorem T_204 : T 204 = ⟨.func, 1, 8, [.nilf], false⟩ := rfl
theorem T_205 : T 205 = ⟨.func, 1, 8, [.nilf], false⟩ := rfl
theorem T_206 : T 206 = ⟨.func, 1, 8, [.nilf], false⟩ := rfl
theorem T_207 : T 207 = ⟨.func, 1, 8, [.nilf], false⟩ := rfl
theorem T_208 : T 208 = ⟨.func, 1, 8, [.nilf], false⟩ := rfl
theorem T_209 : T 209 = ⟨.func, 1, 8, [.nilf], false⟩ := rfl
theorem T_210 : T 210 = ⟨.func, 1, 8, [.nilf], false⟩ := rfl
theorem T_211 : T 211 = ⟨.func, 1, 8, [.nilf], false⟩ := rfl
theorem T_212 : T 212 = ⟨(.struct [(3, 0), (3, 1)]), 2, 16, [.int .i64 0, .int .i64 0], true⟩ := rfl
theorem T_213 : T 213 = ⟨(.struct [(3, 0), (3, 1)]), 2, 16, [.int .i64 0, .int .i64 0], true⟩ := rfl
theorem T_214 : T 214 = ⟨.func, 1, 8, [.nilf], false⟩ := rfl
theorem T_215 : T 215 = ⟨.func, 1, 8, [.nilf], false⟩ := rfl
theorem T_216 : T 216 = ⟨(.int .u64), 1, 8, [.int .u64 0], false⟩ := rfl
theorem T_217 : T 217 = ⟨.func, 1, 8, [.nilf], false⟩ := rfl
theorem T_218 : T 218 = ⟨.func, 1, 8, [.nilf], false⟩ := rfl
theorem T_219 : T 219 = ⟨.func, 1, 8, [.nilf], false⟩ := rfl
theorem T_220 : T 220 = ⟨(.ptr 5), 1, 8, [.nilp], false⟩ := rfl
theorem T_221 : T 221 = ⟨(.struct [(5, 0), (3, 1)]), 2, 16, [.int .u8 0, .int .i64 0], true⟩ := rfl
theorem T_222 : T 222 = ⟨(.struct [(5, 0), (3, 1)]), 2, 16, [.int .u8 0, .int .i64 0], true⟩ := rfl
theorem T_223 : T 223 = ⟨.func, 1, 8, [.nilf], false⟩ := rfl
theorem T_224 : T 224 = ⟨(.struct [(3, 0), (30, 1), (9, 3), (31, 4), (50, 5), (174, 6), (30, 7), (3, 9)]), 10, 184, [.int .i64 0, .str [], .fslice [], .str [], .fslice [], .fslice [], .fslice [], .str [], .fslice [], .int .i64 0], false⟩ := rfl
theorem T_225 : T 225 = ⟨(.struct [(3, 0), (30, 1), (9, 3), (31, 4), (50, 5), (174, 6), (30, 7), (3, 9)]), 10, 184, [.int .i64 0, .str [], .fslice [], .str [], .fslice [], .fslice [], .fslice [], .str [], .fslice [], .int .i64 0], false⟩ := rfl
theorem T_226 : T 226 = ⟨.func, 1, 8, [.nilf], false⟩ := rfl
theorem T_227 : T 227 = ⟨.func, 1, 8, [.nilf], false⟩ := rfl
theorem T_228 : T 228 = ⟨.func, 1, 8, [.nilf], false⟩ := rfl
theorem T_230 : T 230 = ⟨.func, 1, 8, [.nilf], false⟩ := rfl
theorem T_231 : T 231 = ⟨.func, 1, 8, [.nilf], false⟩ := rfl
theorem T_232 : T 232 = ⟨.func, 1, 8, [.nilf], false⟩ := rfl
theorem T_233 : T 233 = ⟨.func, 1, 8, [.nilf], false⟩ := rfl
theorem T_234 : T 234 = ⟨.func, 1, 8, [.nilf], false⟩ := rfl
theorem T_235 : T 235 = ⟨.func, 1, 8, [.nilf], false⟩ := rfl
theorem T_236 : T 236 = ⟨.func, 1, 8, [.nilf], false⟩ := rfl
theorem T_238 : T 238 = ⟨.func, 1, 8, [.nilf], false⟩ := rfl
theorem T_239 : T 239 = ⟨.func, 1, 8, [.nilf], false⟩ := rfl
theorem T_240 : T 240 = ⟨.func, 1, 8, [.nilf], false⟩ := rfl
theorem T_241 : T 241 = ⟨.func, 1, 8, [.nilf], false⟩ := rfl
theorem T_247 : T 247 = ⟨(.int .u32), 1, 4, [.int .u32 0], false⟩ := rfl
theorem T_250 : T 250 = ⟨.func, 1, 8, [.nilf], false⟩ := rfl
theorem TB : type_of% (And.intro (And.intro (And.intro (And.intro (And.intro (And.intro (And.intro (T_1) (And.intro (T_2) (T_3))) (And.intro (T_4) (And.intro (T_5) (T_9)))) (And.intro (And.intro (T_12) (And.intro (T_13) (T_19))) (And.intro (And.intro (T_20) (T_21)) (And.intro (T_22) (T_23))))) (And.intro (And.intro (And.intro (T_24) (And.intro (T_26) (T_27))) (And.intro (And.intro (T_28) (T_29)) (And.intro (T_30) (T_31)))) (And.intro (And.intro (T_32) (And.intro (T_33) (T_34))) (And.intro (And.intro (T_35) (T_36)) (And.intro (T_37) (T_38)))))) (And.intro (And.intro (And.intro (And.intro (T_39) (And.intro (T_40) (T_41))) (And.intro (And.intro (T_42) (T_43)) (And.intro (T_44) (T_45)))) (And.intro (And.intro (T_46) (And.intro (T_47) (T_48))) (And.intro (And.intro (T_49) (T_50)) (And.intro (T_51) (T_52))))) (And.intro (And.intro (And.intro (T_53) (And.intro (T_55) (T_56))) (And.intro (And.intro (T_57) (T_58)) (And.intro (T_59) (T_60)))) (And.intro (And.intro (T_62) (And.intro (T_63) (T_64))) (And.intro (And.intro (T_65) (T_66)) (And.intro (T_68) (T_69))))))) (And.intro (And.intro (And.intro (And.intro (And.intro (T_70) (And.intro (T_71) (T_72))) (And.intro (And.intro (T_73) (T_74)) (And.intro (T_75) (T_76)))) (And.intro (And.intro (T_77) (And.intro (T_78) (T_79))) (And.intro (And.intro (T_80) (T_81)) (And.intro (T_82) (T_84))))) (And.intro (And.intro (And.intro (T_85) (And.intro (T_87) (T_88))) (And.intro (And.intro (T_89) (T_90)) (And.intro (T_91) (T_92)))) (And.intro (And.intro (T_93) (And.intro (T_94) (T_95))) (And.intro (And.intro (T_96) (T_97)) (And.intro (T_98) (T_99)))))) (And.intro (And.intro (And.intro (And.intro (T_100) (And.intro (T_101) (T_102))) (And.intro (And.intro (T_103) (T_105)) (And.intro (T_106) (T_107)))) (And.intro (And.intro (T_108) (And.intro (T_109) (T_110))) (And.intro (And.intro (T_112) (T_113)) (And.intro (T_114) (T_115))))) (And.intro (And.intro (And.intro (T_116) (And.intro (T_117) (T_118))) (And.intro (And.intro (T_119) (T_120)) (And.intro (T_121) (T_122)))) (And.intro (And.intro (T_123) (And.intro (T_124) (T_125))) (And.intro (And.intro (T_126) (T_127)) (And.intro (T_128) (T_129)))))))) (And.intro (And.intro (And.intro (And.intro (And.intro (And.intro (T_130) (And.intro (T_131) (T_132))) (And.intro (T_133) (And.intro (T_134) (T_135)))) (And.intro (And.intro (T_136) (And.intro (T_137) (T_138))) (And.intro (And.intro (T_139) (T_140)) (And.intro (T_141) (T_142))))) (And.intro (And.intro (And.intro (T_143) (And.intro (T_144) (T_145))) (And.intro (And.intro (T_146) (T_147)) (And.intro (T_148) (T_149)))) (And.intro (And.intro (T_150) (And.intro (T_151) (T_152))) (And.intro (And.intro (T_153) (T_154)) (And.intro (T_155) (T_157)))))) (And.intro (And.intro (And.intro (And.intro (T_158) (And.intro (T_159) (T_160))) (And.intro (And.intro (T_161) (T_162)) (And.intro (T_163) (T_164)))) (And.intro (And.intro (T_165) (And.intro (T_166) (T_167))) (And.intro (And.intro (T_168) (T_169)) (And.intro (T_170) (T_171))))) (And.intro (And.intro (And.intro (T_172) (And.intro (T_173) (T_174))) (And.intro (And.intro (T_175) (T_176)) (And.intro (T_177) (T_178)))) (And.intro (And.intro (T_179) (And.intro (T_180) (T_181))) (And.intro (And.intro (T_182) (T_183)) (And.intro (T_184) (T_185))))))) (And.intro (And.intro (And.intro (And.intro (And.intro (T_186) (And.intro (T_187) (T_188))) (And.intro (And.intro (T_189) (T_190)) (And.intro (T_191) (T_192)))) (And.intro (And.intro (T_193) (And.intro (T_194) (T_195))) (And.intro (And.intro (T_196) (T_197)) (And.intro (T_198) (T_199))))) (And.intro (And.intro (And.intro (T_200) (And.intro (T_201) (T_202))) (And.intro (And.intro (T_203) (T_204)) (And.intro (T_205) (T_206)))) (And.intro (And.intro (T_207) (And.intro (T_208) (T_209))) (And.intro (And.intro (T_210) (T_211)) (And.intro (T_212) (T_213)))))) (And.intro (And.intro (And.intro (And.intro (T_214) (And.intro (T_215) (T_216))) (And.intro (And.intro (T_217) (T_218)) (And.intro (T_219) (T_220)))) (And.intro (And.intro (T_221) (And.intro (T_222) (T_223))) (And.intro (And.intro (T_224) (T_225)) (And.intro (T_226) (T_227))))) (And.intro (And.intro (And.intro (T_228) (And.intro (T_230) (T_231))) (And.intro (And.intro (T_232) (T_233)) (And.intro (T_234) (T_235)))) (And.intro (And.intro (T_236) (And.intro (T_238) (T_239))) (And.intro (And.intro (T_240) (T_241)) (And.intro (T_247) (T_250))))))))) := And.intro (And.intro (And.intro (And.intro (And.intro (And.intro (And.intro (T_1) (And.intro (T_2) (T_3))) (And.intro (T_4) (And.intro (T_5) (T_9)))) (And.intro (And.intro (T_12) (And.intro (T_13) (T_19))) (And.intro (And.intro (T_20) (T_21)) (And.intro (T_22) (T_23))))) (And.intro (And.intro (And.intro (T_24) (And.intro (T_26) (T_27))) (And.intro (And.intro (T_28) (T_29)) (And.intro (T_30) (T_31)))) (And.intro (And.intro (T_32) (And.intro (T_33) (T_34))) (And.intro (And.intro (T_35) (T_36)) (And.intro (T_37) (T_38)))))) (And.intro (And.intro (And.intro (And.intro (T_39) (And.intro (T_40) (T_41))) (And.intro (And.intro (T_42) (T_43)) (And.intro (T_44) (T_45)))) (And.intro (And.intro (T_46) (And.intro (T_47) (T_48))) (And.intro (And.intro (T_49) (T_50)) (And.intro (T_51) (T_52))))) (And.intro (And.intro (And.intro (T_53) (And.intro (T_55) (T_56))) (And.intro (And.intro (T_57) (T_58)) (And.intro (T_59) (T_60)))) (And.intro (And.intro (T_62) (And.intro (T_63) (T_64))) (And.intro (And.intro (T_65) (T_66)) (And.intro (T_68) (T_69))))))) (And.intro (And.intro (And.intro (And.intro (And.intro (T_70) (And.intro (T_71) (T_72))) (And.intro (And.intro (T_73) (T_74)) (And.intro (T_75) (T_76)))) (And.intro (And.intro (T_77) (And.intro (T_78) (T_79))) (And.intro (And.intro (T_80) (T_81)) (And.intro (T_82) (T_84))))) (And.intro (And.intro (And.intro (T_85) (And.intro (T_87) (T_88))) (And.intro (And.intro (T_89) (T_90)) (And.intro (T_91) (T_92)))) (And.intro (And.intro (T_93) (And.intro (T_94) (T_95))) (And.intro (And.intro (T_96) (T_97)) (And.intro (T_98) (T_99)))))) (And.intro (And.intro (And.intro (And.intro (T_100) (And.intro (T_101) (T_102))) (And.intro (And.intro (T_103) (T_105)) (And.intro (T_106) (T_107)))) (And.intro (And.intro (T_108) (And.intro (T_109) (T_110))) (And.intro (And.intro (T_112) (T_113)) (And.intro (T_114) (T_115))))) (And.intro (And.intro (And.intro (T_116) (And.intro (T_117) (T_118))) (And.intro (And.intro (T_119) (T_120)) (And.intro (T_121) (T_122)))) (And.intro (And.intro (T_123) (And.intro (T_124) (T_125))) (And.intro (And.intro (T_126) (T_127)) (And.intro (T_128) (T_129)))))))) (And.intro (And.intro (And.intro (And.intro (And.intro (And.intro (T_130) (And.intro (T_131) (T_132))) (And.intro (T_133) (And.intro (T_134) (T_135)))) (And.intro (And.intro (T_136) (And.intro (T_137) (T_138))) (And.intro (And.intro (T_139) (T_140)) (And.intro (T_141) (T_142))))) (And.intro (And.intro (And.intro (T_143) (And.intro (T_144) (T_145))) (And.intro (And.intro (T_146) (T_147)) (And.intro (T_148) (T_149)))) (And.intro (And.intro (T_150) (And.intro (T_151) (T_152))) (And.intro (And.intro (T_153) (T_154)) (And.intro (T_155) (T_157)))))) (And.intro (And.intro (And.intro (And.intro (T_158) (And.intro (T_159) (T_160))) (And.intro (And.intro (T_161) (T_162)) (And.intro (T_163) (T_164)))) (And.intro (And.intro (T_165) (And.intro (T_166) (T_167))) (And.intro (And.intro (T_168) (T_169)) (And.intro (T_170) (T_171))))) (And.intro (And.intro (And.intro (T_172) (And.intro (T_173) (T_174))) (And.intro (And.intro (T_175) (T_176)) (And.intro (T_177) (T_178)))) (And.intro (And.intro (T_179) (And.intro (T_180) (T_181))) (And.intro (And.intro (T_182) (T_183)) (And.intro (T_184) (T_185))))))) (And.intro (And.intro (And.intro (And.intro (And.intro (T_186) (And.intro (T_187) (T_188))) (And.intro (And.intro (T_189) (T_190)) (And.intro (T_191) (T_192)))) (And.intro (And.intro (T_193) (And.intro (T_194) (T_195))) (And.intro (And.intro (T_196) (T_197)) (And.intro (T_198) (T_199))))) (And.intro (And.intro (And.intro (T_200) (And.intro (T_201) (T_202))) (And.intro (And.intro (T_203) (T_204)) (And.intro (T_205) (T_206)))) (And.intro (And.intro (T_207) (And.intro (T_208) (T_209))) (And.intro (And.intro (T_210) (T_211)) (And.intro (T_212) (T_213)))))) (And.intro (And.intro (And.intro (And.intro (T_214) (And.intro (T_215) (T_216))) (And.intro (And.intro (T_217) (T_218)) (And.intro (T_219) (T_220)))) (And.intro (And.intro (T_221) (And.intro (T_222) (T_223))) (And.intro (And.intro (T_224) (T_225)) (And.intro (T_226) (T_227))))) (And.intro (And.intro (And.intro (T_228) (And.intro (T_230) (T_231))) (And.intro (And.intro (T_232) (T_233)) (And.intro (T_234) (T_235)))) (And.intro (And.intro (T_236) (And.intro (T_238) (T_239))) (And.intro (And.intro (T_240) (T_241)) (And.intro (T_247) (T_250))))))))
theorem T_all : (List.range 255).all (fun t => tyCheck Try.prog t (T t)) = true := by kernel_rfl
theorem Tok : TyOK Try.prog T := by
  intro t
  by_cases h : t < 255
  · exact List.all_eq_true.1 T_all t (List.mem_range.2 h)
  · have : T t = ⟨.other, 0, 0, [], false⟩ := by
      unfold T
      have hl : TL.length = 255 := rfl
      rw [List.getD_eq_getElem?_getD, List.getElem?_eq_none (l := TL) (i := t) (by rw [hl]; exact Nat.le_of_not_lt h)]
      rfl
    rw [this]
    rfl
def keep7 : Nat → List Nat
  | 0 => [0, 1, 2]
  | 1 => [0, 1, 2, 16]
  | 2 => [6]
  | 3 => [1, 2, 7, 8]
  | 4 => [1, 2, 7, 8, 9]
  | 5 => [1, 2, 7, 8, 9, 10]
  | 6 => [1, 2, 7, 8, 9, 10, 11]
  | 7 => [1, 2, 7, 8, 9, 10, 11, 28]
  | 8 => [1, 2, 7, 8, 9, 10, 11]
  | 9 => [1, 2, 7, 8, 9, 10, 11, 12]
  | 10 => [1, 2, 7, 8, 9, 10, 11, 48]
  | 11 => [1, 2, 7, 8, 9, 10, 11]
  | 12 => [1, 7, 8, 9, 10, 14]
  | 13 => [6]
  | _ => []
def tab7 : Nat → List Nat × List Nat
  | _ => ([], [])
def keep21 : Nat → List Nat
  | 0 => [0, 1]
  | 1 => [0, 1, 10]
  | 2 => [4]
  | 3 => [0, 1, 5]
  | 4 => [0, 1, 5, 14]
  | 5 => [0, 1, 5]
  | 6 => [0, 1, 5, 70]
  | 7 => [4]
  | 8 => [4]
  | _ => []
def tab21 : Nat → List Nat × List Nat
  | 6 => ([], [])
  | _ => ([], [])
def keep23 : Nat → List Nat
  | 0 => [0]
  | 1 => [0, 3]
  | 2 => [3, 7, 8, 9]
  | 3 => [3, 7, 8, 9, 10]
  | 4 => [3, 5, 7, 8, 9]
  | 5 => [3, 5, 6, 7, 8, 9]
  | 6 => [3, 7, 8, 9]
  | 7 => [3, 5, 6, 7, 8, 9, 23]
  | 8 => [3, 7, 8, 9]
  | 9 => [3, 5, 6, 7, 8, 9, 39]
  | 10 => [3, 5, 6, 7, 8, 9, 44]
  | 11 => [3, 7, 8, 9]
  | 12 => [3, 7, 8, 9]
  | 13 => [2]
  | _ => []
def tab23 : Nat → List Nat × List Nat
  | 8 => ([12], [])
  | 11 => ([13], [])
  | _ => ([], [])
def keep24 : Nat → List Nat
  | 0 => [0, 1]
  | 1 => [0, 1, 10]
  | 2 => [4]
  | 3 => [0, 1, 5]
  | 4 => [0, 1, 5, 14]
  | 5 => [0, 1, 5]
  | 6 => [0, 1, 5, 25]
  | 7 => [4]
  | 8 => [4]
  | _ => []
def tab24 : Nat → List Nat × List Nat
  | 6 => ([], [])
  | _ => ([], [])
def keep31 : Nat → List Nat
  | 0 => [2, 3]
  | 1 => [4]
  | _ => []
def tab31 : Nat → List Nat × List Nat
  | 1 => ([], [])
  | _ => ([], [])
def keep35 : Nat → List Nat
  | 0 => []
  | 1 => [1]
  | 2 => [1, 3]
  | 3 => [1, 3, 4]
  | 4 => [0]
  | _ => []
def tab35 : Nat → List Nat × List Nat
  | _ => ([], [])
def keep36 : Nat → List Nat
  | 0 => []
  | 1 => [1]
  | 2 => [1]
  | 3 => [1]
  | 4 => [0]
  | _ => []
def tab36 : Nat → List Nat × List Nat
  | 2 => ([6], [])
  | _ => ([], [])
def keep37 : Nat → List Nat
  | 0 => [0, 1, 2, 4, 5, 9]
  | 1 => [0, 1, 2, 4, 5, 9, 15]
  | 2 => [12, 13]
  | 3 => [0, 1, 2, 4, 5, 9, 19]
  | 4 => [12, 13]
  | 5 => [0, 1, 2, 4, 5, 9, 23]
  | 6 => [12, 13]
  | 7 => [0, 1, 2, 4, 5, 9, 27]
  | 8 => [12, 13]
  | 9 => [0, 1, 2, 4, 5, 9, 14]
  | 10 => [0, 1, 2, 4, 5, 9, 14]
  | 11 => [0, 1, 2, 4, 5, 9, 14]
  | 12 => [14]
  | 13 => [12, 13]
  | _ => []
def tab37 : Nat → List Nat × List Nat
  | 10 => ([10], [])
  | 11 => ([10], [])
  | 12 => ([13], [])
  | _ => ([], [])
def keep38 : Nat → List Nat
  | 0 => [0, 1, 4]
  | 1 => [4]
  | _ => []
def tab38 : Nat → List Nat × List Nat
  | _ => ([], [])
def keep39 : Nat → List Nat
  | 0 => [0, 1, 2]
  | 1 => [0, 2, 7, 8]
  | 2 => [0, 2, 7, 8, 16]
  | 3 => [6]
  | 4 => [0, 7]
  | 5 => [6]
  | _ => []
def tab39 : Nat → List Nat × List Nat
  | _ => ([], [])
def keep40 : Nat → List Nat
  | 0 => [0, 1, 4]
  | 1 => [0, 1, 4, 9]
  | 2 => [4, 5]
  | 3 => [4, 5]
  | _ => []
def tab40 : Nat → List Nat × List Nat
  | _ => ([], [])
def keep41 : Nat → List Nat
  | 0 => []
  | 1 => [1]
  | 2 => [0]
  | _ => []
def tab41 : Nat → List Nat × List Nat
  | _ => ([], [])
def keep42 : Nat → List Nat
  | 0 => [0]
  | 1 => [0, 4]
  | 2 => [0, 4, 5]
  | 3 => [0, 4, 5, 6]
  | 4 => [0, 4, 5, 6, 22]
  | 5 => [0, 4, 5, 6]
  | 6 => [0, 4, 5, 6, 7]
  | 7 => [0, 4, 5, 6, 7, 8, 9]
  | 8 => [0, 4, 5, 6, 7, 8, 53]
  | 9 => [0, 4, 5, 6, 7, 8, 10]
  | 10 => [0, 4, 5, 6, 7, 8, 10, 11]
  | 11 => [0, 4, 5, 6, 7, 8, 81]
  | 12 => [0, 4, 5, 6, 8]
  | 13 => [0, 4, 5, 6]
  | 14 => [2, 3]
  | _ => []
def tab42 : Nat → List Nat × List Nat
  | _ => ([], [])
def keep43 : Nat → List Nat
  | 0 => [0, 1]
  | 1 => [0, 1, 5]
  | 2 => [0, 5, 6]
  | 3 => [0, 5, 6, 8]
  | 4 => [0, 5, 6, 8, 21]
  | 5 => [0, 5, 6, 8]
  | 6 => [0, 5, 6, 8]
  | 7 => [4]
  | _ => []
def tab43 : Nat → List Nat × List Nat
  | _ => ([], [])
def keep44 : Nat → List Nat
  | 0 => [0]
  | 1 => [0, 3]
  | 2 => [2]
  | _ => []
def tab44 : Nat → List Nat × List Nat
  | _ => ([], [])
def keep45 : Nat → List Nat
  | 0 => [0, 1]
  | 1 => [0, 5]
  | 2 => [0, 5, 7]
  | 3 => [0, 5, 7, 8]
  | 4 => [0, 5, 7, 8, 22]
  | 5 => [0, 5, 7, 8]
  | 6 => [0, 5, 7, 8, 9]
  | 7 => [0, 5, 7, 8, 9, 11]
  | 8 => [0, 5, 7, 8, 9, 11, 48]
  | 9 => [0, 5, 7, 8, 9, 11, 48, 49]
  | 10 => [0, 5, 7, 8, 11]
  | 11 => [0, 5, 7, 8, 11, 54]
  | 12 => [0, 5, 7, 8, 11]
  | 13 => [0, 5, 7, 8]
  | 14 => [4]
  | _ => []
def tab45 : Nat → List Nat × List Nat
  | 7 => ([12, 13], [1000, 1001, 1002, 1003, 4, 1005, 1006, 7, 1008, 1009, 1010, 11])
  | _ => ([], [])
def keep46 : Nat → List Nat
  | 0 => [0, 1]
  | 1 => [0, 1, 10]
  | 2 => [4]
  | 3 => [0, 1, 5]
  | 4 => [0, 1, 5, 14]
  | 5 => [0, 1, 5]
  | 6 => [0, 1, 5, 25]
  | 7 => [4]
  | 8 => [4]
  | _ => []
def tab46 : Nat → List Nat × List Nat
  | 6 => ([], [])
  | _ => ([], [])
def keep47 : Nat → List Nat
  | 0 => [0, 1]
  | 1 => [0, 1, 5, 6]
  | 2 => [0, 1, 5, 17]
  | 3 => [4]
  | 4 => [0, 5, 7]
  | 5 => [0, 7, 21, 22, 23]
  | 6 => [0, 7, 21, 22, 23, 24]
  | 7 => [0, 7, 9, 21, 22, 23]
  | 8 => [0, 7, 21, 22, 23]
  | 9 => [0, 7, 21, 22, 23]
  | 10 => [4]
  | _ => []
def tab47 : Nat → List Nat × List Nat
  | _ => ([], [])
def keep48 : Nat → List Nat
  | 0 => [2, 3]
  | 1 => [2, 3, 5]
  | 2 => [5, 6]
  | 3 => [5, 6, 13]
  | 4 => [4]
  | 5 => [4]
  | _ => []
def tab48 : Nat → List Nat × List Nat
  | _ => ([], [])
def keep53 : Nat → List Nat
  | 0 => [0, 1]
  | 1 => [0, 1, 16]
  | 2 => [4]
  | 3 => [0, 1, 5]
  | 4 => [0, 5]
  | 5 => [0, 5]
  | 6 => [0, 5, 6]
  | 7 => [0, 6, 40, 41, 42]
  | 8 => [0, 6, 40, 41, 42, 43]
  | 9 => [0, 6, 8, 40, 41, 42]
  | 10 => [0, 6, 40, 41, 42]
  | 11 => [0, 6, 40, 41, 42]
  | 12 => [4]
  | _ => []
def tab53 : Nat → List Nat × List Nat
  | 5 => ([11], [])
  | _ => ([], [])
def keep66 : Nat → List Nat
  | 0 => [0, 1]
  | 1 => [0, 1, 5]
  | 2 => [0, 5, 6, 7]
  | 3 => [0, 5, 6, 14]
  | 4 => [0, 5, 6, 7]
  | 5 => [0, 5, 6]
  | 6 => [0, 5, 6, 29]
  | 7 => [5]
  | 8 => [4]
  | 9 => [0, 5, 6, 36]
  | 10 => [4]
  | 11 => [0, 5, 37]
  | 12 => [0, 5, 6]
  | 13 => [4]
  | _ => []
def tab66 : Nat → List Nat × List Nat
  | _ => ([], [])
def keep68 : Nat → List Nat
  | 0 => [0, 1, 2, 3]
  | 1 => [0, 1, 2, 3, 9, 10]
  | 2 => [0, 1, 2, 3, 9, 10, 11, 12]
  | 3 => [0, 1, 2, 3, 9, 11, 25]
  | 4 => [8]
  | 5 => [0, 1, 2, 3, 9, 11, 32]
  | 6 => [8]
  | 7 => [0, 1, 2, 3, 9, 11, 36]
  | 8 => [8]
  | 9 => [0, 1, 2, 3, 9, 11, 44]
  | 10 => [8]
  | 11 => [0, 1, 2, 3, 9, 11, 49]
  | 12 => [8]
  | 13 => [0, 1, 9, 11]
  | 14 => [0, 1, 11]
  | 15 => [0, 11]
  | 16 => [8]
  | _ => []
def tab68 : Nat → List Nat × List Nat
  | _ => ([], [])
def keep71 : Nat → List Nat
  | 0 => [0, 1]
  | 1 => [0, 1, 6, 7]
  | 2 => [0, 1, 6, 16]
  | 3 => [4, 5]
  | 4 => [0, 1, 6, 19]
  | 5 => [4, 5]
  | 6 => [0, 1, 8, 9]
  | 7 => [0, 1, 8, 29]
  | 8 => [0, 1, 8]
  | 9 => [0, 1]
  | 10 => [4, 5]
  | _ => []
def tab71 : Nat → List Nat × List Nat
  | _ => ([], [])
def keep86 : Nat → List Nat
  | 0 => [0, 1]
  | 1 => [0, 1, 10]
  | 2 => [4]
  | 3 => [0, 1, 5]
  | 4 => [0, 1, 5, 14]
  | 5 => [0, 1, 5]
  | 6 => [0, 1, 5, 42]
  | 7 => [4]
  | 8 => [4]
  | _ => []
def tab86 : Nat → List Nat × List Nat
  | 6 => ([], [])
  | _ => ([], [])
def keep87 : Nat → List Nat
  | 0 => [0, 1, 2]
  | 1 => [0, 1, 2, 7]
  | 2 => [0, 2, 7, 8, 9]
  | 3 => [0, 2, 7, 8, 23]
  | 4 => [0, 2, 7, 8, 9]
  | 5 => [0, 2, 7, 8, 34]
  | 6 => [6]
  | 7 => [0, 2, 7, 8]
  | 8 => [0, 2, 7, 40]
  | 9 => [0, 2, 7, 8]
  | 10 => [6]
  | _ => []
def tab87 : Nat → List Nat × List Nat
  | _ => ([], [])
def keep92 : Nat → List Nat
  | 0 => [1]
  | 1 => [2]
  | _ => []
def tab92 : Nat → List Nat × List Nat
  | _ => ([], [])
def keep93 : Nat → List Nat
  | 0 => [1, 2]
  | 1 => [1, 2, 3]
  | 2 => [1, 2, 3, 4]
  | 3 => [2, 3, 4, 15, 16, 17]
  | 4 => [2, 3, 4, 15, 16, 17, 18]
  | 5 => [2, 3, 4, 6, 15, 16, 17]
  | 6 => [2, 3, 4, 6, 7, 15, 16, 17]
  | 7 => [2, 3, 4, 7, 15, 16, 17]
  | 8 => [2, 3, 4, 15, 16, 17]
  | 9 => [2, 3, 4, 15, 16, 17]
  | 10 => [2, 3]
  | 11 => [2]
  | _ => []
def tab93 : Nat → List Nat × List Nat
  | 7 => ([6, 8], [])
  | _ => ([], [])
def keep94 : Nat → List Nat
  | 0 => [0]
  | 1 => [0, 3]
  | 2 => [3, 6, 7, 8]
  | 3 => [3, 6, 7, 8, 9]
  | 4 => [3, 5, 6, 7, 8]
  | 5 => [3, 5, 6, 7, 8, 17]
  | 6 => [3, 6, 7, 8]
  | 7 => [3, 6, 7, 8]
  | 8 => [2]
  | _ => []
def tab94 : Nat → List Nat × List Nat
  | _ => ([], [])
def keep95 : Nat → List Nat
  | 0 => [0, 2]
  | 1 => [0, 2, 3]
  | 2 => [0, 2, 3, 4]
  | 3 => [2, 3, 4, 9, 10, 11]
  | 4 => [2, 3, 4, 9, 10, 11, 12]
  | 5 => [2, 3, 4, 6, 9, 10, 11]
  | 6 => [2, 3, 4, 6, 9, 10, 11]
  | 7 => [2, 3, 4, 9, 10, 11, 21, 22, 23]
  | 8 => [2, 3, 4, 9, 10, 11, 21, 22, 23, 24]
  | 9 => [2, 3, 4, 8, 9, 10, 11, 21, 22, 23]
  | 10 => [2, 3, 4, 9, 10, 11, 21, 22, 23]
  | 11 => [2, 3, 4, 9, 10, 11, 21, 22, 23]
  | 12 => [2, 3, 4, 9, 10, 11]
  | 13 => [2, 3]
  | 14 => [2]
  | _ => []
def tab95 : Nat → List Nat × List Nat
  | _ => ([], [])
def keep103 : Nat → List Nat
  | 0 => [0, 1]
  | 1 => [0, 1, 10]
  | 2 => [4]
  | 3 => [0, 1, 5]
  | 4 => [0, 1, 5, 14]
  | 5 => [0, 1, 5]
  | 6 => [0, 1, 5, 25]
  | 7 => [4]
  | 8 => [4]
  | _ => []
def tab103 : Nat → List Nat × List Nat
  | 6 => ([], [])
  | _ => ([], [])
def keep104 : Nat → List Nat
  | 0 => [1]
  | 1 => [1, 3]
  | 2 => [1, 3, 4]
  | 3 => [1, 3, 4, 10]
  | 4 => [1, 3, 4]
  | 5 => [1, 3, 4, 5]
  | 6 => [1, 3, 4, 5, 28]
  | 7 => [1, 3, 4, 5]
  | 8 => [1, 3, 4, 5]
  | 9 => [1, 3, 52]
  | 10 => [1, 3]
  | 11 => [2]
  | _ => []
def tab104 : Nat → List Nat × List Nat
  | 8 => ([15], [])
  | _ => ([], [])
def keep105 : Nat → List Nat
  | 0 => [0]
  | 1 => [2]
  | _ => []
def tab105 : Nat → List Nat × List Nat
  | _ => ([], [])
def keep106 : Nat → List Nat
  | 0 => [0]
  | 1 => [2]
  | _ => []
def tab106 : Nat → List Nat × List Nat
  | _ => ([], [])
def keep107 : Nat → List Nat
  | 0 => [0, 1]
  | 1 => [4]
  | _ => []
def tab107 : Nat → List Nat × List Nat
  | 1 => ([], [])
  | _ => ([], [])
def keep108 : Nat → List Nat
  | 0 => [0, 1]
  | 1 => [0, 1, 17]
  | 2 => [4]
  | 3 => [4]
  | _ => []
def tab108 : Nat → List Nat × List Nat
  | _ => ([], [])
def keep109 : Nat → List Nat
  | 0 => [0, 1, 2]
  | 1 => [0, 1, 2, 7]
  | 2 => [0]
  | 3 => [0, 1, 2, 7, 17]
  | 4 => [0, 1, 2, 7, 20]
  | 5 => [0]
  | 6 => [6]
  | _ => []
def tab109 : Nat → List Nat × List Nat
  | _ => ([], [])
def keep110 : Nat → List Nat
  | 0 => [0]
  | 1 => [2]
  | _ => []
def tab110 : Nat → List Nat × List Nat
  | _ => ([], [])
def keep111 : Nat → List Nat
  | 0 => [0, 1, 2, 6]
  | 1 => [2, 6, 8, 9]
  | 2 => [2, 6, 8, 16]
  | 3 => [6, 7]
  | 4 => [6, 8, 20]
  | 5 => [6, 7]
  | 6 => [6, 7]
  | _ => []
def tab111 : Nat → List Nat × List Nat
  | _ => ([], [])
def keep112 : Nat → List Nat
  | 0 => [0]
  | 1 => [0, 4]
  | 2 => [2]
  | 3 => [2]
  | _ => []
def tab112 : Nat → List Nat × List Nat
  | _ => ([], [])
def keep113 : Nat → List Nat
  | 0 => [0, 3]
  | 1 => [0, 3, 9]
  | 2 => [4]
  | 3 => [0, 3, 5, 6]
  | 4 => [0, 3, 5, 21]
  | 5 => [4]
  | 6 => [0, 3, 5]
  | 7 => [0, 3, 5]
  | 8 => []
  | 9 => [4]
  | _ => []
def tab113 : Nat → List Nat × List Nat
  | 3 => ([10, 11], [9998, 2000, 2001, 2002, 2003, 2004, 2005, 2006, 2007, 8, 9])
  | 7 => ([11, 13, 15, 17, 19], [9998, 4005, 2002, 2003, 2004, 2005, 2006, 2007, 2008, 2009])
  | 8 => ([7], [])
  | _ => ([], [])
def keep114 : Nat → List Nat
  | 0 => [0, 1]
  | 1 => [0, 1, 9]
  | 2 => [4]
  | 3 => [6]
  | 4 => [4]
  | _ => []
def tab114 : Nat → List Nat × List Nat
  | _ => ([], [])
def keep115 : Nat → List Nat
  | 0 => [1, 2]
  | 1 => [1, 2]
  | 2 => [1, 2]
  | 3 => [1, 2, 3]
  | 4 => [1, 2, 3, 23, 24, 25]
  | 5 => [1, 2, 3, 23, 24, 25, 26]
  | 6 => [1, 2, 3, 5, 23, 24, 25]
  | 7 => [1, 2, 3, 23, 24, 25]
  | 8 => [1, 2, 3, 23, 24, 25]
  | 9 => [1, 2]
  | 10 => [2]
  | _ => []
def tab115 : Nat → List Nat × List Nat
  | 1 => ([7, 9], [])
  | 2 => ([], [9997])
  | 7 => ([9], [])
  | _ => ([], [])
def keep116 : Nat → List Nat
  | 0 => [0, 1]
  | 1 => [0, 5, 6]
  | 2 => [0, 5, 22]
  | 3 => [4]
  | 4 => [0, 5, 7]
  | 5 => [0, 5, 7, 29]
  | 6 => [0, 5, 7]
  | 7 => [0, 7, 40, 41, 42]
  | 8 => [0, 7, 40, 41, 42, 43]
  | 9 => [0, 7, 9, 40, 41, 42]
  | 10 => [0, 7, 40, 41, 42]
  | 11 => [0, 7, 40, 41, 42]
  | 12 => [0, 5, 7, 29, 54]
  | 13 => [7]
  | 14 => [0, 5, 7, 59]
  | 15 => [7]
  | 16 => [4]
  | _ => []
def tab116 : Nat → List Nat × List Nat
  | 6 => ([7, 9, 11], [9998, 4007, 2002, 2003, 2004, 2005])
  | 10 => ([5, 7], [])
  | _ => ([], [])
def keep117 : Nat → List Nat
  | 0 => [0, 1, 5]
  | 1 => [0, 5, 7, 8]
  | 2 => [0, 5, 7, 8, 16]
  | 3 => [6]
  | 4 => [0, 7]
  | 5 => [6]
  | _ => []
def tab117 : Nat → List Nat × List Nat
  | _ => ([], [])
def keep118 : Nat → List Nat
  | 0 => [0, 3]
  | 1 => [0, 3, 5]
  | 2 => [0, 5, 9, 10, 11]
  | 3 => [0, 5, 9, 10, 11, 12]
  | 4 => [0, 5, 7, 9, 10, 11]
  | 5 => [0, 5, 9, 10, 11]
  | 6 => [0, 5, 9, 10, 11]
  | 7 => [4]
  | _ => []
def tab118 : Nat → List Nat × List Nat
  | _ => ([], [])
def keep119 : Nat → List Nat
  | 0 => [0, 1]
  | 1 => [0, 1, 7, 8]
  | 2 => [0, 1, 7, 8, 9]
  | 3 => [0, 1, 5, 7, 8]
  | 4 => [0, 1, 5, 7, 8, 16]
  | 5 => [4]
  | 6 => [0, 1, 7, 8]
  | 7 => [4]
  | _ => []
def tab119 : Nat → List Nat × List Nat
  | _ => ([], [])
def keep120 : Nat → List Nat
  | 0 => [0, 1, 2]
  | 1 => [2, 5]
  | 2 => [4]
  | _ => []
def tab120 : Nat → List Nat × List Nat
  | _ => ([], [])
def keep121 : Nat → List Nat
  | 0 => [0]
  | 1 => [0, 8]
  | 2 => [2]
  | 3 => [3]
  | 4 => [3, 28]
  | 5 => [3, 28, 30]
  | 6 => [3, 4, 5, 28]
  | 7 => [3, 28]
  | 8 => [2]
  | _ => []
def tab121 : Nat → List Nat × List Nat
  | 3 => ([4, 14], [9998, 2005, 2006, 2007, 2008, 2009, 2010, 2011, 2012])
  | 7 => ([7], [])
  | _ => ([], [])
def keep127 : Nat → List Nat
  | 0 => [0, 2, 3]
  | 1 => [0, 2, 3, 9]
  | 2 => [0, 2, 3]
  | 3 => [0, 2, 3]
  | _ => []
def tab127 : Nat → List Nat × List Nat
  | 3 => ([13, 15], [2, 3])
  | _ => ([], [])
def keep128 : Nat → List Nat
  | 0 => [0, 1]
  | 1 => [4]
  | _ => []
def tab128 : Nat → List Nat × List Nat
  | _ => ([], [])
def keep131 : Nat → List Nat
  | 0 => [0, 1, 2]
  | 1 => [0, 1, 2]
  | 2 => [0, 1, 2, 7]
  | 3 => [0, 1, 2, 7, 16]
  | 4 => [6]
  | 5 => [0, 1, 2, 7, 8]
  | 6 => [0, 1, 2, 7, 8, 22]
  | 7 => [6]
  | 8 => [0, 1, 2, 7, 8, 31]
  | 9 => [0, 1, 2, 7, 9]
  | 10 => [0, 1, 7, 9]
  | 11 => [9]
  | 12 => [6]
  | 13 => [0, 1, 2, 7, 8]
  | 14 => [0, 1, 2, 7, 8, 68]
  | 15 => [0, 1, 2]
  | 16 => [0]
  | 17 => [6]
  | 18 => [0, 1, 7]
  | 19 => [0]
  | 20 => [6]
  | _ => []
def tab131 : Nat → List Nat × List Nat
  | 11 => ([8], [])
  | 15 => ([8], [])
  | _ => ([], [])
def keep137 : Nat → List Nat
  | 0 => [0, 1]
  | 1 => [0, 1, 7, 8]
  | 2 => [0, 1, 7, 8, 9]
  | 3 => [0, 1, 5, 7, 8]
  | 4 => [0, 1, 5, 7, 8, 16]
  | 5 => [4]
  | 6 => [0, 1, 7, 8]
  | 7 => [4]
  | _ => []
def tab137 : Nat → List Nat × List Nat
  | _ => ([], [])
def keep153 : Nat → List Nat
  | 0 => [0, 3]
  | 1 => [4]
  | _ => []
def tab153 : Nat → List Nat × List Nat
  | _ => ([], [])
def keep154 : Nat → List Nat
  | 0 => [1, 2]
  | 1 => [2]
  | _ => []
def tab154 : Nat → List Nat × List Nat
  | 1 => ([7], [])
  | _ => ([], [])
def keep159 : Nat → List Nat
  | 0 => [0]
  | 1 => [2]
  | _ => []
def tab159 : Nat → List Nat × List Nat
  | _ => ([], [])
def keep160 : Nat → List Nat
  | 0 => [0]
  | 1 => [4]
  | 2 => [2]
  | 3 => [2]
  | _ => []
def tab160 : Nat → List Nat × List Nat
  | _ => ([], [])
def keep161 : Nat → List Nat
  | 0 => [0]
  | 1 => [0, 4]
  | 2 => [2]
  | 3 => [2]
  | _ => []
def tab161 : Nat → List Nat × List Nat
  | _ => ([], [])
def keep162 : Nat → List Nat
  | 0 => [0, 1]
  | 1 => [0, 5, 6]
  | 2 => [0, 5, 13]
  | 3 => [4]
  | 4 => [0, 5, 16]
  | 5 => [4]
  | 6 => [0, 5, 24]
  | 7 => [4]
  | 8 => [4]
  | _ => []
def tab162 : Nat → List Nat × List Nat
  | 7 => ([], [])
  | 8 => ([], [])
  | _ => ([], [])
def keep163 : Nat → List Nat
  | 0 => [0]
  | 1 => [0, 4]
  | 2 => [2]
  | 3 => [2]
  | _ => []
def tab163 : Nat → List Nat × List Nat
  | _ => ([], [])
def keep168 : Nat → List Nat
  | 0 => [0, 3]
  | 1 => [3, 5]
  | 2 => [3, 5, 6]
  | 3 => [3, 5, 6, 15]
  | 4 => [5]
  | 5 => [4]
  | 6 => [4]
  | _ => []
def tab168 : Nat → List Nat × List Nat
  | _ => ([], [])
def keep172 : Nat → List Nat
  | 0 => [0, 3]
  | 1 => [4]
  | _ => []
def tab172 : Nat → List Nat × List Nat
  | _ => ([], [])
def keep175 : Nat → List Nat
  | 0 => [0, 1]
  | 1 => [0, 1, 7, 8]
  | 2 => [0, 1, 7, 8, 9]
  | 3 => [0, 1, 5, 7, 8]
  | 4 => [0, 1, 5, 7, 8, 16]
  | 5 => [4]
  | 6 => [0, 1, 7, 8]
  | 7 => [4]
  | _ => []
def tab175 : Nat → List Nat × List Nat
  | _ => ([], [])
def keep176 : Nat → List Nat
  | 0 => [1, 2]
  | 1 => [3]
  | _ => []
def tab176 : Nat → List Nat × List Nat
  | _ => ([], [])
def keep180 : Nat → List Nat
  | 0 => [0]
  | 1 => [0, 3]
  | 2 => [3, 6, 7, 8]
  | 3 => [3, 6, 7, 8, 9]
  | 4 => [3, 5, 6, 7, 8]
  | 5 => [3, 6, 7, 8]
  | 6 => [3, 6, 7, 8]
  | 7 => [2]
  | _ => []
def tab180 : Nat → List Nat × List Nat
  | _ => ([], [])
def keep181 : Nat → List Nat
  | 0 => [0, 1]
  | 1 => [0, 1, 5]
  | 2 => [0, 1, 5, 12]
  | 3 => [4]
  | 4 => [0, 1, 5, 6]
  | 5 => [0, 1, 5, 6, 19]
  | 6 => [0, 1, 5, 6]
  | 7 => [0, 1, 5, 6, 7]
  | 8 => [0, 1, 5, 6, 7, 29]
  | 9 => [0, 1, 5, 6]
  | 10 => [0, 1, 5, 6]
  | 11 => [0, 5]
  | 12 => [4]
  | _ => []
def tab181 : Nat → List Nat × List Nat
  | _ => ([], [])
def keep182 : Nat → List Nat
  | 0 => [1, 2]
  | 1 => [3]
  | _ => []
def tab182 : Nat → List Nat × List Nat
  | _ => ([], [])
theorem mixed : Try.prog.follows .mixedOrders = true := by kernel_rfl
end Go.Proofs.Ytjplgbalpnlanaa

/- Labelled texts: their bytes' origins, and what is put together of them. -/
set_option maxHeartbeats 600000
set_option linter.unusedSimpArgs false
set_option linter.unusedVariables false
set_option maxRecDepth 100000
namespace Go.Proofs.Ytjplgbalpnlanaa
open Go Go.EL
theorem lt_vi (n : Nat) (l : List Int) : ltL n (l.map vi) := ltL_map (f := vi) (fun _ => trivial) l
theorem lt_str (n : Nat) (l : List (List UInt8)) : ltL n (l.map V.str) := ltL_map (f := V.str) (fun _ => trivial) l
theorem lt_vb (n : Nat) (l : List UInt8) : ltL n (l.map vb) := ltL_map (f := vb) (fun _ => trivial) l
theorem ltc_str {α : Type} (n : Nat) (g : α → List UInt8) (l : List α) : ltL n (l.map (V.str ∘ g)) := ltL_map (f := V.str ∘ g) (fun _ => trivial) l
theorem ltc_vi {α : Type} (n : Nat) (g : α → Int) (l : List α) : ltL n (l.map (vi ∘ g)) := ltL_map (f := vi ∘ g) (fun _ => trivial) l
theorem wrapI {x : Int} (h : -9223372036854775808 ≤ x ∧ x ≤ 9223372036854775807) : IntKind.i64.wrap x = x := wrap64_id h
theorem ge_of {a b : Nat} (h : decide ((a : Int) < b) = false) : b ≤ a := by have := of_decide_eq_false h; omega
theorem lt_of {a b : Nat} (h : decide ((a : Int) < b) = true) : a < b := by have := of_decide_eq_true h; omega
/-- the place of the first one; -1: none -/
def ix {α : Type} (p : α → Bool) (l : List α) : Int := if l.findIdx p < l.length then (l.findIdx p : Nat) else -1
theorem ix_hit {α : Type} {p : α → Bool} {l : List α} {i : Nat} (h : i < l.length) (hp : p l[i] = true) (hn : ∀ x ∈ l.take i, p x = false) : ix p l = i := by
  have : l.findIdx p = i := by
    rw [List.findIdx_eq h]
    refine ⟨hp, fun j hj => ?_⟩
    exact hn _ (List.mem_take_iff_getElem.2 ⟨j, by omega, rfl⟩)
  rw [ix, this, if_pos h]
theorem ix_none {α : Type} {p : α → Bool} {l : List α} (hn : ∀ x ∈ l, p x = false) : ix p l = -1 := by
  rw [ix, if_neg]
  rw [List.findIdx_lt_length]
  rintro ⟨x, hx, h⟩
  rw [hn x hx] at h
  cases h
theorem ix_nonneg {α : Type} {p : α → Bool} {l : List α} : 0 ≤ ix p l ↔ ∃ x ∈ l, p x = true := by
  unfold ix
  by_cases h : l.findIdx p < l.length
  · rw [if_pos h]; exact ⟨fun _ => List.findIdx_lt_length.1 h, fun _ => by omega⟩
  · rw [if_neg h]; exact ⟨fun h => by omega, fun h' => absurd (List.findIdx_lt_length.2 h') h⟩
theorem ix_any {α : Type} {p : α → Bool} {l : List α} : decide (0 ≤ ix p l) = l.any p := by
  rw [Bool.eq_iff_iff, decide_eq_true_iff, ix_nonneg, List.any_eq_true]
theorem take_step {α : Type} {q : α → Prop} {l : List α} {i : Nat} (h : i < l.length) (hq : q l[i]) (hn : ∀ x ∈ l.take i, q x) : ∀ x ∈ l.take (i + 1), q x := by
  intro x hx
  rw [List.take_succ_eq_append_getElem h] at hx
  rcases List.mem_append.1 hx with hx | hx
  · exact hn x hx
  · rw [List.mem_singleton.1 hx]; exact hq
theorem take_all {α : Type} {q : α → Prop} {l : List α} {i : Nat} (h : l.length ≤ i) (hn : ∀ x ∈ l.take i, q x) : ∀ x ∈ l, q x := by
  rwa [List.take_of_length_le h] at hn
theorem isE {α : Type} {l : List α} (h : l ≠ []) : l.isEmpty = false := by cases l <;> simp_all

/-! labelled texts -/
structure Str where
  text : List UInt8
  runs : List (Int × Int)
  deriving DecidableEq
def runV (r : Int × Int) : V := .agg [.int .i64 r.1, .int .i64 r.2]
def strV (s : Str) : V := .agg [.str s.text, .slice (s.runs.map runV)]
theorem lt_run (n : Nat) (l : List (Int × Int)) : ltL n (l.map runV) := ltL_map (f := runV) (fun _ => by simp [runV, V.lt, ltL]) l
theorem lt1_run (n : Nat) (x : Int × Int) : V.lt n (runV x) := by simp [runV, V.lt, ltL]
theorem ltc_run {α : Type} (n : Nat) (g : α → Int × Int) (l : List α) : ltL n (l.map (runV ∘ g)) := ltL_map (f := runV ∘ g) (fun x => lt1_run n (g x)) l
theorem st_run (l : List (Int × Int)) : (∀ x, x ∈ l.map runV → x.storable) = True := eq_true (storable_map (f := runV) (fun _ => trivial) l)
theorem sz_run (l : List (Int × Int)) : Sized 2 (l.map runV) = True := eq_true (sizedMapV (f := runV) (fun _ => rfl) l)
theorem st1_run (x : Int × Int) : (runV x).storable = True := eq_true trivial
theorem cl_run (x : Int × Int) : (runV x).cells.length = 2 := rfl

theorem lt_Str (n : Nat) (l : List (Str)) : ltL n (l.map strV) := ltL_map (f := strV) (fun _ => by simp [strV, V.lt, ltL, lt_run]) l
theorem lt1_Str (n : Nat) (x : Str) : V.lt n (strV x) := by simp [strV, V.lt, ltL, lt_run]
theorem ltc_Str {α : Type} (n : Nat) (g : α → Str) (l : List α) : ltL n (l.map (strV ∘ g)) := ltL_map (f := strV ∘ g) (fun x => lt1_Str n (g x)) l
theorem st_Str (l : List (Str)) : (∀ x, x ∈ l.map strV → x.storable) = True := eq_true (storable_map (f := strV) (fun _ => trivial) l)
theorem sz_Str (l : List (Str)) : Sized 2 (l.map strV) = True := eq_true (sizedMapV (f := strV) (fun _ => rfl) l)
theorem st1_Str (x : Str) : (strV x).storable = True := eq_true trivial
theorem cl_Str (x : Str) : (strV x).cells.length = 2 := rfl

def near (o : Int) : Int := min (max o 0) 65536
theorem near_ge (o : Int) : 0 ≤ near o := by unfold near; omega
theorem near_le (o : Int) : near o ≤ 65536 := by unfold near; omega
theorem near_id {o : Int} (h : 0 ≤ o ∧ o ≤ 65536) : near o = o := by unfold near; omega
/-- so many bytes more, of an origin -/
def putR (l : List (Int × Int)) (n o : Int) : List (Int × Int) :=
  if n < 1 then l else match l.getLast? with
  | none => [(n, o)]
  | some (k, o') => if o' = o then l.dropLast ++ [(k + n, o)] else l ++ [(n, o)]
/-- origins in a row -/
def rle (l : List Int) : List (Int × Int) := l.foldl (fun acc o => putR acc 1 o) []
theorem putR_zero (l : List (Int × Int)) (n o : Int) (h : n < 1) : putR l n o = l := by unfold putR; rw [if_pos h]
theorem putR_last {l : List (Int × Int)} {n o : Int} (h : 1 ≤ n) : ∃ k, (putR l n o).getLast? = some (k, o) := by
  unfold putR
  rw [if_neg (by omega)]
  split
  · exact ⟨_, rfl⟩
  · split
    · exact ⟨_, by simp; rfl⟩
    · exact ⟨_, by simp; rfl⟩
theorem putR_put {l : List (Int × Int)} {n m o : Int} (hn : 1 ≤ n) (hm : 0 ≤ m) : putR (putR l n o) m o = putR l (n + m) o := by
  by_cases h0 : m < 1
  · rw [putR_zero _ _ _ h0, show m = 0 by omega, Int.add_zero]
  have h1 : ¬ n < 1 := by omega
  have h2 : ¬ n + m < 1 := by omega
  cases hl : l.getLast? with
  | none => simp [putR, h0, h1, h2, hl]
  | some p =>
    obtain ⟨k, o'⟩ := p
    by_cases ho : o' = o
    · simp [putR, h0, h1, h2, hl, ho, Int.add_assoc]
    · simp [putR, h0, h1, h2, hl, ho]
theorem rle_append (l : List Int) (o : Int) : ∀ n : Nat, rle (l ++ List.replicate n o) = putR (rle l) n o
  | 0 => by simp [putR]
  | n + 1 => by
    rw [List.replicate_succ', ← List.append_assoc]
    have : rle (l ++ List.replicate n o ++ [o]) = putR (rle (l ++ List.replicate n o)) 1 o := by simp [rle, List.foldl_append]
    rw [this, rle_append l o n]
    cases n with
    | zero => simp [putR_zero]
    | succ n => rw [putR_put (by omega) (by omega)]; rfl
theorem rle_nil : rle [] = [] := rfl
theorem rle_snoc (l : List Int) (o : Int) : rle (l ++ [o]) = putR (rle l) 1 o := by simp [rle, List.foldl_append]
theorem rle_rep (n : Nat) (o : Int) : rle (List.replicate n o) = if n = 0 then [] else [((n : Int), o)] := by
  have := rle_append [] o n
  rw [List.nil_append] at this
  rw [this]
  cases n with
  | zero => simp [putR, rle_nil]
  | succ n => simp [putR, rle_nil]; omega
/-- the origins of runs -/
def unrle (r : List (Int × Int)) : List Int := r.flatMap fun p => List.replicate p.1.toNat p.2
theorem unrle_put {r : List (Int × Int)} {n : Nat} {o : Int} (hr : ∀ p ∈ r, 1 ≤ p.1) : unrle (putR r n o) = unrle r ++ List.replicate n o ∧ ∀ p ∈ putR r n o, 1 ≤ p.1 := by
  unfold putR
  by_cases hn : (n : Int) < 1
  · rw [if_pos hn]
    have : n = 0 := by omega
    subst this
    exact ⟨by simp, hr⟩
  · rw [if_neg hn]
    have h1 : ∀ q : Int × Int, q.1 = n → 1 ≤ q.1 := fun q h => by omega
    cases hl : r.getLast? with
    | none =>
      rw [List.getLast?_eq_none_iff] at hl
      subst hl
      exact ⟨by simp [unrle], fun p hp => by simp at hp; subst hp; exact h1 _ rfl⟩
    | some q =>
      obtain ⟨k, o'⟩ := q
      obtain ⟨ys, rfl⟩ := List.getLast?_eq_some_iff.1 hl
      have hk := hr (k, o') (by simp)
      simp only
      by_cases ho : o' = o
      · subst ho
        rw [if_pos rfl, List.dropLast_concat]
        refine ⟨?_, fun p hp => ?_⟩
        · simp only [unrle, List.flatMap_append, List.flatMap_cons, List.flatMap_nil, List.append_nil, List.append_assoc]
          rw [List.replicate_append_replicate]
          congr 2
          simp only at hk
          omega
        · rcases List.mem_append.1 hp with hp | hp
          · exact hr p (by simp [hp])
          · simp at hp; subst hp; simp only at hk ⊢; omega
      · rw [if_neg ho]
        refine ⟨by simp [unrle], fun p hp => ?_⟩
        rcases List.mem_append.1 hp with hp | hp
        · exact hr p hp
        · simp at hp; subst hp; exact h1 _ rfl
theorem unrle_foldl : ∀ (l : List Int) (acc : List (Int × Int)), (∀ p ∈ acc, 1 ≤ p.1) → unrle (l.foldl (fun acc o => putR acc 1 o) acc) = unrle acc ++ l ∧ ∀ p ∈ l.foldl (fun acc o => putR acc 1 o) acc, 1 ≤ p.1
  | [], acc, h => ⟨by simp, h⟩
  | o :: l, acc, h => by
    obtain ⟨h1, h2⟩ := unrle_put (n := 1) (o := o) h
    obtain ⟨h3, h4⟩ := unrle_foldl l (putR acc 1 o) h2
    rw [List.foldl_cons]
    refine ⟨?_, h4⟩
    rw [h3, show putR acc 1 o = putR acc (1 : Nat) o from rfl, h1]
    simp
theorem unrle_rle_pos (l : List Int) : unrle (rle l) = l ∧ ∀ p ∈ rle l, 1 ≤ p.1 := by
  obtain ⟨h1, h2⟩ := unrle_foldl l [] (by simp)
  exact ⟨by rw [rle, h1]; rfl, h2⟩
theorem unrle_rle (l : List Int) : unrle (rle l) = l := (unrle_rle_pos l).1
theorem rle_inj {a b : List Int} : rle a = rle b ↔ a = b := ⟨fun h => by rw [← unrle_rle a, h, unrle_rle], fun h => by rw [h]⟩
/-- the bytes of runs, up to a number of bytes -/
def origF (n : Nat) : List (Int × Int) → List Int → List Int
  | [], acc => acc
  | r :: rs, acc => origF n rs (acc ++ List.replicate (min r.1.toNat (n - acc.length)) (near r.2))
theorem origF_append (n : Nat) : ∀ (a b : List (Int × Int)) (acc : List Int), origF n (a ++ b) acc = origF n b (origF n a acc)
  | [], _, _ => rfl
  | r :: a, b, acc => by simp only [List.cons_append, origF]; exact origF_append n a b _
theorem origF_len (n : Nat) : ∀ (rs : List (Int × Int)) (acc : List Int), acc.length ≤ n → (origF n rs acc).length ≤ n ∧ acc.length ≤ (origF n rs acc).length
  | [], acc, h => ⟨h, Nat.le_refl _⟩
  | r :: rs, acc, h => by
    have h2 : (acc ++ List.replicate (min r.1.toNat (n - acc.length)) (near r.2)).length ≤ n := by simp; omega
    have := origF_len n rs _ h2
    simp only [List.length_append, List.length_replicate] at this
    exact ⟨this.1, by simp only [origF]; omega⟩
/-- the origins of a labelled text's bytes -/
def orig (s : Str) : List Int := origF s.text.length s.runs [] ++ List.replicate (s.text.length - (origF s.text.length s.runs []).length) 65536
theorem orig_len (s : Str) : (orig s).length = s.text.length := by
  have := (origF_len s.text.length s.runs [] (Nat.zero_le _)).1
  simp [orig]; omega
theorem origF_near (n : Nat) : ∀ (rs : List (Int × Int)) (acc : List Int), (∀ o ∈ acc, 0 ≤ o ∧ o ≤ 65536) → ∀ o ∈ origF n rs acc, 0 ≤ o ∧ o ≤ 65536
  | [], acc, h => h
  | r :: rs, acc, h => by
    refine origF_near n rs _ fun o ho => ?_
    rcases List.mem_append.1 ho with ho | ho
    · exact h o ho
    · rw [(List.mem_replicate.1 ho).2]; exact ⟨near_ge _, near_le _⟩
theorem orig_near (s : Str) : ∀ o ∈ orig s, 0 ≤ o ∧ o ≤ 65536 := by
  intro o ho
  rcases List.mem_append.1 ho with ho | ho
  · exact origF_near _ _ _ (by simp) o ho
  · rw [(List.mem_replicate.1 ho).2]; omega
/-- as it is taken -/
def fixS (s : Str) : Str := ⟨s.text, rle (orig s)⟩
/-- of bytes' origins: what runs that are right tell -/
theorem origF_unrle (n : Nat) : ∀ (rs : List (Int × Int)) (acc : List Int), (∀ p ∈ rs, 0 ≤ p.2 ∧ p.2 ≤ 65536) → acc.length + (unrle rs).length ≤ n → origF n rs acc = acc ++ unrle rs
  | [], acc, _, _ => by simp [origF, unrle]
  | r :: rs, acc, h, hl => by
    have e : unrle (r :: rs) = List.replicate r.1.toNat r.2 ++ unrle rs := by simp [unrle]
    rw [e] at hl ⊢
    simp only [List.length_append, List.length_replicate] at hl
    simp only [origF]
    rw [near_id (h r (by simp)), Nat.min_eq_left (by omega), origF_unrle n rs _ (fun p hp => h p (by simp [hp])) (by simp; omega), List.append_assoc]
theorem rle_mem {l : List Int} {p : Int × Int} (h : p ∈ rle l) : p.2 ∈ l := by
  have h1 := (unrle_rle_pos l).2 p h
  have h2 := unrle_rle l
  rw [← h2]
  unfold unrle
  rw [List.mem_flatMap]
  exact ⟨p, h, List.mem_replicate.2 ⟨by omega, rfl⟩⟩
theorem orig_rle {t : List UInt8} {l : List Int} (hl : l.length = t.length) (hn : ∀ o ∈ l, 0 ≤ o ∧ o ≤ 65536) : orig ⟨t, rle l⟩ = l := by
  unfold orig
  have := origF_unrle t.length (rle l) [] (fun p hp => hn _ (rle_mem hp)) (by rw [unrle_rle]; simp; omega)
  simp only
  rw [this, unrle_rle]
  simp [hl]
theorem orig_fix (s : Str) : orig (fixS s) = orig s := orig_rle (orig_len s) (orig_near s)
theorem fix_fix (s : Str) : fixS (fixS s) = fixS s := by
  have := orig_fix s
  unfold fixS at this ⊢
  simp only [this]
/-- two that are alike -/
def Like (a b : Str) : Prop := a.text = b.text ∧ orig a = orig b
instance (a b : Str) : Decidable (Like a b) := inferInstanceAs (Decidable (_ ∧ _))
theorem Like_fix (a : Str) : Like (fixS a) a := ⟨rfl, orig_fix a⟩
/-- the bytes with their origins -/
def ofS (s : Str) : List (UInt8 × Int) := s.text.zip (orig s)
theorem ofS_len (s : Str) : (ofS s).length = s.text.length := by simp [ofS, orig_len]
theorem ofS_inj {a b : Str} : ofS a = ofS b ↔ Like a b := by
  unfold ofS Like
  constructor
  · intro h
    have h1 := congrArg (List.map Prod.fst) h
    have h2 := congrArg (List.map Prod.snd) h
    rw [List.map_fst_zip (by rw [orig_len]; exact Nat.le_refl _), List.map_fst_zip (by rw [orig_len]; exact Nat.le_refl _)] at h1
    rw [List.map_snd_zip (by rw [orig_len]; exact Nat.le_refl _), List.map_snd_zip (by rw [orig_len]; exact Nat.le_refl _)] at h2
    exact ⟨h1, h2⟩
  · rintro ⟨h1, h2⟩; rw [h1, h2]
theorem mem_le_sum {l : List (Int × Int)} {p : Int × Int} (h : p ∈ l) : p.1.toNat ≤ (unrle l).length := by
  induction l with
  | nil => cases h
  | cons q l ih =>
    have e : unrle (q :: l) = List.replicate q.1.toNat q.2 ++ unrle l := by simp [unrle]
    rw [e, List.length_append, List.length_replicate]
    rcases List.mem_cons.1 h with rfl | h
    · omega
    · have := ih h; omega
theorem rle_bound {l : List Int} {p : Int × Int} (h : p ∈ rle l) : 1 ≤ p.1 ∧ p.1 ≤ l.length := by
  have h1 := (unrle_rle_pos l).2 p h
  have h2 := mem_le_sum h
  rw [unrle_rle] at h2
  omega
theorem len_le_unrle {l : List (Int × Int)} (h : ∀ p ∈ l, 1 ≤ p.1) : l.length ≤ (unrle l).length := by
  induction l with
  | nil => simp
  | cons q l ih =>
    have e : unrle (q :: l) = List.replicate q.1.toNat q.2 ++ unrle l := by simp [unrle]
    rw [e, List.length_append, List.length_replicate, List.length_cons]
    have := ih fun p hp => h p (by simp [hp])
    have := h q (by simp)
    omega
theorem rle_len (l : List Int) : (rle l).length ≤ l.length := by
  have := len_le_unrle (unrle_rle_pos l).2
  rwa [unrle_rle] at this
/-- of a size that can be reckoned with -/
def okS (s : Str) : Prop := s.text.length ≤ 1000000000000 ∧ s.runs.length ≤ 1000000000000
theorem okS_fix {s : Str} (h : okS s) : okS (fixS s) := ⟨h.1, by have := rle_len (orig s); rw [orig_len] at this; exact Nat.le_trans this h.1⟩
def cV (c : UInt8 × Int) : V := .agg [vb c.1, .int .i64 c.2]
theorem lt_c (n : Nat) (l : List (UInt8 × Int)) : ltL n (l.map cV) := ltL_map (f := cV) (fun _ => by simp [cV, V.lt, ltL, vb]) l
theorem lt1_c (n : Nat) (x : UInt8 × Int) : V.lt n (cV x) := by simp [cV, V.lt, ltL, vb]
theorem ltc_c {α : Type} (n : Nat) (g : α → UInt8 × Int) (l : List α) : ltL n (l.map (cV ∘ g)) := ltL_map (f := cV ∘ g) (fun x => lt1_c n (g x)) l
theorem st_c (l : List (UInt8 × Int)) : (∀ x, x ∈ l.map cV → x.storable) = True := eq_true (storable_map (f := cV) (fun _ => trivial) l)
theorem sz_c (l : List (UInt8 × Int)) : Sized 2 (l.map cV) = True := eq_true (sizedMapV (f := cV) (fun _ => rfl) l)
theorem st1_c (x : UInt8 × Int) : (cV x).storable = True := eq_true trivial
theorem cl_c (x : UInt8 × Int) : (cV x).cells.length = 2 := rfl

theorem zip_snoc {t : List UInt8} {acc : List Int} (o : Int) (h : acc.length < t.length) : t.zip (acc ++ [o]) = t.zip acc ++ [(t[acc.length], o)] := by
  apply List.ext_getElem?
  intro i
  by_cases hi : i < acc.length
  · rw [List.getElem?_append_left (by simp; omega)]
    simp [List.getElem?_zip_eq_some, List.getElem?_append_left hi, hi, List.getElem?_eq_getElem (show i < t.length by omega), List.zip, List.getElem?_zipWith]
  · rw [List.getElem?_append_right (by simp; omega)]
    simp only [List.length_zip, Nat.min_eq_right (Nat.le_of_lt h)]
    by_cases he : i = acc.length
    · subst he
      simp [List.zip, List.getElem?_zipWith, List.getElem?_eq_getElem h]
    · rw [List.getElem?_eq_none (by simp; omega), List.getElem?_eq_none (by simp; omega)]
theorem zip_len {t : List UInt8} {acc : List Int} (h : acc.length ≤ t.length) : (t.zip acc).length = acc.length := by simp; omega
theorem like_iff {a b : Str} : Like a b ↔ fixS a = fixS b := by
  obtain ⟨ta, ra⟩ := a
  obtain ⟨tb, rb⟩ := b
  simp [Like, fixS, rle_inj]
theorem fix_text (s : Str) : (fixS s).text = s.text := rfl
/-- a name and its value -/
structure Attr where
  name : Str
  value : Str
  deriving DecidableEq
def attrV (a : Attr) : V := .agg [.str a.name.text, .slice (a.name.runs.map runV), .str a.value.text, .slice (a.value.runs.map runV)]
theorem lt_attr (n : Nat) (l : List (Attr)) : ltL n (l.map attrV) := ltL_map (f := attrV) (fun _ => by simp [attrV, V.lt, ltL, lt_run]) l
theorem lt1_attr (n : Nat) (x : Attr) : V.lt n (attrV x) := by simp [attrV, V.lt, ltL, lt_run]
theorem ltc_attr {α : Type} (n : Nat) (g : α → Attr) (l : List α) : ltL n (l.map (attrV ∘ g)) := ltL_map (f := attrV ∘ g) (fun x => lt1_attr n (g x)) l
theorem st_attr (l : List (Attr)) : (∀ x, x ∈ l.map attrV → x.storable) = True := eq_true (storable_map (f := attrV) (fun _ => trivial) l)
theorem sz_attr (l : List (Attr)) : Sized 4 (l.map attrV) = True := eq_true (sizedMapV (f := attrV) (fun _ => rfl) l)
theorem st1_attr (x : Attr) : (attrV x).storable = True := eq_true trivial
theorem cl_attr (x : Attr) : (attrV x).cells.length = 4 := rfl

def ownA (a : Attr) : Attr := ⟨fixS a.name, fixS a.value⟩
theorem own_own (a : Attr) : ownA (ownA a) = ownA a := by simp [ownA, fix_fix]
def okA (a : Attr) : Prop := okS a.name ∧ okS a.value
theorem okA_own {a : Attr} (h : okA a) : okA (ownA a) := ⟨okS_fix h.1, okS_fix h.2⟩
def zeroS : Str := ⟨[], []⟩

end Go.Proofs.Ytjplgbalpnlanaa

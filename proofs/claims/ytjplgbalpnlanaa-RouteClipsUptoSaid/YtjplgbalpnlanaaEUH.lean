/- The value logic, part UH: a region whose order is open, told by what its heap is when some of it has run. -/
import Derived.Test.YtjplgbalpnlanaaEUG
set_option linter.unusedVariables false
set_option linter.unusedSimpArgs false
namespace Go.EL
open Go
variable {P : Program} {T : Nat → TD}
/-- the look at a region -/
def drawOKH (n : Nat) (ops : Array Oper) : Bool :=
  let b := bef ops.toList
  (List.range ops.size).all fun j => match ops[j]? with
    | none => true
    | some oj => oj.guard.isNone &&
      (oj.after.toList.all fun e => !Region.binds .any e || decide (e.on < j)) && (match oj.dst with | some d => decide (d < n) | none => true) &&
      (List.range j).all fun i => match ops[i]? with
        | none => true
        | some oi => oi.apart ops oj || (b.getD j 0).testBit i
def envAt (vs : Nat → V) : List Oper → Nat → Env → Env
  | [], _, env => env
  | o :: l, k, env => envAt vs l (k + 1) (eput env o.dst (vs k))
theorem envAt_snoc (vs : Nat → V) (o : Oper) : ∀ (l : List Oper) (k : Nat) (env : Env), envAt vs (l ++ [o]) k env = eput (envAt vs l k env) o.dst (vs (k + l.length))
  | [], k, env => rfl
  | x :: l, k, env => by
    rw [List.cons_append, envAt, envAt, envAt_snoc vs o l, List.length_cons, show k + 1 + l.length = k + (l.length + 1) from by omega]
/-- a region, by its values, and its heaps -/
def DrawH (P : Program) (T : Nat → TD) (own : Bool) (ops : List Oper) (K : Env → List Ob → Prop) (env : Env) (H : List Ob) : Prop :=
  ∃ (vs : Nat → V) (Hf : (Nat → Bool) → List Ob), Hf (fun _ => false) = H ∧ (∀ fl fl' : Nat → Bool, (∀ j, j < ops.length → fl j = fl' j) → Hf fl = Hf fl') ∧
    (∀ i o, ops[i]? = some o → ∀ fl : Nat → Bool, Closed ops (fun j => fl j = true) → fl i = false → (∀ e ∈ o.after.toList, Region.binds .any e = true → fl e.on = true) →
      ewOp P T own o (fun v' H1 => v' = vs i ∧ H1 = Hf (fun j => if j = i then true else fl j)) (envAt vs (ops.take i) 0 env) (Hf fl)) ∧
    K (envAt vs ops 0 env) (Hf fun _ => true)
section
variable {own : Bool} {n : Nat} {ops : Array Oper}
theorem EW.drawH (hTO : TyOK P T) (hm : P.follows .mixedOrders = true) {id : Nat} (keep : Nat → List Nat) (hd : drawOKH n ops = true) {Q : Exit → Env → List Ob → Prop} {env : Env} {H : List Ob}
    (h : DrawH P T own ops.toList (fun env' H' => Q .normal (restr (keep id) env') H') env H) : EW P n (.region id ops true) Q env H := by
  intro rd ds g a w hR
  obtain ⟨vs, Hf, hH0, hfl, hops, e4⟩ := h
  let m := ops.size
  let es : Nat → Env := fun k => envAt vs (ops.toList.take k) 0 env
  let dst : Nat → Option Nat := fun j => (ops[j]?).bind (·.dst)
  have hop : ∀ j o, ops[j]? = some o → ops.toList[j]? = some o := fun j o h => by rw [Array.getElem?_toList]; exact h
  have hget : ∀ j, j < m → ∃ o, ops[j]? = some o := fun j hj => ⟨ops[j], by simp [m] at hj; simp [hj]⟩
  have look : ∀ j o, ops[j]? = some o → o.guard = none ∧ (∀ e ∈ o.after.toList, Region.binds .any e = true → e.on < j) ∧ (∀ d, o.dst = some d → d < n) ∧
      ∀ i oi, i < j → ops[i]? = some oi → (oi.apart ops o = true ∨ ((bef ops.toList).getD j 0).testBit i = true) := by
    intro j o hj
    have hjm : j < ops.size := (Array.getElem?_eq_some_iff.1 hj).1
    have := List.all_eq_true.1 hd j (List.mem_range.2 hjm)
    simp only [hj, Bool.and_eq_true, Bool.or_eq_true, List.all_eq_true, List.mem_range] at this
    obtain ⟨⟨⟨q0, q1⟩, q2⟩, q3⟩ := this
    refine ⟨by simpa using q0, fun e he hb => ?_, fun d hd => ?_, fun i oi hi hoi => ?_⟩
    · rcases q1 e he with h | h
      · rw [hb] at h; cases h
      · exact of_decide_eq_true h
    · rw [hd] at q2; exact of_decide_eq_true q2
    · have := q3 i hi
      simp only [hoi, Bool.or_eq_true] at this
      exact this
  have hes : ∀ i, i < m → es (i + 1) = eput (es i) (dst i) (vs i) := fun i hi => by
    obtain ⟨o, ho⟩ := hget i hi
    have hi' : i < ops.toList.length := by simpa [m] using hi
    have e0 : ops.toList[i] = o := by have := hop i o ho; rw [List.getElem?_eq_getElem hi'] at this; injection this
    show envAt vs (ops.toList.take (i + 1)) 0 env = _
    rw [List.take_succ_eq_append_getElem hi', envAt_snoc, e0]
    simp only [dst, ho, Option.bind_some, List.length_take, Nat.zero_add]
    rw [Nat.min_eq_left (by omega)]
  have main : ∀ (fuel : Nat) (listed : Array Bool) (a : Act) (w' : World), listed.size = m → ((List.range m).filter fun j => !listed.getD j false).length ≤ fuel →
      Closed ops.toList (fun j => listed.getD j false = true) →
      a.tmps.size = n → a.defers = ds →
      (∃ g', Good g' (Hf fun j => listed.getD j false) w' ∧ Ext g H.length w g' (Hf fun j => listed.getD j false).length w' ∧ ∀ t v, Seen m dst vs (eget (es 0)) (fun j => listed.getD j false) t v → RepV (cxOf g' (Hf fun j => listed.getD j false).length w') v (a.tmps.getD t undef)) →
      wpAnyIn (fz rd) 0 P .any ops (fun e a' w' => ∃ env' H' g', Rel ds n env' H' g' a' w' ∧ Ext g H.length w g' H'.length w' ∧ Q e env' H') fuel listed a w' := by
    have ready_nil : ∀ (listed : Array Bool), listed.size = m → Region.ready .any ops listed = [] → ∀ j, j < m → listed.getD j false = true := by
      intro listed hsz hr j
      induction j using Nat.strongRecOn with
      | _ j ih =>
        intro hj
        cases hl : listed.getD j false with
        | true => rfl
        | false =>
          obtain ⟨o, ho⟩ := hget j hj
          have : j ∈ Region.ready .any ops listed := by
            unfold Region.ready
            rw [List.mem_filter]
            refine ⟨List.mem_range.2 hj, ?_⟩
            simp only [ho, Option.map_some, Option.getD_some, Bool.and_eq_true, Bool.not_eq_true']
            refine ⟨?_, ?_⟩
            · have hjs : j < listed.size := by rw [hsz]; exact hj
              simpa [Array.getD, hjs] using hl
            · rw [Array.all_eq_true']
              intro e he
              simp only [Bool.or_eq_true, Bool.not_eq_true']
              by_cases hb : Region.binds .any e = true
              · right
                have hlt := (look j o ho).2.1 e (by simpa using he) hb
                exact ih e.on hlt (by omega)
              · left; simpa using hb
          rw [hr] at this; cases this
    have fin : ∀ (listed : Array Bool) (a : Act) (w' : World), (∀ j, j < m → listed.getD j false = true) → a.tmps.size = n → a.defers = ds →
        (∃ g', Good g' (Hf fun j => listed.getD j false) w' ∧ Ext g H.length w g' (Hf fun j => listed.getD j false).length w' ∧ ∀ t v, Seen m dst vs (eget (es 0)) (fun j => listed.getD j false) t v → RepV (cxOf g' (Hf fun j => listed.getD j false).length w') v (a.tmps.getD t undef)) →
        ∃ env' H' g', Rel ds n env' H' g' a w' ∧ Ext g H.length w g' H'.length w' ∧ Q .normal env' H' := by
      intro listed a w' hall hsz hdef ⟨g', s2, s3, s4⟩
      have hH : (Hf fun j => listed.getD j false) = Hf fun _ => true := hfl _ _ (fun j hj => hall j (by simpa [m] using hj))
      rw [hH] at s2 s3 s4
      refine ⟨restr (keep id) (es m), Hf (fun _ => true), g', ⟨hsz, hdef, EnvRep.restr _ (fun t => s4 t _ ((seen_text hes t m (Nat.le_refl _)).congr (fun k h1 h2 => ?_))), s2⟩, s3, ?_⟩
      · rw [hall k h1]; simpa using h1
      · have : es m = envAt vs ops.toList 0 env := by
          show envAt vs (ops.toList.take m) 0 env = _
          rw [List.take_of_length_le (by simp [m])]
        rw [this]; exact e4
    intro fuel
    induction fuel with
    | zero =>
      intro listed a w' hsz hfu hcl hts hdef hinv
      have hall : ∀ j, j < m → listed.getD j false = true := by
        intro j hj
        cases hl : listed.getD j false with
        | true => rfl
        | false =>
          have : j ∈ (List.range m).filter fun j => !listed.getD j false := List.mem_filter.2 ⟨List.mem_range.2 hj, by simp [hl]⟩
          have hnil : ((List.range m).filter fun j => !listed.getD j false) = [] := List.eq_nil_of_length_eq_zero (Nat.le_zero.1 hfu)
          rw [hnil] at this
          cases this
      refine ⟨?_, fin listed a w' hall hts hdef hinv⟩
      unfold Region.ready
      rw [List.filter_eq_nil_iff]
      intro j hj
      have hj := List.mem_range.1 hj
      have hjs : j < listed.size := by rw [hsz]; exact hj
      have := hall j hj
      have h2 : listed.getD j true = true := by simpa [Array.getD, hjs] using this
      simp only [h2]; simp
    | succ fuel ih =>
      intro listed a w' hsz hfu hcl hts hdef hinv
      refine ⟨fun hr => fin listed a w' (ready_nil listed hsz hr) hts hdef hinv, fun i hi => ?_⟩
      unfold Region.ready at hi
      rw [List.mem_filter] at hi
      obtain ⟨him, hi⟩ := hi
      have him : i < m := List.mem_range.1 him
      have his : i < listed.size := by rw [hsz]; exact him
      obtain ⟨o, ho⟩ := hget i him
      simp only [ho, Option.map_some, Option.getD_some, Bool.and_eq_true, Bool.not_eq_true'] at hi
      obtain ⟨hil, hie⟩ := hi
      have hil : listed.getD i false = false := by simpa [Array.getD, his] using hil
      have hedge : ∀ e ∈ o.after.toList, Region.binds .any e = true → listed.getD e.on false = true := by
        intro e he hb
        rw [Array.all_eq_true'] at hie
        have := hie e (by simpa using he)
        simpa [hb] using this
      -- ahead
      have up : ∀ k, Ahead ops.toList i k → listed.getD k false = true := fun k hk => hk _ hcl (fun o' ho' e he hb => by
        have : ops[i]? = some o' := by rw [← Array.getElem?_toList]; exact ho'
        rw [ho] at this
        injection this with this
        subst this
        exact hedge e he hb)
      have down : ∀ k, Ahead ops.toList k i → listed.getD k false = false := fun k hk => by
        cases hl : listed.getD k false with
        | false => rfl
        | true =>
          have := hk _ hcl (fun o' ho' e he hb => hcl k o' ho' hl e he hb)
          have this : listed.getD i false = true := this
          rw [hil] at this; cases this
      have agree : ∀ k, k < m → (k = i ∨ (k < i ∧ ((bef ops.toList).getD i 0).testBit k = true) ∨ (i < k ∧ ((bef ops.toList).getD k 0).testBit i = true)) → listed.getD k false = decide (k < i) := by
        intro k _ h
        rcases h with rfl | ⟨h1, h2⟩ | ⟨h1, h2⟩
        · rw [hil]; simp
        · rw [up k (ahead_of_bit h2)]; simp [h1]
        · rw [down k (ahead_of_bit h2)]; simp; omega
      have clash : ∀ k ok, k < m → ops[k]? = some ok → k ≠ i → (∃ d, ok.dst = some d ∧ (d ∈ o.looksAt ops ∨ o.dst = some d)) → listed.getD k false = decide (k < i) := by
        intro k ok hk hok hne ⟨d, hd, hl⟩
        refine agree k hk ?_
        rcases Nat.lt_or_gt_of_ne hne with hlt | hgt
        · right; left
          refine ⟨hlt, ?_⟩
          rcases ((look i o ho).2.2.2 k ok hlt hok) with h | h
          · obtain ⟨p1, p2, p3⟩ := Oper.apart_spec h
            rcases hl with hl | hl
            · exact absurd hl (p1 d hd)
            · exact absurd hl (p2 d hd)
          · exact h
        · right; right
          refine ⟨hgt, ?_⟩
          rcases ((look k ok hok).2.2.2 i o hgt ho) with h | h
          · obtain ⟨p1, p2, p3⟩ := Oper.apart_spec h
            rcases hl with hl | hl
            · exact absurd hl (p3 d hd)
            · exact absurd hd (p2 d hl)
          · exact h
      obtain ⟨g', s2, s3, s4⟩ := hinv
      have hk := hops i o (hop i o ho) (fun j => listed.getD j false) hcl hil hedge
      -- what it sees
      let es' : Env := restr (o.looksAt ops) (es i)
      have hE : EnvRep (cxOf g' (Hf fun j => listed.getD j false).length w') es' a := by
        intro t
        show RepV _ (eget (restr (o.looksAt ops) (es i)) t) _
        rw [get_restrict]
        split
        · rename_i ht
          refine s4 t _ ((seen_text hes t i (Nat.le_of_lt him)).congr (fun k hk hdk => ?_))
          by_cases hki : k = i
          · subst hki; rw [hil]; simp
          · obtain ⟨ok, hok⟩ := hget k hk
            have hdk' : ok.dst = some t := by simpa [dst, hok] using hdk
            exact (clash k ok hk hok hki ⟨t, hdk', .inl ht⟩).symm
        · trivial
      have hlook : ∀ x ∈ o.op.operands, evl (es i) x = evl es' x := by
        intro x hx
        cases x with
        | tmp t =>
          show eget (es i) t = eget (restr (o.looksAt ops) (es i)) t
          rw [get_restrict, if_pos]
          unfold Oper.looksAt
          exact List.mem_append_left _ (List.mem_filterMap.2 ⟨.tmp t, by simpa using hx, rfl⟩)
        | _ => rfl
      have hcong : ∀ K H, ewOp P T own o K (es i) H → ewOp P T own o K es' H := by
        intro K H h
        unfold ewOp at h ⊢
        rw [← xop_congr o.op hlook]
        exact h
      have after : ∀ (cv : Value) (H' : List Ob) (g'' : Nat → Option Key) (w'' : World), Good g'' H' w'' → Ext g' (Hf fun j => listed.getD j false).length w' g'' H'.length w'' → RepV (cxOf g'' H'.length w'') (vs i) cv → (Hf fun j => (listed.setIfInBounds i true).getD j false) = H' →
          wpAnyIn (fz rd) 0 P .any ops (fun e a' w' => ∃ env' H' g', Rel ds n env' H' g' a' w' ∧ Ext g H.length w g' H'.length w' ∧ Q e env' H') fuel (listed.setIfInBounds i true) (a.put o.dst cv) w'' := by
        intro cv H' g'' w'' k1 k2 k3 k4
        have hset : ∀ j, (listed.setIfInBounds i true).getD j false = if j = i then true else listed.getD j false := by
          intro j
          by_cases e : j = i
          · subst e; simp [Array.getD, his]
          · rw [if_neg e]
            simp only [Array.getD_eq_getD_getElem?]
            rw [Array.getElem?_setIfInBounds_ne (Ne.symm e)]
        refine ih _ _ _ (by simp [hsz]) ?_ ?_ (by cases o.dst <;> simp [Act.put, hts]) (by cases o.dst <;> simp [Act.put, hdef]) ⟨g'', by rw [k4]; exact k1, by rw [k4]; exact s3.trans k2, fun t v hv => ?_⟩
        · have := filter_lt (p := fun j => !listed.getD j false) (p' := fun j => !(listed.setIfInBounds i true).getD j false) (i := i) (l := List.range m) (fun j _ hj => by
            simp only [hset] at hj
            split at hj
            · simp at hj
            · exact hj) (List.mem_range.2 him) (by simp [hil]) (by simp [hset])
          omega
        · intro j oj hj hl e he hb
          simp only [hset] at hl ⊢
          split
          · rfl
          · split at hl
            · rename_i e1
              subst e1
              have : ops[j]? = some oj := by rw [← Array.getElem?_toList]; exact hj
              rw [ho] at this
              injection this with this
              subst this
              exact hedge e he hb
            · exact hcl j oj hj hl e he hb
        · rw [k4]
          have hdn := (look i o ho).2.2.1
          by_cases hdt : o.dst = some t
          · have hv' : v = vs i := by
              have hdi : dst i = some t := by simp [dst, ho, hdt]
              rcases hv with ⟨j, a1, a2, a3, a4, a5⟩ | ⟨a1, _⟩
              · by_cases hji : j = i
                · subst hji; exact a4.symm
                · obtain ⟨oj, hoj⟩ := hget j a1
                  have hdj : oj.dst = some t := by simpa [dst, hoj] using a3
                  have hcl' := clash j oj a1 hoj hji ⟨t, hdj, .inr hdt⟩
                  simp only [hset] at a2
                  rw [if_neg hji, hcl'] at a2
                  exact absurd hdi (a5 i (of_decide_eq_true a2) him (by simp [hset]))
              · exact absurd hdi (a1 i him (by simp [hset]))
            subst hv'
            have : (a.put o.dst cv).tmps.getD t undef = cv := by
              have := hdn t hdt
              rw [hdt]
              simp [Act.put, hts, this]
            rw [this]
            exact k3
          · have hold : Seen m dst vs (eget (es 0)) (fun j => listed.getD j false) t v := hv.congr (fun k hk hdk => by
              simp only [hset]
              rw [if_neg]
              intro e
              subst e
              exact hdt (by simpa [dst, ho] using hdk))
            have := RepV.mono k2.mono (s4 t v hold)
            have e : (a.put o.dst cv).tmps.getD t undef = a.tmps.getD t undef := by
              cases hd : o.dst with
              | none => rfl
              | some d =>
                have hne : d ≠ t := fun e => hdt (by rw [hd, e])
                simp [Act.put, Array.getElem?_setIfInBounds_ne hne]
            rw [e]
            exact this
      unfold wpOpIn
      rw [ho]
      simp only
      have hw : Region.wanted o (yielded ops a.tmps) = true := by
        rw [wanted_iff, (look i o ho).1]
      rw [if_pos hw]
      refine op_wp' hTO hE s2 (hcong _ _ hk) fun v cv H' g'' w'' k1 k2 k3 ⟨k4, k5⟩ => ?_
      subst k4 k5
      refine after cv _ g'' w'' k1 k2 k3 (hfl _ _ fun j _ => ?_)
      by_cases e : j = i
      · subst e; simp [Array.getD, his]
      · rw [if_neg e]
        simp only [Array.getD_eq_getD_getElem?]
        rw [Array.getElem?_setIfInBounds_ne (Ne.symm e)]
  have hstart : (Hf fun j => (Array.replicate ops.size false).getD j false) = H := by
    rw [← hH0]
    exact hfl _ _ (fun j hj => by simp [Array.getD])
  refine wpIn_region_any hm (main ops.size _ a _ (by simp [m]) (Nat.le_trans (List.length_filter_le _ _) (by simp [m])) ?_ hR.1 hR.2.1 ?_)
  · intro j o hj hS
    simp [Array.getD] at hS
  · have hdr := step_drawn hR.2.2.2 (w.drawn + 1)
    refine ⟨g, by rw [hstart]; exact hdr.1, by rw [hstart]; exact hdr.2, fun t v hs => ?_⟩
    rw [hstart]
    rcases hs with ⟨j, _, h1, _⟩ | ⟨_, rfl⟩
    · simp [Array.getD] at h1
    · exact RepV.mono hdr.2.mono (by have := hR.2.2.1 t; simpa [es, envAt] using this)
end
end Go.EL

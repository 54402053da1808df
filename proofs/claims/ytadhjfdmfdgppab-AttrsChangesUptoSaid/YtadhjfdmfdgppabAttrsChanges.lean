/- AttrsChanges, where what it reads is of bulk at most 1048576: the law returns true and the arguments read as they did. -/
import Derived.Test.YtadhjfdmfdgppabAttrs4
import Derived.Test.YtadhjfdmfdgppabAttrsLaw
import Derived.Test.YtadhjfdmfdgppabRows
import Derived.ProofKit
import Derived.JoinedCond
set_option linter.unusedSimpArgs false
set_option linter.unusedVariables false
set_option maxRecDepth 100000
set_option maxHeartbeats 1000000
namespace Go.Proofs.Ytadhjfdmfdgppab
open Go Go.EL

mutual
theorem bulk_eq {H : Type} : ∀ d : DataW H, bulk d = Rows.uptoBulk d
  | .lit l => by cases l <;> simp [bulk, Rows.uptoBulk]
  | .nil => by simp [bulk, Rows.uptoBulk]
  | .ptr d => by simp only [bulk, Rows.uptoBulk, bulk_eq d]
  | .slice a b => by simp only [bulk, Rows.uptoBulk, bulkAll_eq a, bulkAll_eq b]
  | .agg ps => by simp only [bulk, Rows.uptoBulk, bulkAll_eq ps]
  | .iface t d => by simp only [bulk, Rows.uptoBulk, bulk_eq d]
  | .map es => by simp only [bulk, Rows.uptoBulk, bulkEntries_eq es]
  | .held _ => by simp [bulk, Rows.uptoBulk]
theorem bulkAll_eq {H : Type} : ∀ l : List (DataW H), bulkAll l = Rows.uptoBulkAll l
  | [] => by simp [bulkAll, Rows.uptoBulkAll]
  | d :: r => by simp only [bulkAll, Rows.uptoBulkAll, bulk_eq d, bulkAll_eq r]
theorem bulkEntries_eq {H : Type} : ∀ l : List (Lit × DataW H), bulkEntries l = Rows.uptoBulkEntries l
  | [] => by simp [bulkEntries, Rows.uptoBulkEntries]
  | d :: r => by simp only [bulkEntries, Rows.uptoBulkEntries, bulkEntry_eq d, bulkEntries_eq r]
theorem bulkEntry_eq {H : Type} : ∀ x : Lit × DataW H, bulkEntry x = Rows.uptoBulkEntry x
  | (k, d) => by cases k <;> simp [bulkEntry, Rows.uptoBulkEntry, bulk_eq d]
end
theorem le_sum {α : Type} (g : α → Nat) : ∀ {l : List α} {x : α}, x ∈ l → g x ≤ (l.map g).sum
  | y :: l, x, h => by
    simp only [List.map_cons, List.sum_cons]
    rcases List.mem_cons.1 h with rfl | h
    · omega
    · have := le_sum g h; omega
theorem len_sum {α : Type} (g : α → Nat) (hg : ∀ x, 1 ≤ g x) : ∀ (l : List α), l.length ≤ (l.map g).sum
  | [] => by simp
  | y :: l => by
    have := len_sum g hg l
    have := hg y
    simp only [List.map_cons, List.sum_cons, List.length_cons]
    omega
theorem own_none : ownKnob Try.prog.godebug = none := by kernel_rfl
theorem laid_out : laidOutB Try.prog = true := by kernel_rfl

theorem dec_run : Dec Try.prog 111 runV (fun _ => True) (fun _ => 1) := by
  refine Dec.of (Dec.struct Try.underlying111 (DecFs.cons rfl (next := 1) (by kernel_rfl) (Dec.int Try.underlying3) (DecFs.cons rfl (next := 2) (by kernel_rfl) (Dec.int Try.underlying3) DecFs.nil))) (fun x => (x.1, x.2.1)) (fun x _ => ⟨rfl, trivial, by first | omega | (simp only; omega)⟩)
theorem dec_runs : Dec Try.prog 31 (fun l : List (Int × Int) => V.slice (l.map runV)) (fun _ => True) (fun l => l.length) :=
  Dec.of (Dec.slice Try.underlying31 (of_decide_eq_true (by kernel_rfl)) dec_run) id (fun x _ => ⟨rfl, trivial, by have := len_sum (fun x : Int × Int => 1) (fun x => by omega) x; simp only [id]; omega⟩)
def szS (s : Str) : Nat := s.text.length + s.runs.length + 1
theorem dec_str : Dec Try.prog 33 strV (fun _ => True) szS := by
  refine Dec.of (Dec.struct Try.underlying33 (DecFs.cons rfl (next := 1) (by kernel_rfl) (Dec.str Try.underlying9) (DecFs.cons rfl (next := 2) (by kernel_rfl) dec_runs DecFs.nil))) (fun x => ⟨x.1, x.2.1⟩) (fun x _ => ⟨rfl, trivial, by simp only [szS]; omega⟩)
theorem okS_sz {s : Str} (h : szS s ≤ 1048576) : okS s := by unfold szS at h; exact ⟨by omega, by omega⟩
def szA (a : Attr) : Nat := szS a.name + szS a.value + 1
theorem dec_attr : Dec Try.prog 35 attrV (fun _ => True) szA := by
  refine Dec.of (Dec.struct Try.underlying35 (DecFs.cons rfl (next := 2) (by kernel_rfl) dec_str (DecFs.cons rfl (next := 4) (by kernel_rfl) dec_str DecFs.nil))) (fun x => ⟨x.1, x.2.1⟩) (fun x _ => ⟨rfl, trivial, by simp only [szA]; omega⟩)
theorem okA_sz {a : Attr} (h : szA a ≤ 1048576) : okA a := by unfold szA at h; exact ⟨okS_sz (by omega), okS_sz (by omega)⟩
def szAs (l : List Attr) : Nat := (l.map szA).sum + 1
theorem dec_attrs : Dec Try.prog 25 (fun l : List Attr => V.slice (l.map attrV)) (fun _ => True) szAs :=
  Dec.of (Dec.slice Try.underlying25 (of_decide_eq_true (by kernel_rfl)) dec_attr) id (fun x _ => ⟨rfl, trivial, by simp only [id, szAs]; omega⟩)
theorem okA_szs {l : List Attr} (h : szAs l ≤ 1048576) : (∀ a ∈ l, okA a) ∧ l.length ≤ 1048576 := by
  unfold szAs at h
  refine ⟨fun a ha => okA_sz (by have := le_sum szA ha; omega), ?_⟩
  have := len_sum szA (fun x => by simp [szA]) l
  omega

theorem own_map (l : List Attr) : (l.map ownA).map ownA = l.map ownA := by
  rw [List.map_map]
  exact List.map_congr_left fun x _ => by simp [ownA, fix_fix]
theorem put_ok {l : List Attr} {a : Attr} (hl : ∀ x ∈ l, okA x) (ha : okA a) : ∀ x ∈ putA (l.map ownA) (ownA a), okA x := by
  have hm : ∀ x ∈ l.map ownA, okA x := fun x hx => by
    obtain ⟨y, hy, rfl⟩ := List.mem_map.1 hx
    exact okA_own (hl y hy)
  intro x hx
  unfold putA at hx
  split at hx
  · rcases List.mem_append.1 hx with hx | hx
    · exact hm x hx
    · rw [List.mem_singleton.1 hx]; exact okA_own ha
  · rcases List.mem_or_eq_of_mem_set hx with hx | hx
    · exact hm x hx
    · rw [hx]; exact okA_own ha
theorem put_len (l : List Attr) (a : Attr) : (putA (l.map ownA) (ownA a)).length ≤ l.length + 1 := by
  unfold putA; split <;> simp
theorem drop_ok {l : List Attr} {s : List UInt8} (hl : ∀ x ∈ l, okA x) : ∀ x ∈ dropA (l.map ownA) s, okA x := fun x hx => by
  obtain ⟨y, hy, rfl⟩ := List.mem_map.1 (List.mem_filter.1 hx).1
  exact okA_own (hl y hy)
theorem drop_len (l : List Attr) (s : List UInt8) : (dropA (l.map ownA) s).length ≤ l.length := Nat.le_trans (List.length_filter_le _ _) (by simp)
/-- what a name reads as -/
def look (l : List Attr) (s : List UInt8) : Option Attr := (l.find? fun a => a.name.text == s).map ownA
theorem find_own (l : List Attr) (s : List UInt8) : (l.map ownA).find? (fun a => a.name.text == s) = look l s := by
  unfold look
  rw [List.find?_map]
  rfl
theorem look_own (l : List Attr) (s : List UInt8) : look (l.map ownA) s = look l s := by
  show Option.map ownA _ = _
  rw [find_own]
  unfold look
  rw [Option.map_map]
  congr 1
  funext x
  exact own_own x
theorem find_set : ∀ (l : List Attr) (i : Nat) (h : i < l.length) (x : Attr), x.name.text = l[i].name.text → (∀ j (hj : j < i), l[j].name.text ≠ x.name.text) → ∀ s, (l.set i x).find? (fun a => a.name.text == s) = if s = x.name.text then some x else l.find? (fun a => a.name.text == s)
  | y :: l, 0, h, x, hx, hj, s => by
    simp only [List.getElem_cons_zero] at hx
    simp only [List.set_cons_zero, List.find?_cons]
    by_cases e : s = x.name.text
    · subst e; simp
    · have h1 : (x.name.text == s) = false := by simpa using Ne.symm e
      rw [hx] at h1 e
      simp [h1, e, hx]
  | y :: l, i + 1, h, x, hx, hj, s => by
    have h0 := hj 0 (by omega)
    simp only [List.getElem_cons_zero] at h0
    have ih := find_set l i (by simpa using h) x (by simpa using hx) (fun j h => by have := hj (j + 1) (by omega); simpa using this) s
    simp only [List.set_cons_succ, List.find?_cons]
    by_cases e : (y.name.text == s) = true
    · have e1 : y.name.text = s := by simpa using e
      rw [e1] at h0
      simp [e, h0]
    · have e : (y.name.text == s) = false := by simpa using e
      simp only [e]
      exact ih
theorem look_put (l : List Attr) (p : Attr) (s : List UInt8) : look (putA (l.map ownA) (ownA p)) s = if s = p.name.text then some (ownA p) else look l s := by
  unfold putA
  rw [show (ownA p).name.text = p.name.text from rfl, place_own]
  rcases place_find l p.name.text with ⟨h1, h2⟩ | ⟨i, hi, h1, h2, h3⟩
  · rw [if_pos h1]
    unfold look
    rw [List.find?_append, find_own]
    by_cases e : s = p.name.text
    · subst e
      have h4 : ((ownA p).name.text == p.name.text) = true := by show (p.name.text == p.name.text) = true; simp
      rw [if_pos rfl, look, h2]
      simp only [Option.map_none, Option.none_or, List.find?_cons, h4, Option.map_some, own_own]
    · have h4 : ((ownA p).name.text == s) = false := by
        show (p.name.text == s) = false
        simpa using Ne.symm e
      rw [if_neg e, List.find?_cons, h4]
      simp only [List.find?_nil, Option.or_none]
      unfold look
      rw [Option.map_map]
      congr 1
      funext x
      exact own_own x
  · rw [if_neg (by omega), h1]
    have hmin : ∀ j (hj : j < i), ((l.map ownA)[j]'(by simp; omega)).name.text ≠ (ownA p).name.text := fun j hj => by
      have := List.not_of_lt_findIdx (p := fun a : Attr => a.name.text == p.name.text) (xs := l) (i := j) (by
        unfold placeA ix at h1
        split at h1 <;> omega)
      rw [List.getElem_map]
      show l[j].name.text ≠ p.name.text
      simpa using this
    unfold look
    rw [show ((i : Int)).toNat = i from rfl, find_set _ i (by simpa using hi) _ (by rw [List.getElem_map]; show p.name.text = l[i].name.text; exact (by simpa using h3 : l[i].name.text = p.name.text).symm) hmin, find_own]
    show Option.map ownA (if s = p.name.text then _ else _) = _
    split
    · simp [own_own]
    · unfold look
      rw [Option.map_map]
      congr 1
      funext x
      exact own_own x
theorem look_drop (l : List Attr) (n s : List UInt8) : look (dropA (l.map ownA) n) s = if s = n then none else look l s := by
  rw [← look_own l s]
  unfold look dropA
  rw [List.find?_filter]
  split
  · rename_i e
    subst e
    rw [List.find?_eq_none.2]
    · rfl
    · intro x _; simp
  · rename_i e
    congr 2
    funext x
    by_cases h : x.name.text = s
    · subst h; simp [e]
    · simp [h]
def putAll (X : List Attr) (ps : List Attr) : List Attr := ps.foldl (fun X p => putA (X.map ownA) (ownA p)) X
def dropAll (X : List Attr) (ds : List (List UInt8)) : List Attr := ds.foldl (fun X d => dropA (X.map ownA) d) X
theorem put_none : ∀ (ps X : List Attr) (s : List UInt8), (∀ p ∈ ps, p.name.text ≠ s) → look (putAll X ps) s = look X s
  | [], _, _, _ => rfl
  | p :: ps, X, s, h => by
    have := put_none ps (putA (X.map ownA) (ownA p)) s (fun q hq => h q (by simp [hq]))
    rw [look_put, if_neg (Ne.symm (h p (by simp)))] at this
    exact this
theorem put_some (s : List UInt8) (z : Attr) : ∀ (ps X : List Attr), (∀ p ∈ ps, p.name.text = s → ownA p = z) → (look X s = some z ∨ ∃ p ∈ ps, p.name.text = s) → look (putAll X ps) s = some z
  | [], X, _, h => by
    rcases h with h | ⟨p, hp, _⟩
    · exact h
    · cases hp
  | p :: ps, X, h1, h => by
    refine put_some s z ps (putA (X.map ownA) (ownA p)) (fun q hq => h1 q (by simp [hq])) ?_
    rw [look_put]
    by_cases e : s = p.name.text
    · rw [if_pos e]; left; rw [h1 p (by simp) e.symm]
    · rw [if_neg e]
      rcases h with h | ⟨q, hq, hs⟩
      · exact .inl h
      · rcases List.mem_cons.1 hq with rfl | hq
        · exact absurd hs.symm e
        · exact .inr ⟨q, hq, hs⟩
theorem drop_none : ∀ (ds : List (List UInt8)) (X : List Attr) (s : List UInt8), (s ∈ ds ∨ look X s = none) → look (dropAll X ds) s = none
  | [], X, s, h => by
    rcases h with h | h
    · cases h
    · exact h
  | d :: ds, X, s, h => by
    refine drop_none ds (dropA (X.map ownA) d) s ?_
    rw [look_drop]
    by_cases e : s = d
    · rw [if_pos e]; exact .inr rfl
    · rw [if_neg e]
      rcases h with h | h
      · rcases List.mem_cons.1 h with h | h
        · exact absurd h e
        · exact .inl h
      · exact .inr h
theorem drop_some : ∀ (ds : List (List UInt8)) (X : List Attr) (s : List UInt8), s ∉ ds → look (dropAll X ds) s = look X s
  | [], _, _, _ => rfl
  | d :: ds, X, s, h => by
    have := drop_some ds (dropA (X.map ownA) d) s (fun hq => h (by simp [hq]))
    rw [look_drop, if_neg (fun e => h (by simp [e]))] at this
    exact this
theorem find_look (l : List Attr) (s : List UInt8) : (onceA l []).find? (fun a => a.name.text == s) = look l s := by
  rw [find_once]; simp [look]
theorem mem_look {l : List Attr} {x : Attr} (h : x ∈ onceA l []) : look l x.name.text = some x := by
  rw [← find_look]; exact mem_once l [] (by simp) x h
theorem look_mem {l : List Attr} {s : List UInt8} {x : Attr} (h : look l s = some x) : x ∈ onceA l [] ∧ x.name.text = s ∧ ownA x = x := by
  have h1 := h
  rw [← find_look] at h1
  refine ⟨List.mem_of_find?_eq_some h1, by simpa using List.find?_some h1, ?_⟩
  obtain ⟨y, _, rfl⟩ := Option.map_eq_some_iff.1 h
  exact own_own y
theorem alike_iff (x y : Attr) : alikeA x y = true ↔ ownA x = ownA y := by
  unfold alikeA ownA
  simp [like_iff]
theorem need_iff {a : List Attr} {x : Attr} (hx : ownA x = x) : needP (onceA a []) x = true ↔ look a x.name.text ≠ some x := by
  unfold needP
  rw [find_look]
  cases h : look a x.name.text with
  | none => simp
  | some y =>
    obtain ⟨_, _, h3⟩ := look_mem h
    have := alike_iff y x
    rw [h3, hx] at this
    by_cases e : y = x
    · subst e; simp [this.2 rfl]
    · have : alikeA y x = false := by cases h : alikeA y x with | false => rfl | true => exact absurd (this.1 h) e
      simp [this, e]
theorem place_none (l : List Attr) (s : List UInt8) : placeA (onceA l []) s < 0 ↔ look l s = none := by
  rw [← find_look]
  rcases place_find (onceA l []) s with ⟨h1, h2⟩ | ⟨i, hi, h1, h2, _⟩
  · simp [h1, h2]
  · rw [h2]; simp; omega
theorem mem_put {a b : List Attr} {x : Attr} : x ∈ (changesA a b).1 ↔ look b x.name.text = some x ∧ look a x.name.text ≠ some x := by
  unfold changesA
  rw [List.mem_filter]
  constructor
  · rintro ⟨h1, h2⟩
    have h3 := mem_look h1
    exact ⟨h3, (need_iff (look_mem h3).2.2).1 h2⟩
  · rintro ⟨h1, h2⟩
    obtain ⟨k1, _, k3⟩ := look_mem h1
    exact ⟨k1, (need_iff k3).2 h2⟩
theorem mem_drop {a b : List Attr} {s : List UInt8} : s ∈ (changesA a b).2 ↔ look a s ≠ none ∧ look b s = none := by
  unfold changesA
  rw [List.mem_map]
  constructor
  · rintro ⟨x, h, rfl⟩
    obtain ⟨h1, h2⟩ := List.mem_filter.1 h
    exact ⟨by rw [mem_look h1]; simp, (place_none _ _).1 (of_decide_eq_true h2)⟩
  · rintro ⟨h1, h2⟩
    cases h : look a s with
    | none => exact absurd h h1
    | some x =>
      obtain ⟨k1, rfl, _⟩ := look_mem h
      exact ⟨x, List.mem_filter.2 ⟨k1, decide_eq_true ((place_none _ _).2 h2)⟩, rfl⟩
theorem same_iff (a b : List Attr) : sameAs a b = true ↔ ∀ s, look a s = look b s := by
  unfold sameAs
  rw [decide_eq_true_iff]
  constructor
  · intro h s
    have e1 : (changesA a b).1 = [] := List.eq_nil_of_length_eq_zero (by omega)
    have e2 : (changesA a b).2 = [] := List.eq_nil_of_length_eq_zero (by omega)
    cases hb : look b s with
    | none =>
      cases ha : look a s with
      | none => rfl
      | some x =>
        have : s ∈ (changesA a b).2 := mem_drop.2 ⟨by rw [ha]; simp, hb⟩
        rw [e2] at this; cases this
    | some z =>
      obtain ⟨_, hz, _⟩ := look_mem hb
      refine Classical.byContradiction fun hn => ?_
      have : z ∈ (changesA a b).1 := mem_put.2 (by rw [hz]; exact ⟨hb, hn⟩)
      rw [e1] at this; cases this
  · intro h
    have e1 : (changesA a b).1 = [] := List.eq_nil_iff_forall_not_mem.2 fun x hx => by
      obtain ⟨h1, h2⟩ := mem_put.1 hx
      exact h2 (by rw [h]; exact h1)
    have e2 : (changesA a b).2 = [] := List.eq_nil_iff_forall_not_mem.2 fun x hx => by
      obtain ⟨h1, h2⟩ := mem_drop.1 hx
      exact h1 (by rw [h]; exact h2)
    rw [e1, e2]; rfl
theorem leads (a b : List Attr) : sameAs (dropAll (putAll (onceA a []) (changesA a b).1) (changesA a b).2) b = true := by
  rw [same_iff]
  intro s
  have ha : look (onceA a []) s = look a s := by
    show Option.map ownA _ = _
    rw [find_look]
    cases h : look a s with
    | none => rfl
    | some x => simp [(look_mem h).2.2]
  cases hb : look b s with
  | none =>
    refine drop_none _ _ _ ?_
    cases h : look a s with
    | none =>
      right
      rw [put_none _ _ _ (fun p hp e => by have := (mem_put.1 hp).1; rw [e, hb] at this; cases this), ha]
      exact h
    | some x => exact .inl (mem_drop.2 ⟨by rw [h]; simp, hb⟩)
  | some z =>
    obtain ⟨_, hz, hzo⟩ := look_mem hb
    rw [drop_some _ _ _ (fun hm => by have := (mem_drop.1 hm).2; rw [hb] at this; cases this)]
    refine put_some s z _ _ (fun p hp e => ?_) ?_
    · have h1 := (mem_put.1 hp).1
      rw [e, hb] at h1
      injection h1 with h1
      rw [← h1, hzo]
    · rw [ha]
      by_cases h : look a s = some z
      · exact .inl h
      · exact .inr ⟨z, mem_put.2 (by rw [hz]; exact ⟨hb, h⟩), hz⟩
theorem same_symm (a b : List Attr) : sameAs a b = sameAs b a := by
  rw [Bool.eq_iff_iff, same_iff, same_iff]
  exact ⟨fun h s => (h s).symm, fun h s => (h s).symm⟩
theorem same_self (a : List Attr) : sameAs a a = true := (same_iff a a).2 fun _ => rfl
theorem putAll_take (X ps : List Attr) (i : Nat) (h : i < ps.length) : putAll X (ps.take (i + 1)) = putA ((putAll X (ps.take i)).map ownA) (ownA ps[i]) := by
  unfold putAll
  rw [List.take_succ_eq_append_getElem h, List.foldl_append]
  rfl
theorem dropAll_take (X : List Attr) (ds : List (List UInt8)) (i : Nat) (h : i < ds.length) : dropAll X (ds.take (i + 1)) = dropA ((dropAll X (ds.take i)).map ownA) ds[i] := by
  unfold dropAll
  rw [List.take_succ_eq_append_getElem h, List.foldl_append]
  rfl
theorem attrsChanges (H : List Ob) (a b : List Attr) (ha : ∀ x ∈ a, okA x) (hb : ∀ x ∈ b, okA x) (hsa : a.length ≤ 1048576) (hsb : b.length ≤ 1048576) : SCall Try.prog 4 [.slice (a.map attrV), .slice (b.map attrV)] H (fun r H' => r = .bool true) := by
  refine SCall.of_good fun hH => ?_
  have hHk := HLt.add hH
  refine SCall.of_code Tok Try.func4 rfl Try.call4 (n := 73) rfl (by simp) (rs := [.tmp 4]) rfl ?_
  refine EWn.to ?_
  refine EWn.of_c Tok mixed (own := false) keep4 tab4 (by kernel_rfl) ?_
  (repeat (first | simp -dsimp only [st_run, sz_run, st1_run, cl_run, st_Str, sz_Str, st1_Str, cl_Str, st_c, sz_c, st1_c, cl_c, st_attr, sz_attr, st1_attr, cl_attr, RB, TB, keep4, tab4, ewOp, xop, xindexAddr, xindex, xslice, xconvert, xlen, drawStep, FreeW, SameW, ChangeW, limBytes, Nat.reduceBEq, Nat.reduceAdd, Nat.reduceEqDiff, Nat.reduceLT, Nat.reduceLeDiff, Nat.reduceMul, Nat.reduceSub, Int.reduceBEq, Int.reduceBNe, Int.reduceToNat, Int.reduceLT, Int.reduceLE, Int.reduceGT, Int.reduceGE, Int.reduceAdd, Int.reduceSub, Int.reduceNeg, Int.reduceEq, Int.toNat_zero, Int.toNat_one, reduceIte, reduceCtorEq, ne_eq, decide_true, decide_false] | ((with_reducible refine Need.intro ?_ ?_); (first | trivial | omega | (simp; done) | (simp; omega)))))
  (first | refine SCall.then (alive10 _) ?_ | refine SCall.thenA (alive10 _) (by repeat (first | exact trivial | exact .inl (.inl rfl) | exact .inl (.inr ⟨_, rfl, rfl⟩) | exact .inl rfl | exact .inr ⟨_, rfl, rfl⟩ | refine .inr ⟨_, _, rfl, rfl, ?_⟩ | refine ⟨?_, ?_⟩)) ?_ | refine CallE.intro _ (alive10 _) ?_ | refine CallE.introA (alive10 _) (by repeat (first | exact trivial | exact .inl (.inl rfl) | exact .inl (.inr ⟨_, rfl, rfl⟩) | exact .inl rfl | exact .inr ⟨_, rfl, rfl⟩ | refine .inr ⟨_, _, rfl, rfl, ?_⟩ | refine ⟨?_, ?_⟩)) ?_ | refine CallE.intro _ (fun _ => alive10 _) ?_ | refine CallE.intro _ (fun _ => SCall.arg (by repeat (first | exact trivial | exact .inl (.inl rfl) | exact .inl (.inr ⟨_, rfl, rfl⟩) | exact .inl rfl | exact .inr ⟨_, rfl, rfl⟩ | refine .inr ⟨_, _, rfl, rfl, ?_⟩ | refine ⟨?_, ?_⟩)) (alive10 _)) ?_ | refine CallE2.intro _ _ (alive10 _) ?_ | refine CallE2.intro _ _ (SCall.arg (by repeat (first | exact trivial | exact .inl (.inl rfl) | exact .inl (.inr ⟨_, rfl, rfl⟩) | exact .inl rfl | exact .inr ⟨_, rfl, rfl⟩ | refine .inr ⟨_, _, rfl, rfl, ?_⟩ | refine ⟨?_, ?_⟩)) (alive10 _)) ?_)
  (repeat (first | simp -dsimp only [st_run, sz_run, st1_run, cl_run, st_Str, sz_Str, st1_Str, cl_Str, st_c, sz_c, st1_c, cl_c, st_attr, sz_attr, st1_attr, cl_attr, RB, TB, keep4, tab4, ewOp, xop, xindexAddr, xindex, xslice, xconvert, xlen, drawStep, FreeW, SameW, ChangeW, limBytes, Nat.reduceBEq, Nat.reduceAdd, Nat.reduceEqDiff, Nat.reduceLT, Nat.reduceLeDiff, Nat.reduceMul, Nat.reduceSub, Int.reduceBEq, Int.reduceBNe, Int.reduceToNat, Int.reduceLT, Int.reduceLE, Int.reduceGT, Int.reduceGE, Int.reduceAdd, Int.reduceSub, Int.reduceNeg, Int.reduceEq, Int.toNat_zero, Int.toNat_one, reduceIte, reduceCtorEq, ne_eq, decide_true, decide_false] | ((with_reducible refine Need.intro ?_ ?_); (first | trivial | omega | (simp; done) | (simp; omega)))))
  (first | refine SCall.then (aChanges _ a b ha hb (by omega) (by omega)) ?_ | refine SCall.thenA (aChanges _ a b ha hb (by omega) (by omega)) (by repeat (first | exact trivial | exact .inl (.inl rfl) | exact .inl (.inr ⟨_, rfl, rfl⟩) | exact .inl rfl | exact .inr ⟨_, rfl, rfl⟩ | refine .inr ⟨_, _, rfl, rfl, ?_⟩ | refine ⟨?_, ?_⟩)) ?_ | refine CallE.intro _ (aChanges _ a b ha hb (by omega) (by omega)) ?_ | refine CallE.introA (aChanges _ a b ha hb (by omega) (by omega)) (by repeat (first | exact trivial | exact .inl (.inl rfl) | exact .inl (.inr ⟨_, rfl, rfl⟩) | exact .inl rfl | exact .inr ⟨_, rfl, rfl⟩ | refine .inr ⟨_, _, rfl, rfl, ?_⟩ | refine ⟨?_, ?_⟩)) ?_ | refine CallE.intro _ (fun _ => aChanges _ a b ha hb (by omega) (by omega)) ?_ | refine CallE.intro _ (fun _ => SCall.arg (by repeat (first | exact trivial | exact .inl (.inl rfl) | exact .inl (.inr ⟨_, rfl, rfl⟩) | exact .inl rfl | exact .inr ⟨_, rfl, rfl⟩ | refine .inr ⟨_, _, rfl, rfl, ?_⟩ | refine ⟨?_, ?_⟩)) (aChanges _ a b ha hb (by omega) (by omega))) ?_ | refine CallE2.intro _ _ (aChanges _ a b ha hb (by omega) (by omega)) ?_ | refine CallE2.intro _ _ (SCall.arg (by repeat (first | exact trivial | exact .inl (.inl rfl) | exact .inl (.inr ⟨_, rfl, rfl⟩) | exact .inl rfl | exact .inr ⟨_, rfl, rfl⟩ | refine .inr ⟨_, _, rfl, rfl, ?_⟩ | refine ⟨?_, ?_⟩)) (aChanges _ a b ha hb (by omega) (by omega))) ?_)
  (repeat (first | simp -dsimp only [st_run, sz_run, st1_run, cl_run, st_Str, sz_Str, st1_Str, cl_Str, st_c, sz_c, st1_c, cl_c, st_attr, sz_attr, st1_attr, cl_attr, RB, TB, keep4, tab4, ewOp, xop, xindexAddr, xindex, xslice, xconvert, xlen, drawStep, FreeW, SameW, ChangeW, limBytes, Nat.reduceBEq, Nat.reduceAdd, Nat.reduceEqDiff, Nat.reduceLT, Nat.reduceLeDiff, Nat.reduceMul, Nat.reduceSub, Int.reduceBEq, Int.reduceBNe, Int.reduceToNat, Int.reduceLT, Int.reduceLE, Int.reduceGT, Int.reduceGE, Int.reduceAdd, Int.reduceSub, Int.reduceNeg, Int.reduceEq, Int.toNat_zero, Int.toNat_one, reduceIte, reduceCtorEq, ne_eq, decide_true, decide_false] | ((with_reducible refine Need.intro ?_ ?_); (first | trivial | omega | (simp; done) | (simp; omega)))))
  (first | refine SCall.then (aOnce _ a ha (by omega)) ?_ | refine SCall.thenA (aOnce _ a ha (by omega)) (by repeat (first | exact trivial | exact .inl (.inl rfl) | exact .inl (.inr ⟨_, rfl, rfl⟩) | exact .inl rfl | exact .inr ⟨_, rfl, rfl⟩ | refine .inr ⟨_, _, rfl, rfl, ?_⟩ | refine ⟨?_, ?_⟩)) ?_ | refine CallE.intro _ (aOnce _ a ha (by omega)) ?_ | refine CallE.introA (aOnce _ a ha (by omega)) (by repeat (first | exact trivial | exact .inl (.inl rfl) | exact .inl (.inr ⟨_, rfl, rfl⟩) | exact .inl rfl | exact .inr ⟨_, rfl, rfl⟩ | refine .inr ⟨_, _, rfl, rfl, ?_⟩ | refine ⟨?_, ?_⟩)) ?_ | refine CallE.intro _ (fun _ => aOnce _ a ha (by omega)) ?_ | refine CallE.intro _ (fun _ => SCall.arg (by repeat (first | exact trivial | exact .inl (.inl rfl) | exact .inl (.inr ⟨_, rfl, rfl⟩) | exact .inl rfl | exact .inr ⟨_, rfl, rfl⟩ | refine .inr ⟨_, _, rfl, rfl, ?_⟩ | refine ⟨?_, ?_⟩)) (aOnce _ a ha (by omega))) ?_ | refine CallE2.intro _ _ (aOnce _ a ha (by omega)) ?_ | refine CallE2.intro _ _ (SCall.arg (by repeat (first | exact trivial | exact .inl (.inl rfl) | exact .inl (.inr ⟨_, rfl, rfl⟩) | exact .inl rfl | exact .inr ⟨_, rfl, rfl⟩ | refine .inr ⟨_, _, rfl, rfl, ?_⟩ | refine ⟨?_, ?_⟩)) (aOnce _ a ha (by omega))) ?_)
  (repeat (first | simp -dsimp only [st_run, sz_run, st1_run, cl_run, st_Str, sz_Str, st1_Str, cl_Str, st_c, sz_c, st1_c, cl_c, st_attr, sz_attr, st1_attr, cl_attr, RB, TB, keep4, tab4, ewOp, xop, xindexAddr, xindex, xslice, xconvert, xlen, drawStep, FreeW, SameW, ChangeW, limBytes, Nat.reduceBEq, Nat.reduceAdd, Nat.reduceEqDiff, Nat.reduceLT, Nat.reduceLeDiff, Nat.reduceMul, Nat.reduceSub, Int.reduceBEq, Int.reduceBNe, Int.reduceToNat, Int.reduceLT, Int.reduceLE, Int.reduceGT, Int.reduceGE, Int.reduceAdd, Int.reduceSub, Int.reduceNeg, Int.reduceEq, Int.toNat_zero, Int.toNat_one, reduceIte, reduceCtorEq, ne_eq, decide_true, decide_false] | ((with_reducible refine Need.intro ?_ ?_); (first | trivial | omega | (simp; done) | (simp; omega)))))
  have hpl : (changesA a b).1.length ≤ 1048576 := by
    refine Nat.le_trans (List.length_filter_le _ _) ?_
    have := onceA_len b []; simp at this; omega
  have hdl : (changesA a b).2.length ≤ 1048576 := by
    unfold changesA; simp only [List.length_map]
    refine Nat.le_trans (List.length_filter_le _ _) ?_
    have := onceA_len a []; simp at this; omega
  have hpo : ∀ x ∈ (changesA a b).1, okA x := fun x hx => onceA_ok b [] hb (by simp) x (List.mem_filter.1 hx).1
  have hoo := onceA_ok a [] ha (by simp)
  have hol := onceA_len a []
  simp only [List.length_nil] at hol
  have hlead := leads a b
  have hsame : sameAs a b = decide ((changesA a b).1.length + (changesA a b).2.length = 0) := rfl
  generalize onceA a [] = X0 at *
  generalize (changesA a b).1 = PU at *
  generalize (changesA a b).2 = DR at *
  refine EWn.loopE (ι := (Nat)) (fun (i : (Nat)) => i ≤ PU.length ∧ (putAll X0 (PU.take i)).length ≤ X0.length + i ∧ (∀ x ∈ putAll X0 (PU.take i), okA x)) (fun (i : (Nat)) => PU.length - i) (fun (i : (Nat)) => [(7, .slice ((putAll X0 (PU.take i)).map attrV)), (8, .int .i64 i)]) (fun (i : (Nat)) => H) (0) ?_ ?_ ?_ ?_ ?_
  · first | rfl | (simp [upd, eset]; done) | (simp [upd, eset, putAll]; done)
  · simp [putAll]
  · rintro i hok; exact ⟨by first | (simp; done) | (simp; omega), by (simp (maxDischargeDepth := 6) [LTB, HLt_set, ltL_take, ltL_drop, ltL_rep, ltL_set, upd, eset, hH, hHk, lt_vi, lt_str, lt_vb, ltc_str, ltc_vi, lt_run, lt1_run, ltc_run, lt_Str, lt1_Str, ltc_Str, lt_c, lt1_c, ltc_c, lt_attr, lt1_attr, ltc_attr] <;> omega), by (simp (maxDischargeDepth := 6) [LTB, HLt_set, ltL_take, ltL_drop, ltL_rep, ltL_set, upd, eset, hH, hHk, lt_vi, lt_str, lt_vb, ltc_str, ltc_vi, lt_run, lt1_run, ltc_run, lt_Str, lt1_Str, ltc_Str, lt_c, lt1_c, ltc_c, lt_attr, lt1_attr, ltc_attr] <;> omega)⟩
  · exact ⟨by omega, by simp [putAll], by simpa [putAll] using hoo⟩
  rintro i ⟨hi, hl1, hk1⟩
  refine EWn.of_c Tok mixed (own := false) keep4 tab4 (by kernel_rfl) ?_
  (repeat (first | simp -dsimp only [st_run, sz_run, st1_run, cl_run, st_Str, sz_Str, st1_Str, cl_Str, st_c, sz_c, st1_c, cl_c, st_attr, sz_attr, st1_attr, cl_attr, RB, TB, keep4, tab4, ewOp, xop, xindexAddr, xindex, xslice, xconvert, xlen, drawStep, FreeW, SameW, ChangeW, limBytes, Nat.reduceBEq, Nat.reduceAdd, Nat.reduceEqDiff, Nat.reduceLT, Nat.reduceLeDiff, Nat.reduceMul, Nat.reduceSub, Int.reduceBEq, Int.reduceBNe, Int.reduceToNat, Int.reduceLT, Int.reduceLE, Int.reduceGT, Int.reduceGE, Int.reduceAdd, Int.reduceSub, Int.reduceNeg, Int.reduceEq, Int.toNat_zero, Int.toNat_one, reduceIte, reduceCtorEq, ne_eq, decide_true, decide_false] | ((with_reducible refine Need.intro ?_ ?_); (first | trivial | omega | (simp; done) | (simp; omega)))))
  refine IfW.intro (fun h => ?_) (fun h => ?_)
  · have hlt := lt_of h
    (repeat (first | simp -dsimp only [st_run, sz_run, st1_run, cl_run, st_Str, sz_Str, st1_Str, cl_Str, st_c, sz_c, st1_c, cl_c, st_attr, sz_attr, st1_attr, cl_attr, h, at_map attrV PU i hlt, attrV, RB, TB, keep4, tab4, ewOp, xop, xindexAddr, xindex, xslice, xconvert, xlen, drawStep, FreeW, SameW, ChangeW, limBytes, Nat.reduceBEq, Nat.reduceAdd, Nat.reduceEqDiff, Nat.reduceLT, Nat.reduceLeDiff, Nat.reduceMul, Nat.reduceSub, Int.reduceBEq, Int.reduceBNe, Int.reduceToNat, Int.reduceLT, Int.reduceLE, Int.reduceGT, Int.reduceGE, Int.reduceAdd, Int.reduceSub, Int.reduceNeg, Int.reduceEq, Int.toNat_zero, Int.toNat_one, reduceIte, reduceCtorEq, ne_eq, decide_true, decide_false] | ((with_reducible refine Need.intro ?_ ?_); (first | trivial | omega | (simp; done) | (simp; omega)))))
    (first | refine SCall.then (aPut _ (putAll X0 (PU.take i)) PU[i] hk1 (hpo _ (List.getElem_mem hlt)) (by omega)) ?_ | refine SCall.thenA (aPut _ (putAll X0 (PU.take i)) PU[i] hk1 (hpo _ (List.getElem_mem hlt)) (by omega)) (by repeat (first | exact trivial | exact .inl (.inl rfl) | exact .inl (.inr ⟨_, rfl, rfl⟩) | exact .inl rfl | exact .inr ⟨_, rfl, rfl⟩ | refine .inr ⟨_, _, rfl, rfl, ?_⟩ | refine ⟨?_, ?_⟩)) ?_ | refine CallE.intro _ (aPut _ (putAll X0 (PU.take i)) PU[i] hk1 (hpo _ (List.getElem_mem hlt)) (by omega)) ?_ | refine CallE.introA (aPut _ (putAll X0 (PU.take i)) PU[i] hk1 (hpo _ (List.getElem_mem hlt)) (by omega)) (by repeat (first | exact trivial | exact .inl (.inl rfl) | exact .inl (.inr ⟨_, rfl, rfl⟩) | exact .inl rfl | exact .inr ⟨_, rfl, rfl⟩ | refine .inr ⟨_, _, rfl, rfl, ?_⟩ | refine ⟨?_, ?_⟩)) ?_ | refine CallE.intro _ (fun _ => aPut _ (putAll X0 (PU.take i)) PU[i] hk1 (hpo _ (List.getElem_mem hlt)) (by omega)) ?_ | refine CallE.intro _ (fun _ => SCall.arg (by repeat (first | exact trivial | exact .inl (.inl rfl) | exact .inl (.inr ⟨_, rfl, rfl⟩) | exact .inl rfl | exact .inr ⟨_, rfl, rfl⟩ | refine .inr ⟨_, _, rfl, rfl, ?_⟩ | refine ⟨?_, ?_⟩)) (aPut _ (putAll X0 (PU.take i)) PU[i] hk1 (hpo _ (List.getElem_mem hlt)) (by omega))) ?_ | refine CallE2.intro _ _ (aPut _ (putAll X0 (PU.take i)) PU[i] hk1 (hpo _ (List.getElem_mem hlt)) (by omega)) ?_ | refine CallE2.intro _ _ (SCall.arg (by repeat (first | exact trivial | exact .inl (.inl rfl) | exact .inl (.inr ⟨_, rfl, rfl⟩) | exact .inl rfl | exact .inr ⟨_, rfl, rfl⟩ | refine .inr ⟨_, _, rfl, rfl, ?_⟩ | refine ⟨?_, ?_⟩)) (aPut _ (putAll X0 (PU.take i)) PU[i] hk1 (hpo _ (List.getElem_mem hlt)) (by omega))) ?_)
    (repeat (first | simp -dsimp only [st_run, sz_run, st1_run, cl_run, st_Str, sz_Str, st1_Str, cl_Str, st_c, sz_c, st1_c, cl_c, st_attr, sz_attr, st1_attr, cl_attr, RB, TB, keep4, tab4, ewOp, xop, xindexAddr, xindex, xslice, xconvert, xlen, drawStep, FreeW, SameW, ChangeW, limBytes, Nat.reduceBEq, Nat.reduceAdd, Nat.reduceEqDiff, Nat.reduceLT, Nat.reduceLeDiff, Nat.reduceMul, Nat.reduceSub, Int.reduceBEq, Int.reduceBNe, Int.reduceToNat, Int.reduceLT, Int.reduceLE, Int.reduceGT, Int.reduceGE, Int.reduceAdd, Int.reduceSub, Int.reduceNeg, Int.reduceEq, Int.toNat_zero, Int.toNat_one, reduceIte, reduceCtorEq, ne_eq, decide_true, decide_false] | ((with_reducible refine Need.intro ?_ ?_); (first | trivial | omega | (simp; done) | (simp; omega)))))
    rw [wrapI (by omega)]
    have hsucc := putAll_take X0 PU i hlt
    have hpl := put_len (putAll X0 (PU.take i)) PU[i]
    refine UpTo.here ⟨i + 1, ⟨hlt, by rw [hsucc]; omega, by rw [hsucc]; exact put_ok hk1 (hpo _ (List.getElem_mem hlt))⟩, by simp only; omega, by simp only [hsucc]; simp [upd, eset], ⟨_, by simp; rfl⟩⟩
  (repeat (first | simp -dsimp only [st_run, sz_run, st1_run, cl_run, st_Str, sz_Str, st1_Str, cl_Str, st_c, sz_c, st1_c, cl_c, st_attr, sz_attr, st1_attr, cl_attr, h, RB, TB, keep4, tab4, ewOp, xop, xindexAddr, xindex, xslice, xconvert, xlen, drawStep, FreeW, SameW, ChangeW, limBytes, Nat.reduceBEq, Nat.reduceAdd, Nat.reduceEqDiff, Nat.reduceLT, Nat.reduceLeDiff, Nat.reduceMul, Nat.reduceSub, Int.reduceBEq, Int.reduceBNe, Int.reduceToNat, Int.reduceLT, Int.reduceLE, Int.reduceGT, Int.reduceGE, Int.reduceAdd, Int.reduceSub, Int.reduceNeg, Int.reduceEq, Int.toNat_zero, Int.toNat_one, reduceIte, reduceCtorEq, ne_eq, decide_true, decide_false] | ((with_reducible refine Need.intro ?_ ?_); (first | trivial | omega | (simp; done) | (simp; omega)))))
  have hi2 : i = PU.length := Nat.le_antisymm hi (ge_of h)
  subst hi2
  rw [List.take_length] at hl1 hk1
  rw [List.take_length]
  generalize putAll X0 PU = X1 at *
  refine EWn.loopE (ι := (Nat)) (fun (i : (Nat)) => i ≤ DR.length ∧ (dropAll X1 (DR.take i)).length ≤ X1.length ∧ (∀ x ∈ dropAll X1 (DR.take i), okA x)) (fun (i : (Nat)) => DR.length - i) (fun (i : (Nat)) => [(7, .slice ((dropAll X1 (DR.take i)).map attrV)), (9, .int .i64 i)]) (fun (i : (Nat)) => H) (0) ?_ ?_ ?_ ?_ ?_
  · first | rfl | (simp [upd, eset]; done) | (simp [upd, eset, dropAll]; done)
  · simp [dropAll]
  · rintro i hok; exact ⟨by first | (simp; done) | (simp; omega), by (simp (maxDischargeDepth := 6) [LTB, HLt_set, ltL_take, ltL_drop, ltL_rep, ltL_set, upd, eset, hH, hHk, lt_vi, lt_str, lt_vb, ltc_str, ltc_vi, lt_run, lt1_run, ltc_run, lt_Str, lt1_Str, ltc_Str, lt_c, lt1_c, ltc_c, lt_attr, lt1_attr, ltc_attr] <;> omega), by (simp (maxDischargeDepth := 6) [LTB, HLt_set, ltL_take, ltL_drop, ltL_rep, ltL_set, upd, eset, hH, hHk, lt_vi, lt_str, lt_vb, ltc_str, ltc_vi, lt_run, lt1_run, ltc_run, lt_Str, lt1_Str, ltc_Str, lt_c, lt1_c, ltc_c, lt_attr, lt1_attr, ltc_attr] <;> omega)⟩
  · exact ⟨by omega, by simp [dropAll], by simpa [dropAll] using hk1⟩
  rintro i ⟨hi, hl2, hk2⟩
  refine EWn.of_c Tok mixed (own := false) keep4 tab4 (by kernel_rfl) ?_
  (repeat (first | simp -dsimp only [st_run, sz_run, st1_run, cl_run, st_Str, sz_Str, st1_Str, cl_Str, st_c, sz_c, st1_c, cl_c, st_attr, sz_attr, st1_attr, cl_attr, RB, TB, keep4, tab4, ewOp, xop, xindexAddr, xindex, xslice, xconvert, xlen, drawStep, FreeW, SameW, ChangeW, limBytes, Nat.reduceBEq, Nat.reduceAdd, Nat.reduceEqDiff, Nat.reduceLT, Nat.reduceLeDiff, Nat.reduceMul, Nat.reduceSub, Int.reduceBEq, Int.reduceBNe, Int.reduceToNat, Int.reduceLT, Int.reduceLE, Int.reduceGT, Int.reduceGE, Int.reduceAdd, Int.reduceSub, Int.reduceNeg, Int.reduceEq, Int.toNat_zero, Int.toNat_one, reduceIte, reduceCtorEq, ne_eq, decide_true, decide_false] | ((with_reducible refine Need.intro ?_ ?_); (first | trivial | omega | (simp; done) | (simp; omega)))))
  refine IfW.intro (fun h2 => ?_) (fun h2 => ?_)
  · have hlt := lt_of h2
    (repeat (first | simp -dsimp only [st_run, sz_run, st1_run, cl_run, st_Str, sz_Str, st1_Str, cl_Str, st_c, sz_c, st1_c, cl_c, st_attr, sz_attr, st1_attr, cl_attr, h2, at_map V.str DR i hlt, RB, TB, keep4, tab4, ewOp, xop, xindexAddr, xindex, xslice, xconvert, xlen, drawStep, FreeW, SameW, ChangeW, limBytes, Nat.reduceBEq, Nat.reduceAdd, Nat.reduceEqDiff, Nat.reduceLT, Nat.reduceLeDiff, Nat.reduceMul, Nat.reduceSub, Int.reduceBEq, Int.reduceBNe, Int.reduceToNat, Int.reduceLT, Int.reduceLE, Int.reduceGT, Int.reduceGE, Int.reduceAdd, Int.reduceSub, Int.reduceNeg, Int.reduceEq, Int.toNat_zero, Int.toNat_one, reduceIte, reduceCtorEq, ne_eq, decide_true, decide_false] | ((with_reducible refine Need.intro ?_ ?_); (first | trivial | omega | (simp; done) | (simp; omega)))))
    (first | refine SCall.then (aDrop _ (dropAll X1 (DR.take i)) DR[i] hk2 (by omega)) ?_ | refine SCall.thenA (aDrop _ (dropAll X1 (DR.take i)) DR[i] hk2 (by omega)) (by repeat (first | exact trivial | exact .inl (.inl rfl) | exact .inl (.inr ⟨_, rfl, rfl⟩) | exact .inl rfl | exact .inr ⟨_, rfl, rfl⟩ | refine .inr ⟨_, _, rfl, rfl, ?_⟩ | refine ⟨?_, ?_⟩)) ?_ | refine CallE.intro _ (aDrop _ (dropAll X1 (DR.take i)) DR[i] hk2 (by omega)) ?_ | refine CallE.introA (aDrop _ (dropAll X1 (DR.take i)) DR[i] hk2 (by omega)) (by repeat (first | exact trivial | exact .inl (.inl rfl) | exact .inl (.inr ⟨_, rfl, rfl⟩) | exact .inl rfl | exact .inr ⟨_, rfl, rfl⟩ | refine .inr ⟨_, _, rfl, rfl, ?_⟩ | refine ⟨?_, ?_⟩)) ?_ | refine CallE.intro _ (fun _ => aDrop _ (dropAll X1 (DR.take i)) DR[i] hk2 (by omega)) ?_ | refine CallE.intro _ (fun _ => SCall.arg (by repeat (first | exact trivial | exact .inl (.inl rfl) | exact .inl (.inr ⟨_, rfl, rfl⟩) | exact .inl rfl | exact .inr ⟨_, rfl, rfl⟩ | refine .inr ⟨_, _, rfl, rfl, ?_⟩ | refine ⟨?_, ?_⟩)) (aDrop _ (dropAll X1 (DR.take i)) DR[i] hk2 (by omega))) ?_ | refine CallE2.intro _ _ (aDrop _ (dropAll X1 (DR.take i)) DR[i] hk2 (by omega)) ?_ | refine CallE2.intro _ _ (SCall.arg (by repeat (first | exact trivial | exact .inl (.inl rfl) | exact .inl (.inr ⟨_, rfl, rfl⟩) | exact .inl rfl | exact .inr ⟨_, rfl, rfl⟩ | refine .inr ⟨_, _, rfl, rfl, ?_⟩ | refine ⟨?_, ?_⟩)) (aDrop _ (dropAll X1 (DR.take i)) DR[i] hk2 (by omega))) ?_)
    (repeat (first | simp -dsimp only [st_run, sz_run, st1_run, cl_run, st_Str, sz_Str, st1_Str, cl_Str, st_c, sz_c, st1_c, cl_c, st_attr, sz_attr, st1_attr, cl_attr, RB, TB, keep4, tab4, ewOp, xop, xindexAddr, xindex, xslice, xconvert, xlen, drawStep, FreeW, SameW, ChangeW, limBytes, Nat.reduceBEq, Nat.reduceAdd, Nat.reduceEqDiff, Nat.reduceLT, Nat.reduceLeDiff, Nat.reduceMul, Nat.reduceSub, Int.reduceBEq, Int.reduceBNe, Int.reduceToNat, Int.reduceLT, Int.reduceLE, Int.reduceGT, Int.reduceGE, Int.reduceAdd, Int.reduceSub, Int.reduceNeg, Int.reduceEq, Int.toNat_zero, Int.toNat_one, reduceIte, reduceCtorEq, ne_eq, decide_true, decide_false] | ((with_reducible refine Need.intro ?_ ?_); (first | trivial | omega | (simp; done) | (simp; omega)))))
    rw [wrapI (by omega)]
    have hsucc := dropAll_take X1 DR i hlt
    have hpl := drop_len (dropAll X1 (DR.take i)) DR[i]
    refine UpTo.here ⟨i + 1, ⟨hlt, by rw [hsucc]; omega, by rw [hsucc]; exact drop_ok hk2⟩, by simp only; omega, by simp only [hsucc]; simp [upd, eset], ⟨_, by simp; rfl⟩⟩
  (repeat (first | simp -dsimp only [st_run, sz_run, st1_run, cl_run, st_Str, sz_Str, st1_Str, cl_Str, st_c, sz_c, st1_c, cl_c, st_attr, sz_attr, st1_attr, cl_attr, h2, RB, TB, keep4, tab4, ewOp, xop, xindexAddr, xindex, xslice, xconvert, xlen, drawStep, FreeW, SameW, ChangeW, limBytes, Nat.reduceBEq, Nat.reduceAdd, Nat.reduceEqDiff, Nat.reduceLT, Nat.reduceLeDiff, Nat.reduceMul, Nat.reduceSub, Int.reduceBEq, Int.reduceBNe, Int.reduceToNat, Int.reduceLT, Int.reduceLE, Int.reduceGT, Int.reduceGE, Int.reduceAdd, Int.reduceSub, Int.reduceNeg, Int.reduceEq, Int.toNat_zero, Int.toNat_one, reduceIte, reduceCtorEq, ne_eq, decide_true, decide_false] | ((with_reducible refine Need.intro ?_ ?_); (first | trivial | omega | (simp; done) | (simp; omega)))))
  have hi2 : i = DR.length := Nat.le_antisymm hi (ge_of h2)
  subst hi2
  rw [List.take_length] at hl2 hk2
  rw [List.take_length]
  generalize dropAll X1 DR = X2 at *
  (first | refine SCall.then (aSame _ X2 b hk2 hb (by omega) (by omega)) ?_ | refine SCall.thenA (aSame _ X2 b hk2 hb (by omega) (by omega)) (by repeat (first | exact trivial | exact .inl (.inl rfl) | exact .inl (.inr ⟨_, rfl, rfl⟩) | exact .inl rfl | exact .inr ⟨_, rfl, rfl⟩ | refine .inr ⟨_, _, rfl, rfl, ?_⟩ | refine ⟨?_, ?_⟩)) ?_ | refine CallE.intro _ (aSame _ X2 b hk2 hb (by omega) (by omega)) ?_ | refine CallE.introA (aSame _ X2 b hk2 hb (by omega) (by omega)) (by repeat (first | exact trivial | exact .inl (.inl rfl) | exact .inl (.inr ⟨_, rfl, rfl⟩) | exact .inl rfl | exact .inr ⟨_, rfl, rfl⟩ | refine .inr ⟨_, _, rfl, rfl, ?_⟩ | refine ⟨?_, ?_⟩)) ?_ | refine CallE.intro _ (fun _ => aSame _ X2 b hk2 hb (by omega) (by omega)) ?_ | refine CallE.intro _ (fun _ => SCall.arg (by repeat (first | exact trivial | exact .inl (.inl rfl) | exact .inl (.inr ⟨_, rfl, rfl⟩) | exact .inl rfl | exact .inr ⟨_, rfl, rfl⟩ | refine .inr ⟨_, _, rfl, rfl, ?_⟩ | refine ⟨?_, ?_⟩)) (aSame _ X2 b hk2 hb (by omega) (by omega))) ?_ | refine CallE2.intro _ _ (aSame _ X2 b hk2 hb (by omega) (by omega)) ?_ | refine CallE2.intro _ _ (SCall.arg (by repeat (first | exact trivial | exact .inl (.inl rfl) | exact .inl (.inr ⟨_, rfl, rfl⟩) | exact .inl rfl | exact .inr ⟨_, rfl, rfl⟩ | refine .inr ⟨_, _, rfl, rfl, ?_⟩ | refine ⟨?_, ?_⟩)) (aSame _ X2 b hk2 hb (by omega) (by omega))) ?_)
  (repeat (first | simp -dsimp only [st_run, sz_run, st1_run, cl_run, st_Str, sz_Str, st1_Str, cl_Str, st_c, sz_c, st1_c, cl_c, st_attr, sz_attr, st1_attr, cl_attr, hlead, RB, TB, keep4, tab4, ewOp, xop, xindexAddr, xindex, xslice, xconvert, xlen, drawStep, FreeW, SameW, ChangeW, limBytes, Nat.reduceBEq, Nat.reduceAdd, Nat.reduceEqDiff, Nat.reduceLT, Nat.reduceLeDiff, Nat.reduceMul, Nat.reduceSub, Int.reduceBEq, Int.reduceBNe, Int.reduceToNat, Int.reduceLT, Int.reduceLE, Int.reduceGT, Int.reduceGE, Int.reduceAdd, Int.reduceSub, Int.reduceNeg, Int.reduceEq, Int.toNat_zero, Int.toNat_one, reduceIte, reduceCtorEq, ne_eq, decide_true, decide_false] | ((with_reducible refine Need.intro ?_ ?_); (first | trivial | omega | (simp; done) | (simp; omega)))))
  (first | refine SCall.then (aSame _ a a ha ha (by omega) (by omega)) ?_ | refine SCall.thenA (aSame _ a a ha ha (by omega) (by omega)) (by repeat (first | exact trivial | exact .inl (.inl rfl) | exact .inl (.inr ⟨_, rfl, rfl⟩) | exact .inl rfl | exact .inr ⟨_, rfl, rfl⟩ | refine .inr ⟨_, _, rfl, rfl, ?_⟩ | refine ⟨?_, ?_⟩)) ?_ | refine CallE.intro _ (aSame _ a a ha ha (by omega) (by omega)) ?_ | refine CallE.introA (aSame _ a a ha ha (by omega) (by omega)) (by repeat (first | exact trivial | exact .inl (.inl rfl) | exact .inl (.inr ⟨_, rfl, rfl⟩) | exact .inl rfl | exact .inr ⟨_, rfl, rfl⟩ | refine .inr ⟨_, _, rfl, rfl, ?_⟩ | refine ⟨?_, ?_⟩)) ?_ | refine CallE.intro _ (fun _ => aSame _ a a ha ha (by omega) (by omega)) ?_ | refine CallE.intro _ (fun _ => SCall.arg (by repeat (first | exact trivial | exact .inl (.inl rfl) | exact .inl (.inr ⟨_, rfl, rfl⟩) | exact .inl rfl | exact .inr ⟨_, rfl, rfl⟩ | refine .inr ⟨_, _, rfl, rfl, ?_⟩ | refine ⟨?_, ?_⟩)) (aSame _ a a ha ha (by omega) (by omega))) ?_ | refine CallE2.intro _ _ (aSame _ a a ha ha (by omega) (by omega)) ?_ | refine CallE2.intro _ _ (SCall.arg (by repeat (first | exact trivial | exact .inl (.inl rfl) | exact .inl (.inr ⟨_, rfl, rfl⟩) | exact .inl rfl | exact .inr ⟨_, rfl, rfl⟩ | refine .inr ⟨_, _, rfl, rfl, ?_⟩ | refine ⟨?_, ?_⟩)) (aSame _ a a ha ha (by omega) (by omega))) ?_)
  (repeat (first | simp -dsimp only [st_run, sz_run, st1_run, cl_run, st_Str, sz_Str, st1_Str, cl_Str, st_c, sz_c, st1_c, cl_c, st_attr, sz_attr, st1_attr, cl_attr, same_self, RB, TB, keep4, tab4, ewOp, xop, xindexAddr, xindex, xslice, xconvert, xlen, drawStep, FreeW, SameW, ChangeW, limBytes, Nat.reduceBEq, Nat.reduceAdd, Nat.reduceEqDiff, Nat.reduceLT, Nat.reduceLeDiff, Nat.reduceMul, Nat.reduceSub, Int.reduceBEq, Int.reduceBNe, Int.reduceToNat, Int.reduceLT, Int.reduceLE, Int.reduceGT, Int.reduceGE, Int.reduceAdd, Int.reduceSub, Int.reduceNeg, Int.reduceEq, Int.toNat_zero, Int.toNat_one, reduceIte, reduceCtorEq, ne_eq, decide_true, decide_false] | ((with_reducible refine Need.intro ?_ ?_); (first | trivial | omega | (simp; done) | (simp; omega)))))
  (first | refine SCall.then (aSame _ a b ha hb (by omega) (by omega)) ?_ | refine SCall.thenA (aSame _ a b ha hb (by omega) (by omega)) (by repeat (first | exact trivial | exact .inl (.inl rfl) | exact .inl (.inr ⟨_, rfl, rfl⟩) | exact .inl rfl | exact .inr ⟨_, rfl, rfl⟩ | refine .inr ⟨_, _, rfl, rfl, ?_⟩ | refine ⟨?_, ?_⟩)) ?_ | refine CallE.intro _ (aSame _ a b ha hb (by omega) (by omega)) ?_ | refine CallE.introA (aSame _ a b ha hb (by omega) (by omega)) (by repeat (first | exact trivial | exact .inl (.inl rfl) | exact .inl (.inr ⟨_, rfl, rfl⟩) | exact .inl rfl | exact .inr ⟨_, rfl, rfl⟩ | refine .inr ⟨_, _, rfl, rfl, ?_⟩ | refine ⟨?_, ?_⟩)) ?_ | refine CallE.intro _ (fun _ => aSame _ a b ha hb (by omega) (by omega)) ?_ | refine CallE.intro _ (fun _ => SCall.arg (by repeat (first | exact trivial | exact .inl (.inl rfl) | exact .inl (.inr ⟨_, rfl, rfl⟩) | exact .inl rfl | exact .inr ⟨_, rfl, rfl⟩ | refine .inr ⟨_, _, rfl, rfl, ?_⟩ | refine ⟨?_, ?_⟩)) (aSame _ a b ha hb (by omega) (by omega))) ?_ | refine CallE2.intro _ _ (aSame _ a b ha hb (by omega) (by omega)) ?_ | refine CallE2.intro _ _ (SCall.arg (by repeat (first | exact trivial | exact .inl (.inl rfl) | exact .inl (.inr ⟨_, rfl, rfl⟩) | exact .inl rfl | exact .inr ⟨_, rfl, rfl⟩ | refine .inr ⟨_, _, rfl, rfl, ?_⟩ | refine ⟨?_, ?_⟩)) (aSame _ a b ha hb (by omega) (by omega))) ?_)
  (repeat (first | simp -dsimp only [st_run, sz_run, st1_run, cl_run, st_Str, sz_Str, st1_Str, cl_Str, st_c, sz_c, st1_c, cl_c, st_attr, sz_attr, st1_attr, cl_attr, RB, TB, keep4, tab4, ewOp, xop, xindexAddr, xindex, xslice, xconvert, xlen, drawStep, FreeW, SameW, ChangeW, limBytes, Nat.reduceBEq, Nat.reduceAdd, Nat.reduceEqDiff, Nat.reduceLT, Nat.reduceLeDiff, Nat.reduceMul, Nat.reduceSub, Int.reduceBEq, Int.reduceBNe, Int.reduceToNat, Int.reduceLT, Int.reduceLE, Int.reduceGT, Int.reduceGE, Int.reduceAdd, Int.reduceSub, Int.reduceNeg, Int.reduceEq, Int.toNat_zero, Int.toNat_one, reduceIte, reduceCtorEq, ne_eq, decide_true, decide_false] | ((with_reducible refine Need.intro ?_ ?_); (first | trivial | omega | (simp; done) | (simp; omega)))))
  rw [wrapI (by omega)]
  have e : (((PU.length : Int) + DR.length) == 0) = sameAs a b := by
    rw [hsame, Bool.eq_iff_iff]
    simp only [beq_iff_eq, decide_eq_true_iff]
    omega
  have e2 : (sameAs a b == sameAs a b) = true := by simp
  rw [e, e2]
  (repeat (first | simp -dsimp only [st_run, sz_run, st1_run, cl_run, st_Str, sz_Str, st1_Str, cl_Str, st_c, sz_c, st1_c, cl_c, st_attr, sz_attr, st1_attr, cl_attr, RB, TB, keep4, tab4, ewOp, xop, xindexAddr, xindex, xslice, xconvert, xlen, drawStep, FreeW, SameW, ChangeW, limBytes, Nat.reduceBEq, Nat.reduceAdd, Nat.reduceEqDiff, Nat.reduceLT, Nat.reduceLeDiff, Nat.reduceMul, Nat.reduceSub, Int.reduceBEq, Int.reduceBNe, Int.reduceToNat, Int.reduceLT, Int.reduceLE, Int.reduceGT, Int.reduceGE, Int.reduceAdd, Int.reduceSub, Int.reduceNeg, Int.reduceEq, Int.toNat_zero, Int.toNat_one, reduceIte, reduceCtorEq, ne_eq, decide_true, decide_false] | ((with_reducible refine Need.intro ?_ ?_); (first | trivial | omega | (simp; done) | (simp; omega)))))
  (first | refine SCall.then (aSame _ a b ha hb (by omega) (by omega)) ?_ | refine SCall.thenA (aSame _ a b ha hb (by omega) (by omega)) (by repeat (first | exact trivial | exact .inl (.inl rfl) | exact .inl (.inr ⟨_, rfl, rfl⟩) | exact .inl rfl | exact .inr ⟨_, rfl, rfl⟩ | refine .inr ⟨_, _, rfl, rfl, ?_⟩ | refine ⟨?_, ?_⟩)) ?_ | refine CallE.intro _ (aSame _ a b ha hb (by omega) (by omega)) ?_ | refine CallE.introA (aSame _ a b ha hb (by omega) (by omega)) (by repeat (first | exact trivial | exact .inl (.inl rfl) | exact .inl (.inr ⟨_, rfl, rfl⟩) | exact .inl rfl | exact .inr ⟨_, rfl, rfl⟩ | refine .inr ⟨_, _, rfl, rfl, ?_⟩ | refine ⟨?_, ?_⟩)) ?_ | refine CallE.intro _ (fun _ => aSame _ a b ha hb (by omega) (by omega)) ?_ | refine CallE.intro _ (fun _ => SCall.arg (by repeat (first | exact trivial | exact .inl (.inl rfl) | exact .inl (.inr ⟨_, rfl, rfl⟩) | exact .inl rfl | exact .inr ⟨_, rfl, rfl⟩ | refine .inr ⟨_, _, rfl, rfl, ?_⟩ | refine ⟨?_, ?_⟩)) (aSame _ a b ha hb (by omega) (by omega))) ?_ | refine CallE2.intro _ _ (aSame _ a b ha hb (by omega) (by omega)) ?_ | refine CallE2.intro _ _ (SCall.arg (by repeat (first | exact trivial | exact .inl (.inl rfl) | exact .inl (.inr ⟨_, rfl, rfl⟩) | exact .inl rfl | exact .inr ⟨_, rfl, rfl⟩ | refine .inr ⟨_, _, rfl, rfl, ?_⟩ | refine ⟨?_, ?_⟩)) (aSame _ a b ha hb (by omega) (by omega))) ?_)
  (repeat (first | simp -dsimp only [st_run, sz_run, st1_run, cl_run, st_Str, sz_Str, st1_Str, cl_Str, st_c, sz_c, st1_c, cl_c, st_attr, sz_attr, st1_attr, cl_attr, RB, TB, keep4, tab4, ewOp, xop, xindexAddr, xindex, xslice, xconvert, xlen, drawStep, FreeW, SameW, ChangeW, limBytes, Nat.reduceBEq, Nat.reduceAdd, Nat.reduceEqDiff, Nat.reduceLT, Nat.reduceLeDiff, Nat.reduceMul, Nat.reduceSub, Int.reduceBEq, Int.reduceBNe, Int.reduceToNat, Int.reduceLT, Int.reduceLE, Int.reduceGT, Int.reduceGE, Int.reduceAdd, Int.reduceSub, Int.reduceNeg, Int.reduceEq, Int.toNat_zero, Int.toNat_one, reduceIte, reduceCtorEq, ne_eq, decide_true, decide_false] | ((with_reducible refine Need.intro ?_ ?_); (first | trivial | omega | (simp; done) | (simp; omega)))))
  (first | refine SCall.then (aSame _ b a hb ha (by omega) (by omega)) ?_ | refine SCall.thenA (aSame _ b a hb ha (by omega) (by omega)) (by repeat (first | exact trivial | exact .inl (.inl rfl) | exact .inl (.inr ⟨_, rfl, rfl⟩) | exact .inl rfl | exact .inr ⟨_, rfl, rfl⟩ | refine .inr ⟨_, _, rfl, rfl, ?_⟩ | refine ⟨?_, ?_⟩)) ?_ | refine CallE.intro _ (aSame _ b a hb ha (by omega) (by omega)) ?_ | refine CallE.introA (aSame _ b a hb ha (by omega) (by omega)) (by repeat (first | exact trivial | exact .inl (.inl rfl) | exact .inl (.inr ⟨_, rfl, rfl⟩) | exact .inl rfl | exact .inr ⟨_, rfl, rfl⟩ | refine .inr ⟨_, _, rfl, rfl, ?_⟩ | refine ⟨?_, ?_⟩)) ?_ | refine CallE.intro _ (fun _ => aSame _ b a hb ha (by omega) (by omega)) ?_ | refine CallE.intro _ (fun _ => SCall.arg (by repeat (first | exact trivial | exact .inl (.inl rfl) | exact .inl (.inr ⟨_, rfl, rfl⟩) | exact .inl rfl | exact .inr ⟨_, rfl, rfl⟩ | refine .inr ⟨_, _, rfl, rfl, ?_⟩ | refine ⟨?_, ?_⟩)) (aSame _ b a hb ha (by omega) (by omega))) ?_ | refine CallE2.intro _ _ (aSame _ b a hb ha (by omega) (by omega)) ?_ | refine CallE2.intro _ _ (SCall.arg (by repeat (first | exact trivial | exact .inl (.inl rfl) | exact .inl (.inr ⟨_, rfl, rfl⟩) | exact .inl rfl | exact .inr ⟨_, rfl, rfl⟩ | refine .inr ⟨_, _, rfl, rfl, ?_⟩ | refine ⟨?_, ?_⟩)) (aSame _ b a hb ha (by omega) (by omega))) ?_)
  (repeat (first | simp -dsimp only [st_run, sz_run, st1_run, cl_run, st_Str, sz_Str, st1_Str, cl_Str, st_c, sz_c, st1_c, cl_c, st_attr, sz_attr, st1_attr, cl_attr, same_symm b a, e2, RB, TB, keep4, tab4, ewOp, xop, xindexAddr, xindex, xslice, xconvert, xlen, drawStep, FreeW, SameW, ChangeW, limBytes, Nat.reduceBEq, Nat.reduceAdd, Nat.reduceEqDiff, Nat.reduceLT, Nat.reduceLeDiff, Nat.reduceMul, Nat.reduceSub, Int.reduceBEq, Int.reduceBNe, Int.reduceToNat, Int.reduceLT, Int.reduceLE, Int.reduceGT, Int.reduceGE, Int.reduceAdd, Int.reduceSub, Int.reduceNeg, Int.reduceEq, Int.toNat_zero, Int.toNat_one, reduceIte, reduceCtorEq, ne_eq, decide_true, decide_false] | ((with_reducible refine Need.intro ?_ ?_); (first | trivial | omega | (simp; done) | (simp; omega)))))
  refine RetW.auto0 false _ (by first | rfl | exact (List.append_nil _).symm) ?_ ?_
  · (simp (maxDischargeDepth := 6) [LTB, HLt_set, ltL_take, ltL_drop, ltL_rep, ltL_set, upd, eset, hH, hHk, lt_vi, lt_str, lt_vb, ltc_str, ltc_vi, lt_run, lt1_run, ltc_run, lt_Str, lt1_Str, ltc_Str, lt_c, lt1_c, ltc_c, lt_attr, lt1_attr, ltc_attr] <;> omega)
  (try simp only [wk, wk1, wk0, RB, limBytes, Nat.reduceBEq, Nat.reduceAdd, Nat.reduceEqDiff, Nat.reduceLT, Nat.reduceLeDiff, Nat.reduceMul, Nat.reduceSub, Int.reduceBEq, Int.reduceBNe, Int.reduceToNat, Int.reduceLT, Int.reduceLE, Int.reduceGT, Int.reduceGE, Int.reduceAdd, Int.reduceSub, Int.reduceNeg, Int.reduceEq, Int.toNat_zero, Int.toNat_one, reduceIte, reduceCtorEq, ne_eq, decide_true, decide_false])
  (try (rw [List.take_of_length_le]; rotate_left 1; (· first | (simp; done) | (simp; omega) | omega)))
open Go.ChangeShapes Go.WideShapes Go.ChangeAt Go.RowKit in
theorem attrsChanges_lifted (os : Os) (started : os.Started) (H : Type) (enc : TypeId × Value → H) (F : Stop.Interp) :
    ReturnsInHanded {} Try.checked os 4 .any ((Rows.OpenSpec.upto Rows.attrsChangesSpec).pre6 enc Try.prog Try.f4 Rows.attrsChangesUptoRow.domain false) (((Rows.OpenSpec.upto Rows.attrsChangesSpec).at F).post enc Try.prog Try.f4 false true false false) := by
  refine returnsInHanded_of_cond (C := Try.checked) (s := Rows.OpenSpec.upto Rows.attrsChangesSpec) (k := Rows.uptoSmall) rfl own_none started (by kernel_rfl) Try.func4
    (OpenSpec.witness (enc := enc) (C := Try.checked) (s := Rows.OpenSpec.upto Rows.attrsChangesSpec) (k := Rows.uptoSmall) rfl false ⟨#[], #[.slice none 0 0, .slice none 0 0], []⟩ 8 (by kernel_rfl) (by kernel_rfl) (by kernel_rfl)
      (x := ([.nil, .nil], [], [])) (by kernel_rfl) rfl (by kernel_rfl)) ?_
  intro W base args ds gs before hval0 hW _ hk _
  have hval : ∀ (j : Nat) t v, Try.f4.params[j]? = some t → args[j]? = some v → Value.okWide Try.prog W .any base t v := hval0
  obtain ⟨p0_, q0_, hA, _⟩ := id hW
  have hA0 : DataW.TrodAll enc Try.prog W 0 (fun _ => true) true Try.f4.params.toList args.toList ds p0_ := hA
  rw [Try.params4] at hA0 hval
  obtain ⟨v0, v1, d0, d1, p0, p1, rfl, rfl, rfl, h0, h1⟩ := trodAll_two hA0
  obtain ⟨a, hp_a, hz_a, hv_a⟩ := dec_attrs.value h0 (fun _ => okAgg_leaf (by simp) (ok_slice Try.underlying25 (hval 0 25 v0 rfl rfl)))
  obtain ⟨b, hp_b, hz_b, hv_b⟩ := dec_attrs.value h1 (fun _ => okAgg_leaf (by simp) (ok_slice Try.underlying25 (hval 1 25 v1 rfl rfl)))
  have hb : Rows.uptoBulkAll ([d0, d1] ++ gs) ≤ 1048576 := of_decide_eq_true hk
  rw [← bulkAll_eq] at hb
  simp only [List.cons_append, bulkAll] at hb
  exact row_contract (P := Try.prog) (s := Rows.attrsChangesSpec) (vs := [.slice (a.map attrV), .slice (b.map attrV)]) laid_out (by kernel_rfl) rfl Try.call4 rfl Try.underlying4 hW ⟨rfl, rfl, rfl⟩ ⟨hv_a, hv_b, trivial⟩ (attrsChanges [] a b (okA_szs (by omega)).1 (okA_szs (by omega)).1 (okA_szs (by omega)).2 (okA_szs (by omega)).2)
theorem attrsChanges_upto : Rows.AttrsChangesUptoSaid :=
  OpenClaim.holds_of_cond 4 Try.f4 rfl rfl rfl rfl rfl rfl rfl ⟨rfl, rfl, rfl, rfl, rfl⟩ rfl rfl rfl rfl rfl (by kernel_rfl) Try.func4 (by kernel_rfl)
    (of_decide_eq_true (by kernel_rfl)) (by unfold Func.isWrapper; first | (rw [if_neg (by decide +kernel)]; exact ⟨rfl, rfl⟩) | (rw [if_pos (by decide +kernel)]; kernel_rfl))
    (fun os started H enc _ F => attrsChanges_lifted os started H enc F)
end Go.Proofs.Ytadhjfdmfdgppab

/- The plain laws of whether trees are the same: attributes as sets; merged trees; pale trees. -/
import Derived.Test.YtjhjcldpcngldaaTree9
import Derived.Test.YtjhjcldpcngldaaTreeLaw
set_option linter.unusedSimpArgs false
set_option linter.unusedVariables false
set_option maxRecDepth 100000
namespace Go.Proofs.Ytjhjcldpcngldaa
open Go Go.EL
/-! attributes of one's own, no name twice -/
def niceA (l : List Attr) : Prop := (l.map fun a => a.name.text).Nodup ∧ ∀ p ∈ l, ownA p = p
theorem nodup_inj {α β : Type} {f : α → β} : ∀ {l : List α}, (l.map f).Nodup → ∀ {x y : α}, x ∈ l → y ∈ l → f x = f y → x = y
  | a :: l, h, x, y, hx, hy, e => by
    rw [List.map_cons, List.nodup_cons] at h
    rcases List.mem_cons.1 hx with hxa | hxl
    · rcases List.mem_cons.1 hy with hya | hyl
      · rw [hxa, hya]
      · exact (h.1 (List.mem_map.2 ⟨y, hyl, by rw [← e, hxa]⟩)).elim
    · rcases List.mem_cons.1 hy with hya | hyl
      · exact (h.1 (List.mem_map.2 ⟨x, hxl, by rw [e, hya]⟩)).elim
      · exact nodup_inj h.2 hxl hyl e
theorem nodup_of_map {α β : Type} {f : α → β} : ∀ {l : List α}, (l.map f).Nodup → l.Nodup
  | [], _ => List.nodup_nil
  | a :: l, h => by
    rw [List.map_cons, List.nodup_cons] at h
    rw [List.nodup_cons]
    exact ⟨fun ha => h.1 (List.mem_map.2 ⟨a, ha, rfl⟩), nodup_of_map h.2⟩
theorem sub_len {α : Type} [DecidableEq α] : ∀ {l m : List α}, l.Nodup → (∀ x ∈ l, x ∈ m) → l.length ≤ m.length
  | [], m, _, _ => Nat.zero_le _
  | a :: l, m, h, hs => by
    rw [List.nodup_cons] at h
    have ha := hs a (by simp)
    have h2 : ∀ x ∈ l, x ∈ m.erase a := fun x hx => (List.mem_erase_of_ne (fun e : x = a => h.1 (by rw [← e]; exact hx))).2 (hs x (by simp [hx]))
    have := sub_len h.2 h2
    rw [List.length_erase_of_mem ha] at this
    have : 0 < m.length := List.length_pos_of_mem ha
    simp only [List.length_cons]
    omega
theorem sub_eq {α : Type} [DecidableEq α] {l m : List α} (hl : l.Nodup) (h : ∀ x ∈ l, x ∈ m) (hlen : m.length ≤ l.length) : ∀ x ∈ m, x ∈ l := fun x hx => by
  refine Classical.byContradiction fun hn => ?_
  have := sub_len (l := x :: l) (m := m) (List.nodup_cons.2 ⟨hn, hl⟩) (fun y hy => by
    rcases List.mem_cons.1 hy with rfl | hy
    · exact hx
    · exact h y hy)
  simp only [List.length_cons] at this
  omega
theorem place_no {l : List Attr} {s : List UInt8} : placeA l s < 0 ↔ ∀ x ∈ l, x.name.text ≠ s := by
  rcases place_find l s with ⟨h1, h2⟩ | ⟨i, hi, h1, h2, h3⟩
  · refine ⟨fun _ x hx e => ?_, fun _ => h1⟩
    have := List.find?_eq_none.1 h2 x hx
    simp [e] at this
  · refine ⟨fun h => by omega, fun h => absurd (by simpa using h3) (h l[i] (List.getElem_mem hi))⟩
theorem once_nice : ∀ (l acc : List Attr), niceA acc → niceA (onceA l acc)
  | [], acc, h => h
  | a :: l, acc, h => by
    simp only [onceA]
    split
    · rename_i hp
      refine once_nice l _ ⟨?_, fun p hp2 => ?_⟩
      · rw [List.map_append, List.map_cons, List.map_nil, List.nodup_append]
        refine ⟨h.1, by simp, fun x hx y hy => ?_⟩
        obtain ⟨z, hz, rfl⟩ := List.mem_map.1 hx
        rw [List.mem_singleton.1 hy]
        exact place_no.1 hp z hz
      · rcases List.mem_append.1 hp2 with hp2 | hp2
        · exact h.2 p hp2
        · rw [List.mem_singleton.1 hp2]; exact own_own a
    · exact once_nice l _ h
theorem nice_nil : niceA [] := ⟨by simp, by simp⟩
theorem once_same : ∀ (l acc : List Attr), niceA (acc ++ l) → onceA l acc = acc ++ l
  | [], acc, h => by simp [onceA]
  | a :: l, acc, h => by
    simp only [onceA]
    have hd := h.1
    rw [List.map_append, List.map_cons, List.nodup_append] at hd
    have hn : placeA acc a.name.text < 0 := place_no.2 fun x hx => hd.2.2 _ (List.mem_map.2 ⟨x, hx, rfl⟩) _ (by simp)
    rw [if_pos hn, h.2 a (by simp)]
    have := once_same l (acc ++ [a]) (by simpa using h)
    rw [this]; simp
theorem once_id {l : List Attr} (h : niceA l) : onceA l [] = l := by
  have := once_same l [] (by simpa using h)
  simpa using this
theorem find_nice {l : List Attr} (h : niceA l) {x : Attr} (hx : x ∈ l) : l.find? (fun a => a.name.text == x.name.text) = some x := by
  rcases place_find l x.name.text with ⟨h1, h2⟩ | ⟨i, hi, h1, h2, h3⟩
  · exact absurd rfl (place_no.1 h1 x hx)
  · rw [h2, nodup_inj h.1 (List.getElem_mem hi) hx (by simpa using h3)]
theorem alikeI (x y : Attr) : alikeA x y = true ↔ ownA x = ownA y := by
  unfold alikeA ownA
  simp [like_iff]
theorem need_no {A : List Attr} (hA : niceA A) {y : Attr} (hy : ownA y = y) : needP A y = false ↔ y ∈ A := by
  unfold needP
  constructor
  · intro h
    cases hf : A.find? (fun z => z.name.text == y.name.text) with
    | none => rw [hf] at h; cases h
    | some z =>
      rw [hf] at h
      have hz := List.mem_of_find?_eq_some hf
      have ha : alikeA z y = true := by simpa using h
      rw [alikeI, hA.2 z hz, hy] at ha
      rw [← ha]; exact hz
  · intro h
    rw [find_nice hA h]
    have : alikeA y y = true := (alikeI y y).2 rfl
    simp [this]
theorem sameA_iff {A B : List Attr} (hA : niceA A) (hB : niceA B) : sameA A B = true ↔ (∀ y ∈ B, y ∈ A) ∧ ∀ x ∈ A, ∃ z ∈ B, z.name.text = x.name.text := by
  unfold sameA changesA
  rw [once_id hA, once_id hB]
  simp only [List.length_map, decide_eq_true_eq]
  rw [Nat.add_eq_zero_iff, List.length_eq_zero_iff, List.length_eq_zero_iff, List.filter_eq_nil_iff, List.filter_eq_nil_iff]
  constructor
  · rintro ⟨h1, h2⟩
    refine ⟨fun y hy => (need_no hA (hB.2 y hy)).1 (by simpa using h1 y hy), fun x hx => ?_⟩
    have := h2 x hx
    simp only [decide_eq_true_eq] at this
    refine Classical.byContradiction fun hn => this (place_no.2 fun z hz e => hn ⟨z, hz, e⟩)
  · rintro ⟨h1, h2⟩
    refine ⟨fun y hy => by rw [(need_no hA (hB.2 y hy)).2 (h1 y hy)]; simp, fun x hx => ?_⟩
    obtain ⟨z, hz, e⟩ := h2 x hx
    simp only [decide_eq_true_eq]
    intro h
    exact place_no.1 h z hz e
theorem sameA_sub {A B : List Attr} (hA : niceA A) (hB : niceA B) : sameA A B = true ↔ A.length = B.length ∧ ∀ x ∈ A, x ∈ B := by
  have nA := nodup_of_map hA.1
  have nB := nodup_of_map hB.1
  rw [sameA_iff hA hB]
  constructor
  · rintro ⟨h1, h2⟩
    have h3 : ∀ x ∈ A, x ∈ B := fun x hx => by
      obtain ⟨z, hz, e⟩ := h2 x hx
      have := nodup_inj hA.1 (h1 z hz) hx e
      rw [← this]; exact hz
    exact ⟨Nat.le_antisymm (sub_len nA h3) (sub_len nB h1), h3⟩
  · rintro ⟨h1, h2⟩
    exact ⟨sub_eq nA h2 (by omega), fun x hx => ⟨x, h2 x hx, rfl⟩⟩
/-! the same, as the law tells it -/
def matchA (pale : Bool) (p q : Attr) : Bool := p.name.text == q.name.text && (p.value.text == q.value.text && (pale || (decide (fixS p.name = fixS q.name) && decide (fixS p.value = fixS q.value))))
mutual
def lsK (pale : Bool) : Tree → Tree → Bool
  | .mk a b c d, .mk a' b' c' d' => a.text == a'.text && (d.text == d'.text && (decide (b.length = b'.length) && (lsF pale c c' && ((pale || (decide (fixS a = fixS a') && decide (fixS d = fixS d'))) && b.all fun p => b'.any (matchA pale p)))))
def lsF (pale : Bool) : List Tree → List Tree → Bool
  | [], [] => true
  | x :: l, y :: m => lsK pale x y && lsF pale l m
  | _, _ => false
end
theorem lsF_eq (pale : Bool) : ∀ l m : List Tree, lsF pale l m = eqW (lsK pale) l m
  | [], [] => by simp only [lsF, eqW]
  | x :: l, y :: m => by simp only [lsF, eqW, lsF_eq pale l m]
  | [], _ :: _ => by simp only [lsF, eqW]
  | _ :: _, [] => by simp only [lsF, eqW]
theorem lsK_eq (pale : Bool) (x y : Tree) : lsK pale x y = (x.tag.text == y.tag.text && (x.text.text == y.text.text && (decide (x.attrs.length = y.attrs.length) && (lsF pale x.kids y.kids && ((pale || (decide (fixS x.tag = fixS y.tag) && decide (fixS x.text = fixS y.text))) && x.attrs.all fun p => y.attrs.any (matchA pale p)))))) := by
  cases x; cases y; rw [lsK]; rfl
mutual
def niceT : Tree → Prop
  | .mk _ b c _ => niceA b ∧ niceTs c
def niceTs : List Tree → Prop
  | [] => True
  | t :: l => niceT t ∧ niceTs l
end
theorem match_own (p q : Attr) : matchA false p q = true ↔ ownA p = ownA q := by
  unfold matchA ownA
  simp only [Bool.and_eq_true, beq_iff_eq, Bool.false_or, decide_eq_true_eq, Attr.mk.injEq]
  constructor
  · rintro ⟨_, _, h⟩; exact h
  · rintro ⟨h1, h2⟩; exact ⟨(fix_eq h1).1, (fix_eq h2).1, h1, h2⟩
theorem pale_eq (a b : Str) : paleS a = paleS b ↔ a.text = b.text := by
  unfold paleS
  constructor
  · intro h; injection h
  · intro h; rw [h]
theorem match_pale (p q : Attr) : matchA true p q = true ↔ paleA p = paleA q := by
  unfold matchA paleA
  simp [pale_eq]
theorem orig_pale (s : Str) : orig (paleS s) = List.replicate s.text.length (near 0) := by
  unfold paleS
  refine orig_rle (by simp) fun o ho => ?_
  rw [(List.mem_replicate.1 ho).2]
  decide
theorem fix_pale (s : Str) : fixS (paleS s) = paleS s := by
  have := orig_pale s
  unfold fixS
  rw [this]; rfl
theorem own_pale (a : Attr) : ownA (paleA a) = paleA a := by unfold ownA paleA; simp [fix_pale]
theorem like_pale (a b : Str) : Like (paleS a) (paleS b) ↔ a.text = b.text := by
  rw [like_iff, fix_pale, fix_pale, pale_eq]
theorem nice_pale {l : List Attr} (h : niceA l) : niceA (l.map paleA) := by
  refine ⟨?_, fun p hp => ?_⟩
  · rw [List.map_map]; exact h.1
  · obtain ⟨q, _, rfl⟩ := List.mem_map.1 hp; exact own_pale q
theorem attrs_ls {b b' : List Attr} (h : niceA b) (h' : niceA b') : sameA b b' = (decide (b.length = b'.length) && b.all fun p => b'.any (matchA false p)) := by
  rw [Bool.eq_iff_iff, sameA_sub h h']
  simp only [Bool.and_eq_true, decide_eq_true_eq, List.all_eq_true, List.any_eq_true, match_own]
  refine and_congr_right fun _ => forall_congr' fun x => ⟨fun k hx => ⟨x, k hx, rfl⟩, fun k hx => ?_⟩
  obtain ⟨y, hy, e⟩ := k hx
  rw [h.2 x hx, h'.2 y hy] at e
  rw [e]; exact hy
theorem attrs_lsP {b b' : List Attr} (h : niceA b) (h' : niceA b') : sameA (b.map paleA) (b'.map paleA) = (decide (b.length = b'.length) && b.all fun p => b'.any (matchA true p)) := by
  rw [Bool.eq_iff_iff, sameA_sub (nice_pale h) (nice_pale h')]
  simp only [Bool.and_eq_true, decide_eq_true_eq, List.all_eq_true, List.any_eq_true, match_pale, List.length_map]
  refine and_congr_right fun _ => ⟨fun k x hx => ?_, fun k x hx => ?_⟩
  · obtain ⟨y, hy, e⟩ := List.mem_map.1 (k _ (List.mem_map.2 ⟨x, hx, rfl⟩))
    exact ⟨y, hy, e.symm⟩
  · obtain ⟨z, hz, rfl⟩ := List.mem_map.1 hx
    obtain ⟨y, hy, e⟩ := k z hz
    exact List.mem_map.2 ⟨y, hy, e.symm⟩
mutual
theorem same_ls : ∀ (x y : Tree), niceT x → niceT y → sameK x y = lsK false x y
  | .mk a b c d, .mk a' b' c' d', h, h' => by
    rw [niceT] at h h'
    have hk := sameF_ls c c' h.2 h'.2
    have ha := attrs_ls h.1 h'.1
    rw [sameK, lsK, hk, ha]
    rw [Bool.eq_iff_iff]
    simp only [Bool.and_eq_true, decide_eq_true_eq, beq_iff_eq, Bool.false_or, like_iff]
    constructor
    · rintro ⟨h1, h2, ⟨h3, h4⟩, h5⟩
      exact ⟨(fix_eq h1).1, (fix_eq h2).1, h3, h5, ⟨h1, h2⟩, h4⟩
    · rintro ⟨_, _, h3, h5, ⟨h1, h2⟩, h4⟩
      exact ⟨h1, h2, ⟨h3, h4⟩, h5⟩
theorem sameF_ls : ∀ (l m : List Tree), niceTs l → niceTs m → sameF l m = lsF false l m
  | [], [], _, _ => by simp only [sameF, lsF]
  | x :: l, y :: m, h, h' => by
    rw [niceTs] at h h'
    simp only [sameF, lsF, same_ls x y h.1 h'.1, sameF_ls l m h.2 h'.2]
  | [], _ :: _, _, _ => by simp only [sameF, lsF]
  | _ :: _, [], _, _ => by simp only [sameF, lsF]
end
mutual
theorem same_lsP : ∀ (x y : Tree), niceT x → niceT y → sameK (paleT x) (paleT y) = lsK true x y
  | .mk a b c d, .mk a' b' c' d', h, h' => by
    rw [niceT] at h h'
    have hk := sameF_lsP c c' h.2 h'.2
    have ha := attrs_lsP h.1 h'.1
    rw [paleT, paleT, sameK, lsK, hk, ha]
    rw [Bool.eq_iff_iff]
    simp only [Bool.and_eq_true, decide_eq_true_eq, beq_iff_eq, Bool.true_or, like_pale, true_and]
    constructor
    · rintro ⟨h1, h2, ⟨h3, h4⟩, h5⟩
      exact ⟨h1, h2, h3, h5, h4⟩
    · rintro ⟨h1, h2, h3, h5, h4⟩
      exact ⟨h1, h2, ⟨h3, h4⟩, h5⟩
theorem sameF_lsP : ∀ (l m : List Tree), niceTs l → niceTs m → sameF (paleF l) (paleF m) = lsF true l m
  | [], [], _, _ => by simp only [paleF, sameF, lsF]
  | x :: l, y :: m, h, h' => by
    rw [niceTs] at h h'
    simp only [paleF, sameF, lsF, same_lsP x y h.1 h'.1, sameF_lsP l m h.2 h'.2]
  | [], _ :: _, _, _ => by simp only [paleF, sameF, lsF]
  | _ :: _, [], _, _ => by simp only [paleF, sameF, lsF]
end
/-! it does not look at what is told otherwise -/
theorem match_fx (pale : Bool) (p q : Attr) : matchA pale (ownA p) (ownA q) = matchA pale p q := by
  unfold matchA ownA
  simp only [fix_text, fix_fix]
mutual
theorem lsK_fx (pale : Bool) : ∀ x y : Tree, lsK pale (fxT x) (fxT y) = lsK pale x y
  | .mk a b c d, .mk a' b' c' d' => by
    have hk := lsF_fx pale c c'
    rw [fxT, fxT, lsK, lsK, hk]
    simp only [fix_text, fix_fix, List.length_map, List.all_map, List.any_map]
    congr 5
    refine List.all_congr rfl fun p => ?_
    show (b'.any fun q => matchA pale (ownA p) (ownA q)) = _
    exact congrArg _ (funext fun q => match_fx pale p q)
theorem lsF_fx (pale : Bool) : ∀ l m : List Tree, lsF pale (fxs l) (fxs m) = lsF pale l m
  | [], [] => by simp only [fxs, lsF]
  | x :: l, y :: m => by simp only [fxs, lsF, lsK_fx pale x y, lsF_fx pale l m]
  | [], _ :: _ => by simp only [fxs, lsF]
  | _ :: _, [] => by simp only [fxs, lsF]
end
theorem lsF_merge (pale : Bool) (a b : List Tree) : lsF pale (mergeR a) (mergeR b) = lsF pale (mergeT a) (mergeT b) := by
  rw [← lsF_fx pale (mergeR a), ← lsF_fx pale (mergeT a), fxs_map, fxs_map, fxs_map, fxs_map, merge_fx, merge_fx]
/-! what is merged is nice -/
theorem niceTs_app : ∀ (a b : List Tree), niceTs (a ++ b) ↔ niceTs a ∧ niceTs b
  | [], b => by simp [niceTs]
  | t :: a, b => by simp only [List.cons_append, niceTs, niceTs_app a b, and_assoc]
theorem step_nice {acc : List Tree} (t : Tree) {ks : List Tree} (h : niceTs acc) (hk : niceTs ks) : niceTs (stepM acc t ks) := by
  unfold stepM
  split
  · rw [niceTs_app]
    exact ⟨h, ⟨once_nice _ _ nice_nil, hk⟩, trivial⟩
  · have ht : ∀ s, niceTs [Tree.mk zeroS [] [] s] := fun s => ⟨⟨nice_nil, trivial⟩, trivial⟩
    split
    · exact h
    · split
      · exact ht _
      · rename_i u hl
        obtain ⟨ys, rfl⟩ := List.getLast?_eq_some_iff.1 hl
        split
        · rw [niceTs_app]; exact ⟨h, ht _⟩
        · rw [List.dropLast_concat]
          rw [niceTs_app] at h ⊢
          refine ⟨h.1, ?_, trivial⟩
          have := h.2.1
          rw [Tree.eta u, niceT] at this
          exact this
mutual
theorem mergeK_nice : ∀ t : Tree, niceTs (mergeK t)
  | .mk a b c d => by rw [mergeK]; exact mergeF_nice c [] trivial
theorem mergeF_nice : ∀ (l acc : List Tree), niceTs acc → niceTs (mergeF l acc)
  | [], acc, h => by simp only [mergeF]; exact h
  | t :: l, acc, h => by simp only [mergeF]; exact mergeF_nice l _ (step_nice t h (mergeK_nice t))
end
theorem merge_nice (l : List Tree) : niceTs (mergeT l) := mergeF_nice l [] trivial
/-! merged and pale -/
theorem pale_fix (s : Str) : paleS (fixS s) = paleS s := rfl
theorem pale_zero : paleS zeroS = zeroS := rfl
theorem paleA_own (a : Attr) : paleA (ownA a) = paleA a := rfl
theorem once_pale : ∀ (l acc : List Attr), onceA (l.map paleA) (acc.map paleA) = (onceA l acc).map paleA
  | [], acc => rfl
  | a :: l, acc => by
    have hp : placeA (acc.map paleA) a.name.text < 0 ↔ placeA acc a.name.text < 0 := by
      rw [place_no, place_no]
      exact ⟨fun h x hx => h (paleA x) (List.mem_map.2 ⟨x, hx, rfl⟩), fun h x hx => by obtain ⟨y, hy, rfl⟩ := List.mem_map.1 hx; exact h y hy⟩
    simp only [List.map_cons, onceA]
    show onceA (l.map paleA) (if placeA (acc.map paleA) a.name.text < 0 then _ else _) = _
    by_cases h : placeA acc a.name.text < 0
    · rw [if_pos h, if_pos (hp.2 h), ← once_pale l, own_pale]
      simp [paleA_own]
    · rw [if_neg h, if_neg (fun k => h (hp.1 k)), once_pale l]
theorem cat_pale (a b : Str) : catS [paleS a, paleS b] = paleS (catS [a, b]) := by
  simp only [catS, List.flatMap_cons, List.flatMap_nil, List.append_nil, orig_pale]
  rw [List.replicate_append_replicate]
  simp [paleS]
theorem isE_pale (t : Tree) : (paleT t).isE = t.isE := by rw [paleT_eq]; rfl
theorem step_pale (acc : List Tree) (t : Tree) (ks : List Tree) : stepM (acc.map paleT) (paleT t) (ks.map paleT) = (stepM acc t ks).map paleT := by
  have e1 : (paleT t).tag = paleS t.tag := by rw [paleT_eq]; rfl
  have e2 : (paleT t).attrs = t.attrs.map paleA := by rw [paleT_eq]; rfl
  have e3 : (paleT t).text = paleS t.text := by rw [paleT_eq]; rfl
  have e4 : onceA (t.attrs.map paleA) [] = (onceA t.attrs []).map paleA := once_pale t.attrs []
  unfold stepM
  rw [isE_pale, e1, e2, e3, e4]
  split
  · simp [paleT_mk, fix_pale, pale_fix, pale_zero]
  · show (if t.text.text = [] then _ else _) = _
    split
    · rfl
    · rcases List.eq_nil_or_concat acc with rfl | ⟨ys, u, rfl⟩
      · simp [paleT_mk, fix_pale, pale_fix, pale_zero]
      · rw [List.concat_eq_append]
        simp only [List.map_append, List.map_cons, List.map_nil, List.getLast?_concat, List.dropLast_concat]
        rw [isE_pale]
        have u1 : (paleT u).tag = paleS u.tag := by rw [paleT_eq]; rfl
        have u2 : (paleT u).attrs = u.attrs.map paleA := by rw [paleT_eq]; rfl
        have u3 : (paleT u).text = paleS u.text := by rw [paleT_eq]; rfl
        have u4 : (paleT u).kids = u.kids.map paleT := by rw [paleT_eq]; rfl
        split
        · simp [paleT_mk, fix_pale, pale_fix, pale_zero]
        · simp [paleT_mk, u1, u2, u3, u4, cat_pale]
mutual
theorem mergeK_pale : ∀ t : Tree, mergeK (paleT t) = (mergeK t).map paleT
  | .mk a b c d => by rw [paleT, mergeK, mergeK]; exact mergeF_pale c []
theorem mergeF_pale : ∀ (l acc : List Tree), mergeF (paleF l) (acc.map paleT) = (mergeF l acc).map paleT
  | [], acc => by simp only [paleF, mergeF]
  | t :: l, acc => by
    simp only [paleF, mergeF]
    rw [mergeK_pale t, step_pale, mergeF_pale l]
end
theorem merge_pale (l : List Tree) : mergeT (l.map paleT) = (mergeT l).map paleT := by
  rw [← paleF_map]; exact mergeF_pale l []
/-! merged again -/
theorem fix_cat (l : List Str) : fixS (catS l) = catS l := by
  have := cat_orig l
  unfold fixS
  rw [this]; rfl
inductive Done : List Tree → Prop
  | nil : Done []
  | elem (l : List Tree) (t : Tree) : Done l → t.isE = true → fixS t.tag = t.tag → onceA t.attrs [] = t.attrs → mergeT t.kids = t.kids → t.text = zeroS → Done (l ++ [t])
  | text (l : List Tree) (s : Str) : Done l → (∀ u, l.getLast? = some u → u.isE = true) → fixS s = s → s.text ≠ [] → Done (l ++ [.mk zeroS [] [] s])
theorem mergeT_snoc (l : List Tree) (t : Tree) : mergeT (l ++ [t]) = stepM (mergeT l) t (mergeT t.kids) := by
  unfold mergeT
  rw [mergeF_append]
  simp only [mergeF]
  rw [mergeK_eq]; rfl
theorem Done.same {l : List Tree} (h : Done l) : mergeT l = l := by
  induction h with
  | nil => exact mergeT_nil
  | elem l t _ h1 h2 h3 h4 h5 ih =>
    rw [mergeT_snoc, ih]
    unfold stepM
    rw [if_pos h1, h2, h3, h4, ← h5, ← Tree.eta]
  | text l s _ h1 h2 h3 ih =>
    rw [mergeT_snoc, ih]
    unfold stepM
    rw [if_neg (show ¬ (Tree.mk zeroS [] [] s).isE = true from fun h => by cases h), if_neg (show ¬ (Tree.mk zeroS [] [] s).text.text = [] from h3)]
    cases hl : l.getLast? with
    | none =>
      have : l = [] := by simpa using hl
      subst this
      show [Tree.mk zeroS [] [] (fixS s)] = _
      rw [h2]; rfl
    | some u =>
      simp only
      rw [if_pos (h1 u hl)]
      show l ++ [Tree.mk zeroS [] [] (fixS s)] = _
      rw [h2]
theorem Done.last {ys : List Tree} {u : Tree} (h : Done (ys ++ [u])) (hu : u.isE = false) : ∃ s, u = .mk zeroS [] [] s ∧ Done ys ∧ (∀ v, ys.getLast? = some v → v.isE = true) ∧ s.text ≠ [] := by
  generalize hm : ys ++ [u] = m at h
  cases h with
  | nil => simp at hm
  | elem l t k h1 _ _ _ _ =>
    obtain ⟨e1, e2⟩ := List.append_inj' hm rfl
    injection e2 with e2 _
    rw [e2, h1] at hu; cases hu
  | text l s k h1 h2 h3 =>
    obtain ⟨e1, e2⟩ := List.append_inj' hm rfl
    injection e2 with e2 _
    subst e1
    exact ⟨s, e2, k, h1, h3⟩
theorem step_done {acc : List Tree} (t : Tree) {ks : List Tree} (h : Done acc) (hk : mergeT ks = ks) : Done (stepM acc t ks) := by
  unfold stepM
  split
  · rename_i he
    exact .elem _ _ h he (fix_fix _) (once_id (once_nice _ _ nice_nil)) hk rfl
  · split
    · exact h
    · rename_i h0
      split
      · exact .text [] _ .nil (by simp) (fix_fix _) h0
      · rename_i u hl
        obtain ⟨ys, rfl⟩ := List.getLast?_eq_some_iff.1 hl
        split
        · rename_i hu
          refine .text _ _ h (fun v hv => ?_) (fix_fix _) h0
          rw [List.getLast?_concat] at hv
          injection hv with hv
          rw [← hv]; exact hu
        · rename_i hu
          obtain ⟨s, rfl, k1, k2, k3⟩ := h.last (by simpa using hu)
          rw [List.dropLast_concat]
          refine .text _ _ k1 k2 (fix_cat _) ?_
          intro e
          simp [catS] at e
          exact k3 e.1
mutual
theorem mergeK_done : ∀ t : Tree, Done (mergeK t)
  | .mk a b c d => by rw [mergeK]; exact mergeF_done c [] .nil
theorem mergeF_done : ∀ (l acc : List Tree), Done acc → Done (mergeF l acc)
  | [], acc, h => by simp only [mergeF]; exact h
  | t :: l, acc, h => by simp only [mergeF]; exact mergeF_done l _ (step_done t h (mergeK_done t).same)
end
theorem merge_merge (l : List Tree) : mergeT (mergeT l) = mergeT l := (mergeF_done l [] .nil).same
mutual
theorem sameK_rfl : ∀ t : Tree, niceT t → sameK t t = true
  | .mk a b c d, h => by
    rw [niceT] at h
    have hk := sameF_rfl c h.2
    have ha : sameA b b = true := (sameA_sub h.1 h.1).2 ⟨rfl, fun x hx => hx⟩
    rw [sameK, hk, ha]
    simp [Like]
theorem sameF_rfl : ∀ l : List Tree, niceTs l → sameF l l = true
  | [], _ => by simp only [sameF]
  | t :: l, h => by
    rw [niceTs] at h
    simp only [sameF, sameK_rfl t h.1, sameF_rfl l h.2]
    rfl
end
end Go.Proofs.Ytjhjcldpcngldaa

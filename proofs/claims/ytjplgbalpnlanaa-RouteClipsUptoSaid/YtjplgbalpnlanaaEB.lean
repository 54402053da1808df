/- The value logic, part B: a world represents an abstract heap; steps from world to world. -/
import Derived.Test.YtjplgbalpnlanaaEA
set_option linter.unusedSimpArgs false
set_option linter.unusedVariables false
namespace Go.EL
open Go

def cxOf (g : Nat → Option Key) (n : Nat) (w : World) : Cx :=
  { imm := fun b => b < w.heap.size ∧ ∀ o k, g o = some k → k.blk ≠ some b, key := g, cell := w.cell?, nobj := n }

def unfrozen (fr : Nat × Nat) (n : Nat) : Prop := ∀ j, j ≤ n → ¬ (fr.1 ≤ j ∧ j < fr.2)

def ObOK (c : Cx) (heap : Array Obj) (k : Option Key) : Option Ob → Prop
  | none => k = none
  | some .gone => k = none
  | some .hole => k = some hole
  | some (.var cs) => ∃ b cur et fr, k = some ⟨0, some b, 0, 0⟩ ∧ heap[b]? = some (.cells cur et fr) ∧ Reps c cs cur.toList ∧ unfrozen fr cur.size
  | some (.vec ver es l) => ∃ q, k = some q ∧ q.ver = ver ∧ q.es = es ∧ 1 ≤ ver ∧ q.cap ≤ maxLen ∧ l.length ≤ q.cap ∧
      ((q.blk = none ∧ q.cap = 0) ∨
       ∃ b cur et fr, q.blk = some b ∧ heap[b]? = some (.cells cur et fr) ∧ cur.size = q.cap * q.es ∧ RepE c q.es b 0 l ∧ unfrozen fr cur.size ∧ (∀ v ∈ cur.toList, v.oneCell' = true))

  | some (.raw b x vs cs) => (k = some ⟨0, some b, 0, 0⟩ ∧ heap[b]? = some x) ∧ RepL c vs cs
  | some (.map l ck) => ∃ b es, k = some ⟨0, some b, 0, 0⟩ ∧ heap[b]? = some (.map es ck) ∧ RepM c l es.toList
  | some (.iter o since seen last) => ∃ b mb, k = some ⟨0, some b, 0, 0⟩ ∧ heap[b]? = some (.mapIter (some mb) since seen.toArray last) ∧ RepC c (.mapr o) [.map (some mb)]

structure Good (g : Nat → Option Key) (H : List Ob) (w : World) : Prop where
  ob : ∀ o, ObOK (cxOf g H.length w) w.heap (g o) H[o]?
  inj : ∀ o o' k k' b, g o = some k → g o' = some k' → k.blk = some b → k'.blk = some b → o = o'

structure Ext (g : Nat → Option Key) (n : Nat) (w : World) (g' : Nat → Option Key) (n' : Nat) (w' : World) : Prop where
  os : w'.os = w.os
  output : w'.output = w.output
  tape : w'.tape = w.tape
  size : w.heap.size ≤ w'.heap.size
  frame : ∀ b, (cxOf g n w).imm b → w'.heap[b]? = w.heap[b]? ∧ (cxOf g' n' w').imm b
  key : ∀ o, o < n → ∀ k', g' o = some k' → (∃ k, g o = some k ∧ k.ver ≤ k'.ver ∧ (k'.ver = k.ver → k' = k)) ∨ g o = some hole
  nobj : n ≤ n'

theorem cell?_of_heap {w w' : World} {a : Addr} (h : w'.heap[a.block]? = w.heap[a.block]?) : w'.cell? a = w.cell? a := by simp [World.cell?, h]

theorem Ext.mono {g n w g' n' w'} (h : Ext g n w g' n' w') : Mono (cxOf g n w) (cxOf g' n' w') :=
  ⟨fun b hb => ⟨(h.frame b hb).2, fun a ha => cell?_of_heap (by rw [ha]; exact (h.frame b hb).1)⟩, h.key, h.nobj⟩

theorem Ext.refl (g n w) : Ext g n w g n w :=
  ⟨rfl, rfl, rfl, Nat.le_refl _, fun _ h => ⟨rfl, h⟩, fun _ _ k hk => .inl ⟨k, hk, Nat.le_refl _, fun _ => rfl⟩, Nat.le_refl _⟩

theorem Ext.trans {g0 n0 w0 g1 n1 w1 g2 n2 w2} (h : Ext g0 n0 w0 g1 n1 w1) (j : Ext g1 n1 w1 g2 n2 w2) : Ext g0 n0 w0 g2 n2 w2 := by
  refine ⟨j.os.trans h.os, j.output.trans h.output, j.tape.trans h.tape, Nat.le_trans h.size j.size, fun b hb => ?_, fun o ho k hk => ?_, Nat.le_trans h.nobj j.nobj⟩
  · have a := h.frame b hb
    have c := j.frame b a.2
    exact ⟨c.1.trans a.1, c.2⟩
  · rcases j.key o (Nat.lt_of_lt_of_le ho h.nobj) k hk with ⟨k1, h1, h2, h3⟩ | h1
    · rcases h.key o ho k1 h1 with ⟨k0, g1, g2, g3⟩ | g1
      · refine .inl ⟨k0, g1, Nat.le_trans g2 h2, fun e => ?_⟩
        have e1 : k = k1 := h3 (by omega)
        subst e1
        exact g3 e
      · exact .inr g1
    · rcases h.key o ho hole h1 with ⟨k0, g1, g2, g3⟩ | g1
      · right
        have : k0.ver = 0 := Nat.le_zero.1 g2
        rw [g1, ← g3 (by rw [this]; rfl)]
      · exact .inr g1

theorem Good.none_of_ge {g H w} (h : Good g H w) {o : Nat} (ho : H.length ≤ o) : g o = none := by
  have := h.ob o
  rw [List.getElem?_eq_none ho] at this
  exact this

/-- The heap's block of an object. -/
theorem Good.blk_lt {g H w} (h : Good g H w) {o k b} (hk : g o = some k) (hb : k.blk = some b) : b < w.heap.size := by
  have := h.ob o
  cases ho : H[o]? with
  | none => rw [ho] at this; simp [ObOK, hk] at this
  | some x =>
    rw [ho] at this
    cases x with
    | gone => simp [ObOK, hk] at this
    | hole => rw [hk] at this; have this : some k = some hole := this; injection this with h; subst h; cases hb
    | var cs =>
      obtain ⟨b', cur, et, fr, h1, h2, _⟩ := this
      rw [hk] at h1
      injection h1 with h1
      subst h1
      injection hb with hb
      subst hb
      exact (Array.getElem?_eq_some_iff.1 h2).1
    | vec ver es l =>
      obtain ⟨q, h1, _, _, _, _, _, h2⟩ := this
      rw [hk] at h1
      injection h1 with h1
      subst h1
      rcases h2 with ⟨h2, _⟩ | ⟨b', cur, et, fr, h3, h4, _⟩
      · rw [h2] at hb; cases hb
      · rw [h3] at hb
        injection hb with hb
        subst hb
        exact (Array.getElem?_eq_some_iff.1 h4).1
    | raw b' x' vs cs =>
      obtain ⟨⟨h1, h2⟩, _⟩ := this
      rw [hk] at h1
      injection h1 with h1
      subst h1
      injection hb with hb
      subst hb
      exact (Array.getElem?_eq_some_iff.1 h2).1
    | map l ck =>
      obtain ⟨b', es, h1, h2, _⟩ := this
      rw [hk] at h1
      injection h1 with h1
      subst h1
      injection hb with hb
      subst hb
      exact (Array.getElem?_eq_some_iff.1 h2).1
    | iter o' since seen last =>
      obtain ⟨b', mb, h1, h2, _⟩ := this
      rw [hk] at h1
      injection h1 with h1
      subst h1
      injection hb with hb
      subst hb
      exact (Array.getElem?_eq_some_iff.1 h2).1

theorem ObOK.mono {c c' : Cx} (m : Mono c c') {heap heap' : Array Obj} {k : Option Key} {x : Option Ob}
    (hh : ∀ q b, k = some q → q.blk = some b → heap'[b]? = heap[b]? ∧ ∀ a : Addr, a.block = b → c'.cell a = c.cell a) (h : ObOK c heap k x) : ObOK c' heap' k x := by
  cases x with
  | none => exact h
  | some x =>
    cases x with
    | gone => exact h
    | hole => exact h
    | var cs =>
      obtain ⟨b, cur, et, fr, h1, h2, h3, h4⟩ := h
      exact ⟨b, cur, et, fr, h1, (hh _ b h1 rfl).1.trans h2, Reps.mono m _ _ h3, h4⟩
    | vec ver es l =>
      obtain ⟨q, h1, h2, h2', h3, h4, h5, h6⟩ := h
      refine ⟨q, h1, h2, h2', h3, h4, h5, ?_⟩
      rcases h6 with h6 | ⟨b, cur, et, fr, h7, h8, h9, h10, h11⟩
      · exact .inl h6
      · exact .inr ⟨b, cur, et, fr, h7, (hh _ b h1 h7).1.trans h8, h9, RepE.mono m _ _ (hh _ b h1 h7).2 _ _ h10, h11⟩
    | raw b' x' vs cs =>
      obtain ⟨⟨h1, h2⟩, h3⟩ := h
      exact ⟨⟨h1, (hh _ b' h1 rfl).1.trans h2⟩, h3.mono m⟩
    | map l ck =>
      obtain ⟨b', es, h1, h2, h3⟩ := h
      exact ⟨b', es, h1, (hh _ b' h1 rfl).1.trans h2, h3.mono m⟩
    | iter o' since seen last =>
      obtain ⟨b', mb, h1, h2, h3⟩ := h
      exact ⟨b', mb, h1, (hh _ b' h1 rfl).1.trans h2, RepC.mono m _ _ h3⟩

/-- ONE STEP THAT TOUCHES AT MOST ONE OBJECT. -/
theorem step_oneG {g : Nat → Option Key} {H : List Ob} {w : World} (hG : Good g H w) (o0 : Nat) (g' : Nat → Option Key) (H' : List Ob) (w' : World)
    (hos : w'.os = w.os) (hout : w'.output = w.output) (htape : w'.tape = w.tape)
    (hH : ∀ o, o ≠ o0 → H'[o]? = H[o]?) (hg : ∀ o, o ≠ o0 → g' o = g o) (hn : H.length ≤ H'.length)
    (hsize : w.heap.size ≤ w'.heap.size)
    (hheap : ∀ b, b < w.heap.size → (∀ k, g o0 = some k → k.blk ≠ some b) → w'.heap[b]? = w.heap[b]?)
    (hnew : ∀ k' b, g' o0 = some k' → k'.blk = some b → w.heap.size ≤ b ∨ ∃ k, g o0 = some k ∧ k.blk = some b)
    (hver : o0 < H.length → ∀ k', g' o0 = some k' → (∃ k, g o0 = some k ∧ k.ver ≤ k'.ver ∧ (k'.ver = k.ver → k' = k)) ∨ g o0 = some hole)
    (hob : Mono (cxOf g H.length w) (cxOf g' H'.length w') → ObOK (cxOf g' H'.length w') w'.heap (g' o0) H'[o0]?) :
    Good g' H' w' ∧ Ext g H.length w g' H'.length w' := by
  have himm : ∀ b, (cxOf g H.length w).imm b → w'.heap[b]? = w.heap[b]? ∧ (cxOf g' H'.length w').imm b := by
    intro b hb
    refine ⟨hheap b hb.1 (fun k hk => hb.2 o0 k hk), Nat.lt_of_lt_of_le hb.1 hsize, fun o k hk hkb => ?_⟩
    by_cases e : o = o0
    · subst e
      rcases hnew k b hk hkb with h | ⟨q, hq, hqb⟩
      · have := hb.1; omega
      · exact hb.2 o q hq hqb
    · rw [hg o e] at hk
      exact hb.2 o k hk hkb
  have hext : Ext g H.length w g' H'.length w' := by
    refine ⟨hos, hout, htape, hsize, himm, fun o ho k' hk' => ?_, hn⟩
    by_cases e : o = o0
    · subst e
      exact hver ho k' hk'
    · rw [hg o e] at hk'
      exact .inl ⟨k', hk', Nat.le_refl _, fun _ => rfl⟩
  refine ⟨⟨fun o => ?_, fun o o' k k' b hk hk' hb hb' => ?_⟩, hext⟩
  · by_cases e : o = o0
    · subst e
      exact hob hext.mono
    · rw [hH o e, hg o e]
      refine ObOK.mono hext.mono (fun q b hq hqb => ?_) (hG.ob o)
      have hlt := hG.blk_lt hq hqb
      have hh : w'.heap[b]? = w.heap[b]? := hheap b hlt (fun k hk hkb => e (hG.inj o o0 q k b hq hk hqb hkb))
      exact ⟨hh, fun a ha => cell?_of_heap (by rw [ha]; exact hh)⟩
  · by_cases e : o = o0
    · by_cases e' : o' = o0
      · exact e.trans e'.symm
      · subst e
        rw [hg o' e'] at hk'
        rcases hnew k b hk hb with h | ⟨q, hq, hqb⟩
        · have := hG.blk_lt hk' hb'; omega
        · exact hG.inj _ _ _ _ _ hq hk' hqb hb'
    · rw [hg o e] at hk
      by_cases e' : o' = o0
      · subst e'
        rcases hnew k' b hk' hb' with h | ⟨q, hq, hqb⟩
        · have := hG.blk_lt hk hb; omega
        · exact hG.inj _ _ _ _ _ hk hq hb hqb
      · rw [hg o' e'] at hk'
        exact hG.inj _ _ _ _ _ hk hk' hb hb'

/-- ONE STEP THAT TOUCHES AT MOST ONE OBJECT. -/
theorem step_one {g : Nat → Option Key} {H : List Ob} {w : World} (hG : Good g H w) (o0 : Nat) (g' : Nat → Option Key) (H' : List Ob) (w' : World)
    (hos : w'.os = w.os) (hout : w'.output = w.output) (htape : w'.tape = w.tape)
    (hH : ∀ o, o ≠ o0 → H'[o]? = H[o]?) (hg : ∀ o, o ≠ o0 → g' o = g o) (hn : H.length ≤ H'.length)
    (hsize : w.heap.size ≤ w'.heap.size)
    (hheap : ∀ b, b < w.heap.size → (∀ k, g o0 = some k → k.blk ≠ some b) → w'.heap[b]? = w.heap[b]?)
    (hnew : ∀ k' b, g' o0 = some k' → k'.blk = some b → w.heap.size ≤ b ∨ ∃ k, g o0 = some k ∧ k.blk = some b)
    (hver : o0 < H.length → ∀ k', g' o0 = some k' → ∃ k, g o0 = some k ∧ k.ver ≤ k'.ver ∧ (k'.ver = k.ver → k' = k))
    (hob : Mono (cxOf g H.length w) (cxOf g' H'.length w') → ObOK (cxOf g' H'.length w') w'.heap (g' o0) H'[o0]?) :
    Good g' H' w' ∧ Ext g H.length w g' H'.length w' :=
  step_oneG hG o0 g' H' w' hos hout htape hH hg hn hsize hheap hnew (fun h k hk => .inl (hver h k hk)) hob

/-- a step that touches no object -/
theorem step_none {g : Nat → Option Key} {H : List Ob} {w : World} (hG : Good g H w) (w' : World)
    (hos : w'.os = w.os) (hout : w'.output = w.output) (htape : w'.tape = w.tape)
    (hsize : w.heap.size ≤ w'.heap.size) (hheap : ∀ b, b < w.heap.size → w'.heap[b]? = w.heap[b]?) :
    Good g H w' ∧ Ext g H.length w g H.length w' := by
  have hz : g H.length = none := hG.none_of_ge (Nat.le_refl _)
  exact step_one hG H.length g H w' hos hout htape (fun _ _ => rfl) (fun _ _ => rfl) (Nat.le_refl _) hsize
    (fun b hb _ => hheap b hb) (fun k b hk _ => by rw [hz] at hk; cases hk) (fun h => absurd h (Nat.lt_irrefl _))
    (fun _ => by rw [hz, List.getElem?_eq_none (Nat.le_refl _)]; exact rfl)

theorem step_drawn {g H w} (hG : Good g H w) (n : Nat) : Good g H { w with drawn := n } ∧ Ext g H.length w g H.length { w with drawn := n } :=
  step_none hG _ rfl rfl rfl (Nat.le_refl _) (fun _ _ => rfl)

def pushW (w : World) (x : Obj) : World := { w with heap := w.heap.push x }

theorem heap_pushW_old {w : World} {x : Obj} {b : Nat} (h : b < w.heap.size) : (pushW w x).heap[b]? = w.heap[b]? := by
  show (w.heap.push x)[b]? = w.heap[b]?
  rw [Array.getElem?_push, if_neg (Nat.ne_of_lt h)]
theorem heap_pushW_new (w : World) (x : Obj) : (pushW w x).heap[w.heap.size]? = some x := by
  show (w.heap.push x)[w.heap.size]? = some x
  simp
theorem size_pushW (w : World) (x : Obj) : (pushW w x).heap.size = w.heap.size + 1 := by simp [pushW]

/-- a new block that is nobody's: it does not change -/
theorem step_push {g H w} (hG : Good g H w) (x : Obj) : Good g H (pushW w x) ∧ Ext g H.length w g H.length (pushW w x) ∧ (cxOf g H.length (pushW w x)).imm w.heap.size := by
  have h := step_none hG (pushW w x) rfl rfl rfl (by rw [size_pushW]; omega) (fun b hb => heap_pushW_old hb)
  have h2 : w.heap.size < (pushW w x).heap.size ∧ ∀ o k, g o = some k → k.blk ≠ some w.heap.size := by
    refine ⟨by rw [size_pushW]; omega, fun o k hk hb => ?_⟩
    have := hG.blk_lt hk hb
    omega
  exact ⟨h.1, h.2, h2⟩

def setKey (g : Nat → Option Key) (o : Nat) (k : Option Key) : Nat → Option Key := fun x => if x = o then k else g x
theorem setKey_same (g o k) : setKey g o k o = k := by simp [setKey]
theorem setKey_other {g o k x} (h : x ≠ o) : setKey g o k x = g x := by simp [setKey, h]

theorem getElem?_snoc_ne {H : List Ob} {x : Ob} {o : Nat} (h : o ≠ H.length) : (H ++ [x])[o]? = H[o]? := by
  rcases Nat.lt_or_ge o H.length with hl | hl
  · exact List.getElem?_append_left hl
  · rw [List.getElem?_eq_none (by simp; omega), List.getElem?_eq_none hl]
theorem getElem?_snoc_eq (H : List Ob) (x : Ob) : (H ++ [x])[H.length]? = some x := by simp

/-- a new object -/
theorem step_new {g H w} (hG : Good g H w) (ob : Ob) (x : Obj) (k : Key) (hk : k.blk = some w.heap.size)
    (hob : ∀ g', g' = setKey g H.length (some k) → Mono (cxOf g H.length w) (cxOf g' (H.length + 1) (pushW w x)) → ObOK (cxOf g' (H.length + 1) (pushW w x)) (pushW w x).heap (some k) (some ob)) :
    Good (setKey g H.length (some k)) (H ++ [ob]) (pushW w x) ∧ Ext g H.length w (setKey g H.length (some k)) (H.length + 1) (pushW w x) := by
  have hz : g H.length = none := hG.none_of_ge (Nat.le_refl _)
  have := step_one hG H.length (setKey g H.length (some k)) (H ++ [ob]) (pushW w x) rfl rfl rfl
    (fun o ho => getElem?_snoc_ne ho) (fun o ho => setKey_other ho) (by simp) (by rw [size_pushW]; omega) (fun b hb _ => heap_pushW_old hb)
    (fun k' b hk' hb => by rw [setKey_same] at hk'; injection hk' with e; subst e; rw [hk] at hb; injection hb with hb; left; omega)
    (fun h => absurd h (Nat.lt_irrefl _))
    (fun m => by
      rw [setKey_same, getElem?_snoc_eq]
      rw [List.length_append] at m ⊢
      exact hob _ rfl m)
  rw [List.length_append] at this
  exact this

/-- a place for an object that is still to be made -/
theorem step_hole {g H w} (hG : Good g H w) : Good (setKey g H.length (some hole)) (H ++ [.hole]) w ∧ Ext g H.length w (setKey g H.length (some hole)) (H.length + 1) w := by
  have := step_one hG H.length (setKey g H.length (some hole)) (H ++ [.hole]) w rfl rfl rfl
    (fun o ho => getElem?_snoc_ne ho) (fun o ho => setKey_other ho) (by simp) (Nat.le_refl _) (fun b _ _ => rfl)
    (fun k' b hk' hb => by rw [setKey_same] at hk'; injection hk' with e; subst e; cases hb)
    (fun h => absurd h (Nat.lt_irrefl _))
    (fun m => by rw [setKey_same, getElem?_snoc_eq]; exact rfl)
  rw [List.length_append] at this
  exact this
/-- the object is made, in its place -/
theorem step_fill {g H w} (hG : Good g H w) {p : Nat} (hp : p < H.length) (hk0 : g p = some hole) (ob : Ob) (x : Obj) (k : Key) (hk : k.blk = some w.heap.size)
    (hob : ∀ g', g' = setKey g p (some k) → Mono (cxOf g H.length w) (cxOf g' H.length (pushW w x)) → ObOK (cxOf g' H.length (pushW w x)) (pushW w x).heap (some k) (some ob)) :
    Good (setKey g p (some k)) (H.set p ob) (pushW w x) ∧ Ext g H.length w (setKey g p (some k)) H.length (pushW w x) := by
  have := step_oneG hG p (setKey g p (some k)) (H.set p ob) (pushW w x) rfl rfl rfl
    (fun o ho => List.getElem?_set_ne (Ne.symm ho)) (fun o ho => setKey_other ho) (by simp) (by rw [size_pushW]; omega) (fun b hb _ => heap_pushW_old hb)
    (fun k' b hk' hb => by rw [setKey_same] at hk'; injection hk' with e; subst e; rw [hk] at hb; injection hb with hb; left; omega)
    (fun _ k' _ => .inr hk0)
    (fun m => by
      rw [setKey_same, List.getElem?_set_self hp]
      rw [List.length_set] at m ⊢
      exact hob _ rfl m)
  rw [List.length_set] at this
  exact this

theorem has_of {g : Nat → Option Key} {n : Nat} {w : World} {o : Nat} (h : o < n) (hk : g o ≠ some hole) : (cxOf g n w).has o := ⟨h, hk⟩
theorem has_key {g : Nat → Option Key} {n : Nat} {w : World} {o : Nat} {k : Key} (h : o < n) (hk : g o = some k) (hn : k.blk ≠ none ∨ 1 ≤ k.ver) : (cxOf g n w).has o := by
  refine ⟨h, fun e => ?_⟩
  have e : g o = some hole := e
  rw [hk] at e
  injection e with e
  subst e
  rcases hn with hn | hn
  · exact hn rfl
  · exact absurd hn (by decide)
theorem has_set {g : Nat → Option Key} {n : Nat} {w : World} {o : Nat} {k : Key} (h : o < n) (hn : k.blk ≠ none ∨ 1 ≤ k.ver) : (cxOf (setKey g o (some k)) n w).has o := has_key h (setKey_same _ _ _) hn
theorem Reps.length {c : Cx} : ∀ {xs : List V} {vs : List Value}, Reps c xs vs → vs.length = xs.length
  | [], _, h => by simp only [Reps] at h; simp [h]
  | x :: xs, _, h => by
    simp only [Reps] at h
    obtain ⟨v, vs', rfl, _, _, h⟩ := h
    simp [Reps.length h]
theorem RepC.oneCell {c : Cx} {x : V} {v : Value} (h : RepC c x [v]) (hs : x.leaf) : v.oneCell' = true := by
  cases x <;> simp only [RepC] at h
  case dead => exact hs.elim
  case tuple => exact hs.elim
  case agg => exact hs.elim
  case int => injection h with h; subst h; rfl
  case bool => injection h with h; subst h; rfl
  case str => injection h with h; subst h; rfl
  case nilp => injection h with h; subst h; rfl
  case ref => obtain ⟨_, u, h, h1, _⟩ := h; injection h with h; subst h; exact h1
  case eref => obtain ⟨_, u, h, h1, _⟩ := h; injection h with h; subst h; exact h1
  case cref => obtain ⟨_, _, _, h, _⟩ := h; injection h with h; subst h; rfl
  case slice => obtain ⟨_, _, _, h, _⟩ := h; injection h with h; subst h; rfl
  case fslice => obtain ⟨_, _, h, _⟩ := h; injection h with h; subst h; rfl
  case vec => obtain ⟨_, u, h, h1, _⟩ := h; injection h with h; subst h; exact h1
  case fn => obtain ⟨_, _, h, _⟩ := h; injection h with h; subst h; rfl
  case nilf => injection h with h; subst h; rfl
  case mapr => obtain ⟨_, u, h, h1, _⟩ := h; injection h with h; subst h; exact h1
  case nilm => injection h with h; subst h; rfl
  case iface => obtain ⟨_, h, _⟩ := h; injection h with h; subst h; rfl
  case nili => injection h with h; subst h; rfl

theorem Reps.oneCell {c : Cx} : ∀ {xs : List V} {vs : List Value}, Reps c xs vs → ∀ v ∈ vs, v.oneCell' = true
  | [], _, h, v, hv => by simp only [Reps] at h; simp [h] at hv
  | x :: xs, _, h, v, hv => by
    simp only [Reps] at h
    obtain ⟨u, vs', rfl, h1, h2, h⟩ := h
    rcases List.mem_cons.1 hv with e | hv
    · subst e; exact RepC.oneCell h2 h1
    · exact Reps.oneCell h v hv
theorem Reps.get {c : Cx} : ∀ {xs : List V} {vs : List Value}, Reps c xs vs → ∀ {i : Nat} {x : V}, xs[i]? = some x → ∃ v, vs[i]? = some v ∧ RepC c x [v] ∧ x.leaf
  | [], _, _, i, x, hx => by simp at hx
  | y :: xs, _, h, i, x, hx => by
    simp only [Reps] at h
    obtain ⟨u, vs', rfl, h1, h2, h⟩ := h
    cases i with
    | zero => simp at hx; subst hx; exact ⟨u, rfl, h2, h1⟩
    | succ i => simp at hx ⊢; exact Reps.get h hx
theorem Reps.append {c : Cx} : ∀ {xs ys : List V} {vs us : List Value}, Reps c xs vs → Reps c ys us → Reps c (xs ++ ys) (vs ++ us)
  | [], ys, vs, us, h, g => by simp only [Reps] at h; subst h; exact g
  | x :: xs, ys, vs, us, h, g => by
    simp only [Reps] at h
    obtain ⟨u, vs', rfl, h1, h2, h⟩ := h
    simp only [List.cons_append, Reps]
    exact ⟨u, vs' ++ us, rfl, h1, h2, Reps.append h g⟩
theorem Reps.take {c : Cx} : ∀ {xs : List V} {vs : List Value} (n : Nat), Reps c xs vs → Reps c (xs.take n) (vs.take n)
  | [], _, n, h => by simp only [Reps] at h; subst h; simp [Reps]
  | x :: xs, _, 0, h => by simp [Reps]
  | x :: xs, _, n + 1, h => by
    simp only [Reps] at h
    obtain ⟨u, vs', rfl, h1, h2, h⟩ := h
    simp only [List.take_succ_cons, Reps]
    exact ⟨u, vs'.take n, rfl, h1, h2, Reps.take n h⟩
theorem Reps.drop {c : Cx} : ∀ {xs : List V} {vs : List Value} (n : Nat), Reps c xs vs → Reps c (xs.drop n) (vs.drop n)
  | [], _, n, h => by simp only [Reps] at h; subst h; simp [Reps]
  | x :: xs, _, 0, h => by simpa using h
  | x :: xs, _, n + 1, h => by
    simp only [Reps] at h
    obtain ⟨u, vs', rfl, h1, h2, h⟩ := h
    simp only [List.drop_succ_cons]
    exact Reps.drop n h
end Go.EL

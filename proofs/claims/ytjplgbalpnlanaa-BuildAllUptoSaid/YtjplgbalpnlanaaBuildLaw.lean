/- Trees of tokens: the machine with a stack, and the page's recursion; they come to the same trees. -/
import Derived.Test.YtjplgbalpnlanaaTree0
set_option maxHeartbeats 600000
set_option linter.unusedSimpArgs false
set_option linter.unusedVariables false
set_option maxRecDepth 100000
namespace Go.Proofs.Ytjplgbalpnlanaa
open Go Go.EL
structure Toke where
  kind : Int
  name : Str
  attrs : List Attr
  close : Bool
  text : Str
instance : Inhabited Toke := ⟨⟨0, zeroS, [], false, zeroS⟩⟩
structure Fr where
  tag : Str
  attrs : List Attr
  kids : List Tree
def Fr.tree (f : Fr) : Tree := .mk f.tag f.attrs f.kids zeroS
def rootF : Fr := ⟨zeroS, [], []⟩
def isVoid (s : List UInt8) : Bool := decide (s = [98, 114]) || decide (s = [104, 114]) || decide (s = [105, 109, 103])
def Toke.starts (t : Toke) : Bool := decide (t.kind = 1) && !(t.name.text == [])
/-- the innermost first -/
def addF : List Fr → Tree → List Fr
  | f :: st, t => ⟨f.tag, f.attrs, f.kids ++ [t]⟩ :: st
  | [], _ => []
def popF : List Fr → List Fr
  | f :: st => addF st f.tree
  | [] => []
def popN : Nat → List Fr → List Fr
  | 0, st => st
  | k + 1, st => popN k (popF st)
/-- the place of the last one of a name, from the outermost; 0: none -/
def posF : List Fr → List UInt8 → Nat
  | [], _ => 0
  | f :: st, nm => if st = [] then 0 else if f.tag.text = nm then st.length else posF st nm
def closeF (st : List Fr) (nm : List UInt8) : List Fr := if posF st nm = 0 then st else popN (st.length - posF st nm) st
def putF (st : List Fr) (t : Toke) : List Fr :=
  if t.starts = true then (if isVoid t.name.text = true then addF st (.mk t.name t.attrs [] zeroS) else ⟨t.name, t.attrs, []⟩ :: st)
  else if t.kind = 2 then closeF st t.name.text
  else if t.kind = 3 then addF st (.mk zeroS [] [] t.text)
  else st
/-- all open ones end -/
def finF : List Fr → List Tree
  | [] => []
  | f :: st => if st = [] then f.kids else finF (addF st f.tree)
termination_by st => st.length
decreasing_by cases st <;> simp_all [addF]
theorem addF_len (st : List Fr) (t : Tree) : (addF st t).length = st.length := by cases st <;> rfl
theorem addF_nil {st : List Fr} {t : Tree} : addF st t = [] ↔ st = [] := by cases st <;> simp [addF]
theorem popF_len (st : List Fr) : (popF st).length = st.length - 1 := by cases st <;> simp [popF, addF_len]
theorem popN_len : ∀ (k : Nat) (st : List Fr), (popN k st).length = st.length - k
  | 0, st => by simp [popN]
  | k + 1, st => by rw [popN, popN_len k, popF_len]; omega
theorem finF_one (f : Fr) : finF [f] = f.kids := by rw [finF, if_pos rfl]
theorem finF_two (f g : Fr) (st : List Fr) : finF (f :: g :: st) = finF (popF (f :: g :: st)) := by rw [finF, if_neg (by simp)]; rfl
theorem finF_popN : ∀ (k : Nat) (st : List Fr), k < st.length → finF (popN k st) = finF st
  | 0, st, _ => rfl
  | k + 1, f :: g :: st, h => by
    rw [popN, finF_popN k _ (by rw [popF_len]; simp at h ⊢; omega), finF_two]
  | k + 1, [f], h => by simp at h
  | k + 1, [], h => by simp at h
theorem posF_two (f g : Fr) (st : List Fr) (nm : List UInt8) : posF (f :: g :: st) nm = if f.tag.text = nm then (g :: st).length else posF (g :: st) nm := by rw [posF, if_neg (by simp)]
theorem posF_add (st : List Fr) (t : Tree) (nm : List UInt8) : posF (addF st t) nm = posF st nm := by
  cases st with
  | nil => rfl
  | cons f st => rfl
theorem posF_lt : ∀ (st : List Fr) (nm : List UInt8), st ≠ [] → posF st nm < st.length
  | [], _, h => absurd rfl h
  | f :: st, nm, _ => by
    rw [posF]
    split
    · simp
    · rename_i h
      split
      · simp
      · have := posF_lt st nm h
        simp only [List.length_cons]; omega
/-- the names of what is open, the outermost first, without the root -/
def opn : List Fr → List (List UInt8)
  | [] => []
  | f :: st => if st = [] then [] else opn st ++ [f.tag.text]
theorem opn_cons (f g : Fr) (st : List Fr) : opn (f :: g :: st) = opn (g :: st) ++ [f.tag.text] := by rw [opn, if_neg (by simp)]
theorem opn_len : ∀ st : List Fr, (opn st).length = st.length - 1
  | [] => rfl
  | [f] => by rw [opn, if_pos rfl]; rfl
  | f :: g :: st => by rw [opn_cons, List.length_append, opn_len (g :: st)]; simp
theorem opn_add (st : List Fr) (t : Tree) : opn (addF st t) = opn st := by cases st <;> rfl
theorem opn_pop : ∀ st : List Fr, opn (popF st) = (opn st).take (st.length - 2)
  | [] => rfl
  | [f] => rfl
  | f :: g :: st => by
    rw [popF, opn_add, opn_cons, List.take_left' (by rw [opn_len]; simp)]
theorem opn_popN : ∀ (k : Nat) (st : List Fr), opn (popN k st) = (opn st).take (st.length - 1 - k)
  | 0, st => by rw [popN, List.take_of_length_le (by rw [opn_len]; omega)]
  | k + 1, st => by
    rw [popN, opn_popN k, opn_pop, List.take_take, popF_len]
    congr 1
    omega
/-- the last place of a name -/
def open2F (l : List (List UInt8)) (nm : List UInt8) : Int := match (l.reverse.findIdx? (· = nm)) with | some k => (l.length - 1 - k : Nat) | none => -1
theorem posF_open : ∀ (st : List Fr) (nm : List UInt8), (posF st nm = 0 ∧ nm ∉ opn st) ∨ (0 < posF st nm ∧ nm ∈ opn st)
  | [], nm => .inl ⟨rfl, by simp [opn]⟩
  | [f], nm => .inl ⟨by simp [posF], by simp [opn]⟩
  | f :: g :: st, nm => by
    rw [posF_two, opn_cons]
    by_cases h : f.tag.text = nm
    · rw [if_pos h]; exact .inr ⟨by simp, by simp [h]⟩
    · rw [if_neg h]
      rcases posF_open (g :: st) nm with ⟨h1, h2⟩ | ⟨h1, h2⟩
      · exact .inl ⟨h1, by simp only [List.mem_append, List.mem_singleton, not_or]; exact ⟨h2, fun e => h e.symm⟩⟩
      · exact .inr ⟨h1, List.mem_append_left _ h2⟩
/-- the place in what is open: counted from the end -/
def lastAt : List (List UInt8) → List UInt8 → Nat → Option Nat
  | _, _, 0 => none
  | l, nm, i + 1 => if l[i]? = some nm then some i else lastAt l nm i
theorem lastAt_app (l m : List (List UInt8)) (nm : List UInt8) : ∀ i, i ≤ l.length → lastAt (l ++ m) nm i = lastAt l nm i
  | 0, _ => by simp only [lastAt]
  | i + 1, h => by
    simp only [lastAt]
    rw [List.getElem?_append_left (by omega), lastAt_app l m nm i (by omega)]
theorem lastAt_pos : ∀ (st : List Fr) (nm : List UInt8), lastAt (opn st) nm (opn st).length = if posF st nm = 0 then none else some (posF st nm - 1)
  | [], nm => by simp [opn, lastAt, posF]
  | [f], nm => by simp [opn, lastAt, posF]
  | f :: g :: st, nm => by
    have hl := opn_len (g :: st)
    rw [posF_two, opn_cons, List.length_append, List.length_singleton, lastAt]
    by_cases h : f.tag.text = nm
    · rw [if_pos h, if_pos (by simp [h]), hl]
      simp
    · rw [if_neg h, if_neg (by simp [h]), lastAt_app _ _ _ _ (Nat.le_refl _), lastAt_pos (g :: st) nm]
/-- the page's names -/
def stepO (op : List (List UInt8)) (t : Toke) : List (List UInt8) :=
  if t.starts = true ∧ isVoid t.name.text = false then op ++ [t.name.text]
  else if t.kind = 2 then (match lastAt op t.name.text op.length with | some k => op.take k | none => op)
  else op
theorem opn_put (st : List Fr) (hst : st ≠ []) (t : Toke) : opn (putF st t) = stepO (opn st) t := by
  unfold putF stepO
  by_cases h1 : t.starts = true
  · have hk : t.kind ≠ 2 := by
      unfold Toke.starts at h1
      simp only [Bool.and_eq_true, decide_eq_true_eq] at h1
      omega
    rw [if_pos h1]
    by_cases h2 : isVoid t.name.text = true
    · rw [if_pos h2, if_neg (by simp [h2]), if_neg hk, opn_add]
    · rw [if_neg h2, if_pos ⟨h1, by simpa using h2⟩]
      cases st with
      | nil => exact absurd rfl hst
      | cons g st => rw [opn_cons]
  · have h1' : t.starts = false := by simpa using h1
    by_cases h2 : t.kind = 2
    · simp only [h1', h2, Bool.false_eq_true, false_and, if_true, if_false, lastAt_pos]
      unfold closeF
      by_cases h3 : posF st t.name.text = 0
      · rw [if_pos h3, if_pos h3]
      · rw [if_neg h3, if_neg h3, opn_popN]
        have := posF_lt st t.name.text hst
        simp only
        congr 1
        omega
    · simp only [h1', h2, Bool.false_eq_true, false_and, if_false]
      split
      · exact opn_add _ _
      · rfl
theorem put_ne {st : List Fr} (hst : st ≠ []) (t : Toke) : putF st t ≠ [] := by
  have h : 0 < st.length := List.length_pos_iff.2 hst
  have hp := posF_lt st t.name.text hst
  apply List.length_pos_iff.1
  unfold putF closeF
  repeat' split
  all_goals first | (rw [addF_len]; exact h) | (simp; done) | exact h | (rw [popN_len]; omega)
theorem opn_all : ∀ (l : List Toke) (st : List Fr), st ≠ [] → opn (l.foldl putF st) = l.foldl stepO (opn st)
  | [], _, _ => rfl
  | t :: l, st, h => by
    rw [List.foldl_cons, List.foldl_cons, opn_all l _ (put_ne h t), opn_put st h t]
def adv (op : List (List UInt8)) (nm : List UInt8) : List Toke → List Toke
  | [] => []
  | e :: l => if e.name.text ∉ op ∨ e.name.text = nm then l else e :: l
/-- the page's recursion -/
inductive Kd : List (List UInt8) → List Toke → List Tree → List Tree → List Toke → Prop
  | nil (op acc) : Kd op [] acc acc []
  | stop (op t l acc) (h : t.starts = false) (h1 : t.kind = 2) (h2 : t.name.text ∈ op) : Kd op (t :: l) acc acc (t :: l)
  | void (op t l acc out r) (h : t.starts = true) (h1 : isVoid t.name.text = true) (k : Kd op l (acc ++ [.mk t.name t.attrs [] zeroS]) out r) : Kd op (t :: l) acc out r
  | elem (op t l acc ks l1 out r) (h : t.starts = true) (h1 : isVoid t.name.text = false) (k1 : Kd (op ++ [t.name.text]) l [] ks l1) (k2 : Kd op (adv op t.name.text l1) (acc ++ [.mk t.name t.attrs ks zeroS]) out r) : Kd op (t :: l) acc out r
  | data (op t l acc out r) (h : t.starts = false) (h1 : t.kind = 3) (k : Kd op l (acc ++ [.mk zeroS [] [] t.text]) out r) : Kd op (t :: l) acc out r
  | skip (op t l acc out r) (h : t.starts = false) (h1 : t.kind ≠ 3) (h2 : ¬ (t.kind = 2 ∧ t.name.text ∈ op)) (k : Kd op l acc out r) : Kd op (t :: l) acc out r
theorem Kd.runs {op : List (List UInt8)} {l : List Toke} {acc out : List Tree} {r : List Toke} (h : Kd op l acc out r) : ∀ (f : Fr) (st : List Fr), opn (f :: st) = op → f.kids = acc →
    finF (l.foldl putF (f :: st)) = finF (r.foldl putF (⟨f.tag, f.attrs, out⟩ :: st)) ∧ (r = [] ∨ ∃ e r', r = e :: r' ∧ e.starts = false ∧ e.kind = 2 ∧ e.name.text ∈ op) := by
  induction h with
  | nil op acc => rintro ⟨a, b, c⟩ st h1 rfl; exact ⟨rfl, .inl rfl⟩
  | stop op t l acc h h1 h2 => rintro ⟨a, b, c⟩ st h3 rfl; exact ⟨rfl, .inr ⟨t, l, rfl, h, h1, h2⟩⟩
  | void op t l acc out r h h1 k ih =>
    rintro ⟨a, b, c⟩ st h3 rfl
    rw [List.foldl_cons]
    have e : putF (⟨a, b, c⟩ :: st) t = ⟨a, b, c ++ [.mk t.name t.attrs [] zeroS]⟩ :: st := by unfold putF; rw [if_pos h, if_pos h1]; rfl
    rw [e]
    exact ih ⟨a, b, c ++ [.mk t.name t.attrs [] zeroS]⟩ st (by rw [← h3]; rfl) rfl
  | data op t l acc out r h h1 k ih =>
    rintro ⟨a, b, c⟩ st h3 rfl
    rw [List.foldl_cons]
    have e : putF (⟨a, b, c⟩ :: st) t = ⟨a, b, c ++ [.mk zeroS [] [] t.text]⟩ :: st := by unfold putF; rw [if_neg (by simp [h]), if_neg (by omega), if_pos h1]; rfl
    rw [e]
    exact ih ⟨a, b, c ++ [.mk zeroS [] [] t.text]⟩ st (by rw [← h3]; rfl) rfl
  | skip op t l acc out r h h1 h2 k ih =>
    rintro ⟨a, b, c⟩ st h3 rfl
    rw [List.foldl_cons]
    have e : putF (⟨a, b, c⟩ :: st) t = ⟨a, b, c⟩ :: st := by
      unfold putF
      rw [if_neg (by simp [h])]
      by_cases h4 : t.kind = 2
      · rw [if_pos h4]
        unfold closeF
        rcases posF_open (⟨a, b, c⟩ :: st) t.name.text with ⟨g1, g2⟩ | ⟨g1, g2⟩
        · rw [if_pos g1]
        · exact absurd ⟨h4, h3 ▸ g2⟩ h2
      · rw [if_neg h4, if_neg h1]
    rw [e]
    exact ih ⟨a, b, c⟩ st h3 rfl
  | elem op t l acc ks l1 out r h h1 k1 k2 ih1 ih2 =>
    rintro ⟨a, b, c⟩ st h3 rfl
    rw [List.foldl_cons]
    have e : putF (⟨a, b, c⟩ :: st) t = ⟨t.name, t.attrs, []⟩ :: ⟨a, b, c⟩ :: st := by unfold putF; rw [if_pos h, if_neg (by simp [h1])]
    rw [e]
    obtain ⟨g1, g2⟩ := ih1 ⟨t.name, t.attrs, []⟩ (⟨a, b, c⟩ :: st) (by rw [opn_cons, h3]) rfl
    obtain ⟨g3, g4⟩ := ih2 ⟨a, b, c ++ [.mk t.name t.attrs ks zeroS]⟩ st (by rw [← h3]; rfl) rfl
    rw [g1]
    refine ⟨?_, g4⟩
    rw [← g3]
    have hpop : popF (⟨t.name, t.attrs, ks⟩ :: ⟨a, b, c⟩ :: st) = ⟨a, b, c ++ [.mk t.name t.attrs ks zeroS]⟩ :: st := rfl
    rcases g2 with rfl | ⟨e, l3, rfl, e1, e2, e3⟩
    · rw [List.foldl_nil, finF_two, hpop]; rfl
    · have hput : ∀ st, putF st e = closeF st e.name.text := fun st => by unfold putF; rw [if_neg (by simp [e1]), if_pos e2]
      by_cases e4 : e.name.text = t.name.text
      · rw [adv, if_pos (.inr e4), List.foldl_cons, hput, closeF, posF_two, if_pos e4.symm, if_neg (by simp)]
        rw [show (Fr.mk t.name t.attrs ks :: ⟨a, b, c⟩ :: st).length - (Fr.mk a b c :: st).length = 1 from by simp]
        rw [popN, popN, hpop]
      · have hin : e.name.text ∈ op := by
          rcases List.mem_append.1 e3 with h | h
          · exact h
          · exact absurd (by simpa using h) e4
        rw [adv, if_neg (by simp [hin, e4]), List.foldl_cons, List.foldl_cons, hput, hput, closeF, closeF]
        have hp0 : posF (⟨t.name, t.attrs, ks⟩ :: ⟨a, b, c⟩ :: st) e.name.text = posF (⟨a, b, c⟩ :: st) e.name.text := by rw [posF_two, if_neg (fun h => e4 h.symm)]
        simp only [hp0]
        have hp : posF (⟨a, b, c ++ [.mk t.name t.attrs ks zeroS]⟩ :: st) e.name.text = posF (⟨a, b, c⟩ :: st) e.name.text := posF_add (⟨a, b, c⟩ :: st) _ _
        rw [hp]
        have hlt := posF_lt (⟨a, b, c⟩ :: st) e.name.text (by simp)
        rcases posF_open (⟨a, b, c⟩ :: st) e.name.text with ⟨q1, q2⟩ | ⟨q1, q2⟩
        · exact absurd (h3 ▸ hin) q2
        · rw [if_neg (by omega), if_neg (by omega)]
          have : (Fr.mk t.name t.attrs ks :: ⟨a, b, c⟩ :: st).length - posF (⟨a, b, c⟩ :: st) e.name.text = ((Fr.mk a b (c ++ [.mk t.name t.attrs ks zeroS]) :: st).length - posF (⟨a, b, c⟩ :: st) e.name.text) + 1 := by
            simp only [List.length_cons] at hlt ⊢
            omega
          rw [this, popN, hpop]
/-- THE PLAIN LAW -/
theorem Kd.fin {l : List Toke} {out : List Tree} {r : List Toke} (h : Kd [] l [] out r) : finF (l.foldl putF [rootF]) = out := by
  obtain ⟨h1, h2⟩ := h.runs rootF [] (by simp [opn]) rfl
  rcases h2 with rfl | ⟨e, r', _, _, _, h3⟩
  · rw [h1, List.foldl_nil, finF_one]
  · cases h3
/-! sizes -/
def szSt (st : List Fr) : Nat := (st.map fun f => szT f.tree).sum
def szK (t : Toke) : Nat := szS' t.name + (t.attrs.map szA').sum + szS' t.text + 3
theorem szFr (f : Fr) : szT f.tree = szS' f.tag + (f.attrs.map szA').sum + szTs f.kids + 2 := by
  rw [szT_eq]; simp only [Fr.tree, Tree.tag, Tree.attrs, Tree.kids, Tree.text, szS', zeroS, List.length_nil]
theorem sz_add (st : List Fr) (t : Tree) : szSt (addF st t) ≤ szSt st + szT t := by
  cases st with
  | nil => simp [addF, szSt]
  | cons f st =>
    simp only [addF, szSt, List.map_cons, List.sum_cons, szFr, szTs_append, szTs]
    omega
theorem sz_pop (st : List Fr) : szSt (popF st) ≤ szSt st := by
  cases st with
  | nil => simp [popF]
  | cons f st =>
    have := sz_add st f.tree
    simp only [popF, szSt, List.map_cons, List.sum_cons] at *
    omega
theorem sz_popN : ∀ (k : Nat) (st : List Fr), szSt (popN k st) ≤ szSt st
  | 0, st => Nat.le_refl _
  | k + 1, st => Nat.le_trans (sz_popN k (popF st)) (sz_pop st)
theorem sz_put (st : List Fr) (t : Toke) : szSt (putF st t) ≤ szSt st + szK t := by
  unfold putF szK
  split
  · split
    · refine Nat.le_trans (sz_add _ _) ?_
      rw [szT_eq]; simp only [Tree.tag, Tree.attrs, Tree.kids, Tree.text, szTs]; simp only [szS', zeroS, List.length_nil]; omega
    · simp only [szSt, List.map_cons, List.sum_cons, szFr, szTs]; omega
  · split
    · unfold closeF
      split
      · omega
      · have := sz_popN (st.length - posF st t.name.text) st; omega
    · split
      · refine Nat.le_trans (sz_add _ _) ?_
        rw [szT_eq]; simp only [Tree.tag, Tree.attrs, Tree.kids, Tree.text, szTs]; simp only [szS', zeroS, List.length_nil, List.map_nil, List.sum_nil]; omega
      · omega
theorem sz_all : ∀ (l : List Toke) (st : List Fr), szSt (l.foldl putF st) ≤ szSt st + (l.map szK).sum
  | [], st => by simp
  | t :: l, st => by
    have h1 := sz_all l (putF st t)
    have h2 := sz_put st t
    simp only [List.foldl_cons, List.map_cons, List.sum_cons]
    omega
theorem sz_root : szSt [rootF] = 3 := by simp only [szSt, List.map_cons, List.map_nil, List.sum_cons, szFr, rootF]; simp [szTs, szS', zeroS]
theorem len_put (st : List Fr) (t : Toke) : (putF st t).length ≤ st.length + 1 := by
  unfold putF closeF
  repeat' split
  all_goals first | (rw [addF_len]; omega) | (simp; done) | omega | (rw [popN_len]; omega)
theorem len_all : ∀ (l : List Toke) (st : List Fr), (l.foldl putF st).length ≤ st.length + l.length
  | [], st => by simp
  | t :: l, st => by
    have h1 := len_all l (putF st t)
    have h2 := len_put st t
    simp only [List.foldl_cons, List.length_cons]
    omega
theorem all_ne : ∀ (l : List Toke) (st : List Fr), st ≠ [] → l.foldl putF st ≠ []
  | [], _, h => h
  | t :: l, st, h => all_ne l _ (put_ne h t)
theorem sz_kids {f : Fr} {st : List Fr} (h : f ∈ st) : szTs f.kids ≤ szSt st := by
  induction st with
  | nil => cases h
  | cons g st ih =>
    simp only [szSt, List.map_cons, List.sum_cons] at *
    rcases List.mem_cons.1 h with rfl | h
    · rw [szFr]; omega
    · have := ih h; omega
theorem finF_sz : ∀ (n : Nat) (st : List Fr), st.length ≤ n → szTs (finF st) ≤ szSt st
  | 0, [], _ => by rw [finF]; simp [szTs]
  | n + 1, [], _ => by rw [finF]; simp [szTs]
  | 0, f :: st, h => by simp at h
  | n + 1, f :: st, h => by
    rw [finF]
    split
    · exact sz_kids (by simp)
    · refine Nat.le_trans (finF_sz n _ (by rw [addF_len]; simpa using h)) (sz_pop (f :: st))
/-- popped to the root -/
theorem finF_last : ∀ (n : Nat) (st : List Fr), st.length = n + 1 → ∃ f, popN n st = [f] ∧ finF st = f.kids
  | 0, [f], _ => ⟨f, rfl, finF_one f⟩
  | n + 1, f :: g :: st, h => by
    obtain ⟨x, h1, h2⟩ := finF_last n (popF (f :: g :: st)) (by rw [popF_len]; simp at h ⊢; omega)
    exact ⟨x, h1, by rw [finF_two]; exact h2⟩
  | 0, [], h => by simp at h
  | 0, _ :: _ :: _, h => by simp at h
  | n + 1, [], h => by simp at h
  | n + 1, [_], h => by simp at h
end Go.Proofs.Ytjplgbalpnlanaa

/- What is read off merged trees, in the order of the document: of trees that are merged, and merged again, it is what it was. -/
import Derived.Test.YtjplgbalpnlanaaTree3
set_option maxHeartbeats 600000
set_option linter.unusedSimpArgs false
set_option linter.unusedVariables false
set_option maxRecDepth 100000
namespace Go.Proofs.Ytjplgbalpnlanaa
open Go Go.EL
theorem fm_near (l : List Str) : ∀ o ∈ l.flatMap orig, 0 ≤ o ∧ o ≤ 65536 := fun o ho => by
  obtain ⟨s, _, h⟩ := List.mem_flatMap.1 ho
  exact orig_near s o h
theorem cat_orig (l : List Str) : orig (catS l) = l.flatMap orig := orig_rle (fm_orig l) (fm_near l)
def zeroI (acc : List Tree) : Prop := ∀ u ∈ acc, u.isE = false → u.attrs = [] ∧ u.kids = []
theorem step_zero {acc : List Tree} (t : Tree) (ks : List Tree) (h : zeroI acc) : zeroI (stepM acc t ks) := by
  unfold stepM
  split
  · rename_i he
    intro u hu hf
    rcases List.mem_append.1 hu with hu | hu
    · exact h u hu hf
    · rw [List.mem_singleton.1 hu] at hf
      have : (Tree.mk (fixS t.tag) (onceA t.attrs []) ks zeroS).isE = t.isE := rfl
      rw [this, he] at hf; cases hf
  · split
    · exact h
    · split
      · intro u hu _; rw [List.mem_singleton.1 hu]; exact ⟨rfl, rfl⟩
      · rename_i u hl
        obtain ⟨ys, rfl⟩ := List.getLast?_eq_some_iff.1 hl
        split
        · intro v hv hf
          rcases List.mem_append.1 hv with hv | hv
          · exact h v hv hf
          · rw [List.mem_singleton.1 hv]; exact ⟨rfl, rfl⟩
        · rename_i hu
          rw [List.dropLast_concat]
          intro v hv hf
          rcases List.mem_append.1 hv with hv | hv
          · exact h v (by simp [hv]) hf
          · rw [List.mem_singleton.1 hv]
            exact h u (by simp) (by simpa using hu)
/-! what is read off merged trees -/
structure Sumry (β : Type) where
  F : Tree × Int → List β
  X : Str → List β
  E : Tree → List β
  e1 : ∀ (t : Tree) (A : List Attr) (K : List Tree) (d : Int), t.isE = true → F (.mk (fixS t.tag) A K zeroS, d) = E t
  e2 : ∀ (s : Str) (d : Int), F (.mk zeroS [] [] (fixS s), d) = X s
  e3 : ∀ (u : Tree) (s : Str) (d : Int), u.isE = false → F (.mk u.tag u.attrs u.kids (catS [u.text, s]), d) = F (u, d) ++ X s
  e4 : ∀ s : Str, s.text = [] → X s = []
def Sumry.G {β : Type} (S : Sumry β) (m : List Tree) (d : Int) : List β := (visL m d).flatMap S.F
theorem Sumry.G_app {β : Type} (S : Sumry β) (a b : List Tree) (d : Int) : S.G (a ++ b) d = S.G a d ++ S.G b d := by
  unfold Sumry.G; rw [visL_append, List.flatMap_append]
theorem Sumry.G_one {β : Type} (S : Sumry β) (t : Tree) (d : Int) : S.G [t] d = S.F (t, d) ++ S.G t.kids (d + 1) := by
  unfold Sumry.G; simp [visL, visK_eq]
theorem Sumry.G_nil {β : Type} (S : Sumry β) (d : Int) : S.G [] d = [] := by unfold Sumry.G; simp [visL]
theorem Sumry.step {β : Type} (S : Sumry β) {acc : List Tree} (t : Tree) (ks : List Tree) (d : Int) (hz : zeroI acc) : S.G (stepM acc t ks) d = S.G acc d ++ (if t.isE then S.E t ++ S.G ks (d + 1) else S.X t.text) := by
  unfold stepM
  split
  · rename_i he
    rw [S.G_app, S.G_one, S.e1 t _ _ _ he]; rfl
  · have hx : S.G [Tree.mk zeroS [] [] (fixS t.text)] d = S.X t.text := by
      rw [S.G_one, S.e2]
      show _ ++ S.G [] (d + 1) = _
      rw [S.G_nil, List.append_nil]
    split
    · rename_i h0
      rw [S.e4 _ h0, List.append_nil]
    · split
      · rename_i hl
        have : acc = [] := by simpa using hl
        subst this
        rw [hx, S.G_nil, List.nil_append]
      · rename_i u hl
        obtain ⟨ys, rfl⟩ := List.getLast?_eq_some_iff.1 hl
        split
        · rw [S.G_app, hx]
        · rename_i hu
          have hu : u.isE = false := by simpa using hu
          obtain ⟨_, z2⟩ := hz u (by simp) hu
          rw [List.dropLast_concat, S.G_app, S.G_app, S.G_one, S.G_one, S.e3 _ _ _ hu]
          show _ ++ (_ ++ S.G u.kids (d + 1)) = _
          rw [z2, S.G_nil]
          simp
theorem Sumry.fold {β : Type} (S : Sumry β) (d : Int) : ∀ (l acc : List Tree), zeroI acc → S.G (mergeF l acc) d = S.G acc d ++ S.G (mergeF l []) d
  | [], acc, hz => by simp only [mergeF]; rw [S.G_nil, List.append_nil]
  | t :: l, acc, hz => by
    have z0 : zeroI [] := fun u hu => by cases hu
    simp only [mergeF]
    rw [S.fold d l _ (step_zero t _ hz), S.fold d l _ (step_zero t _ z0), S.step t _ d hz, S.step t _ d z0, S.G_nil]
    simp
theorem Sumry.merge {β : Type} (S : Sumry β) (a b : List Tree) (d : Int) : S.G (mergeT (a ++ b)) d = S.G (mergeT a) d ++ S.G (mergeT b) d := by
  have z : zeroI (mergeT a) := by
    have key : ∀ (l acc : List Tree), zeroI acc → zeroI (mergeF l acc) := by
      intro l
      induction l with
      | nil => intro acc h; simp only [mergeF]; exact h
      | cons t l ih => intro acc h; simp only [mergeF]; exact ih _ (step_zero t _ h)
    exact key a [] (fun u hu => by cases hu)
  unfold mergeT
  rw [mergeF_append]
  exact S.fold d b _ z
theorem orig_nil {s : Str} (h : s.text = []) : orig s = [] := List.eq_nil_of_length_eq_zero (by rw [orig_len, h]; rfl)
theorem isE_tag {u : Tree} (h : u.isE = false) : u.tag.text = [] := by simpa [Tree.isE] using h
def sumO : Sumry Int where
  F p := orig p.1.text
  X s := orig s
  E _ := []
  e1 t A K d h := orig_nil rfl
  e2 s d := orig_fix s
  e3 u s d h := by show orig (catS _) = _; rw [cat_orig]; simp
  e4 s h := orig_nil h
def sumT : Sumry UInt8 where
  F p := p.1.text.text
  X s := s.text
  E _ := []
  e1 t A K d h := rfl
  e2 s d := rfl
  e3 u s d h := by show (catS _).text = _; simp [catS]
  e4 s h := h
def sumG : Sumry (List UInt8) where
  F p := if p.1.isE then [p.1.tag.text] else []
  X s := []
  E t := [t.tag.text]
  e1 t A K d h := by
    have : (Tree.mk (fixS t.tag) A K zeroS).isE = true := h
    simp only [this, if_true]; rfl
  e2 s d := rfl
  e3 u s d h := by
    have : (Tree.mk u.tag u.attrs u.kids (catS [u.text, s])).isE = false := h
    simp only [this, h]; rfl
  e4 s h := rfl
theorem tags_sum (l : List (Tree × Int)) : tagsF l = l.flatMap sumG.F := by
  induction l with
  | nil => rfl
  | cons a l ih =>
    unfold tagsF at ih ⊢
    have e : sumG.F a = if a.1.isE then [a.1.tag.text] else [] := rfl
    rw [List.flatMap_cons, ← ih, e, List.filter_cons]
    split <;> simp
/-! the same, of trees as they stand -/
section
variable {β : Type}
mutual
def Sumry.rT (S : Sumry β) : Tree → List β
  | .mk tag attrs kids text => if (Tree.mk tag attrs kids text).isE then S.E (.mk tag attrs kids text) ++ S.rF kids else S.X text
def Sumry.rF (S : Sumry β) : List Tree → List β
  | [] => []
  | t :: l => S.rT t ++ S.rF l
end
theorem Sumry.rT_eq (S : Sumry β) (t : Tree) : S.rT t = if t.isE then S.E t ++ S.rF t.kids else S.X t.text := by cases t; rw [Sumry.rT]; rfl
theorem Sumry.rF_app (S : Sumry β) : ∀ a b : List Tree, S.rF (a ++ b) = S.rF a ++ S.rF b
  | [], b => by simp [Sumry.rF]
  | t :: a, b => by simp only [List.cons_append, Sumry.rF, S.rF_app a b, List.append_assoc]
theorem Sumry.rF_one (S : Sumry β) (t : Tree) : S.rF [t] = S.rT t := by simp [Sumry.rF]
mutual
theorem Sumry.GK (S : Sumry β) : ∀ (t : Tree) (d : Int), S.G (mergeK t) d = S.rF t.kids
  | .mk _ _ kids _, d => by
    have := S.GF kids [] d (fun u hu => by cases hu)
    rw [S.G_nil, List.nil_append] at this
    rw [mergeK]
    exact this
theorem Sumry.GF (S : Sumry β) : ∀ (l acc : List Tree) (d : Int), zeroI acc → S.G (mergeF l acc) d = S.G acc d ++ S.rF l
  | [], acc, d, hz => by simp only [mergeF, Sumry.rF, List.append_nil]
  | t :: l, acc, d, hz => by
    simp only [mergeF, Sumry.rF]
    rw [S.GF l _ d (step_zero t _ hz), S.step t _ d hz, S.GK t (d + 1), S.rT_eq t]
    simp
end
theorem Sumry.G_merge (S : Sumry β) (l : List Tree) (d : Int) : S.G (mergeT l) d = S.rF l := by
  have := S.GF l [] d (fun u hu => by cases hu)
  rw [S.G_nil, List.nil_append] at this
  exact this
structure Sumry.Two (S : Sumry β) : Prop where
  fix : ∀ s : Str, S.X (fixS s) = S.X s
  cat : ∀ a b : Str, S.X (catS [a, b]) = S.X a ++ S.X b
  tag : ∀ (g g' : Str) (A A' : List Attr) (K K' : List Tree) (x x' : Str), g'.text = g.text → S.E (.mk g' A' K' x') = S.E (.mk g A K x)
theorem Sumry.r_step (S : Sumry β) (h : S.Two) (acc : List Tree) (t : Tree) (ks : List Tree) : S.rF (stepM acc t ks) = S.rF acc ++ (if t.isE then S.E t ++ S.rF ks else S.X t.text) := by
  have hx : S.rF [Tree.mk zeroS [] [] (fixS t.text)] = S.X t.text := by
    rw [S.rF_one, S.rT_eq, if_neg (by simp [Tree.isE, Tree.tag, zeroS])]; exact h.fix _
  unfold stepM
  split
  · rename_i he
    have he2 : (Tree.mk (fixS t.tag) (onceA t.attrs []) ks zeroS).isE = true := he
    rw [S.rF_app, S.rF_one, S.rT_eq, if_pos he2]
    have : S.E (Tree.mk (fixS t.tag) (onceA t.attrs []) ks zeroS) = S.E t := by cases t; exact h.tag _ _ _ _ _ _ _ _ rfl
    rw [this]; rfl
  · split
    · rename_i h0
      rw [S.e4 _ h0, List.append_nil]
    · split
      · rename_i hl
        have : acc = [] := by simpa using hl
        subst this
        rw [hx]; simp [Sumry.rF]
      · rename_i u hl
        obtain ⟨ys, rfl⟩ := List.getLast?_eq_some_iff.1 hl
        split
        · rw [S.rF_app, hx]
        · rename_i hu
          have hu : u.isE = false := by simpa using hu
          have hu2 : (Tree.mk u.tag u.attrs u.kids (catS [u.text, t.text])).isE = false := hu
          rw [List.dropLast_concat, S.rF_app, S.rF_app, S.rF_one, S.rF_one, S.rT_eq u, S.rT_eq, if_neg (by simp [hu2]), if_neg (by simp [hu])]
          show _ ++ S.X (catS [u.text, t.text]) = _
          rw [h.cat]; simp
mutual
theorem Sumry.rK (S : Sumry β) (h : S.Two) : ∀ (t : Tree), S.rF (mergeK t) = S.rF t.kids
  | .mk _ _ kids _ => by
    have := S.rM h kids []
    rw [mergeK]
    rw [this]; simp [Sumry.rF]; rfl
theorem Sumry.rM (S : Sumry β) (h : S.Two) : ∀ (l acc : List Tree), S.rF (mergeF l acc) = S.rF acc ++ S.rF l
  | [], acc => by simp only [mergeF, Sumry.rF, List.append_nil]
  | t :: l, acc => by
    simp only [mergeF, Sumry.rF]
    rw [S.rM h l _, S.r_step h acc t _, S.rK h t, S.rT_eq t]
    simp
end
theorem Sumry.twice (S : Sumry β) (h : S.Two) (l : List Tree) (d : Int) : S.G (mergeT (mergeT l)) d = S.rF l := by
  rw [S.G_merge]
  have := S.rM h l []
  unfold mergeT
  rw [this]; simp [Sumry.rF]
end
theorem twoO : sumO.Two := ⟨fun s => orig_fix s, fun a b => by show orig (catS [a, b]) = _; rw [cat_orig]; simp [sumO], fun _ _ _ _ _ _ _ _ _ => rfl⟩
theorem twoT : sumT.Two := ⟨fun s => rfl, fun a b => by show (catS [a, b]).text = _; simp [catS, sumT], fun _ _ _ _ _ _ _ _ _ => rfl⟩
theorem twoG : sumG.Two := ⟨fun s => rfl, fun a b => rfl, fun g g' A A' K K' x x' h => by show [g'.text] = [g.text]; rw [h]⟩
end Go.Proofs.Ytjplgbalpnlanaa

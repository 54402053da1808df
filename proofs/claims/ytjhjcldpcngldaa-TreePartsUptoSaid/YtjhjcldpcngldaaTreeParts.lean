/- TreeParts, where what it reads is of bulk at most 1048576: the law returns true and the arguments read as they did. -/
import Derived.Test.YtjhjcldpcngldaaTreeLaw
import Derived.Test.YtjhjcldpcngldaaTreeDec
import Derived.Test.YtjhjcldpcngldaaTree7
import Derived.Test.YtjhjcldpcngldaaRows
import Derived.ProofKit
import Derived.JoinedCond
set_option linter.unusedSimpArgs false
set_option linter.unusedVariables false
set_option maxRecDepth 100000
set_option maxHeartbeats 1000000
namespace Go.Proofs.Ytjhjcldpcngldaa
open Go Go.EL

/-! what is read off merged trees -/
structure Sumry (β : Type) where
  F : Tree × Int → List β
  X : Str → List β
  E : Tree → List β
  e1 : ∀ (t : Tree) (A : List Attr) (K : List Tree) (d : Int), t.isE = true → F (.mk (fixS t.tag) A K zeroS, d) = E t
  e2 : ∀ (s : Str) (d : Int), F (.mk zeroS [] [] (fixS s), d) = X s
  e3 : ∀ (u : Tree) (s : Str) (d : Int), u.isE = false → F (.mk u.tag u.attrs u.kids (catS [u.text, s]), d) = F (u, d) ++ X s
  e4 : ∀ s : Str, s.text = [] → X s = []
def Sumry.G {β : Type} (S : Sumry β) (m : List Tree) (d : Int) : List β := (visL m d).flatMap S.F
theorem Sumry.G_app {β : Type} (S : Sumry β) (a b : List Tree) (d : Int) : S.G (a ++ b) d = S.G a d ++ S.G b d := by
  unfold Sumry.G; rw [visL_append, List.flatMap_append]
theorem Sumry.G_one {β : Type} (S : Sumry β) (t : Tree) (d : Int) : S.G [t] d = S.F (t, d) ++ S.G t.kids (d + 1) := by
  unfold Sumry.G; simp [visL, visK_eq]
theorem Sumry.G_nil {β : Type} (S : Sumry β) (d : Int) : S.G [] d = [] := by unfold Sumry.G; simp [visL]
theorem Sumry.step {β : Type} (S : Sumry β) {acc : List Tree} (t : Tree) (ks : List Tree) (d : Int) (hz : zeroI acc) : S.G (stepM acc t ks) d = S.G acc d ++ (if t.isE then S.E t ++ S.G ks (d + 1) else S.X t.text) := by
  unfold stepM
  split
  · rename_i he
    rw [S.G_app, S.G_one, S.e1 t _ _ _ he]; rfl
  · have hx : S.G [Tree.mk zeroS [] [] (fixS t.text)] d = S.X t.text := by
      rw [S.G_one, S.e2]
      show _ ++ S.G [] (d + 1) = _
      rw [S.G_nil, List.append_nil]
    split
    · rename_i h0
      rw [S.e4 _ h0, List.append_nil]
    · split
      · rename_i hl
        have : acc = [] := by simpa using hl
        subst this
        rw [hx, S.G_nil, List.nil_append]
      · rename_i u hl
        obtain ⟨ys, rfl⟩ := List.getLast?_eq_some_iff.1 hl
        split
        · rw [S.G_app, hx]
        · rename_i hu
          have hu : u.isE = false := by simpa using hu
          obtain ⟨_, z2⟩ := hz u (by simp) hu
          rw [List.dropLast_concat, S.G_app, S.G_app, S.G_one, S.G_one, S.e3 _ _ _ hu]
          show _ ++ (_ ++ S.G u.kids (d + 1)) = _
          rw [z2, S.G_nil]
          simp
theorem Sumry.fold {β : Type} (S : Sumry β) (d : Int) : ∀ (l acc : List Tree), zeroI acc → S.G (mergeF l acc) d = S.G acc d ++ S.G (mergeF l []) d
  | [], acc, hz => by simp only [mergeF]; rw [S.G_nil, List.append_nil]
  | t :: l, acc, hz => by
    have z0 : zeroI [] := fun u hu => by cases hu
    simp only [mergeF]
    rw [S.fold d l _ (step_zero t _ hz), S.fold d l _ (step_zero t _ z0), S.step t _ d hz, S.step t _ d z0, S.G_nil]
    simp
theorem Sumry.merge {β : Type} (S : Sumry β) (a b : List Tree) (d : Int) : S.G (mergeT (a ++ b)) d = S.G (mergeT a) d ++ S.G (mergeT b) d := by
  have z : zeroI (mergeT a) := by
    have key : ∀ (l acc : List Tree), zeroI acc → zeroI (mergeF l acc) := by
      intro l
      induction l with
      | nil => intro acc h; simp only [mergeF]; exact h
      | cons t l ih => intro acc h; simp only [mergeF]; exact ih _ (step_zero t _ h)
    exact key a [] (fun u hu => by cases hu)
  unfold mergeT
  rw [mergeF_append]
  exact S.fold d b _ z
theorem orig_nil {s : Str} (h : s.text = []) : orig s = [] := List.eq_nil_of_length_eq_zero (by rw [orig_len, h]; rfl)
theorem isE_tag {u : Tree} (h : u.isE = false) : u.tag.text = [] := by simpa [Tree.isE] using h
def sumO : Sumry Int where
  F p := orig p.1.text
  X s := orig s
  E _ := []
  e1 t A K d h := orig_nil rfl
  e2 s d := orig_fix s
  e3 u s d h := by show orig (catS _) = _; rw [cat_orig]; simp
  e4 s h := orig_nil h
def sumT : Sumry UInt8 where
  F p := p.1.text.text
  X s := s.text
  E _ := []
  e1 t A K d h := rfl
  e2 s d := rfl
  e3 u s d h := by show (catS _).text = _; simp [catS]
  e4 s h := h
def sumG : Sumry (List UInt8) where
  F p := if p.1.isE then [p.1.tag.text] else []
  X s := []
  E t := [t.tag.text]
  e1 t A K d h := by
    have : (Tree.mk (fixS t.tag) A K zeroS).isE = true := h
    simp only [this, if_true]; rfl
  e2 s d := rfl
  e3 u s d h := by
    have : (Tree.mk u.tag u.attrs u.kids (catS [u.text, s])).isE = false := h
    simp only [this, h]; rfl
  e4 s h := rfl
theorem tags_sum (l : List (Tree × Int)) : tagsF l = l.flatMap sumG.F := by
  induction l with
  | nil => rfl
  | cons a l ih =>
    unfold tagsF at ih ⊢
    have e : sumG.F a = if a.1.isE then [a.1.tag.text] else [] := rfl
    rw [List.flatMap_cons, ← ih, e, List.filter_cons]
    split <;> simp
theorem tags_join (a b : List Tree) : tagsF (visA (a ++ b)) = tagsF (visA a) ++ tagsF (visA b) := by
  rw [tags_sum, tags_sum, tags_sum]; exact sumG.merge a b 1
theorem orig_join (a b : List Tree) : (wordsF (visA (a ++ b))).flatMap orig = (wordsF (visA a)).flatMap orig ++ (wordsF (visA b)).flatMap orig := by
  unfold wordsF
  rw [List.flatMap_map, List.flatMap_map, List.flatMap_map]; exact sumO.merge a b 1
theorem text_join (a b : List Tree) : (wordsF (visA (a ++ b))).flatMap Str.text = (wordsF (visA a)).flatMap Str.text ++ (wordsF (visA b)).flatMap Str.text := by
  unfold wordsF
  rw [List.flatMap_map, List.flatMap_map, List.flatMap_map]; exact sumT.merge a b 1
theorem words_join (a b : List Tree) : Like (catS (wordsF (visA (a ++ b)))) (catS [catS (wordsF (visA a)), catS (wordsF (visA b))]) := by
  refine ⟨?_, ?_⟩
  · show (wordsF (visA (a ++ b))).flatMap Str.text = _
    rw [text_join]; simp [catS]
  · rw [cat_orig, cat_orig, orig_join]
    simp [cat_orig]
/-! how deep -/
theorem dep_step {acc : List Tree} (t : Tree) (ks : List Tree) (d : Int) (hd : 0 ≤ d) (hz : zeroI acc) : depF (visL (stepM acc t ks) d) 0 = max (depF (visL acc d) 0) (if t.isE then max d (depF (visL ks (d + 1)) 0) else 0) := by
  have p0 := depF_pos (visL acc d) 0 (Int.le_refl _)
  unfold stepM
  split
  · rename_i he
    have hE : (Tree.mk (fixS t.tag) (onceA t.attrs []) ks zeroS).isE = true := he
    have pk := depF_pos (visL ks (d + 1)) 0 (Int.le_refl _)
    rw [visL_append, depF_append]
    simp only [visL, visK_eq, depF, List.append_nil, hE, if_true]
    rw [depF_max _ _ (by omega)]
    show max (max _ d) (depF (visL ks (d + 1)) 0) = _
    omega
  · split
    · omega
    · have hE : ∀ s, (Tree.mk zeroS [] [] s).isE = false := fun s => rfl
      split
      · rename_i hl
        have : acc = [] := by simpa using hl
        subst this
        simp [visL, visK, depF, hE]
      · rename_i u hl
        obtain ⟨ys, rfl⟩ := List.getLast?_eq_some_iff.1 hl
        split
        · rw [visL_append (ys ++ [u]), depF_append]
          simp [visL, visK, depF, hE]
          omega
        · rename_i hu
          have hu : u.isE = false := by simpa using hu
          have hu2 : (Tree.mk u.tag u.attrs u.kids (catS [u.text, t.text])).isE = false := hu
          obtain ⟨_, z2⟩ := hz u (by simp) hu
          rw [List.dropLast_concat, visL_append, visL_append, depF_append, depF_append] at *
          simp [visL, visK_eq, depF, hu, hu2, z2, Tree.kids] at *
          omega
theorem dep_fold (d : Int) (hd : 0 ≤ d) : ∀ (l acc : List Tree), zeroI acc → depF (visL (mergeF l acc) d) 0 = max (depF (visL acc d) 0) (depF (visL (mergeF l []) d) 0)
  | [], acc, hz => by
    have p0 := depF_pos (visL acc d) 0 (Int.le_refl _)
    simp only [mergeF, visL, depF]; omega
  | t :: l, acc, hz => by
    have z0 : zeroI [] := fun u hu => by cases hu
    simp only [mergeF]
    rw [dep_fold d hd l _ (step_zero t _ hz), dep_fold d hd l _ (step_zero t _ z0), dep_step t _ d hd hz, dep_step t _ d hd z0]
    have e : depF (visL [] d) 0 = 0 := rfl
    have p0 := depF_pos (visL acc d) 0 (Int.le_refl _)
    rw [e]
    omega
theorem merge_zero (a : List Tree) : zeroI (mergeT a) := by
  have key : ∀ (l acc : List Tree), zeroI acc → zeroI (mergeF l acc) := by
    intro l
    induction l with
    | nil => intro acc h; simp only [mergeF]; exact h
    | cons t l ih => intro acc h; simp only [mergeF]; exact ih _ (step_zero t _ h)
  exact key a [] (fun u hu => by cases hu)
theorem dep_join (a b : List Tree) : depF (visA (a ++ b)) 0 = max (depF (visA a) 0) (depF (visA b) 0) := by
  unfold visA mergeT
  rw [mergeF_append]
  exact dep_fold 1 (by decide) b _ (merge_zero a)
/-! how many -/
def lastE (m : List Tree) : Option Bool := m.getLast?.map Tree.isE
def cnt (m : List Tree) : Nat := (visL m 1).length
theorem cnt_app (a b : List Tree) : cnt (a ++ b) = cnt a + cnt b := by unfold cnt; rw [visL_append, List.length_append]
theorem cnt_one (t : Tree) : cnt [t] = 1 + (visL t.kids 2).length := by unfold cnt; simp [visL, visK_eq]; omega
theorem cnt_step {acc : List Tree} (t : Tree) (ks : List Tree) : cnt (stepM acc t ks) = cnt acc + (if t.isE then 1 + (visL ks 2).length else if t.text.text = [] then 0 else if lastE acc = some false then 0 else 1) ∧ lastE (stepM acc t ks) = if t.isE then some true else if t.text.text = [] then lastE acc else some false := by
  unfold stepM
  split
  · rename_i he
    refine ⟨?_, ?_⟩
    · rw [cnt_app, cnt_one]; rfl
    · simp only [lastE, List.getLast?_concat, Option.map_some]
      rw [show (Tree.mk (fixS t.tag) (onceA t.attrs []) ks zeroS).isE = t.isE from rfl, he]
  · split
    · exact ⟨rfl, rfl⟩
    · have hx : cnt [Tree.mk zeroS [] [] (fixS t.text)] = 1 := by rw [cnt_one]; rfl
      split
      · rename_i hl
        have : acc = [] := by simpa using hl
        subst this
        exact ⟨by rw [hx]; rfl, rfl⟩
      · rename_i u hl
        obtain ⟨ys, rfl⟩ := List.getLast?_eq_some_iff.1 hl
        split
        · rename_i hu
          refine ⟨?_, ?_⟩
          · rw [cnt_app, hx, if_neg]
            simp only [lastE, List.getLast?_concat, Option.map_some, hu]
            simp
          · simp only [lastE, List.getLast?_concat, Option.map_some]; rfl
        · rename_i hu
          have hu : u.isE = false := by simpa using hu
          refine ⟨?_, ?_⟩
          · rw [List.dropLast_concat, cnt_app, cnt_app, cnt_one, cnt_one, if_pos]
            · rfl
            · simp only [lastE, List.getLast?_concat, Option.map_some, hu]
          · simp only [lastE, List.getLast?_concat, Option.map_some]
            rw [show (Tree.mk u.tag u.attrs u.kids (catS [u.text, t.text])).isE = u.isE from rfl, hu]
def Both (A P Q : List Tree) : Prop := (lastE Q = none ∧ cnt Q = 0 ∧ lastE P = lastE A ∧ cnt P = cnt A) ∨ (lastE P = lastE Q ∧ (cnt P = cnt A + cnt Q ∨ cnt P + 1 = cnt A + cnt Q))
theorem both_step {A P Q : List Tree} (t : Tree) (ks : List Tree) (h : Both A P Q) : Both A (stepM P t ks) (stepM Q t ks) := by
  obtain ⟨p1, p2⟩ := cnt_step (acc := P) t ks
  obtain ⟨q1, q2⟩ := cnt_step (acc := Q) t ks
  unfold Both
  rw [p1, p2, q1, q2]
  by_cases he : t.isE = true
  · simp only [he, if_true]
    rcases h with ⟨h1, h2, h3, h4⟩ | ⟨h1, h2⟩
    · right; exact ⟨trivial, by omega⟩
    · right; exact ⟨trivial, by omega⟩
  · simp only [he, if_false]
    by_cases h0 : t.text.text = []
    · simp only [h0, if_true, Nat.add_zero]
      exact h
    · simp only [h0, if_false]
      rcases h with ⟨h1, h2, h3, h4⟩ | ⟨h1, h2⟩
      · right
        refine ⟨trivial, ?_⟩
        rw [h1]
        simp only [reduceCtorEq, if_false]
        split <;> omega
      · right
        refine ⟨trivial, ?_⟩
        rw [h1]
        omega
theorem both_fold (A : List Tree) : ∀ (l P Q : List Tree), Both A P Q → Both A (mergeF l P) (mergeF l Q)
  | [], P, Q, h => by simp only [mergeF]; exact h
  | t :: l, P, Q, h => by simp only [mergeF]; exact both_fold A l _ _ (both_step t _ h)
theorem cnt_join (a b : List Tree) : (visA (a ++ b)).length = (visA a).length + (visA b).length ∨ (visA (a ++ b)).length + 1 = (visA a).length + (visA b).length := by
  have h := both_fold (mergeT a) b (mergeT a) [] (.inl ⟨rfl, rfl, rfl, rfl⟩)
  have e : visA (a ++ b) = visL (mergeF b (mergeT a)) 1 := by unfold visA mergeT; rw [mergeF_append]
  rw [e]
  show cnt (mergeF b (mergeT a)) = cnt (mergeT a) + cnt (mergeF b []) ∨ cnt (mergeF b (mergeT a)) + 1 = cnt (mergeT a) + cnt (mergeF b [])
  rcases h with ⟨h1, h2, h3, h4⟩ | ⟨_, h2⟩
  · left; omega
  · exact h2
theorem treeParts (H : List Ob) (a b : List Tree) (hb : szTs a + szTs b ≤ 1048576) : SCall Try.prog 7 [.slice (a.map treeV), .slice (b.map treeV)] H (fun r _ => r = .bool true) := by
  have hab := szTs_append a b
  have va := visA_len a
  have vb' := visA_len b
  have vab := visA_len (a ++ b)
  have la := sz_len a
  have lb := sz_len b
  have hdj := dep_join a b
  have htj := tags_join a b
  have hcj := cnt_join a b
  have hwj := words_join a b
  have wl : ∀ l : List Tree, (catS (wordsF (visA l))).text.length ≤ 2 * szTs l ∧ (catS (wordsF (visA l))).runs.length ≤ 2 * szTs l := fun l => by
    have h1 := letters_len (mergeT l) 1
    have h2 := merge_sz l
    rw [letters_words] at h1
    have h3 := cat_runs (wordsF (visA l))
    have h4 : (catS (wordsF (visA l))).text.length = ((wordsF (visL (mergeT l) 1)).flatMap Str.text).length := rfl
    omega
  have wa := wl a
  have wb := wl b
  have wab := wl (a ++ b)
  have oa : okS (catS (wordsF (visA a))) := ⟨by omega, by omega⟩
  have ob : okS (catS (wordsF (visA b))) := ⟨by omega, by omega⟩
  have oab : okS (catS (wordsF (visA (a ++ b)))) := ⟨by omega, by omega⟩
  have hct : (([catS (wordsF (visA a)), catS (wordsF (visA b))] : List Str).flatMap Str.text).length ≤ 2097152 := by
    simp only [List.flatMap_cons, List.flatMap_nil, List.append_nil, List.length_append]
    omega
  have occ : okS (catS [catS (wordsF (visA a)), catS (wordsF (visA b))]) := by
    have h := cat_runs [catS (wordsF (visA a)), catS (wordsF (visA b))]
    have h4 : (catS [catS (wordsF (visA a)), catS (wordsF (visA b))]).text.length = (([catS (wordsF (visA a)), catS (wordsF (visA b))] : List Str).flatMap Str.text).length := rfl
    exact ⟨by omega, by omega⟩
  have hap : a.map treeV ++ b.map treeV = (a ++ b).map treeV := (List.map_append ..).symm
  have e5 : decide (Like (catS (wordsF (visA (a ++ b)))) (catS [catS (wordsF (visA a)), catS (wordsF (visA b))])) = true := decide_eq_true hwj
  refine SCall.of_good fun hH => ?_
  have hHk := HLt.add hH
  refine SCall.of_code Tok Try.func7 rfl Try.call7 (n := 70) rfl (by simp) (rs := [.tmp 4]) rfl ?_
  refine EWn.to ?_
  refine EWn.cutE Tok mixed (own := false) (κ := (Unit)) keep7 tab7 [(), (), ()] (fun (_u : (Unit)) => True) (fun (_u : (Unit)) => [(0, .slice (a.map treeV)), (1, .slice (b.map treeV)), (5, .slice ((a ++ b).map treeV))]) (fun (_u : (Unit)) => H) (by simp only [headC]; rfl) (by simp only [tailC]; rfl) (by kernel_rfl) (by kernel_rfl) ?_ ?_ ?_
  · rintro _u hok; exact ⟨by first | (simp; done) | (simp; omega), by (simp (maxDischargeDepth := 6) [LTB, HLt_set, ltL_take, ltL_drop, ltL_rep, ltL_set, upd, eset, hH, hHk, lt_vi, lt_str, lt_vb, ltc_str, ltc_vi, lt_run, lt1_run, ltc_run, lt_Str, lt1_Str, ltc_Str, lt_c, lt1_c, ltc_c, lt_attr, lt1_attr, ltc_attr, lt_tree, lt1_tree, ltc_tree] <;> omega), by (simp (maxDischargeDepth := 6) [LTB, HLt_set, ltL_take, ltL_drop, ltL_rep, ltL_set, upd, eset, hH, hHk, lt_vi, lt_str, lt_vb, ltc_str, ltc_vi, lt_run, lt1_run, ltc_run, lt_Str, lt1_Str, ltc_Str, lt_c, lt1_c, ltc_c, lt_attr, lt1_attr, ltc_attr, lt_tree, lt1_tree, ltc_tree] <;> omega)⟩
  · (repeat (first | simp -dsimp only [st_run, sz_run, st1_run, cl_run, st_Str, sz_Str, st1_Str, cl_Str, st_c, sz_c, st1_c, cl_c, st_attr, sz_attr, st1_attr, cl_attr, st_tree, sz_tree, st1_tree, cl_tree, RB, TB, keep7, tab7, ewOp, xop, xindexAddr, xindex, xslice, xconvert, xlen, drawStep, FreeW, SameW, ChangeW, limBytes, Nat.reduceBEq, Nat.reduceAdd, Nat.reduceEqDiff, Nat.reduceLT, Nat.reduceLeDiff, Nat.reduceMul, Nat.reduceSub, Int.reduceBEq, Int.reduceBNe, Int.reduceToNat, Int.reduceLT, Int.reduceLE, Int.reduceGT, Int.reduceGE, Int.reduceAdd, Int.reduceSub, Int.reduceNeg, Int.reduceEq, Int.toNat_zero, Int.toNat_one, reduceIte, reduceCtorEq, ne_eq, decide_true, decide_false] | ((with_reducible refine Need.intro ?_ ?_); (first | trivial | omega | (simp; done) | (simp; omega)))))
    (first | refine SCall.then (alive11 _) ?_ | refine SCall.thenA (alive11 _) (by repeat (first | exact trivial | exact .inl (.inl rfl) | exact .inl (.inr ⟨_, rfl, rfl⟩) | exact .inl rfl | exact .inr ⟨_, rfl, rfl⟩ | refine .inr ⟨_, _, rfl, rfl, ?_⟩ | refine ⟨?_, ?_⟩)) ?_ | refine CallE.intro _ (alive11 _) ?_ | refine CallE.introA (alive11 _) (by repeat (first | exact trivial | exact .inl (.inl rfl) | exact .inl (.inr ⟨_, rfl, rfl⟩) | exact .inl rfl | exact .inr ⟨_, rfl, rfl⟩ | refine .inr ⟨_, _, rfl, rfl, ?_⟩ | refine ⟨?_, ?_⟩)) ?_ | refine CallE.intro _ (fun _ => alive11 _) ?_ | refine CallE.intro _ (fun _ => SCall.arg (by repeat (first | exact trivial | exact .inl (.inl rfl) | exact .inl (.inr ⟨_, rfl, rfl⟩) | exact .inl rfl | exact .inr ⟨_, rfl, rfl⟩ | refine .inr ⟨_, _, rfl, rfl, ?_⟩ | refine ⟨?_, ?_⟩)) (alive11 _)) ?_ | refine CallE2.intro _ _ (alive11 _) ?_ | refine CallE2.intro _ _ (SCall.arg (by repeat (first | exact trivial | exact .inl (.inl rfl) | exact .inl (.inr ⟨_, rfl, rfl⟩) | exact .inl rfl | exact .inr ⟨_, rfl, rfl⟩ | refine .inr ⟨_, _, rfl, rfl, ?_⟩ | refine ⟨?_, ?_⟩)) (alive11 _)) ?_)
    (repeat (first | simp -dsimp only [st_run, sz_run, st1_run, cl_run, st_Str, sz_Str, st1_Str, cl_Str, st_c, sz_c, st1_c, cl_c, st_attr, sz_attr, st1_attr, cl_attr, st_tree, sz_tree, st1_tree, cl_tree, RB, TB, keep7, tab7, ewOp, xop, xindexAddr, xindex, xslice, xconvert, xlen, drawStep, FreeW, SameW, ChangeW, limBytes, Nat.reduceBEq, Nat.reduceAdd, Nat.reduceEqDiff, Nat.reduceLT, Nat.reduceLeDiff, Nat.reduceMul, Nat.reduceSub, Int.reduceBEq, Int.reduceBNe, Int.reduceToNat, Int.reduceLT, Int.reduceLE, Int.reduceGT, Int.reduceGE, Int.reduceAdd, Int.reduceSub, Int.reduceNeg, Int.reduceEq, Int.toNat_zero, Int.toNat_one, reduceIte, reduceCtorEq, ne_eq, decide_true, decide_false] | ((with_reducible refine Need.intro ?_ ?_); (first | trivial | omega | (simp; done) | (simp; omega)))))
    refine SCall.mono (smallW _ a (by omega)) ?_
    rintro _ _ ⟨⟨c, rfl⟩, h_⟩
    have h_ := h_.symm
    subst h_
    (repeat (first | simp -dsimp only [st_run, sz_run, st1_run, cl_run, st_Str, sz_Str, st1_Str, cl_Str, st_c, sz_c, st1_c, cl_c, st_attr, sz_attr, st1_attr, cl_attr, st_tree, sz_tree, st1_tree, cl_tree, RB, TB, keep7, tab7, ewOp, xop, xindexAddr, xindex, xslice, xconvert, xlen, drawStep, FreeW, SameW, ChangeW, limBytes, Nat.reduceBEq, Nat.reduceAdd, Nat.reduceEqDiff, Nat.reduceLT, Nat.reduceLeDiff, Nat.reduceMul, Nat.reduceSub, Int.reduceBEq, Int.reduceBNe, Int.reduceToNat, Int.reduceLT, Int.reduceLE, Int.reduceGT, Int.reduceGE, Int.reduceAdd, Int.reduceSub, Int.reduceNeg, Int.reduceEq, Int.toNat_zero, Int.toNat_one, reduceIte, reduceCtorEq, ne_eq, decide_true, decide_false] | ((with_reducible refine Need.intro ?_ ?_); (first | trivial | omega | (simp; done) | (simp; omega)))))
    refine IfW.intro (fun h => ?_) (fun h => ?_)
    rotate_left
    · (repeat (first | simp -dsimp only [st_run, sz_run, st1_run, cl_run, st_Str, sz_Str, st1_Str, cl_Str, st_c, sz_c, st1_c, cl_c, st_attr, sz_attr, st1_attr, cl_attr, st_tree, sz_tree, st1_tree, cl_tree, h, RB, TB, keep7, tab7, ewOp, xop, xindexAddr, xindex, xslice, xconvert, xlen, drawStep, FreeW, SameW, ChangeW, limBytes, Nat.reduceBEq, Nat.reduceAdd, Nat.reduceEqDiff, Nat.reduceLT, Nat.reduceLeDiff, Nat.reduceMul, Nat.reduceSub, Int.reduceBEq, Int.reduceBNe, Int.reduceToNat, Int.reduceLT, Int.reduceLE, Int.reduceGT, Int.reduceGE, Int.reduceAdd, Int.reduceSub, Int.reduceNeg, Int.reduceEq, Int.toNat_zero, Int.toNat_one, reduceIte, reduceCtorEq, ne_eq, decide_true, decide_false] | ((with_reducible refine Need.intro ?_ ?_); (first | trivial | omega | (simp; done) | (simp; omega)))))
      refine RetW.auto0 false _ (by first | rfl | exact (List.append_nil _).symm) ?_ ?_
      · (simp (maxDischargeDepth := 6) [LTB, HLt_set, ltL_take, ltL_drop, ltL_rep, ltL_set, upd, eset, hH, hHk, lt_vi, lt_str, lt_vb, ltc_str, ltc_vi, lt_run, lt1_run, ltc_run, lt_Str, lt1_Str, ltc_Str, lt_c, lt1_c, ltc_c, lt_attr, lt1_attr, ltc_attr, lt_tree, lt1_tree, ltc_tree] <;> omega)
      (try simp only [wk, wk1, wk0, RB, limBytes, Nat.reduceBEq, Nat.reduceAdd, Nat.reduceEqDiff, Nat.reduceLT, Nat.reduceLeDiff, Nat.reduceMul, Nat.reduceSub, Int.reduceBEq, Int.reduceBNe, Int.reduceToNat, Int.reduceLT, Int.reduceLE, Int.reduceGT, Int.reduceGE, Int.reduceAdd, Int.reduceSub, Int.reduceNeg, Int.reduceEq, Int.toNat_zero, Int.toNat_one, reduceIte, reduceCtorEq, ne_eq, decide_true, decide_false])
      (try (rw [List.take_of_length_le]; rotate_left 1; (· first | (simp; done) | (simp; omega) | omega)))
    (repeat (first | simp -dsimp only [st_run, sz_run, st1_run, cl_run, st_Str, sz_Str, st1_Str, cl_Str, st_c, sz_c, st1_c, cl_c, st_attr, sz_attr, st1_attr, cl_attr, st_tree, sz_tree, st1_tree, cl_tree, h, RB, TB, keep7, tab7, ewOp, xop, xindexAddr, xindex, xslice, xconvert, xlen, drawStep, FreeW, SameW, ChangeW, limBytes, Nat.reduceBEq, Nat.reduceAdd, Nat.reduceEqDiff, Nat.reduceLT, Nat.reduceLeDiff, Nat.reduceMul, Nat.reduceSub, Int.reduceBEq, Int.reduceBNe, Int.reduceToNat, Int.reduceLT, Int.reduceLE, Int.reduceGT, Int.reduceGE, Int.reduceAdd, Int.reduceSub, Int.reduceNeg, Int.reduceEq, Int.toNat_zero, Int.toNat_one, reduceIte, reduceCtorEq, ne_eq, decide_true, decide_false] | ((with_reducible refine Need.intro ?_ ?_); (first | trivial | omega | (simp; done) | (simp; omega)))))
    refine SCall.mono (smallW _ b (by omega)) ?_
    rintro _ _ ⟨⟨c2, rfl⟩, h_⟩
    have h_ := h_.symm
    subst h_
    (repeat (first | simp -dsimp only [st_run, sz_run, st1_run, cl_run, st_Str, sz_Str, st1_Str, cl_Str, st_c, sz_c, st1_c, cl_c, st_attr, sz_attr, st1_attr, cl_attr, st_tree, sz_tree, st1_tree, cl_tree, h, RB, TB, keep7, tab7, ewOp, xop, xindexAddr, xindex, xslice, xconvert, xlen, drawStep, FreeW, SameW, ChangeW, limBytes, Nat.reduceBEq, Nat.reduceAdd, Nat.reduceEqDiff, Nat.reduceLT, Nat.reduceLeDiff, Nat.reduceMul, Nat.reduceSub, Int.reduceBEq, Int.reduceBNe, Int.reduceToNat, Int.reduceLT, Int.reduceLE, Int.reduceGT, Int.reduceGE, Int.reduceAdd, Int.reduceSub, Int.reduceNeg, Int.reduceEq, Int.toNat_zero, Int.toNat_one, reduceIte, reduceCtorEq, ne_eq, decide_true, decide_false] | ((with_reducible refine Need.intro ?_ ?_); (first | trivial | omega | (simp; done) | (simp; omega)))))
    refine IfW.intro (fun h2 => ?_) (fun h2 => ?_)
    rotate_left
    · (repeat (first | simp -dsimp only [st_run, sz_run, st1_run, cl_run, st_Str, sz_Str, st1_Str, cl_Str, st_c, sz_c, st1_c, cl_c, st_attr, sz_attr, st1_attr, cl_attr, st_tree, sz_tree, st1_tree, cl_tree, h, h2, RB, TB, keep7, tab7, ewOp, xop, xindexAddr, xindex, xslice, xconvert, xlen, drawStep, FreeW, SameW, ChangeW, limBytes, Nat.reduceBEq, Nat.reduceAdd, Nat.reduceEqDiff, Nat.reduceLT, Nat.reduceLeDiff, Nat.reduceMul, Nat.reduceSub, Int.reduceBEq, Int.reduceBNe, Int.reduceToNat, Int.reduceLT, Int.reduceLE, Int.reduceGT, Int.reduceGE, Int.reduceAdd, Int.reduceSub, Int.reduceNeg, Int.reduceEq, Int.toNat_zero, Int.toNat_one, reduceIte, reduceCtorEq, ne_eq, decide_true, decide_false] | ((with_reducible refine Need.intro ?_ ?_); (first | trivial | omega | (simp; done) | (simp; omega)))))
      refine RetW.auto0 false _ (by first | rfl | exact (List.append_nil _).symm) ?_ ?_
      · (simp (maxDischargeDepth := 6) [LTB, HLt_set, ltL_take, ltL_drop, ltL_rep, ltL_set, upd, eset, hH, hHk, lt_vi, lt_str, lt_vb, ltc_str, ltc_vi, lt_run, lt1_run, ltc_run, lt_Str, lt1_Str, ltc_Str, lt_c, lt1_c, ltc_c, lt_attr, lt1_attr, ltc_attr, lt_tree, lt1_tree, ltc_tree] <;> omega)
      (try simp only [wk, wk1, wk0, RB, limBytes, Nat.reduceBEq, Nat.reduceAdd, Nat.reduceEqDiff, Nat.reduceLT, Nat.reduceLeDiff, Nat.reduceMul, Nat.reduceSub, Int.reduceBEq, Int.reduceBNe, Int.reduceToNat, Int.reduceLT, Int.reduceLE, Int.reduceGT, Int.reduceGE, Int.reduceAdd, Int.reduceSub, Int.reduceNeg, Int.reduceEq, Int.toNat_zero, Int.toNat_one, reduceIte, reduceCtorEq, ne_eq, decide_true, decide_false])
      (try (rw [List.take_of_length_le]; rotate_left 1; (· first | (simp; done) | (simp; omega) | omega)))
    (repeat (first | simp -dsimp only [st_run, sz_run, st1_run, cl_run, st_Str, sz_Str, st1_Str, cl_Str, st_c, sz_c, st1_c, cl_c, st_attr, sz_attr, st1_attr, cl_attr, st_tree, sz_tree, st1_tree, cl_tree, h, h2, RB, TB, keep7, tab7, ewOp, xop, xindexAddr, xindex, xslice, xconvert, xlen, drawStep, FreeW, SameW, ChangeW, limBytes, Nat.reduceBEq, Nat.reduceAdd, Nat.reduceEqDiff, Nat.reduceLT, Nat.reduceLeDiff, Nat.reduceMul, Nat.reduceSub, Int.reduceBEq, Int.reduceBNe, Int.reduceToNat, Int.reduceLT, Int.reduceLE, Int.reduceGT, Int.reduceGE, Int.reduceAdd, Int.reduceSub, Int.reduceNeg, Int.reduceEq, Int.toNat_zero, Int.toNat_one, reduceIte, reduceCtorEq, ne_eq, decide_true, decide_false] | ((with_reducible refine Need.intro ?_ ?_); (first | trivial | omega | (simp; done) | (simp; omega)))))
    refine UpTo.step (Gho.frz 5 (by rfl) (by rw [hget0]; rfl) (by simp)) (UpTo.here ⟨(), trivial, ?_, [.gone], ?_⟩)
    · simp [eset]
    · simp
  rintro _ _
  refine EWn.of_c Tok mixed (own := false) keep7 tab7 (by kernel_rfl) ?_
  (repeat (first | simp -dsimp only [st_run, sz_run, st1_run, cl_run, st_Str, sz_Str, st1_Str, cl_Str, st_c, sz_c, st1_c, cl_c, st_attr, sz_attr, st1_attr, cl_attr, st_tree, sz_tree, st1_tree, cl_tree, RB, TB, keep7, tab7, ewOp, xop, xindexAddr, xindex, xslice, xconvert, xlen, drawStep, FreeW, SameW, ChangeW, limBytes, Nat.reduceBEq, Nat.reduceAdd, Nat.reduceEqDiff, Nat.reduceLT, Nat.reduceLeDiff, Nat.reduceMul, Nat.reduceSub, Int.reduceBEq, Int.reduceBNe, Int.reduceToNat, Int.reduceLT, Int.reduceLE, Int.reduceGT, Int.reduceGE, Int.reduceAdd, Int.reduceSub, Int.reduceNeg, Int.reduceEq, Int.toNat_zero, Int.toNat_one, reduceIte, reduceCtorEq, ne_eq, decide_true, decide_false] | ((with_reducible refine Need.intro ?_ ?_); (first | trivial | omega | (simp; done) | (simp; omega)))))
  (first | refine SCall.then (tSize _ (a ++ b) (by omega)) ?_ | refine SCall.thenA (tSize _ (a ++ b) (by omega)) (by repeat (first | exact trivial | exact .inl (.inl rfl) | exact .inl (.inr ⟨_, rfl, rfl⟩) | exact .inl rfl | exact .inr ⟨_, rfl, rfl⟩ | refine .inr ⟨_, _, rfl, rfl, ?_⟩ | refine ⟨?_, ?_⟩)) ?_ | refine CallE.intro _ (tSize _ (a ++ b) (by omega)) ?_ | refine CallE.introA (tSize _ (a ++ b) (by omega)) (by repeat (first | exact trivial | exact .inl (.inl rfl) | exact .inl (.inr ⟨_, rfl, rfl⟩) | exact .inl rfl | exact .inr ⟨_, rfl, rfl⟩ | refine .inr ⟨_, _, rfl, rfl, ?_⟩ | refine ⟨?_, ?_⟩)) ?_ | refine CallE.intro _ (fun _ => tSize _ (a ++ b) (by omega)) ?_ | refine CallE.intro _ (fun _ => SCall.arg (by repeat (first | exact trivial | exact .inl (.inl rfl) | exact .inl (.inr ⟨_, rfl, rfl⟩) | exact .inl rfl | exact .inr ⟨_, rfl, rfl⟩ | refine .inr ⟨_, _, rfl, rfl, ?_⟩ | refine ⟨?_, ?_⟩)) (tSize _ (a ++ b) (by omega))) ?_ | refine CallE2.intro _ _ (tSize _ (a ++ b) (by omega)) ?_ | refine CallE2.intro _ _ (SCall.arg (by repeat (first | exact trivial | exact .inl (.inl rfl) | exact .inl (.inr ⟨_, rfl, rfl⟩) | exact .inl rfl | exact .inr ⟨_, rfl, rfl⟩ | refine .inr ⟨_, _, rfl, rfl, ?_⟩ | refine ⟨?_, ?_⟩)) (tSize _ (a ++ b) (by omega))) ?_)
  (repeat (first | simp -dsimp only [st_run, sz_run, st1_run, cl_run, st_Str, sz_Str, st1_Str, cl_Str, st_c, sz_c, st1_c, cl_c, st_attr, sz_attr, st1_attr, cl_attr, st_tree, sz_tree, st1_tree, cl_tree, RB, TB, keep7, tab7, ewOp, xop, xindexAddr, xindex, xslice, xconvert, xlen, drawStep, FreeW, SameW, ChangeW, limBytes, Nat.reduceBEq, Nat.reduceAdd, Nat.reduceEqDiff, Nat.reduceLT, Nat.reduceLeDiff, Nat.reduceMul, Nat.reduceSub, Int.reduceBEq, Int.reduceBNe, Int.reduceToNat, Int.reduceLT, Int.reduceLE, Int.reduceGT, Int.reduceGE, Int.reduceAdd, Int.reduceSub, Int.reduceNeg, Int.reduceEq, Int.toNat_zero, Int.toNat_one, reduceIte, reduceCtorEq, ne_eq, decide_true, decide_false] | ((with_reducible refine Need.intro ?_ ?_); (first | trivial | omega | (simp; done) | (simp; omega)))))
  (first | refine SCall.then (tSize _ a (by omega)) ?_ | refine SCall.thenA (tSize _ a (by omega)) (by repeat (first | exact trivial | exact .inl (.inl rfl) | exact .inl (.inr ⟨_, rfl, rfl⟩) | exact .inl rfl | exact .inr ⟨_, rfl, rfl⟩ | refine .inr ⟨_, _, rfl, rfl, ?_⟩ | refine ⟨?_, ?_⟩)) ?_ | refine CallE.intro _ (tSize _ a (by omega)) ?_ | refine CallE.introA (tSize _ a (by omega)) (by repeat (first | exact trivial | exact .inl (.inl rfl) | exact .inl (.inr ⟨_, rfl, rfl⟩) | exact .inl rfl | exact .inr ⟨_, rfl, rfl⟩ | refine .inr ⟨_, _, rfl, rfl, ?_⟩ | refine ⟨?_, ?_⟩)) ?_ | refine CallE.intro _ (fun _ => tSize _ a (by omega)) ?_ | refine CallE.intro _ (fun _ => SCall.arg (by repeat (first | exact trivial | exact .inl (.inl rfl) | exact .inl (.inr ⟨_, rfl, rfl⟩) | exact .inl rfl | exact .inr ⟨_, rfl, rfl⟩ | refine .inr ⟨_, _, rfl, rfl, ?_⟩ | refine ⟨?_, ?_⟩)) (tSize _ a (by omega))) ?_ | refine CallE2.intro _ _ (tSize _ a (by omega)) ?_ | refine CallE2.intro _ _ (SCall.arg (by repeat (first | exact trivial | exact .inl (.inl rfl) | exact .inl (.inr ⟨_, rfl, rfl⟩) | exact .inl rfl | exact .inr ⟨_, rfl, rfl⟩ | refine .inr ⟨_, _, rfl, rfl, ?_⟩ | refine ⟨?_, ?_⟩)) (tSize _ a (by omega))) ?_)
  (repeat (first | simp -dsimp only [st_run, sz_run, st1_run, cl_run, st_Str, sz_Str, st1_Str, cl_Str, st_c, sz_c, st1_c, cl_c, st_attr, sz_attr, st1_attr, cl_attr, st_tree, sz_tree, st1_tree, cl_tree, RB, TB, keep7, tab7, ewOp, xop, xindexAddr, xindex, xslice, xconvert, xlen, drawStep, FreeW, SameW, ChangeW, limBytes, Nat.reduceBEq, Nat.reduceAdd, Nat.reduceEqDiff, Nat.reduceLT, Nat.reduceLeDiff, Nat.reduceMul, Nat.reduceSub, Int.reduceBEq, Int.reduceBNe, Int.reduceToNat, Int.reduceLT, Int.reduceLE, Int.reduceGT, Int.reduceGE, Int.reduceAdd, Int.reduceSub, Int.reduceNeg, Int.reduceEq, Int.toNat_zero, Int.toNat_one, reduceIte, reduceCtorEq, ne_eq, decide_true, decide_false] | ((with_reducible refine Need.intro ?_ ?_); (first | trivial | omega | (simp; done) | (simp; omega)))))
  (first | refine SCall.then (tSize _ b (by omega)) ?_ | refine SCall.thenA (tSize _ b (by omega)) (by repeat (first | exact trivial | exact .inl (.inl rfl) | exact .inl (.inr ⟨_, rfl, rfl⟩) | exact .inl rfl | exact .inr ⟨_, rfl, rfl⟩ | refine .inr ⟨_, _, rfl, rfl, ?_⟩ | refine ⟨?_, ?_⟩)) ?_ | refine CallE.intro _ (tSize _ b (by omega)) ?_ | refine CallE.introA (tSize _ b (by omega)) (by repeat (first | exact trivial | exact .inl (.inl rfl) | exact .inl (.inr ⟨_, rfl, rfl⟩) | exact .inl rfl | exact .inr ⟨_, rfl, rfl⟩ | refine .inr ⟨_, _, rfl, rfl, ?_⟩ | refine ⟨?_, ?_⟩)) ?_ | refine CallE.intro _ (fun _ => tSize _ b (by omega)) ?_ | refine CallE.intro _ (fun _ => SCall.arg (by repeat (first | exact trivial | exact .inl (.inl rfl) | exact .inl (.inr ⟨_, rfl, rfl⟩) | exact .inl rfl | exact .inr ⟨_, rfl, rfl⟩ | refine .inr ⟨_, _, rfl, rfl, ?_⟩ | refine ⟨?_, ?_⟩)) (tSize _ b (by omega))) ?_ | refine CallE2.intro _ _ (tSize _ b (by omega)) ?_ | refine CallE2.intro _ _ (SCall.arg (by repeat (first | exact trivial | exact .inl (.inl rfl) | exact .inl (.inr ⟨_, rfl, rfl⟩) | exact .inl rfl | exact .inr ⟨_, rfl, rfl⟩ | refine .inr ⟨_, _, rfl, rfl, ?_⟩ | refine ⟨?_, ?_⟩)) (tSize _ b (by omega))) ?_)
  (repeat (first | simp -dsimp only [st_run, sz_run, st1_run, cl_run, st_Str, sz_Str, st1_Str, cl_Str, st_c, sz_c, st1_c, cl_c, st_attr, sz_attr, st1_attr, cl_attr, st_tree, sz_tree, st1_tree, cl_tree, RB, TB, keep7, tab7, ewOp, xop, xindexAddr, xindex, xslice, xconvert, xlen, drawStep, FreeW, SameW, ChangeW, limBytes, Nat.reduceBEq, Nat.reduceAdd, Nat.reduceEqDiff, Nat.reduceLT, Nat.reduceLeDiff, Nat.reduceMul, Nat.reduceSub, Int.reduceBEq, Int.reduceBNe, Int.reduceToNat, Int.reduceLT, Int.reduceLE, Int.reduceGT, Int.reduceGE, Int.reduceAdd, Int.reduceSub, Int.reduceNeg, Int.reduceEq, Int.toNat_zero, Int.toNat_one, reduceIte, reduceCtorEq, ne_eq, decide_true, decide_false] | ((with_reducible refine Need.intro ?_ ?_); (first | trivial | omega | (simp; done) | (simp; omega)))))
  rw [wrapI (by omega)]
  (first | refine SCall.then (tWords _ (a ++ b) (by omega)) ?_ | refine SCall.thenA (tWords _ (a ++ b) (by omega)) (by repeat (first | exact trivial | exact .inl (.inl rfl) | exact .inl (.inr ⟨_, rfl, rfl⟩) | exact .inl rfl | exact .inr ⟨_, rfl, rfl⟩ | refine .inr ⟨_, _, rfl, rfl, ?_⟩ | refine ⟨?_, ?_⟩)) ?_ | refine CallE.intro _ (tWords _ (a ++ b) (by omega)) ?_ | refine CallE.introA (tWords _ (a ++ b) (by omega)) (by repeat (first | exact trivial | exact .inl (.inl rfl) | exact .inl (.inr ⟨_, rfl, rfl⟩) | exact .inl rfl | exact .inr ⟨_, rfl, rfl⟩ | refine .inr ⟨_, _, rfl, rfl, ?_⟩ | refine ⟨?_, ?_⟩)) ?_ | refine CallE.intro _ (fun _ => tWords _ (a ++ b) (by omega)) ?_ | refine CallE.intro _ (fun _ => SCall.arg (by repeat (first | exact trivial | exact .inl (.inl rfl) | exact .inl (.inr ⟨_, rfl, rfl⟩) | exact .inl rfl | exact .inr ⟨_, rfl, rfl⟩ | refine .inr ⟨_, _, rfl, rfl, ?_⟩ | refine ⟨?_, ?_⟩)) (tWords _ (a ++ b) (by omega))) ?_ | refine CallE2.intro _ _ (tWords _ (a ++ b) (by omega)) ?_ | refine CallE2.intro _ _ (SCall.arg (by repeat (first | exact trivial | exact .inl (.inl rfl) | exact .inl (.inr ⟨_, rfl, rfl⟩) | exact .inl rfl | exact .inr ⟨_, rfl, rfl⟩ | refine .inr ⟨_, _, rfl, rfl, ?_⟩ | refine ⟨?_, ?_⟩)) (tWords _ (a ++ b) (by omega))) ?_)
  (repeat (first | simp -dsimp only [st_run, sz_run, st1_run, cl_run, st_Str, sz_Str, st1_Str, cl_Str, st_c, sz_c, st1_c, cl_c, st_attr, sz_attr, st1_attr, cl_attr, st_tree, sz_tree, st1_tree, cl_tree, strV, RB, TB, keep7, tab7, ewOp, xop, xindexAddr, xindex, xslice, xconvert, xlen, drawStep, FreeW, SameW, ChangeW, limBytes, Nat.reduceBEq, Nat.reduceAdd, Nat.reduceEqDiff, Nat.reduceLT, Nat.reduceLeDiff, Nat.reduceMul, Nat.reduceSub, Int.reduceBEq, Int.reduceBNe, Int.reduceToNat, Int.reduceLT, Int.reduceLE, Int.reduceGT, Int.reduceGE, Int.reduceAdd, Int.reduceSub, Int.reduceNeg, Int.reduceEq, Int.toNat_zero, Int.toNat_one, reduceIte, reduceCtorEq, ne_eq, decide_true, decide_false] | ((with_reducible refine Need.intro ?_ ?_); (first | trivial | omega | (simp; done) | (simp; omega)))))
  (first | refine SCall.then (tWords _ a (by omega)) ?_ | refine SCall.thenA (tWords _ a (by omega)) (by repeat (first | exact trivial | exact .inl (.inl rfl) | exact .inl (.inr ⟨_, rfl, rfl⟩) | exact .inl rfl | exact .inr ⟨_, rfl, rfl⟩ | refine .inr ⟨_, _, rfl, rfl, ?_⟩ | refine ⟨?_, ?_⟩)) ?_ | refine CallE.intro _ (tWords _ a (by omega)) ?_ | refine CallE.introA (tWords _ a (by omega)) (by repeat (first | exact trivial | exact .inl (.inl rfl) | exact .inl (.inr ⟨_, rfl, rfl⟩) | exact .inl rfl | exact .inr ⟨_, rfl, rfl⟩ | refine .inr ⟨_, _, rfl, rfl, ?_⟩ | refine ⟨?_, ?_⟩)) ?_ | refine CallE.intro _ (fun _ => tWords _ a (by omega)) ?_ | refine CallE.intro _ (fun _ => SCall.arg (by repeat (first | exact trivial | exact .inl (.inl rfl) | exact .inl (.inr ⟨_, rfl, rfl⟩) | exact .inl rfl | exact .inr ⟨_, rfl, rfl⟩ | refine .inr ⟨_, _, rfl, rfl, ?_⟩ | refine ⟨?_, ?_⟩)) (tWords _ a (by omega))) ?_ | refine CallE2.intro _ _ (tWords _ a (by omega)) ?_ | refine CallE2.intro _ _ (SCall.arg (by repeat (first | exact trivial | exact .inl (.inl rfl) | exact .inl (.inr ⟨_, rfl, rfl⟩) | exact .inl rfl | exact .inr ⟨_, rfl, rfl⟩ | refine .inr ⟨_, _, rfl, rfl, ?_⟩ | refine ⟨?_, ?_⟩)) (tWords _ a (by omega))) ?_)
  (repeat (first | simp -dsimp only [st_run, sz_run, st1_run, cl_run, st_Str, sz_Str, st1_Str, cl_Str, st_c, sz_c, st1_c, cl_c, st_attr, sz_attr, st1_attr, cl_attr, st_tree, sz_tree, st1_tree, cl_tree, strV, RB, TB, keep7, tab7, ewOp, xop, xindexAddr, xindex, xslice, xconvert, xlen, drawStep, FreeW, SameW, ChangeW, limBytes, Nat.reduceBEq, Nat.reduceAdd, Nat.reduceEqDiff, Nat.reduceLT, Nat.reduceLeDiff, Nat.reduceMul, Nat.reduceSub, Int.reduceBEq, Int.reduceBNe, Int.reduceToNat, Int.reduceLT, Int.reduceLE, Int.reduceGT, Int.reduceGE, Int.reduceAdd, Int.reduceSub, Int.reduceNeg, Int.reduceEq, Int.toNat_zero, Int.toNat_one, reduceIte, reduceCtorEq, ne_eq, decide_true, decide_false] | ((with_reducible refine Need.intro ?_ ?_); (first | trivial | omega | (simp; done) | (simp; omega)))))
  (first | refine SCall.then (tWords _ b (by omega)) ?_ | refine SCall.thenA (tWords _ b (by omega)) (by repeat (first | exact trivial | exact .inl (.inl rfl) | exact .inl (.inr ⟨_, rfl, rfl⟩) | exact .inl rfl | exact .inr ⟨_, rfl, rfl⟩ | refine .inr ⟨_, _, rfl, rfl, ?_⟩ | refine ⟨?_, ?_⟩)) ?_ | refine CallE.intro _ (tWords _ b (by omega)) ?_ | refine CallE.introA (tWords _ b (by omega)) (by repeat (first | exact trivial | exact .inl (.inl rfl) | exact .inl (.inr ⟨_, rfl, rfl⟩) | exact .inl rfl | exact .inr ⟨_, rfl, rfl⟩ | refine .inr ⟨_, _, rfl, rfl, ?_⟩ | refine ⟨?_, ?_⟩)) ?_ | refine CallE.intro _ (fun _ => tWords _ b (by omega)) ?_ | refine CallE.intro _ (fun _ => SCall.arg (by repeat (first | exact trivial | exact .inl (.inl rfl) | exact .inl (.inr ⟨_, rfl, rfl⟩) | exact .inl rfl | exact .inr ⟨_, rfl, rfl⟩ | refine .inr ⟨_, _, rfl, rfl, ?_⟩ | refine ⟨?_, ?_⟩)) (tWords _ b (by omega))) ?_ | refine CallE2.intro _ _ (tWords _ b (by omega)) ?_ | refine CallE2.intro _ _ (SCall.arg (by repeat (first | exact trivial | exact .inl (.inl rfl) | exact .inl (.inr ⟨_, rfl, rfl⟩) | exact .inl rfl | exact .inr ⟨_, rfl, rfl⟩ | refine .inr ⟨_, _, rfl, rfl, ?_⟩ | refine ⟨?_, ?_⟩)) (tWords _ b (by omega))) ?_)
  (repeat (first | simp -dsimp only [st_run, sz_run, st1_run, cl_run, st_Str, sz_Str, st1_Str, cl_Str, st_c, sz_c, st1_c, cl_c, st_attr, sz_attr, st1_attr, cl_attr, st_tree, sz_tree, st1_tree, cl_tree, strV, RB, TB, keep7, tab7, ewOp, xop, xindexAddr, xindex, xslice, xconvert, xlen, drawStep, FreeW, SameW, ChangeW, limBytes, Nat.reduceBEq, Nat.reduceAdd, Nat.reduceEqDiff, Nat.reduceLT, Nat.reduceLeDiff, Nat.reduceMul, Nat.reduceSub, Int.reduceBEq, Int.reduceBNe, Int.reduceToNat, Int.reduceLT, Int.reduceLE, Int.reduceGT, Int.reduceGE, Int.reduceAdd, Int.reduceSub, Int.reduceNeg, Int.reduceEq, Int.toNat_zero, Int.toNat_one, reduceIte, reduceCtorEq, ne_eq, decide_true, decide_false] | ((with_reducible refine Need.intro ?_ ?_); (first | trivial | omega | (simp; done) | (simp; omega)))))
  (first | refine SCall.then (mCat _ [catS (wordsF (visA a)), catS (wordsF (visA b))] (fun s hs => by rcases List.mem_cons.1 hs with rfl | hs; exact oa; rw [List.mem_singleton.1 hs]; exact ob) (by omega) (by simp)) ?_ | refine SCall.thenA (mCat _ [catS (wordsF (visA a)), catS (wordsF (visA b))] (fun s hs => by rcases List.mem_cons.1 hs with rfl | hs; exact oa; rw [List.mem_singleton.1 hs]; exact ob) (by omega) (by simp)) (by repeat (first | exact trivial | exact .inl (.inl rfl) | exact .inl (.inr ⟨_, rfl, rfl⟩) | exact .inl rfl | exact .inr ⟨_, rfl, rfl⟩ | refine .inr ⟨_, _, rfl, rfl, ?_⟩ | refine ⟨?_, ?_⟩)) ?_ | refine CallE.intro _ (mCat _ [catS (wordsF (visA a)), catS (wordsF (visA b))] (fun s hs => by rcases List.mem_cons.1 hs with rfl | hs; exact oa; rw [List.mem_singleton.1 hs]; exact ob) (by omega) (by simp)) ?_ | refine CallE.introA (mCat _ [catS (wordsF (visA a)), catS (wordsF (visA b))] (fun s hs => by rcases List.mem_cons.1 hs with rfl | hs; exact oa; rw [List.mem_singleton.1 hs]; exact ob) (by omega) (by simp)) (by repeat (first | exact trivial | exact .inl (.inl rfl) | exact .inl (.inr ⟨_, rfl, rfl⟩) | exact .inl rfl | exact .inr ⟨_, rfl, rfl⟩ | refine .inr ⟨_, _, rfl, rfl, ?_⟩ | refine ⟨?_, ?_⟩)) ?_ | refine CallE.intro _ (fun _ => mCat _ [catS (wordsF (visA a)), catS (wordsF (visA b))] (fun s hs => by rcases List.mem_cons.1 hs with rfl | hs; exact oa; rw [List.mem_singleton.1 hs]; exact ob) (by omega) (by simp)) ?_ | refine CallE.intro _ (fun _ => SCall.arg (by repeat (first | exact trivial | exact .inl (.inl rfl) | exact .inl (.inr ⟨_, rfl, rfl⟩) | exact .inl rfl | exact .inr ⟨_, rfl, rfl⟩ | refine .inr ⟨_, _, rfl, rfl, ?_⟩ | refine ⟨?_, ?_⟩)) (mCat _ [catS (wordsF (visA a)), catS (wordsF (visA b))] (fun s hs => by rcases List.mem_cons.1 hs with rfl | hs; exact oa; rw [List.mem_singleton.1 hs]; exact ob) (by omega) (by simp))) ?_ | refine CallE2.intro _ _ (mCat _ [catS (wordsF (visA a)), catS (wordsF (visA b))] (fun s hs => by rcases List.mem_cons.1 hs with rfl | hs; exact oa; rw [List.mem_singleton.1 hs]; exact ob) (by omega) (by simp)) ?_ | refine CallE2.intro _ _ (SCall.arg (by repeat (first | exact trivial | exact .inl (.inl rfl) | exact .inl (.inr ⟨_, rfl, rfl⟩) | exact .inl rfl | exact .inr ⟨_, rfl, rfl⟩ | refine .inr ⟨_, _, rfl, rfl, ?_⟩ | refine ⟨?_, ?_⟩)) (mCat _ [catS (wordsF (visA a)), catS (wordsF (visA b))] (fun s hs => by rcases List.mem_cons.1 hs with rfl | hs; exact oa; rw [List.mem_singleton.1 hs]; exact ob) (by omega) (by simp))) ?_)
  (repeat (first | simp -dsimp only [st_run, sz_run, st1_run, cl_run, st_Str, sz_Str, st1_Str, cl_Str, st_c, sz_c, st1_c, cl_c, st_attr, sz_attr, st1_attr, cl_attr, st_tree, sz_tree, st1_tree, cl_tree, strV, RB, TB, keep7, tab7, ewOp, xop, xindexAddr, xindex, xslice, xconvert, xlen, drawStep, FreeW, SameW, ChangeW, limBytes, Nat.reduceBEq, Nat.reduceAdd, Nat.reduceEqDiff, Nat.reduceLT, Nat.reduceLeDiff, Nat.reduceMul, Nat.reduceSub, Int.reduceBEq, Int.reduceBNe, Int.reduceToNat, Int.reduceLT, Int.reduceLE, Int.reduceGT, Int.reduceGE, Int.reduceAdd, Int.reduceSub, Int.reduceNeg, Int.reduceEq, Int.toNat_zero, Int.toNat_one, reduceIte, reduceCtorEq, ne_eq, decide_true, decide_false] | ((with_reducible refine Need.intro ?_ ?_); (first | trivial | omega | (simp; done) | (simp; omega)))))
  (first | refine SCall.then (mSame _ _ _ oab occ) ?_ | refine SCall.thenA (mSame _ _ _ oab occ) (by repeat (first | exact trivial | exact .inl (.inl rfl) | exact .inl (.inr ⟨_, rfl, rfl⟩) | exact .inl rfl | exact .inr ⟨_, rfl, rfl⟩ | refine .inr ⟨_, _, rfl, rfl, ?_⟩ | refine ⟨?_, ?_⟩)) ?_ | refine CallE.intro _ (mSame _ _ _ oab occ) ?_ | refine CallE.introA (mSame _ _ _ oab occ) (by repeat (first | exact trivial | exact .inl (.inl rfl) | exact .inl (.inr ⟨_, rfl, rfl⟩) | exact .inl rfl | exact .inr ⟨_, rfl, rfl⟩ | refine .inr ⟨_, _, rfl, rfl, ?_⟩ | refine ⟨?_, ?_⟩)) ?_ | refine CallE.intro _ (fun _ => mSame _ _ _ oab occ) ?_ | refine CallE.intro _ (fun _ => SCall.arg (by repeat (first | exact trivial | exact .inl (.inl rfl) | exact .inl (.inr ⟨_, rfl, rfl⟩) | exact .inl rfl | exact .inr ⟨_, rfl, rfl⟩ | refine .inr ⟨_, _, rfl, rfl, ?_⟩ | refine ⟨?_, ?_⟩)) (mSame _ _ _ oab occ)) ?_ | refine CallE2.intro _ _ (mSame _ _ _ oab occ) ?_ | refine CallE2.intro _ _ (SCall.arg (by repeat (first | exact trivial | exact .inl (.inl rfl) | exact .inl (.inr ⟨_, rfl, rfl⟩) | exact .inl rfl | exact .inr ⟨_, rfl, rfl⟩ | refine .inr ⟨_, _, rfl, rfl, ?_⟩ | refine ⟨?_, ?_⟩)) (mSame _ _ _ oab occ)) ?_)
  (repeat (first | simp -dsimp only [st_run, sz_run, st1_run, cl_run, st_Str, sz_Str, st1_Str, cl_Str, st_c, sz_c, st1_c, cl_c, st_attr, sz_attr, st1_attr, cl_attr, st_tree, sz_tree, st1_tree, cl_tree, e5, RB, TB, keep7, tab7, ewOp, xop, xindexAddr, xindex, xslice, xconvert, xlen, drawStep, FreeW, SameW, ChangeW, limBytes, Nat.reduceBEq, Nat.reduceAdd, Nat.reduceEqDiff, Nat.reduceLT, Nat.reduceLeDiff, Nat.reduceMul, Nat.reduceSub, Int.reduceBEq, Int.reduceBNe, Int.reduceToNat, Int.reduceLT, Int.reduceLE, Int.reduceGT, Int.reduceGE, Int.reduceAdd, Int.reduceSub, Int.reduceNeg, Int.reduceEq, Int.toNat_zero, Int.toNat_one, reduceIte, reduceCtorEq, ne_eq, decide_true, decide_false] | ((with_reducible refine Need.intro ?_ ?_); (first | trivial | omega | (simp; done) | (simp; omega)))))
  (first | refine SCall.then (tTags _ (a ++ b) (by omega)) ?_ | refine SCall.thenA (tTags _ (a ++ b) (by omega)) (by repeat (first | exact trivial | exact .inl (.inl rfl) | exact .inl (.inr ⟨_, rfl, rfl⟩) | exact .inl rfl | exact .inr ⟨_, rfl, rfl⟩ | refine .inr ⟨_, _, rfl, rfl, ?_⟩ | refine ⟨?_, ?_⟩)) ?_ | refine CallE.intro _ (tTags _ (a ++ b) (by omega)) ?_ | refine CallE.introA (tTags _ (a ++ b) (by omega)) (by repeat (first | exact trivial | exact .inl (.inl rfl) | exact .inl (.inr ⟨_, rfl, rfl⟩) | exact .inl rfl | exact .inr ⟨_, rfl, rfl⟩ | refine .inr ⟨_, _, rfl, rfl, ?_⟩ | refine ⟨?_, ?_⟩)) ?_ | refine CallE.intro _ (fun _ => tTags _ (a ++ b) (by omega)) ?_ | refine CallE.intro _ (fun _ => SCall.arg (by repeat (first | exact trivial | exact .inl (.inl rfl) | exact .inl (.inr ⟨_, rfl, rfl⟩) | exact .inl rfl | exact .inr ⟨_, rfl, rfl⟩ | refine .inr ⟨_, _, rfl, rfl, ?_⟩ | refine ⟨?_, ?_⟩)) (tTags _ (a ++ b) (by omega))) ?_ | refine CallE2.intro _ _ (tTags _ (a ++ b) (by omega)) ?_ | refine CallE2.intro _ _ (SCall.arg (by repeat (first | exact trivial | exact .inl (.inl rfl) | exact .inl (.inr ⟨_, rfl, rfl⟩) | exact .inl rfl | exact .inr ⟨_, rfl, rfl⟩ | refine .inr ⟨_, _, rfl, rfl, ?_⟩ | refine ⟨?_, ?_⟩)) (tTags _ (a ++ b) (by omega))) ?_)
  (repeat (first | simp -dsimp only [st_run, sz_run, st1_run, cl_run, st_Str, sz_Str, st1_Str, cl_Str, st_c, sz_c, st1_c, cl_c, st_attr, sz_attr, st1_attr, cl_attr, st_tree, sz_tree, st1_tree, cl_tree, RB, TB, keep7, tab7, ewOp, xop, xindexAddr, xindex, xslice, xconvert, xlen, drawStep, FreeW, SameW, ChangeW, limBytes, Nat.reduceBEq, Nat.reduceAdd, Nat.reduceEqDiff, Nat.reduceLT, Nat.reduceLeDiff, Nat.reduceMul, Nat.reduceSub, Int.reduceBEq, Int.reduceBNe, Int.reduceToNat, Int.reduceLT, Int.reduceLE, Int.reduceGT, Int.reduceGE, Int.reduceAdd, Int.reduceSub, Int.reduceNeg, Int.reduceEq, Int.toNat_zero, Int.toNat_one, reduceIte, reduceCtorEq, ne_eq, decide_true, decide_false] | ((with_reducible refine Need.intro ?_ ?_); (first | trivial | omega | (simp; done) | (simp; omega)))))
  refine SCall.mono (tTagsV _ a (by omega)) ?_
  rintro _ _ ⟨ver, rfl, rfl⟩
  (repeat (first | simp -dsimp only [st_run, sz_run, st1_run, cl_run, st_Str, sz_Str, st1_Str, cl_Str, st_c, sz_c, st1_c, cl_c, st_attr, sz_attr, st1_attr, cl_attr, st_tree, sz_tree, st1_tree, cl_tree, RB, TB, keep7, tab7, ewOp, xop, xindexAddr, xindex, xslice, xconvert, xlen, drawStep, FreeW, SameW, ChangeW, limBytes, Nat.reduceBEq, Nat.reduceAdd, Nat.reduceEqDiff, Nat.reduceLT, Nat.reduceLeDiff, Nat.reduceMul, Nat.reduceSub, Int.reduceBEq, Int.reduceBNe, Int.reduceToNat, Int.reduceLT, Int.reduceLE, Int.reduceGT, Int.reduceGE, Int.reduceAdd, Int.reduceSub, Int.reduceNeg, Int.reduceEq, Int.toNat_zero, Int.toNat_one, reduceIte, reduceCtorEq, ne_eq, decide_true, decide_false] | ((with_reducible refine Need.intro ?_ ?_); (first | trivial | omega | (simp; done) | (simp; omega)))))
  (first | refine SCall.then (tTags _ b (by omega)) ?_ | refine SCall.thenA (tTags _ b (by omega)) (by repeat (first | exact trivial | exact .inl (.inl rfl) | exact .inl (.inr ⟨_, rfl, rfl⟩) | exact .inl rfl | exact .inr ⟨_, rfl, rfl⟩ | refine .inr ⟨_, _, rfl, rfl, ?_⟩ | refine ⟨?_, ?_⟩)) ?_ | refine CallE.intro _ (tTags _ b (by omega)) ?_ | refine CallE.introA (tTags _ b (by omega)) (by repeat (first | exact trivial | exact .inl (.inl rfl) | exact .inl (.inr ⟨_, rfl, rfl⟩) | exact .inl rfl | exact .inr ⟨_, rfl, rfl⟩ | refine .inr ⟨_, _, rfl, rfl, ?_⟩ | refine ⟨?_, ?_⟩)) ?_ | refine CallE.intro _ (fun _ => tTags _ b (by omega)) ?_ | refine CallE.intro _ (fun _ => SCall.arg (by repeat (first | exact trivial | exact .inl (.inl rfl) | exact .inl (.inr ⟨_, rfl, rfl⟩) | exact .inl rfl | exact .inr ⟨_, rfl, rfl⟩ | refine .inr ⟨_, _, rfl, rfl, ?_⟩ | refine ⟨?_, ?_⟩)) (tTags _ b (by omega))) ?_ | refine CallE2.intro _ _ (tTags _ b (by omega)) ?_ | refine CallE2.intro _ _ (SCall.arg (by repeat (first | exact trivial | exact .inl (.inl rfl) | exact .inl (.inr ⟨_, rfl, rfl⟩) | exact .inl rfl | exact .inr ⟨_, rfl, rfl⟩ | refine .inr ⟨_, _, rfl, rfl, ?_⟩ | refine ⟨?_, ?_⟩)) (tTags _ b (by omega))) ?_)
  (repeat (first | simp -dsimp only [st_run, sz_run, st1_run, cl_run, st_Str, sz_Str, st1_Str, cl_Str, st_c, sz_c, st1_c, cl_c, st_attr, sz_attr, st1_attr, cl_attr, st_tree, sz_tree, st1_tree, cl_tree, RB, TB, keep7, tab7, ewOp, xop, xindexAddr, xindex, xslice, xconvert, xlen, drawStep, FreeW, SameW, ChangeW, limBytes, Nat.reduceBEq, Nat.reduceAdd, Nat.reduceEqDiff, Nat.reduceLT, Nat.reduceLeDiff, Nat.reduceMul, Nat.reduceSub, Int.reduceBEq, Int.reduceBNe, Int.reduceToNat, Int.reduceLT, Int.reduceLE, Int.reduceGT, Int.reduceGE, Int.reduceAdd, Int.reduceSub, Int.reduceNeg, Int.reduceEq, Int.toNat_zero, Int.toNat_one, reduceIte, reduceCtorEq, ne_eq, decide_true, decide_false] | ((with_reducible refine Need.intro ?_ ?_); (first | trivial | omega | (simp; done) | (simp; omega)))))
  have hta := tagsF_len (visA a)
  have htb := tagsF_len (visA b)
  (repeat (first | simp -dsimp only [st_run, sz_run, st1_run, cl_run, st_Str, sz_Str, st1_Str, cl_Str, st_c, sz_c, st1_c, cl_c, st_attr, sz_attr, st1_attr, cl_attr, st_tree, sz_tree, st1_tree, cl_tree, RB, TB, keep7, tab7, ewOp, xop, xindexAddr, xindex, xslice, xconvert, xlen, drawStep, FreeW, SameW, ChangeW, limBytes, Nat.reduceBEq, Nat.reduceAdd, Nat.reduceEqDiff, Nat.reduceLT, Nat.reduceLeDiff, Nat.reduceMul, Nat.reduceSub, Int.reduceBEq, Int.reduceBNe, Int.reduceToNat, Int.reduceLT, Int.reduceLE, Int.reduceGT, Int.reduceGE, Int.reduceAdd, Int.reduceSub, Int.reduceNeg, Int.reduceEq, Int.toNat_zero, Int.toNat_one, reduceIte, reduceCtorEq, ne_eq, decide_true, decide_false] | ((with_reducible refine Need.intro ?_ ?_); (first | trivial | omega | (simp; done) | (simp; omega)))))
  refine SCall.freeze 1 (l := (tagsF (visA a) ++ tagsF (visA b)).map V.str) (by rfl) ?_ ?_ ?_
  · apply Exists.intro; (try simp only [RB, List.map_append, List.map_cons, List.map_nil, limBytes, Nat.reduceBEq, Nat.reduceAdd, Nat.reduceEqDiff, Nat.reduceLT, Nat.reduceLeDiff, Nat.reduceMul, Nat.reduceSub, Int.reduceBEq, Int.reduceBNe, Int.reduceToNat, Int.reduceLT, Int.reduceLE, Int.reduceGT, Int.reduceGE, Int.reduceAdd, Int.reduceSub, Int.reduceNeg, Int.reduceEq, Int.toNat_zero, Int.toNat_one, reduceIte, reduceCtorEq, ne_eq, decide_true, decide_false]); first | rfl | (simp; done) | (simp; rfl)
  · first | rfl | (simp; done) | (simp; omega)
  (try simp only [RB, limBytes, Nat.reduceBEq, Nat.reduceAdd, Nat.reduceEqDiff, Nat.reduceLT, Nat.reduceLeDiff, Nat.reduceMul, Nat.reduceSub, Int.reduceBEq, Int.reduceBNe, Int.reduceToNat, Int.reduceLT, Int.reduceLE, Int.reduceGT, Int.reduceGE, Int.reduceAdd, Int.reduceSub, Int.reduceNeg, Int.reduceEq, Int.toNat_zero, Int.toNat_one, reduceIte, reduceCtorEq, ne_eq, decide_true, decide_false])
  (first | refine SCall.then (plTexts _ (tagsF (visA (a ++ b))) (tagsF (visA a) ++ tagsF (visA b))) ?_ | refine SCall.thenA (plTexts _ (tagsF (visA (a ++ b))) (tagsF (visA a) ++ tagsF (visA b))) (by repeat (first | exact trivial | exact .inl (.inl rfl) | exact .inl (.inr ⟨_, rfl, rfl⟩) | exact .inl rfl | exact .inr ⟨_, rfl, rfl⟩ | refine .inr ⟨_, _, rfl, rfl, ?_⟩ | refine ⟨?_, ?_⟩)) ?_ | refine CallE.intro _ (plTexts _ (tagsF (visA (a ++ b))) (tagsF (visA a) ++ tagsF (visA b))) ?_ | refine CallE.introA (plTexts _ (tagsF (visA (a ++ b))) (tagsF (visA a) ++ tagsF (visA b))) (by repeat (first | exact trivial | exact .inl (.inl rfl) | exact .inl (.inr ⟨_, rfl, rfl⟩) | exact .inl rfl | exact .inr ⟨_, rfl, rfl⟩ | refine .inr ⟨_, _, rfl, rfl, ?_⟩ | refine ⟨?_, ?_⟩)) ?_ | refine CallE.intro _ (fun _ => plTexts _ (tagsF (visA (a ++ b))) (tagsF (visA a) ++ tagsF (visA b))) ?_ | refine CallE.intro _ (fun _ => SCall.arg (by repeat (first | exact trivial | exact .inl (.inl rfl) | exact .inl (.inr ⟨_, rfl, rfl⟩) | exact .inl rfl | exact .inr ⟨_, rfl, rfl⟩ | refine .inr ⟨_, _, rfl, rfl, ?_⟩ | refine ⟨?_, ?_⟩)) (plTexts _ (tagsF (visA (a ++ b))) (tagsF (visA a) ++ tagsF (visA b)))) ?_ | refine CallE2.intro _ _ (plTexts _ (tagsF (visA (a ++ b))) (tagsF (visA a) ++ tagsF (visA b))) ?_ | refine CallE2.intro _ _ (SCall.arg (by repeat (first | exact trivial | exact .inl (.inl rfl) | exact .inl (.inr ⟨_, rfl, rfl⟩) | exact .inl rfl | exact .inr ⟨_, rfl, rfl⟩ | refine .inr ⟨_, _, rfl, rfl, ?_⟩ | refine ⟨?_, ?_⟩)) (plTexts _ (tagsF (visA (a ++ b))) (tagsF (visA a) ++ tagsF (visA b)))) ?_)
  (repeat (first | simp -dsimp only [st_run, sz_run, st1_run, cl_run, st_Str, sz_Str, st1_Str, cl_Str, st_c, sz_c, st1_c, cl_c, st_attr, sz_attr, st1_attr, cl_attr, st_tree, sz_tree, st1_tree, cl_tree, show decide (tagsF (visA (a ++ b)) = tagsF (visA a) ++ tagsF (visA b)) = true from decide_eq_true htj, RB, TB, keep7, tab7, ewOp, xop, xindexAddr, xindex, xslice, xconvert, xlen, drawStep, FreeW, SameW, ChangeW, limBytes, Nat.reduceBEq, Nat.reduceAdd, Nat.reduceEqDiff, Nat.reduceLT, Nat.reduceLeDiff, Nat.reduceMul, Nat.reduceSub, Int.reduceBEq, Int.reduceBNe, Int.reduceToNat, Int.reduceLT, Int.reduceLE, Int.reduceGT, Int.reduceGE, Int.reduceAdd, Int.reduceSub, Int.reduceNeg, Int.reduceEq, Int.toNat_zero, Int.toNat_one, reduceIte, reduceCtorEq, ne_eq, decide_true, decide_false] | ((with_reducible refine Need.intro ?_ ?_); (first | trivial | omega | (simp; done) | (simp; omega)))))
  rcases hcj with hc | hc
  · have q1 : (((visA (a ++ b)).length : Int) == ((visA a).length : Int) + ((visA b).length : Int)) = true := beq_iff_eq.2 (by omega)
    (repeat (first | simp -dsimp only [st_run, sz_run, st1_run, cl_run, st_Str, sz_Str, st1_Str, cl_Str, st_c, sz_c, st1_c, cl_c, st_attr, sz_attr, st1_attr, cl_attr, st_tree, sz_tree, st1_tree, cl_tree, q1, RB, TB, keep7, tab7, ewOp, xop, xindexAddr, xindex, xslice, xconvert, xlen, drawStep, FreeW, SameW, ChangeW, limBytes, Nat.reduceBEq, Nat.reduceAdd, Nat.reduceEqDiff, Nat.reduceLT, Nat.reduceLeDiff, Nat.reduceMul, Nat.reduceSub, Int.reduceBEq, Int.reduceBNe, Int.reduceToNat, Int.reduceLT, Int.reduceLE, Int.reduceGT, Int.reduceGE, Int.reduceAdd, Int.reduceSub, Int.reduceNeg, Int.reduceEq, Int.toNat_zero, Int.toNat_one, reduceIte, reduceCtorEq, ne_eq, decide_true, decide_false] | ((with_reducible refine Need.intro ?_ ?_); (first | trivial | omega | (simp; done) | (simp; omega)))))
    (first | refine SCall.then (tDepth _ (a ++ b) (by omega)) ?_ | refine SCall.thenA (tDepth _ (a ++ b) (by omega)) (by repeat (first | exact trivial | exact .inl (.inl rfl) | exact .inl (.inr ⟨_, rfl, rfl⟩) | exact .inl rfl | exact .inr ⟨_, rfl, rfl⟩ | refine .inr ⟨_, _, rfl, rfl, ?_⟩ | refine ⟨?_, ?_⟩)) ?_ | refine CallE.intro _ (tDepth _ (a ++ b) (by omega)) ?_ | refine CallE.introA (tDepth _ (a ++ b) (by omega)) (by repeat (first | exact trivial | exact .inl (.inl rfl) | exact .inl (.inr ⟨_, rfl, rfl⟩) | exact .inl rfl | exact .inr ⟨_, rfl, rfl⟩ | refine .inr ⟨_, _, rfl, rfl, ?_⟩ | refine ⟨?_, ?_⟩)) ?_ | refine CallE.intro _ (fun _ => tDepth _ (a ++ b) (by omega)) ?_ | refine CallE.intro _ (fun _ => SCall.arg (by repeat (first | exact trivial | exact .inl (.inl rfl) | exact .inl (.inr ⟨_, rfl, rfl⟩) | exact .inl rfl | exact .inr ⟨_, rfl, rfl⟩ | refine .inr ⟨_, _, rfl, rfl, ?_⟩ | refine ⟨?_, ?_⟩)) (tDepth _ (a ++ b) (by omega))) ?_ | refine CallE2.intro _ _ (tDepth _ (a ++ b) (by omega)) ?_ | refine CallE2.intro _ _ (SCall.arg (by repeat (first | exact trivial | exact .inl (.inl rfl) | exact .inl (.inr ⟨_, rfl, rfl⟩) | exact .inl rfl | exact .inr ⟨_, rfl, rfl⟩ | refine .inr ⟨_, _, rfl, rfl, ?_⟩ | refine ⟨?_, ?_⟩)) (tDepth _ (a ++ b) (by omega))) ?_)
    (repeat (first | simp -dsimp only [st_run, sz_run, st1_run, cl_run, st_Str, sz_Str, st1_Str, cl_Str, st_c, sz_c, st1_c, cl_c, st_attr, sz_attr, st1_attr, cl_attr, st_tree, sz_tree, st1_tree, cl_tree, RB, TB, keep7, tab7, ewOp, xop, xindexAddr, xindex, xslice, xconvert, xlen, drawStep, FreeW, SameW, ChangeW, limBytes, Nat.reduceBEq, Nat.reduceAdd, Nat.reduceEqDiff, Nat.reduceLT, Nat.reduceLeDiff, Nat.reduceMul, Nat.reduceSub, Int.reduceBEq, Int.reduceBNe, Int.reduceToNat, Int.reduceLT, Int.reduceLE, Int.reduceGT, Int.reduceGE, Int.reduceAdd, Int.reduceSub, Int.reduceNeg, Int.reduceEq, Int.toNat_zero, Int.toNat_one, reduceIte, reduceCtorEq, ne_eq, decide_true, decide_false] | ((with_reducible refine Need.intro ?_ ?_); (first | trivial | omega | (simp; done) | (simp; omega)))))
    (first | refine SCall.then (tDepth _ a (by omega)) ?_ | refine SCall.thenA (tDepth _ a (by omega)) (by repeat (first | exact trivial | exact .inl (.inl rfl) | exact .inl (.inr ⟨_, rfl, rfl⟩) | exact .inl rfl | exact .inr ⟨_, rfl, rfl⟩ | refine .inr ⟨_, _, rfl, rfl, ?_⟩ | refine ⟨?_, ?_⟩)) ?_ | refine CallE.intro _ (tDepth _ a (by omega)) ?_ | refine CallE.introA (tDepth _ a (by omega)) (by repeat (first | exact trivial | exact .inl (.inl rfl) | exact .inl (.inr ⟨_, rfl, rfl⟩) | exact .inl rfl | exact .inr ⟨_, rfl, rfl⟩ | refine .inr ⟨_, _, rfl, rfl, ?_⟩ | refine ⟨?_, ?_⟩)) ?_ | refine CallE.intro _ (fun _ => tDepth _ a (by omega)) ?_ | refine CallE.intro _ (fun _ => SCall.arg (by repeat (first | exact trivial | exact .inl (.inl rfl) | exact .inl (.inr ⟨_, rfl, rfl⟩) | exact .inl rfl | exact .inr ⟨_, rfl, rfl⟩ | refine .inr ⟨_, _, rfl, rfl, ?_⟩ | refine ⟨?_, ?_⟩)) (tDepth _ a (by omega))) ?_ | refine CallE2.intro _ _ (tDepth _ a (by omega)) ?_ | refine CallE2.intro _ _ (SCall.arg (by repeat (first | exact trivial | exact .inl (.inl rfl) | exact .inl (.inr ⟨_, rfl, rfl⟩) | exact .inl rfl | exact .inr ⟨_, rfl, rfl⟩ | refine .inr ⟨_, _, rfl, rfl, ?_⟩ | refine ⟨?_, ?_⟩)) (tDepth _ a (by omega))) ?_)
    (repeat (first | simp -dsimp only [st_run, sz_run, st1_run, cl_run, st_Str, sz_Str, st1_Str, cl_Str, st_c, sz_c, st1_c, cl_c, st_attr, sz_attr, st1_attr, cl_attr, st_tree, sz_tree, st1_tree, cl_tree, RB, TB, keep7, tab7, ewOp, xop, xindexAddr, xindex, xslice, xconvert, xlen, drawStep, FreeW, SameW, ChangeW, limBytes, Nat.reduceBEq, Nat.reduceAdd, Nat.reduceEqDiff, Nat.reduceLT, Nat.reduceLeDiff, Nat.reduceMul, Nat.reduceSub, Int.reduceBEq, Int.reduceBNe, Int.reduceToNat, Int.reduceLT, Int.reduceLE, Int.reduceGT, Int.reduceGE, Int.reduceAdd, Int.reduceSub, Int.reduceNeg, Int.reduceEq, Int.toNat_zero, Int.toNat_one, reduceIte, reduceCtorEq, ne_eq, decide_true, decide_false] | ((with_reducible refine Need.intro ?_ ?_); (first | trivial | omega | (simp; done) | (simp; omega)))))
    (first | refine SCall.then (tDepth _ b (by omega)) ?_ | refine SCall.thenA (tDepth _ b (by omega)) (by repeat (first | exact trivial | exact .inl (.inl rfl) | exact .inl (.inr ⟨_, rfl, rfl⟩) | exact .inl rfl | exact .inr ⟨_, rfl, rfl⟩ | refine .inr ⟨_, _, rfl, rfl, ?_⟩ | refine ⟨?_, ?_⟩)) ?_ | refine CallE.intro _ (tDepth _ b (by omega)) ?_ | refine CallE.introA (tDepth _ b (by omega)) (by repeat (first | exact trivial | exact .inl (.inl rfl) | exact .inl (.inr ⟨_, rfl, rfl⟩) | exact .inl rfl | exact .inr ⟨_, rfl, rfl⟩ | refine .inr ⟨_, _, rfl, rfl, ?_⟩ | refine ⟨?_, ?_⟩)) ?_ | refine CallE.intro _ (fun _ => tDepth _ b (by omega)) ?_ | refine CallE.intro _ (fun _ => SCall.arg (by repeat (first | exact trivial | exact .inl (.inl rfl) | exact .inl (.inr ⟨_, rfl, rfl⟩) | exact .inl rfl | exact .inr ⟨_, rfl, rfl⟩ | refine .inr ⟨_, _, rfl, rfl, ?_⟩ | refine ⟨?_, ?_⟩)) (tDepth _ b (by omega))) ?_ | refine CallE2.intro _ _ (tDepth _ b (by omega)) ?_ | refine CallE2.intro _ _ (SCall.arg (by repeat (first | exact trivial | exact .inl (.inl rfl) | exact .inl (.inr ⟨_, rfl, rfl⟩) | exact .inl rfl | exact .inr ⟨_, rfl, rfl⟩ | refine .inr ⟨_, _, rfl, rfl, ?_⟩ | refine ⟨?_, ?_⟩)) (tDepth _ b (by omega))) ?_)
    (repeat (first | simp -dsimp only [st_run, sz_run, st1_run, cl_run, st_Str, sz_Str, st1_Str, cl_Str, st_c, sz_c, st1_c, cl_c, st_attr, sz_attr, st1_attr, cl_attr, st_tree, sz_tree, st1_tree, cl_tree, hdj, beq_self_eq_true, RB, TB, keep7, tab7, ewOp, xop, xindexAddr, xindex, xslice, xconvert, xlen, drawStep, FreeW, SameW, ChangeW, limBytes, Nat.reduceBEq, Nat.reduceAdd, Nat.reduceEqDiff, Nat.reduceLT, Nat.reduceLeDiff, Nat.reduceMul, Nat.reduceSub, Int.reduceBEq, Int.reduceBNe, Int.reduceToNat, Int.reduceLT, Int.reduceLE, Int.reduceGT, Int.reduceGE, Int.reduceAdd, Int.reduceSub, Int.reduceNeg, Int.reduceEq, Int.toNat_zero, Int.toNat_one, reduceIte, reduceCtorEq, ne_eq, decide_true, decide_false] | ((with_reducible refine Need.intro ?_ ?_); (first | trivial | omega | (simp; done) | (simp; omega)))))
    refine RetW.auto0 false _ (by first | rfl | exact (List.append_nil _).symm) ?_ ?_
    · (simp (maxDischargeDepth := 6) [LTB, HLt_set, ltL_take, ltL_drop, ltL_rep, ltL_set, upd, eset, hH, hHk, lt_vi, lt_str, lt_vb, ltc_str, ltc_vi, lt_run, lt1_run, ltc_run, lt_Str, lt1_Str, ltc_Str, lt_c, lt1_c, ltc_c, lt_attr, lt1_attr, ltc_attr, lt_tree, lt1_tree, ltc_tree] <;> omega)
    (try simp only [wk, wk1, wk0, RB, limBytes, Nat.reduceBEq, Nat.reduceAdd, Nat.reduceEqDiff, Nat.reduceLT, Nat.reduceLeDiff, Nat.reduceMul, Nat.reduceSub, Int.reduceBEq, Int.reduceBNe, Int.reduceToNat, Int.reduceLT, Int.reduceLE, Int.reduceGT, Int.reduceGE, Int.reduceAdd, Int.reduceSub, Int.reduceNeg, Int.reduceEq, Int.toNat_zero, Int.toNat_one, reduceIte, reduceCtorEq, ne_eq, decide_true, decide_false])
    (try (rw [List.take_of_length_le]; rotate_left 1; (· first | (simp; done) | (simp; omega) | omega)))
  · have q1 : (((visA (a ++ b)).length : Int) == ((visA a).length : Int) + ((visA b).length : Int)) = false := beq_eq_false_iff_ne.2 (by omega)
    (repeat (first | simp -dsimp only [st_run, sz_run, st1_run, cl_run, st_Str, sz_Str, st1_Str, cl_Str, st_c, sz_c, st1_c, cl_c, st_attr, sz_attr, st1_attr, cl_attr, st_tree, sz_tree, st1_tree, cl_tree, q1, RB, TB, keep7, tab7, ewOp, xop, xindexAddr, xindex, xslice, xconvert, xlen, drawStep, FreeW, SameW, ChangeW, limBytes, Nat.reduceBEq, Nat.reduceAdd, Nat.reduceEqDiff, Nat.reduceLT, Nat.reduceLeDiff, Nat.reduceMul, Nat.reduceSub, Int.reduceBEq, Int.reduceBNe, Int.reduceToNat, Int.reduceLT, Int.reduceLE, Int.reduceGT, Int.reduceGE, Int.reduceAdd, Int.reduceSub, Int.reduceNeg, Int.reduceEq, Int.toNat_zero, Int.toNat_one, reduceIte, reduceCtorEq, ne_eq, decide_true, decide_false] | ((with_reducible refine Need.intro ?_ ?_); (first | trivial | omega | (simp; done) | (simp; omega)))))
    rw [wrapI (by omega)]
    have q2 : (((visA (a ++ b)).length : Int) == ((visA a).length : Int) + ((visA b).length : Int) - 1) = true := beq_iff_eq.2 (by omega)
    (repeat (first | simp -dsimp only [st_run, sz_run, st1_run, cl_run, st_Str, sz_Str, st1_Str, cl_Str, st_c, sz_c, st1_c, cl_c, st_attr, sz_attr, st1_attr, cl_attr, st_tree, sz_tree, st1_tree, cl_tree, q2, RB, TB, keep7, tab7, ewOp, xop, xindexAddr, xindex, xslice, xconvert, xlen, drawStep, FreeW, SameW, ChangeW, limBytes, Nat.reduceBEq, Nat.reduceAdd, Nat.reduceEqDiff, Nat.reduceLT, Nat.reduceLeDiff, Nat.reduceMul, Nat.reduceSub, Int.reduceBEq, Int.reduceBNe, Int.reduceToNat, Int.reduceLT, Int.reduceLE, Int.reduceGT, Int.reduceGE, Int.reduceAdd, Int.reduceSub, Int.reduceNeg, Int.reduceEq, Int.toNat_zero, Int.toNat_one, reduceIte, reduceCtorEq, ne_eq, decide_true, decide_false] | ((with_reducible refine Need.intro ?_ ?_); (first | trivial | omega | (simp; done) | (simp; omega)))))
    (first | refine SCall.then (tDepth _ (a ++ b) (by omega)) ?_ | refine SCall.thenA (tDepth _ (a ++ b) (by omega)) (by repeat (first | exact trivial | exact .inl (.inl rfl) | exact .inl (.inr ⟨_, rfl, rfl⟩) | exact .inl rfl | exact .inr ⟨_, rfl, rfl⟩ | refine .inr ⟨_, _, rfl, rfl, ?_⟩ | refine ⟨?_, ?_⟩)) ?_ | refine CallE.intro _ (tDepth _ (a ++ b) (by omega)) ?_ | refine CallE.introA (tDepth _ (a ++ b) (by omega)) (by repeat (first | exact trivial | exact .inl (.inl rfl) | exact .inl (.inr ⟨_, rfl, rfl⟩) | exact .inl rfl | exact .inr ⟨_, rfl, rfl⟩ | refine .inr ⟨_, _, rfl, rfl, ?_⟩ | refine ⟨?_, ?_⟩)) ?_ | refine CallE.intro _ (fun _ => tDepth _ (a ++ b) (by omega)) ?_ | refine CallE.intro _ (fun _ => SCall.arg (by repeat (first | exact trivial | exact .inl (.inl rfl) | exact .inl (.inr ⟨_, rfl, rfl⟩) | exact .inl rfl | exact .inr ⟨_, rfl, rfl⟩ | refine .inr ⟨_, _, rfl, rfl, ?_⟩ | refine ⟨?_, ?_⟩)) (tDepth _ (a ++ b) (by omega))) ?_ | refine CallE2.intro _ _ (tDepth _ (a ++ b) (by omega)) ?_ | refine CallE2.intro _ _ (SCall.arg (by repeat (first | exact trivial | exact .inl (.inl rfl) | exact .inl (.inr ⟨_, rfl, rfl⟩) | exact .inl rfl | exact .inr ⟨_, rfl, rfl⟩ | refine .inr ⟨_, _, rfl, rfl, ?_⟩ | refine ⟨?_, ?_⟩)) (tDepth _ (a ++ b) (by omega))) ?_)
    (repeat (first | simp -dsimp only [st_run, sz_run, st1_run, cl_run, st_Str, sz_Str, st1_Str, cl_Str, st_c, sz_c, st1_c, cl_c, st_attr, sz_attr, st1_attr, cl_attr, st_tree, sz_tree, st1_tree, cl_tree, RB, TB, keep7, tab7, ewOp, xop, xindexAddr, xindex, xslice, xconvert, xlen, drawStep, FreeW, SameW, ChangeW, limBytes, Nat.reduceBEq, Nat.reduceAdd, Nat.reduceEqDiff, Nat.reduceLT, Nat.reduceLeDiff, Nat.reduceMul, Nat.reduceSub, Int.reduceBEq, Int.reduceBNe, Int.reduceToNat, Int.reduceLT, Int.reduceLE, Int.reduceGT, Int.reduceGE, Int.reduceAdd, Int.reduceSub, Int.reduceNeg, Int.reduceEq, Int.toNat_zero, Int.toNat_one, reduceIte, reduceCtorEq, ne_eq, decide_true, decide_false] | ((with_reducible refine Need.intro ?_ ?_); (first | trivial | omega | (simp; done) | (simp; omega)))))
    (first | refine SCall.then (tDepth _ a (by omega)) ?_ | refine SCall.thenA (tDepth _ a (by omega)) (by repeat (first | exact trivial | exact .inl (.inl rfl) | exact .inl (.inr ⟨_, rfl, rfl⟩) | exact .inl rfl | exact .inr ⟨_, rfl, rfl⟩ | refine .inr ⟨_, _, rfl, rfl, ?_⟩ | refine ⟨?_, ?_⟩)) ?_ | refine CallE.intro _ (tDepth _ a (by omega)) ?_ | refine CallE.introA (tDepth _ a (by omega)) (by repeat (first | exact trivial | exact .inl (.inl rfl) | exact .inl (.inr ⟨_, rfl, rfl⟩) | exact .inl rfl | exact .inr ⟨_, rfl, rfl⟩ | refine .inr ⟨_, _, rfl, rfl, ?_⟩ | refine ⟨?_, ?_⟩)) ?_ | refine CallE.intro _ (fun _ => tDepth _ a (by omega)) ?_ | refine CallE.intro _ (fun _ => SCall.arg (by repeat (first | exact trivial | exact .inl (.inl rfl) | exact .inl (.inr ⟨_, rfl, rfl⟩) | exact .inl rfl | exact .inr ⟨_, rfl, rfl⟩ | refine .inr ⟨_, _, rfl, rfl, ?_⟩ | refine ⟨?_, ?_⟩)) (tDepth _ a (by omega))) ?_ | refine CallE2.intro _ _ (tDepth _ a (by omega)) ?_ | refine CallE2.intro _ _ (SCall.arg (by repeat (first | exact trivial | exact .inl (.inl rfl) | exact .inl (.inr ⟨_, rfl, rfl⟩) | exact .inl rfl | exact .inr ⟨_, rfl, rfl⟩ | refine .inr ⟨_, _, rfl, rfl, ?_⟩ | refine ⟨?_, ?_⟩)) (tDepth _ a (by omega))) ?_)
    (repeat (first | simp -dsimp only [st_run, sz_run, st1_run, cl_run, st_Str, sz_Str, st1_Str, cl_Str, st_c, sz_c, st1_c, cl_c, st_attr, sz_attr, st1_attr, cl_attr, st_tree, sz_tree, st1_tree, cl_tree, RB, TB, keep7, tab7, ewOp, xop, xindexAddr, xindex, xslice, xconvert, xlen, drawStep, FreeW, SameW, ChangeW, limBytes, Nat.reduceBEq, Nat.reduceAdd, Nat.reduceEqDiff, Nat.reduceLT, Nat.reduceLeDiff, Nat.reduceMul, Nat.reduceSub, Int.reduceBEq, Int.reduceBNe, Int.reduceToNat, Int.reduceLT, Int.reduceLE, Int.reduceGT, Int.reduceGE, Int.reduceAdd, Int.reduceSub, Int.reduceNeg, Int.reduceEq, Int.toNat_zero, Int.toNat_one, reduceIte, reduceCtorEq, ne_eq, decide_true, decide_false] | ((with_reducible refine Need.intro ?_ ?_); (first | trivial | omega | (simp; done) | (simp; omega)))))
    (first | refine SCall.then (tDepth _ b (by omega)) ?_ | refine SCall.thenA (tDepth _ b (by omega)) (by repeat (first | exact trivial | exact .inl (.inl rfl) | exact .inl (.inr ⟨_, rfl, rfl⟩) | exact .inl rfl | exact .inr ⟨_, rfl, rfl⟩ | refine .inr ⟨_, _, rfl, rfl, ?_⟩ | refine ⟨?_, ?_⟩)) ?_ | refine CallE.intro _ (tDepth _ b (by omega)) ?_ | refine CallE.introA (tDepth _ b (by omega)) (by repeat (first | exact trivial | exact .inl (.inl rfl) | exact .inl (.inr ⟨_, rfl, rfl⟩) | exact .inl rfl | exact .inr ⟨_, rfl, rfl⟩ | refine .inr ⟨_, _, rfl, rfl, ?_⟩ | refine ⟨?_, ?_⟩)) ?_ | refine CallE.intro _ (fun _ => tDepth _ b (by omega)) ?_ | refine CallE.intro _ (fun _ => SCall.arg (by repeat (first | exact trivial | exact .inl (.inl rfl) | exact .inl (.inr ⟨_, rfl, rfl⟩) | exact .inl rfl | exact .inr ⟨_, rfl, rfl⟩ | refine .inr ⟨_, _, rfl, rfl, ?_⟩ | refine ⟨?_, ?_⟩)) (tDepth _ b (by omega))) ?_ | refine CallE2.intro _ _ (tDepth _ b (by omega)) ?_ | refine CallE2.intro _ _ (SCall.arg (by repeat (first | exact trivial | exact .inl (.inl rfl) | exact .inl (.inr ⟨_, rfl, rfl⟩) | exact .inl rfl | exact .inr ⟨_, rfl, rfl⟩ | refine .inr ⟨_, _, rfl, rfl, ?_⟩ | refine ⟨?_, ?_⟩)) (tDepth _ b (by omega))) ?_)
    (repeat (first | simp -dsimp only [st_run, sz_run, st1_run, cl_run, st_Str, sz_Str, st1_Str, cl_Str, st_c, sz_c, st1_c, cl_c, st_attr, sz_attr, st1_attr, cl_attr, st_tree, sz_tree, st1_tree, cl_tree, hdj, beq_self_eq_true, RB, TB, keep7, tab7, ewOp, xop, xindexAddr, xindex, xslice, xconvert, xlen, drawStep, FreeW, SameW, ChangeW, limBytes, Nat.reduceBEq, Nat.reduceAdd, Nat.reduceEqDiff, Nat.reduceLT, Nat.reduceLeDiff, Nat.reduceMul, Nat.reduceSub, Int.reduceBEq, Int.reduceBNe, Int.reduceToNat, Int.reduceLT, Int.reduceLE, Int.reduceGT, Int.reduceGE, Int.reduceAdd, Int.reduceSub, Int.reduceNeg, Int.reduceEq, Int.toNat_zero, Int.toNat_one, reduceIte, reduceCtorEq, ne_eq, decide_true, decide_false] | ((with_reducible refine Need.intro ?_ ?_); (first | trivial | omega | (simp; done) | (simp; omega)))))
    refine RetW.auto0 false _ (by first | rfl | exact (List.append_nil _).symm) ?_ ?_
    · (simp (maxDischargeDepth := 6) [LTB, HLt_set, ltL_take, ltL_drop, ltL_rep, ltL_set, upd, eset, hH, hHk, lt_vi, lt_str, lt_vb, ltc_str, ltc_vi, lt_run, lt1_run, ltc_run, lt_Str, lt1_Str, ltc_Str, lt_c, lt1_c, ltc_c, lt_attr, lt1_attr, ltc_attr, lt_tree, lt1_tree, ltc_tree] <;> omega)
    (try simp only [wk, wk1, wk0, RB, limBytes, Nat.reduceBEq, Nat.reduceAdd, Nat.reduceEqDiff, Nat.reduceLT, Nat.reduceLeDiff, Nat.reduceMul, Nat.reduceSub, Int.reduceBEq, Int.reduceBNe, Int.reduceToNat, Int.reduceLT, Int.reduceLE, Int.reduceGT, Int.reduceGE, Int.reduceAdd, Int.reduceSub, Int.reduceNeg, Int.reduceEq, Int.toNat_zero, Int.toNat_one, reduceIte, reduceCtorEq, ne_eq, decide_true, decide_false])
    (try (rw [List.take_of_length_le]; rotate_left 1; (· first | (simp; done) | (simp; omega) | omega)))
open Go.ChangeShapes Go.WideShapes Go.ChangeAt Go.RowKit in
theorem treeParts_lifted (os : Os) (started : os.Started) (H : Type) (enc : TypeId × Value → H) (F : Stop.Interp) :
    ReturnsInHanded {} Try.checked os 7 .any ((Rows.OpenSpec.upto Rows.treePartsSpec).pre6 enc Try.prog Try.f7 Rows.treePartsUptoRow.domain false) (((Rows.OpenSpec.upto Rows.treePartsSpec).at F).post enc Try.prog Try.f7 false true false false) := by
  refine returnsInHanded_of_cond (C := Try.checked) (s := Rows.OpenSpec.upto Rows.treePartsSpec) (k := Rows.uptoSmall) rfl own_none started (by kernel_rfl) Try.func7
    (OpenSpec.witness (enc := enc) (C := Try.checked) (s := Rows.OpenSpec.upto Rows.treePartsSpec) (k := Rows.uptoSmall) rfl false ⟨#[], #[.slice none 0 0, .slice none 0 0], []⟩ 8 (by kernel_rfl) (by kernel_rfl) (by kernel_rfl)
      (x := ([.nil, .nil], [], [])) (by kernel_rfl) rfl (by kernel_rfl)) ?_
  intro W base args ds gs before hval0 hW _ hk _
  have hval : ∀ (j : Nat) t v, Try.f7.params[j]? = some t → args[j]? = some v → Value.okWide Try.prog W .any base t v := hval0
  obtain ⟨p0_, q0_, hA, _⟩ := id hW
  have hA0 : DataW.TrodAll enc Try.prog W 0 (fun _ => true) true Try.f7.params.toList args.toList ds p0_ := hA
  rw [Try.params7] at hA0 hval
  obtain ⟨v0, v1, d0, d1, p0, p1, rfl, rfl, rfl, h0, h1⟩ := trodAll_two hA0
  obtain ⟨a, hp_a, hz_a, hv_a⟩ := dec_trees.value h0 (fun _ => okAgg_leaf (by simp) (ok_slice Try.underlying47 (hval 0 47 v0 rfl rfl)))
  obtain ⟨b, hp_b, hz_b, hv_b⟩ := dec_trees.value h1 (fun _ => okAgg_leaf (by simp) (ok_slice Try.underlying47 (hval 1 47 v1 rfl rfl)))
  have hb : Rows.uptoBulkAll ([d0, d1] ++ gs) ≤ 1048576 := of_decide_eq_true hk
  rw [← bulkAll_eq] at hb
  simp only [List.cons_append, bulkAll] at hb
  exact row_contract (P := Try.prog) (s := Rows.treePartsSpec) (vs := [.slice (a.map treeV), .slice (b.map treeV)]) laid_out (by kernel_rfl) rfl Try.call7 rfl Try.underlying4 hW ⟨rfl, rfl, rfl⟩ ⟨hv_a, hv_b, trivial⟩ (treeParts [] a b (by omega))
theorem treeParts_upto : Rows.TreePartsUptoSaid :=
  OpenClaim.holds_of_cond 7 Try.f7 rfl rfl rfl rfl rfl rfl rfl ⟨rfl, rfl, rfl, rfl, rfl⟩ rfl rfl rfl rfl rfl (by kernel_rfl) Try.func7 (by kernel_rfl)
    (of_decide_eq_true (by kernel_rfl)) (by unfold Func.isWrapper; first | (rw [if_neg (by decide +kernel)]; exact ⟨rfl, rfl⟩) | (rw [if_pos (by decide +kernel)]; kernel_rfl))
    (fun os started H enc _ F => treeParts_lifted os started H enc F)
end Go.Proofs.Ytjhjcldpcngldaa

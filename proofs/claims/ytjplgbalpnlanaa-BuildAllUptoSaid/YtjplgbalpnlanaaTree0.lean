/- Trees: what they are, and what they are merged to. -/
import Derived.Test.YtjplgbalpnlanaaAttrs3
import Derived.Test.YtjplgbalpnlanaaMark2
set_option maxHeartbeats 600000
set_option linter.unusedSimpArgs false
set_option linter.unusedVariables false
set_option maxRecDepth 100000
namespace Go.Proofs.Ytjplgbalpnlanaa
open Go Go.EL
theorem zrTree01 : type_of% (And.intro (And.intro (And.intro (And.intro (@st_run) (@sz_run)) (And.intro (@st1_run) (@cl_run))) (And.intro (And.intro (@st_Str) (@sz_Str)) (And.intro (@st1_Str) (@cl_Str)))) (And.intro (And.intro (And.intro (@st_c) (@sz_c)) (And.intro (@st1_c) (@cl_c))) (And.intro (And.intro (@st_attr) (@sz_attr)) (And.intro (@st1_attr) (@cl_attr))))) := And.intro (And.intro (And.intro (And.intro (@st_run) (@sz_run)) (And.intro (@st1_run) (@cl_run))) (And.intro (And.intro (@st_Str) (@sz_Str)) (And.intro (@st1_Str) (@cl_Str)))) (And.intro (And.intro (And.intro (@st_c) (@sz_c)) (And.intro (@st1_c) (@cl_c))) (And.intro (And.intro (@st_attr) (@sz_attr)) (And.intro (@st1_attr) (@cl_attr))))
theorem zlTree01 : type_of% (And.intro (And.intro (And.intro (And.intro (@lt_vi) (@lt_str)) (And.intro (@lt_vb) (@ltc_str))) (And.intro (And.intro (@ltc_vi) (@lt_run)) (And.intro (@lt1_run) (@ltc_run)))) (And.intro (And.intro (And.intro (@lt_Str) (@lt1_Str)) (And.intro (@ltc_Str) (@lt_c))) (And.intro (And.intro (@lt1_c) (@ltc_c)) (And.intro (@lt_attr) (And.intro (@lt1_attr) (@ltc_attr)))))) := And.intro (And.intro (And.intro (And.intro (@lt_vi) (@lt_str)) (And.intro (@lt_vb) (@ltc_str))) (And.intro (And.intro (@ltc_vi) (@lt_run)) (And.intro (@lt1_run) (@ltc_run)))) (And.intro (And.intro (And.intro (@lt_Str) (@lt1_Str)) (And.intro (@ltc_Str) (@lt_c))) (And.intro (And.intro (@lt1_c) (@ltc_c)) (And.intro (@lt_attr) (And.intro (@lt1_attr) (@ltc_attr)))))
inductive Tree where
  | mk (tag : Str) (attrs : List Attr) (kids : List Tree) (text : Str)
namespace Tree
def tag : Tree → Str | .mk a _ _ _ => a
def attrs : Tree → List Attr | .mk _ a _ _ => a
def kids : Tree → List Tree | .mk _ _ a _ => a
def text : Tree → Str | .mk _ _ _ a => a
end Tree
theorem Tree.eta (t : Tree) : t = .mk t.tag t.attrs t.kids t.text := by cases t; rfl
mutual
def treeV : Tree → V
  | .mk tag attrs kids text => .agg [.str tag.text, .slice (tag.runs.map runV), .slice (attrs.map attrV), .slice (treeVs kids), .str text.text, .slice (text.runs.map runV)]
def treeVs : List Tree → List V
  | [] => []
  | t :: l => treeV t :: treeVs l
end
theorem treeVs_map : ∀ l : List Tree, treeVs l = l.map treeV
  | [] => by simp only [treeVs, List.map_nil]
  | t :: l => by simp only [treeVs, List.map_cons, treeVs_map l]
theorem treeV_mk (tag : Str) (attrs : List Attr) (kids : List Tree) (text : Str) : treeV (.mk tag attrs kids text) = .agg [.str tag.text, .slice (tag.runs.map runV), .slice (attrs.map attrV), .slice (kids.map treeV), .str text.text, .slice (text.runs.map runV)] := by
  rw [treeV, treeVs_map]
theorem treeV_eq (t : Tree) : treeV t = .agg [.str t.tag.text, .slice (t.tag.runs.map runV), .slice (t.attrs.map attrV), .slice (t.kids.map treeV), .str t.text.text, .slice (t.text.runs.map runV)] := by
  cases t; exact treeV_mk _ _ _ _
mutual
theorem lt1_tree (n : Nat) : ∀ t : Tree, V.lt n (treeV t)
  | .mk tag attrs kids text => by
    rw [treeV]
    simp [V.lt, ltL, lt_run, lt_attr, lt_trees n kids]
theorem lt_trees (n : Nat) : ∀ l : List Tree, ltL n (treeVs l)
  | [] => by simp [treeVs, ltL]
  | t :: l => by simp [treeVs, ltL, lt1_tree n t, lt_trees n l]
end
theorem lt_tree (n : Nat) (l : List Tree) : ltL n (l.map treeV) := by rw [← treeVs_map]; exact lt_trees n l
theorem ltc_tree {α : Type} (n : Nat) (g : α → Tree) (l : List α) : ltL n (l.map (treeV ∘ g)) := ltL_map (f := treeV ∘ g) (fun x => lt1_tree n (g x)) l
theorem st_tree (l : List Tree) : (∀ x, x ∈ l.map treeV → x.storable) = True := eq_true (storable_map (f := treeV) (fun t => by rw [treeV_eq]; trivial) l)
theorem sz_tree (l : List Tree) : Sized 6 (l.map treeV) = True := eq_true (sizedMapV (f := treeV) (fun t => by rw [treeV_eq]; rfl) l)
theorem st1_tree (x : Tree) : (treeV x).storable = True := eq_true (by rw [treeV_eq]; trivial)
theorem cl_tree (x : Tree) : (treeV x).cells.length = 6 := by rw [treeV_eq]; rfl
/-! sizes -/
def szS' (s : Str) : Nat := s.text.length + s.runs.length + 1
def szA' (a : Attr) : Nat := szS' a.name + szS' a.value + 1
mutual
def szT : Tree → Nat
  | .mk tag attrs kids text => szS' tag + (attrs.map szA').sum + szTs kids + szS' text + 1
def szTs : List Tree → Nat
  | [] => 0
  | t :: l => szT t + szTs l
end
theorem szTs_append : ∀ a b : List Tree, szTs (a ++ b) = szTs a + szTs b
  | [], b => by simp [szTs]
  | t :: a, b => by simp only [List.cons_append, szTs, szTs_append a b]; omega
theorem szTs_mem : ∀ {l : List Tree} {t : Tree}, t ∈ l → szT t ≤ szTs l
  | u :: l, t, h => by
    simp only [szTs]
    rcases List.mem_cons.1 h with rfl | h
    · omega
    · have := szTs_mem h; omega
theorem szT_eq (t : Tree) : szT t = szS' t.tag + (t.attrs.map szA').sum + szTs t.kids + szS' t.text + 1 := by cases t; rw [szT]; rfl
theorem sz_len : ∀ l : List Tree, l.length ≤ szTs l
  | [] => by simp
  | t :: l => by have := sz_len l; have := szT_eq t; simp only [szTs, List.length_cons]; omega
theorem szTs_take (l : List Tree) (i : Nat) : szTs (l.take i) ≤ szTs l := by
  conv => rhs; rw [← List.take_append_drop i l]
  rw [szTs_append]; omega
theorem szA_mem {l : List Attr} {a : Attr} (h : a ∈ l) : szA' a ≤ (l.map szA').sum := by
  induction l with
  | nil => cases h
  | cons b l ih =>
    simp only [List.map_cons, List.sum_cons]
    rcases List.mem_cons.1 h with rfl | h
    · omega
    · have := ih h; omega
theorem okA_sz' {l : List Attr} (h : (l.map szA').sum ≤ 1000000000) : (∀ a ∈ l, okA a) ∧ l.length ≤ 1000000000 := by
  refine ⟨fun a ha => ?_, ?_⟩
  · have h2 : szA' a ≤ 1000000000 := Nat.le_trans (szA_mem ha) h
    unfold szA' szS' at h2
    exact ⟨⟨by omega, by omega⟩, ⟨by omega, by omega⟩⟩
  · have : ∀ l : List Attr, l.length ≤ (l.map szA').sum := by
      intro l
      induction l with
      | nil => simp
      | cons a l ih =>
        have h1 : 1 ≤ szA' a := by unfold szA'; omega
        simp only [List.map_cons, List.sum_cons, List.length_cons]; omega
    have := this l
    omega
theorem okS_sz' {s : Str} (h : szS' s ≤ 1000000000) : okS s := by unfold szS' at h; exact ⟨by omega, by omega⟩
/-! merged -/
def Tree.isE (t : Tree) : Bool := !(t.tag.text == [])
/-- one more: an element with its kids, merged; or a text -/
def stepM (acc : List Tree) (t : Tree) (ks : List Tree) : List Tree :=
  if t.isE then acc ++ [.mk (fixS t.tag) (onceA t.attrs []) ks zeroS]
  else if t.text.text = [] then acc
  else match acc.getLast? with
    | none => [.mk zeroS [] [] (fixS t.text)]
    | some u => if u.isE then acc ++ [.mk zeroS [] [] (fixS t.text)] else acc.dropLast ++ [.mk u.tag u.attrs u.kids (catS [u.text, t.text])]
mutual
def mergeK : Tree → List Tree
  | .mk _ _ kids _ => mergeF kids []
def mergeF : List Tree → List Tree → List Tree
  | [], acc => acc
  | t :: l, acc => mergeF l (stepM acc t (mergeK t))
end
def mergeT (l : List Tree) : List Tree := mergeF l []
theorem mergeK_eq (t : Tree) : mergeK t = mergeT t.kids := by cases t; rw [mergeK]; rfl
theorem mergeF_append : ∀ (a b acc : List Tree), mergeF (a ++ b) acc = mergeF b (mergeF a acc)
  | [], b, acc => by simp only [List.nil_append, mergeF]
  | t :: a, b, acc => by simp only [List.cons_append, mergeF]; exact mergeF_append a b _
theorem mergeF_succ {l : List Tree} {i : Nat} (h : i < l.length) (acc : List Tree) : mergeF (l.take (i + 1)) acc = stepM (mergeF (l.take i) acc) l[i] (mergeT l[i].kids) := by
  rw [List.take_succ_eq_append_getElem h, mergeF_append, ← mergeK_eq]
  simp only [mergeF]
theorem mergeT_nil : mergeT [] = [] := by unfold mergeT; simp only [mergeF]
end Go.Proofs.Ytjplgbalpnlanaa

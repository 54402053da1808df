/- ShotTells, where what it reads is of bulk at most 1048576: the law returns true and the arguments read as they did. -/
import Derived.Test.YtjplgbalpnlanaaG4
import Derived.Test.YtjplgbalpnlanaaG5
import Derived.Test.YtjplgbalpnlanaaRows
import Derived.ProofKit
import Derived.JoinedCond
/- The walks of package shot, and of the reference of chapter 21: trees, ids. -/
set_option linter.unusedSimpArgs false
set_option linter.unusedVariables false
set_option maxRecDepth 100000
namespace Go.Proofs.Ytjplgbalpnlanaa
open Go Go.EL
theorem zrShot21 : type_of% (And.intro (And.intro (And.intro (And.intro (@st_run) (And.intro (@sz_run) (@st1_run))) (And.intro (And.intro (@cl_run) (@st_Str)) (And.intro (@sz_Str) (@st1_Str)))) (And.intro (And.intro (@cl_Str) (And.intro (@st_c) (@sz_c))) (And.intro (And.intro (@st1_c) (@cl_c)) (And.intro (@st_attr) (@sz_attr))))) (And.intro (And.intro (And.intro (@st1_attr) (And.intro (@cl_attr) (@st_tree))) (And.intro (And.intro (@sz_tree) (@st1_tree)) (And.intro (@cl_tree) (@st_hook)))) (And.intro (And.intro (@sz_hook) (And.intro (@st1_hook) (@cl_hook))) (And.intro (And.intro (@st_node) (@sz_node)) (And.intro (@st1_node) (@cl_node)))))) := And.intro (And.intro (And.intro (And.intro (@st_run) (And.intro (@sz_run) (@st1_run))) (And.intro (And.intro (@cl_run) (@st_Str)) (And.intro (@sz_Str) (@st1_Str)))) (And.intro (And.intro (@cl_Str) (And.intro (@st_c) (@sz_c))) (And.intro (And.intro (@st1_c) (@cl_c)) (And.intro (@st_attr) (@sz_attr))))) (And.intro (And.intro (And.intro (@st1_attr) (And.intro (@cl_attr) (@st_tree))) (And.intro (And.intro (@sz_tree) (@st1_tree)) (And.intro (@cl_tree) (@st_hook)))) (And.intro (And.intro (@sz_hook) (And.intro (@st1_hook) (@cl_hook))) (And.intro (And.intro (@st_node) (@sz_node)) (And.intro (@st1_node) (@cl_node)))))
theorem zlShot21 : type_of% (And.intro (And.intro (And.intro (And.intro (@lt_vi) (And.intro (@lt_str) (@lt_vb))) (And.intro (@ltc_str) (And.intro (@ltc_vi) (@lt_run)))) (And.intro (And.intro (@lt1_run) (And.intro (@ltc_run) (@lt_Str))) (And.intro (And.intro (@lt1_Str) (@ltc_Str)) (And.intro (@lt_c) (@lt1_c))))) (And.intro (And.intro (And.intro (@ltc_c) (And.intro (@lt_attr) (@lt1_attr))) (And.intro (@ltc_attr) (And.intro (@lt_tree) (@lt1_tree)))) (And.intro (And.intro (@ltc_tree) (And.intro (@lt_hook) (@lt1_hook))) (And.intro (And.intro (@ltc_hook) (@lt_node)) (And.intro (@lt1_node) (@ltc_node)))))) := And.intro (And.intro (And.intro (And.intro (@lt_vi) (And.intro (@lt_str) (@lt_vb))) (And.intro (@ltc_str) (And.intro (@ltc_vi) (@lt_run)))) (And.intro (And.intro (@lt1_run) (And.intro (@ltc_run) (@lt_Str))) (And.intro (And.intro (@lt1_Str) (@ltc_Str)) (And.intro (@lt_c) (@lt1_c))))) (And.intro (And.intro (And.intro (@ltc_c) (And.intro (@lt_attr) (@lt1_attr))) (And.intro (@ltc_attr) (And.intro (@lt_tree) (@lt1_tree)))) (And.intro (And.intro (@ltc_tree) (And.intro (@lt_hook) (@lt1_hook))) (And.intro (And.intro (@ltc_hook) (@lt_node)) (And.intro (@lt1_node) (@ltc_node)))))
theorem _root_.Go.EL.SCall.deepR {P : Program} {f : FuncId} {args : List V} {H : List Ob} {R : V → List Ob → Prop} (h : SCall P f args H R) : SCall P f args H (fun r H' => ∃ r0, R r0 H' ∧ r = wdV r0) :=
  fun g w cargs hG hr => (h g w cargs hG hr).mono fun v w' ⟨r, H', g', h1, h2, h3, h4⟩ => ⟨wdV r, H', g', h1, h2, h3.wd, r, h4, rfl⟩
theorem wds_treec {α : Type} (f : α → Tree) (l : List α) : wdVs (l.map (treeV ∘ f)) = l.map (treeV ∘ f) := wds_of (fun x => wd_tree (f x)) l
def divS : Str := ⟨[100, 105, 118], rle (List.replicate 3 (near 0))⟩
/-- the tree at an id -/
def treeG (a : Arena) : Nat → Int → Tree
  | 0, _ => .mk zeroS [] [] zeroS
  | k + 1, id => if (nodeAt a id).kind = 2 then .mk zeroS [] [] (nodeAt a id).text else if (nodeAt a id).kind = 3 then .mk divS [] ((nodeAt a id).kids.map (treeG a k)) zeroS else .mk (nodeAt a id).tag (nodeAt a id).attrs ((nodeAt a id).kids.map (treeG a k)) zeroS
/-- all kids are there -/
def kidsHere (a : Arena) : Prop := ∀ x n, nget a.nodes x = some n → ∀ c ∈ n.kids, (nget a.nodes c).isSome = true
theorem nodeAt_kids {a : Arena} (x : Int) : ∀ c ∈ (nodeAt a x).kids, ∃ n, nget a.nodes x = some n ∧ c ∈ n.kids := by
  intro c hc
  cases hn : nget a.nodes x with
  | none => unfold nodeAt at hc; rw [hn] at hc; cases hc
  | some n => rw [nodeAt_some hn] at hc; exact ⟨n, rfl, hc⟩
theorem okN_nodeAt {a : Arena} (hok : ∀ p ∈ a.nodes, okN p.2.2) (id : Int) : okN (nodeAt a id) := by
  unfold nodeAt
  cases hn : nget a.nodes id with
  | none => exact ⟨⟨by simp [nodeZ, zeroS], by simp [nodeZ, zeroS]⟩, ⟨by simp [nodeZ, zeroS], by simp [nodeZ, zeroS]⟩, by simp [nodeZ], by simp [nodeZ], by simp [nodeZ], by simp [nodeZ]⟩
  | some n =>
    obtain ⟨p, hp, rfl⟩ := nget_mem hn
    exact okN_own (hok p hp)
theorem sKidsOf (A m : Nat) (a : Arena) (k : Nat) (hT : ∀ (id : Int) (H : List Ob), arenaAt H A m a → deepG a k id → (nget a.nodes id).isSome = true → SCall Try.prog 162 [.ref A 0, .int .i64 id] H (fun r H' => r = .slice [treeV (treeG a k id)] ∧ H' = H)) (H : List Ob) (h : arenaAt H A m a) (n : Node) (hn : okN n) (hkl : n.kids.length ≤ 1000000) (hd : ∀ c ∈ n.kids, deepG a k c ∧ (nget a.nodes c).isSome = true) :
    SCall Try.prog 118 [.ref A 0, nodeV n] H (fun r H' => r = .slice ((n.kids.map (treeG a k)).map treeV) ∧ H' = H) := by
  have lA := (List.getElem?_eq_some_iff.1 h.1).1
  unfold nodeV
  refine SCall.of_good fun hH => ?_
  have hHk := HLt.add hH
  refine SCall.of_code Tok Try.func118 rfl Try.call118 (n := 22) rfl (by simp) (rs := [.tmp 4]) rfl ?_
  refine EWn.to ?_
  refine EWn.of_c Tok mixed (own := false) keep118 tab118 (by kernel_rfl) ?_
  (repeat simp -dsimp only [zrShot21, xnils, xnilm, xrange, xmakeMap, xslice3, RB, TB, keep118, tab118, xindexAddr, xindex, xslice, xconvert, xlen, ewOp, FreeW, StabW, SameW, ChangeW, AddW, BaseW, limBytes, simprocAttr, ne_eq])
  refine EWn.ghost (Gho.adopt 5 6 rfl) ?_
  simp only [RB, limBytes, simprocAttr, ne_eq]
  refine EWn.loopE (ι := (Nat) × (Nat)) (fun (x_ : (Nat) × (Nat)) => match x_ with | (i, v) => i ≤ n.kids.length) (fun (x_ : (Nat) × (Nat)) => match x_ with | (i, v) => n.kids.length - i) (fun (x_ : (Nat) × (Nat)) => match x_ with | (i, v) => [(5, .vec (H.length + 1) v 0 ((n.kids.take i).map (treeG a k)).length), (11, .int .i64 i)]) (fun (x_ : (Nat) × (Nat)) => match x_ with | (i, v) => H ++ [.var (nodeV n).cells, .vec v 6 (((n.kids.take i).map (treeG a k)).map treeV)]) (0, 1) ?_ ?_ ?_ ?_ ?_
  · first | rfl | (simp [upd, eset]; done) | (simp [upd, eset, nodeV, V.cells]; done)
  · simp [nodeV, V.cells]
  · rintro ⟨i, v⟩ hok; exact ⟨by first | (simp; done) | (simp; omega), by (simp (maxDischargeDepth := 6) [LTB, HLt_set, ltL_take, ltL_drop, ltL_rep, ltL_set, upd, eset, hH, hHk, ltL_nodeC, zlShot21] <;> omega), by (simp (maxDischargeDepth := 6) [LTB, HLt_set, ltL_take, ltL_drop, ltL_rep, ltL_set, upd, eset, hH, hHk, ltL_nodeC, zlShot21] <;> omega)⟩
  · omega
  rintro ⟨i, v⟩ hi
  refine EWn.of_c Tok mixed (own := false) keep118 tab118 (by kernel_rfl) ?_
  (repeat simp -dsimp only [zrShot21, xnils, xnilm, xrange, xmakeMap, xslice3, RB, TB, keep118, tab118, xindexAddr, xindex, xslice, xconvert, xlen, ewOp, FreeW, StabW, SameW, ChangeW, AddW, BaseW, limBytes, simprocAttr, ne_eq])
  refine IfW.intro (fun hs => ?_) (fun hs => ?_)
  · have hlt := lt_of hs
    have hmi := at_map vi n.kids i hlt
    simp only [vi] at hmi
    obtain ⟨d1, d2⟩ := hd _ (List.getElem_mem hlt)
    have hC := hT n.kids[i] (H ++ [.var (nodeV n).cells, .vec v 6 (((n.kids.take i).map (treeG a k)).map treeV)]) (arena_app h _) d1 d2
    have hsucc : (n.kids.take (i + 1)).map (treeG a k) = (n.kids.take i).map (treeG a k) ++ [treeG a k n.kids[i]] := by
      rw [List.take_succ_eq_append_getElem hlt, List.map_append]; rfl
    generalize n.kids[i] = c at *
    (repeat (first | simp -dsimp only [zrShot21, xnils, xnilm, xrange, xmakeMap, xslice3, hs, hmi, RB, TB, keep118, tab118, xindexAddr, xindex, xslice, xconvert, xlen, ewOp, FreeW, StabW, SameW, ChangeW, AddW, BaseW, limBytes, simprocAttr, ne_eq] | ((with_reducible refine Need.intro ?_ ?_); (omega))))
    refine SCall.then hC ?_
    (repeat (first | simp -dsimp only [zrShot21, xnils, xnilm, xrange, xmakeMap, xslice3, hs, RB, TB, keep118, tab118, xindexAddr, xindex, xslice, xconvert, xlen, ewOp, FreeW, StabW, SameW, ChangeW, AddW, BaseW, limBytes, simprocAttr, ne_eq] | ((with_reducible refine Need.intro ?_ ?_); ((simp; omega)))))
    rw [wrapI (by omega)]
    refine UpTo.here ⟨(i + 1, v + 1), hlt, by simp only; omega, by simp only [hsucc]; simp [upd, eset], ⟨_, by simp only [hsucc]; simp; try rfl⟩⟩
  · have hi2 : i = n.kids.length := Nat.le_antisymm hi (ge_of hs)
    subst hi2
    (repeat simp -dsimp only [zrShot21, xnils, xnilm, xrange, xmakeMap, xslice3, hs, RB, TB, keep118, tab118, xindexAddr, xindex, xslice, xconvert, xlen, ewOp, FreeW, StabW, SameW, ChangeW, AddW, BaseW, limBytes, simprocAttr, ne_eq])
    refine RetW.auto0 false _ (by first | rfl | exact (List.append_nil _).symm) ?_ ?_
    · (simp (maxDischargeDepth := 6) [LTB, HLt_set, ltL_take, ltL_drop, ltL_rep, ltL_set, upd, eset, hH, hHk, ltL_nodeC, zlShot21] <;> omega)
    (try simp only [wk, wk1, wk0, RB, limBytes, simprocAttr, ne_eq])
    (try (rw [List.take_of_length_le]; rotate_left 1; (· first | (simp; done) | (simp; omega) | omega)))
    simp
set_option maxHeartbeats 2000000 in
theorem sTree (A m : Nat) (a : Arena) (hok : ∀ p ∈ a.nodes, okN p.2.2) (hk : kidsHere a) (hkl : ∀ p ∈ a.nodes, p.2.2.kids.length ≤ 1000000) : ∀ (k : Nat) (id : Int) (H : List Ob), arenaAt H A m a → deepG a k id → (nget a.nodes id).isSome = true → SCall Try.prog 162 [.ref A 0, .int .i64 id] H (fun r H' => r = .slice [treeV (treeG a k id)] ∧ H' = H) := by
  intro k
  induction k with
  | zero => intro id H _ hd _; exact hd.elim
  | succ k ih =>
    intro id H h hd hs
    obtain ⟨n, hn⟩ := Option.isSome_iff_exists.1 hs
    have lA := (List.getElem?_eq_some_iff.1 h.1).1
    have hna := nodeAt_some hn
    obtain ⟨p, hp, hpe⟩ := nget_mem hn
    have okn : okN (ownN n) := okN_own (hpe ▸ hok p hp)
    have hK := fun K => sKidsOf A m a k ih (H ++ K) (arena_app h K) (ownN n) okn (hpe ▸ hkl p hp) (fun c hc => ⟨hd n hn c hc, hk id n hn c hc⟩)
    have key : SCall Try.prog 162 [.ref A 0, .int .i64 id] H (fun r H' => (∃ t, wdV t = treeV (treeG a (k + 1) id) ∧ r = .slice [t]) ∧ H' = H) := by
      by_cases h2 : (ownN n).kind = 2
      · have e : treeG a (k + 1) id = .mk zeroS [] [] (ownN n).text := by rw [treeG, hna, if_pos h2]
        have h2b : ((ownN n).kind == 2) = true := by simpa using h2
        rw [e]
        refine SCall.of_good fun hH => ?_
        have hHk := HLt.add hH
        refine SCall.of_code Tok Try.func162 rfl Try.call162 (n := 43) rfl (by simp) (rs := [.tmp 4]) rfl ?_
        refine EWn.to ?_
        refine EWn.of_c Tok mixed (own := false) keep162 tab162 (by kernel_rfl) ?_
        (repeat simp -dsimp only [zrShot21, xnils, xnilm, xrange, xmakeMap, xslice3, RB, TB, keep162, tab162, xindexAddr, xindex, xslice, xconvert, xlen, ewOp, FreeW, StabW, SameW, ChangeW, AddW, BaseW, limBytes, simprocAttr, ne_eq])
        (refine SCall.then (aGetS _ A m a h hok id n hn) ?_)
        (repeat (first | simp -dsimp only [zrShot21, xnils, xnilm, xrange, xmakeMap, xslice3, nodeV, h2b, RB, TB, keep162, tab162, xindexAddr, xindex, xslice, xconvert, xlen, ewOp, FreeW, StabW, SameW, ChangeW, AddW, BaseW, limBytes, simprocAttr, ne_eq] | ((with_reducible refine Need.intro ?_ ?_); (trivial))))
        refine RetW.auto0 false _ (by first | rfl | exact (List.append_nil _).symm) ?_ ?_
        · (simp (maxDischargeDepth := 6) [LTB, HLt_set, ltL_take, ltL_drop, ltL_rep, ltL_set, upd, eset, hH, hHk, zlShot21] <;> omega)
        (try simp only [wk, wk1, wk0, RB, limBytes, simprocAttr, ne_eq])
        skip
        first | exact ⟨⟨_, by rw [treeV_mk]; simp [wdV, wdVs, wds_run, zeroS], rfl⟩, rfl⟩ | exact ⟨_, by rw [treeV_mk]; simp [wdV, wdVs, wds_run, zeroS], rfl⟩
      · have h2b : ((ownN n).kind == 2) = false := by simpa using h2
        by_cases h3 : (ownN n).kind = 3
        · have e : treeG a (k + 1) id = .mk divS [] ((ownN n).kids.map (treeG a k)) zeroS := by rw [treeG, hna, if_neg h2, if_pos h3]
          have h3b : ((ownN n).kind == 3) = true := by simpa using h3
          rw [e]
          simp only [nodeV] at hK
          refine SCall.of_good fun hH => ?_
          have hHk := HLt.add hH
          refine SCall.of_code Tok Try.func162 rfl Try.call162 (n := 43) rfl (by simp) (rs := [.tmp 4]) rfl ?_
          refine EWn.to ?_
          refine EWn.of_c Tok mixed (own := false) keep162 tab162 (by kernel_rfl) ?_
          (repeat simp -dsimp only [zrShot21, xnils, xnilm, xrange, xmakeMap, xslice3, RB, TB, keep162, tab162, xindexAddr, xindex, xslice, xconvert, xlen, ewOp, FreeW, StabW, SameW, ChangeW, AddW, BaseW, limBytes, simprocAttr, ne_eq])
          (refine SCall.then (aGetS _ A m a h hok id n hn) ?_)
          (repeat simp -dsimp only [zrShot21, xnils, xnilm, xrange, xmakeMap, xslice3, nodeV, h2b, h3b, RB, TB, keep162, tab162, xindexAddr, xindex, xslice, xconvert, xlen, ewOp, FreeW, StabW, SameW, ChangeW, AddW, BaseW, limBytes, simprocAttr, ne_eq])
          (refine CallE.intro _ (mOf _ _ _) ?_)
          (repeat simp -dsimp only [zrShot21, xnils, xnilm, xrange, xmakeMap, xslice3, strV, RB, TB, keep162, tab162, xindexAddr, xindex, xslice, xconvert, xlen, ewOp, FreeW, StabW, SameW, ChangeW, AddW, BaseW, limBytes, simprocAttr, ne_eq])
          (refine CallE.intro _ (hK _) ?_)
          (repeat (first | simp -dsimp only [zrShot21, xnils, xnilm, xrange, xmakeMap, xslice3, strV, RB, TB, keep162, tab162, xindexAddr, xindex, xslice, xconvert, xlen, ewOp, FreeW, StabW, SameW, ChangeW, AddW, BaseW, limBytes, simprocAttr, ne_eq] | ((with_reducible refine Need.intro ?_ ?_); (trivial))))
          refine RetW.auto0 false _ (by first | rfl | exact (List.append_nil _).symm) ?_ ?_
          · (simp (maxDischargeDepth := 6) [LTB, HLt_set, ltL_take, ltL_drop, ltL_rep, ltL_set, upd, eset, hH, hHk, zlShot21] <;> omega)
          (try simp only [wk, wk1, wk0, RB, limBytes, simprocAttr, ne_eq])
          skip
          first | exact ⟨⟨_, by rw [treeV_mk]; simp [wdV, wdVs, wds_run, wds_tree, wds_treec, zeroS, divS], rfl⟩, rfl⟩ | exact ⟨_, by rw [treeV_mk]; simp [wdV, wdVs, wds_run, wds_tree, wds_treec, zeroS, divS], rfl⟩
        · have e : treeG a (k + 1) id = .mk (ownN n).tag (ownN n).attrs ((ownN n).kids.map (treeG a k)) zeroS := by rw [treeG, hna, if_neg h2, if_neg h3]
          have h3b : ((ownN n).kind == 3) = false := by simpa using h3
          rw [e]
          simp only [nodeV] at hK
          refine SCall.of_good fun hH => ?_
          have hHk := HLt.add hH
          refine SCall.of_code Tok Try.func162 rfl Try.call162 (n := 43) rfl (by simp) (rs := [.tmp 4]) rfl ?_
          refine EWn.to ?_
          refine EWn.of_c Tok mixed (own := false) keep162 tab162 (by kernel_rfl) ?_
          (repeat simp -dsimp only [zrShot21, xnils, xnilm, xrange, xmakeMap, xslice3, RB, TB, keep162, tab162, xindexAddr, xindex, xslice, xconvert, xlen, ewOp, FreeW, StabW, SameW, ChangeW, AddW, BaseW, limBytes, simprocAttr, ne_eq])
          (refine SCall.then (aGetS _ A m a h hok id n hn) ?_)
          (repeat simp -dsimp only [zrShot21, xnils, xnilm, xrange, xmakeMap, xslice3, nodeV, h2b, h3b, RB, TB, keep162, tab162, xindexAddr, xindex, xslice, xconvert, xlen, ewOp, FreeW, StabW, SameW, ChangeW, AddW, BaseW, limBytes, simprocAttr, ne_eq])
          (refine CallE.intro _ (hK _) ?_)
          (repeat (first | simp -dsimp only [zrShot21, xnils, xnilm, xrange, xmakeMap, xslice3, RB, TB, keep162, tab162, xindexAddr, xindex, xslice, xconvert, xlen, ewOp, FreeW, StabW, SameW, ChangeW, AddW, BaseW, limBytes, simprocAttr, ne_eq] | ((with_reducible refine Need.intro ?_ ?_); (trivial))))
          refine RetW.auto0 false _ (by first | rfl | exact (List.append_nil _).symm) ?_ ?_
          · (simp (maxDischargeDepth := 6) [LTB, HLt_set, ltL_take, ltL_drop, ltL_rep, ltL_set, upd, eset, hH, hHk, zlShot21] <;> omega)
          (try simp only [wk, wk1, wk0, RB, limBytes, simprocAttr, ne_eq])
          skip
          first | exact ⟨⟨_, by rw [treeV_mk]; simp [wdV, wdVs, wds_run, wds_tree, wds_treec, wds_attr, zeroS], rfl⟩, rfl⟩ | exact ⟨_, by rw [treeV_mk]; simp [wdV, wdVs, wds_run, wds_tree, wds_treec, wds_attr, zeroS], rfl⟩
    refine SCall.mono key.deepR ?_
    rintro r H' ⟨r0, ⟨⟨t, ht, rfl⟩, rfl⟩, rfl⟩
    exact ⟨by simp [wdV, wdVs, ht], rfl⟩
theorem sTrees (A m : Nat) (a : Arena) (hok : ∀ p ∈ a.nodes, okN p.2.2) (hk : kidsHere a) (hkl : ∀ p ∈ a.nodes, p.2.2.kids.length ≤ 1000000) (k : Nat) (H : List Ob) (h : arenaAt H A m a) (hd : deepG a (k + 1) 0) : SCall Try.prog 44 [.ref A 0] H (fun r H' => r = .slice (((nodeAt a 0).kids.map (treeG a k)).map treeV) ∧ H' = H) := by
  have lA := (List.getElem?_eq_some_iff.1 h.1).1
  have hl : (nodeAt a 0).kids.length ≤ 1000000 := by
    cases hn : nget a.nodes 0 with
    | none => unfold nodeAt; rw [hn]; simp [nodeZ]
    | some n =>
      obtain ⟨p, hp, hpe⟩ := nget_mem hn
      rw [nodeAt_some hn]
      exact hpe ▸ hkl p hp
  have hK := fun K => sKidsOf A m a k (sTree A m a hok hk hkl k) (H ++ K) (arena_app h K) (nodeAt a 0) (okN_nodeAt hok 0) hl (fun c hc => by
    obtain ⟨n, hn, hc⟩ := nodeAt_kids 0 c hc
    exact ⟨hd n hn c hc, hk 0 n hn c hc⟩)
  simp only [nodeV] at hK
  refine SCall.of_good fun hH => ?_
  have hHk := HLt.add hH
  refine SCall.of_code Tok Try.func44 rfl Try.call44 (n := 13) rfl (by simp) (rs := [.tmp 2]) rfl ?_
  refine EWn.to ?_
  refine EWn.of_c Tok mixed (own := false) keep44 tab44 (by kernel_rfl) ?_
  (repeat simp -dsimp only [zrShot21, xnils, xnilm, xrange, xmakeMap, xslice3, RB, TB, keep44, tab44, xindexAddr, xindex, xslice, xconvert, xlen, ewOp, FreeW, StabW, SameW, ChangeW, AddW, BaseW, limBytes, simprocAttr, ne_eq])
  (refine SCall.then (aGetF _ A m a h hok 0) ?_)
  (repeat simp -dsimp only [zrShot21, xnils, xnilm, xrange, xmakeMap, xslice3, nodeV, RB, TB, keep44, tab44, xindexAddr, xindex, xslice, xconvert, xlen, ewOp, FreeW, StabW, SameW, ChangeW, AddW, BaseW, limBytes, simprocAttr, ne_eq])
  (refine SCall.then (hK _) ?_)
  (repeat simp -dsimp only [zrShot21, xnils, xnilm, xrange, xmakeMap, xslice3, RB, TB, keep44, tab44, xindexAddr, xindex, xslice, xconvert, xlen, ewOp, FreeW, StabW, SameW, ChangeW, AddW, BaseW, limBytes, simprocAttr, ne_eq])
  refine RetW.auto0 false _ (by first | rfl | exact (List.append_nil _).symm) ?_ ?_
  · (simp (maxDischargeDepth := 6) [LTB, HLt_set, ltL_take, ltL_drop, ltL_rep, ltL_set, upd, eset, hH, hHk, zlShot21] <;> omega)
  (try simp only [wk, wk1, wk0, RB, limBytes, simprocAttr, ne_eq])
  skip
end Go.Proofs.Ytjplgbalpnlanaa

/- The walks of the reference of chapter 21: trees, ids. -/
set_option linter.unusedSimpArgs false
set_option linter.unusedVariables false
set_option maxRecDepth 100000
namespace Go.Proofs.Ytjplgbalpnlanaa
open Go Go.EL
theorem zrShot31 : type_of% (And.intro (And.intro (And.intro (And.intro (@st_run) (And.intro (@sz_run) (@st1_run))) (And.intro (And.intro (@cl_run) (@st_Str)) (And.intro (@sz_Str) (@st1_Str)))) (And.intro (And.intro (@cl_Str) (And.intro (@st_c) (@sz_c))) (And.intro (And.intro (@st1_c) (@cl_c)) (And.intro (@st_attr) (@sz_attr))))) (And.intro (And.intro (And.intro (@st1_attr) (And.intro (@cl_attr) (@st_tree))) (And.intro (And.intro (@sz_tree) (@st1_tree)) (And.intro (@cl_tree) (@st_hook)))) (And.intro (And.intro (@sz_hook) (And.intro (@st1_hook) (@cl_hook))) (And.intro (And.intro (@st_node) (@sz_node)) (And.intro (@st1_node) (@cl_node)))))) := And.intro (And.intro (And.intro (And.intro (@st_run) (And.intro (@sz_run) (@st1_run))) (And.intro (And.intro (@cl_run) (@st_Str)) (And.intro (@sz_Str) (@st1_Str)))) (And.intro (And.intro (@cl_Str) (And.intro (@st_c) (@sz_c))) (And.intro (And.intro (@st1_c) (@cl_c)) (And.intro (@st_attr) (@sz_attr))))) (And.intro (And.intro (And.intro (@st1_attr) (And.intro (@cl_attr) (@st_tree))) (And.intro (And.intro (@sz_tree) (@st1_tree)) (And.intro (@cl_tree) (@st_hook)))) (And.intro (And.intro (@sz_hook) (And.intro (@st1_hook) (@cl_hook))) (And.intro (And.intro (@st_node) (@sz_node)) (And.intro (@st1_node) (@cl_node)))))
theorem zlShot31 : type_of% (And.intro (And.intro (And.intro (And.intro (@lt_vi) (And.intro (@lt_str) (@lt_vb))) (And.intro (@ltc_str) (And.intro (@ltc_vi) (@lt_run)))) (And.intro (And.intro (@lt1_run) (And.intro (@ltc_run) (@lt_Str))) (And.intro (And.intro (@lt1_Str) (@ltc_Str)) (And.intro (@lt_c) (@lt1_c))))) (And.intro (And.intro (And.intro (@ltc_c) (And.intro (@lt_attr) (@lt1_attr))) (And.intro (@ltc_attr) (And.intro (@lt_tree) (@lt1_tree)))) (And.intro (And.intro (@ltc_tree) (And.intro (@lt_hook) (@lt1_hook))) (And.intro (And.intro (@ltc_hook) (@lt_node)) (And.intro (@lt1_node) (@ltc_node)))))) := And.intro (And.intro (And.intro (And.intro (@lt_vi) (And.intro (@lt_str) (@lt_vb))) (And.intro (@ltc_str) (And.intro (@ltc_vi) (@lt_run)))) (And.intro (And.intro (@lt1_run) (And.intro (@ltc_run) (@lt_Str))) (And.intro (And.intro (@lt1_Str) (@ltc_Str)) (And.intro (@lt_c) (@lt1_c))))) (And.intro (And.intro (And.intro (@ltc_c) (And.intro (@lt_attr) (@lt1_attr))) (And.intro (@ltc_attr) (And.intro (@lt_tree) (@lt1_tree)))) (And.intro (And.intro (@ltc_tree) (And.intro (@lt_hook) (@lt1_hook))) (And.intro (And.intro (@ltc_hook) (@lt_node)) (And.intro (@lt1_node) (@ltc_node)))))
set_option maxHeartbeats 4000000 in
theorem lTreesA (A m : Nat) (a : Arena) (hok : ∀ p ∈ a.nodes, okN p.2.2) (hk : kidsHere a) (hkl : ∀ p ∈ a.nodes, p.2.2.kids.length ≤ 1000000) : ∀ (k : Nat) (id : Int) (H : List Ob), arenaAt H A m a → deepG a (k + 1) id → SCall Try.prog 45 [.ref A 0, .int .i64 id] H (fun r H' => r = .slice (((nodeAt a id).kids.map (treeG a k)).map treeV) ∧ H' = H) := by
  intro k
  induction k with
  | zero =>
    intro id H h hd
    have lA := (List.getElem?_eq_some_iff.1 h.1).1
    have h0 : (nodeAt a id).kids = [] := by
      cases hn : nget a.nodes id with
      | none => unfold nodeAt; rw [hn]; rfl
      | some n =>
        rw [nodeAt_some hn]
        cases hk2 : n.kids with
        | nil => show n.kids = []; exact hk2
        | cons c l => exact (hd n hn c (by rw [hk2]; simp)).elim
    rw [h0]
    refine SCall.of_good fun hH => ?_
    have hHk := HLt.add hH
    refine SCall.of_code Tok Try.func45 rfl Try.call45 (n := 64) rfl (by simp) (rs := [.tmp 4]) rfl ?_
    refine EWn.to ?_
    refine EWn.of_c Tok mixed (own := false) keep45 tab45 (by kernel_rfl) ?_
    (repeat simp -dsimp only [zrShot31, xnils, xnilm, xrange, xmakeMap, xslice3, RB, TB, keep45, tab45, xindexAddr, xindex, xslice, xconvert, xlen, ewOp, FreeW, StabW, SameW, ChangeW, AddW, BaseW, limBytes, simprocAttr, ne_eq])
    (refine SCall.then (aGetF _ A m a h hok id) ?_)
    (repeat simp -dsimp only [zrShot31, xnils, xnilm, xrange, xmakeMap, xslice3, nodeV, h0, RB, TB, keep45, tab45, xindexAddr, xindex, xslice, xconvert, xlen, ewOp, FreeW, StabW, SameW, ChangeW, AddW, BaseW, limBytes, simprocAttr, ne_eq])
    refine EWn.rounds 1 ?_
    show EWn _ _ _ _ _ _ _
    refine EWn.of_c Tok mixed (own := false) keep45 tab45 (by kernel_rfl) ?_
    (repeat simp -dsimp only [zrShot31, xnils, xnilm, xrange, xmakeMap, xslice3, RB, TB, keep45, tab45, xindexAddr, xindex, xslice, xconvert, xlen, ewOp, FreeW, StabW, SameW, ChangeW, AddW, BaseW, limBytes, simprocAttr, ne_eq])
    refine RetW.auto0 false _ (by first | rfl | exact (List.append_nil _).symm) ?_ ?_
    · (simp (maxDischargeDepth := 6) [LTB, HLt_set, ltL_take, ltL_drop, ltL_rep, ltL_set, upd, eset, hH, hHk, zlShot31] <;> omega)
    (try simp only [wk, wk1, wk0, RB, limBytes, simprocAttr, ne_eq])
    skip
  | succ k ih =>
    intro id H h hd
    have lA := (List.getElem?_eq_some_iff.1 h.1).1
    have hl : (nodeAt a id).kids.length ≤ 1000000 := by
      cases hn : nget a.nodes id with
      | none => unfold nodeAt; rw [hn]; simp [nodeZ]
      | some n =>
        obtain ⟨p, hp, hpe⟩ := nget_mem hn
        rw [nodeAt_some hn]
        exact hpe ▸ hkl p hp
    have hdk : ∀ c ∈ (nodeAt a id).kids, deepG a (k + 1) c ∧ (nget a.nodes c).isSome = true := fun c hc => by
      obtain ⟨n, hn, hc⟩ := nodeAt_kids id c hc
      exact ⟨hd n hn c hc, hk id n hn c hc⟩
    refine SCall.of_good fun hH => ?_
    have hHk := HLt.add hH
    refine SCall.of_code Tok Try.func45 rfl Try.call45 (n := 64) rfl (by simp) (rs := [.tmp 4]) rfl ?_
    refine EWn.to ?_
    refine EWn.of_c Tok mixed (own := false) keep45 tab45 (by kernel_rfl) ?_
    (repeat simp -dsimp only [zrShot31, xnils, xnilm, xrange, xmakeMap, xslice3, RB, TB, keep45, tab45, xindexAddr, xindex, xslice, xconvert, xlen, ewOp, FreeW, StabW, SameW, ChangeW, AddW, BaseW, limBytes, simprocAttr, ne_eq])
    (refine SCall.then (aGetF _ A m a h hok id) ?_)
    (repeat simp -dsimp only [zrShot31, xnils, xnilm, xrange, xmakeMap, xslice3, nodeV, RB, TB, keep45, tab45, xindexAddr, xindex, xslice, xconvert, xlen, ewOp, FreeW, StabW, SameW, ChangeW, AddW, BaseW, limBytes, simprocAttr, ne_eq])
    generalize nodeAt a id = n at *
    refine EWn.ghost (Gho.adopt 7 6 rfl) ?_
    simp only [RB, limBytes, simprocAttr, ne_eq]
    refine EWn.loopE (ι := (Nat) × (Nat)) (fun (x_ : (Nat) × (Nat)) => match x_ with | (i, v) => i ≤ n.kids.length) (fun (x_ : (Nat) × (Nat)) => match x_ with | (i, v) => n.kids.length - i) (fun (x_ : (Nat) × (Nat)) => match x_ with | (i, v) => [(7, .vec (H.length + 1) v 0 ((n.kids.take i).map (treeG a (k + 1))).length), (8, .int .i64 i)]) (fun (x_ : (Nat) × (Nat)) => match x_ with | (i, v) => H ++ [.var (nodeV n).cells, .vec v 6 (((n.kids.take i).map (treeG a (k + 1))).map treeV)]) (0, 1) ?_ ?_ ?_ ?_ ?_
    · first | rfl | (simp [upd, eset]; done) | (simp [upd, eset, nodeV, V.cells]; done)
    · simp [nodeV, V.cells]
    · rintro ⟨i, v⟩ hok; exact ⟨by first | (simp; done) | (simp; omega), by (simp (maxDischargeDepth := 6) [LTB, HLt_set, ltL_take, ltL_drop, ltL_rep, ltL_set, upd, eset, hH, hHk, ltL_nodeC, zlShot31] <;> omega), by (simp (maxDischargeDepth := 6) [LTB, HLt_set, ltL_take, ltL_drop, ltL_rep, ltL_set, upd, eset, hH, hHk, ltL_nodeC, zlShot31] <;> omega)⟩
    · omega
    rintro ⟨i, v⟩ hi
    refine EWn.of_c Tok mixed (own := false) keep45 tab45 (by kernel_rfl) ?_
    (repeat simp -dsimp only [zrShot31, xnils, xnilm, xrange, xmakeMap, xslice3, nodeV, RB, TB, keep45, tab45, xindexAddr, xindex, xslice, xconvert, xlen, ewOp, FreeW, StabW, SameW, ChangeW, AddW, BaseW, limBytes, simprocAttr, ne_eq])
    refine IfW.intro (fun hs => ?_) (fun hs => ?_)
    · have hlt := lt_of hs
      have hmi := at_map vi n.kids i hlt
      simp only [vi] at hmi
      obtain ⟨d1, d2⟩ := hdk _ (List.getElem_mem hlt)
      have hsucc : (n.kids.take (i + 1)).map (treeG a (k + 1)) = (n.kids.take i).map (treeG a (k + 1)) ++ [treeG a (k + 1) n.kids[i]] := by
        rw [List.take_succ_eq_append_getElem hlt, List.map_append]; rfl
      have wi : IntKind.i64.wrap ((i : Int) + 1) = ((i + 1 : Nat) : Int) := by rw [wrapI (by omega)]; omega
      have hC := fun K L => ih n.kids[i] (H ++ K ++ L) (arena_app (arena_app h K) L) d1
      (repeat (first | simp -dsimp only [zrShot31, xnils, xnilm, xrange, xmakeMap, xslice3, hs, hmi, RB, TB, keep45, tab45, xindexAddr, xindex, xslice, xconvert, xlen, ewOp, FreeW, StabW, SameW, ChangeW, AddW, BaseW, limBytes, simprocAttr, ne_eq] | ((with_reducible refine Need.intro ?_ ?_); (omega))))
      have ec : treeG a (k + 1) n.kids[i] = if (nodeAt a n.kids[i]).kind = 2 then .mk zeroS [] [] (nodeAt a n.kids[i]).text else if (nodeAt a n.kids[i]).kind = 3 then .mk divS [] ((nodeAt a n.kids[i]).kids.map (treeG a k)) zeroS else .mk (nodeAt a n.kids[i]).tag (nodeAt a n.kids[i]).attrs ((nodeAt a n.kids[i]).kids.map (treeG a k)) zeroS := by rw [treeG]
      (refine SCall.then (aGetF _ A m a (arena_app h _) hok n.kids[i]) ?_)
      (repeat (first | simp -dsimp only [zrShot31, xnils, xnilm, xrange, xmakeMap, xslice3, nodeV, hmi, RB, TB, keep45, tab45, xindexAddr, xindex, xslice, xconvert, xlen, ewOp, FreeW, StabW, SameW, ChangeW, AddW, BaseW, limBytes, simprocAttr, ne_eq] | ((with_reducible refine Need.intro ?_ ?_); (omega))))
      generalize n.kids[i] = c at *
      (refine CallE.intro _ (fun _ => hC _ _) ?_)
      (repeat (first | simp -dsimp only [zrShot31, xnils, xnilm, xrange, xmakeMap, xslice3, RB, TB, keep45, tab45, xindexAddr, xindex, xslice, xconvert, xlen, ewOp, FreeW, StabW, SameW, ChangeW, AddW, BaseW, limBytes, simprocAttr, ne_eq] | ((with_reducible refine Need.intro ?_ ?_); (trivial))))
      generalize nodeAt a c = nc at *
      have hLe : ∀ l, ((n.kids.take i).map (treeG a (k + 1))).map treeV = l → ((n.kids.take (i + 1)).map (treeG a (k + 1))).map treeV = l ++ [treeV (treeG a (k + 1) c)] := fun l e => by rw [hsucc, List.map_append, e]; rfl
      have hLl : ((n.kids.take (i + 1)).map (treeG a (k + 1))).length = ((n.kids.take i).map (treeG a (k + 1))).length + 1 := by rw [hsucc, List.length_append]; rfl
      by_cases h2 : nc.kind = 2
      · have h2b : (nc.kind == 2) = true := by simpa using h2
        rw [if_pos h2] at ec
        have et : treeV (treeG a (k + 1) c) = .agg [.str [], .slice [], .slice [], .slice [], .str nc.text.text, .slice (nc.text.runs.map runV)] := by rw [ec, treeV_mk]; simp [zeroS]
        (repeat (first | simp -dsimp only [zrShot31, xnils, xnilm, xrange, xmakeMap, xslice3, h2b, wi, RB, TB, keep45, tab45, xindexAddr, xindex, xslice, xconvert, xlen, ewOp, FreeW, StabW, SameW, ChangeW, AddW, BaseW, limBytes, simprocAttr, ne_eq] | ((with_reducible refine Need.intro ?_ ?_); (first | trivial | (simp; omega)))))
        refine UpTo.step (Gho.weakLast (H.length + 1) (l := ((n.kids.take i).map (treeG a (k + 1))).map treeV) (m := [.agg [.str [], .fslice [], .fslice [], .fslice [], .str nc.text.text, .slice (nc.text.runs.map runV)]]) (m' := [.agg [.str [], .slice [], .slice [], .slice [], .str nc.text.text, .slice (nc.text.runs.map runV)]]) (by first | (rw [hget0]; rfl) | (rw [hget]; rfl) | rfl | (simp; done) | (simp; rfl)) (by repeat (first | exact trivial | refine ⟨.inl (.inl (.inl rfl)), ?_⟩ | refine ⟨.inr ⟨_, _, rfl, rfl, ?_⟩, ?_⟩ | refine ⟨.inl (.inl rfl), ?_⟩ | refine ⟨.inl (.inr ⟨_, rfl, rfl⟩), ?_⟩))) ?_
        (try simp only [RB, limBytes, simprocAttr, ne_eq])
        refine UpTo.here ⟨(i + 1, v + 1), hlt, by simp only; omega, by simp only [hLl]; simp [upd, eset], ⟨_, by simp only [hLe _ rfl, et]; simp [nodeV, V.cells]; try rfl⟩⟩
      · have h2b : (nc.kind == 2) = false := by simpa using h2
        rw [if_neg h2] at ec
        by_cases h3 : nc.kind = 3
        · have h3b : (nc.kind == 3) = true := by simpa using h3
          rw [if_pos h3] at ec
          have et : treeV (treeG a (k + 1) c) = .agg [.str [100, 105, 118], .slice ((rle (List.replicate 3 (near 0))).map runV), .slice [], .slice ((nc.kids.map (treeG a k)).map treeV), .str [], .slice []] := by rw [ec, treeV_mk]; simp [zeroS, divS]
          (repeat simp -dsimp only [zrShot31, xnils, xnilm, xrange, xmakeMap, xslice3, h2b, h3b, wi, RB, TB, keep45, tab45, xindexAddr, xindex, xslice, xconvert, xlen, ewOp, FreeW, StabW, SameW, ChangeW, AddW, BaseW, limBytes, simprocAttr, ne_eq])
          (refine SCall.then (mOf _ _ _) ?_)
          (repeat (first | simp -dsimp only [zrShot31, xnils, xnilm, xrange, xmakeMap, xslice3, strV, wi, RB, TB, keep45, tab45, xindexAddr, xindex, xslice, xconvert, xlen, ewOp, FreeW, StabW, SameW, ChangeW, AddW, BaseW, limBytes, simprocAttr, ne_eq] | ((with_reducible refine Need.intro ?_ ?_); (first | trivial | (simp; omega)))))
          refine UpTo.step (Gho.weakLast (H.length + 1) (l := ((n.kids.take i).map (treeG a (k + 1))).map treeV) (m := [.agg [.str [100, 105, 118], .slice ((rle (List.replicate 3 (near 0))).map runV), .fslice [], .slice ((nc.kids.map (treeG a k)).map treeV), .str [], .fslice []]]) (m' := [.agg [.str [100, 105, 118], .slice ((rle (List.replicate 3 (near 0))).map runV), .slice [], .slice ((nc.kids.map (treeG a k)).map treeV), .str [], .slice []]]) (by first | (rw [hget0]; rfl) | (rw [hget]; rfl) | rfl | (simp; done) | (simp; rfl)) (by repeat (first | exact trivial | refine ⟨.inl (.inl (.inl rfl)), ?_⟩ | refine ⟨.inr ⟨_, _, rfl, rfl, ?_⟩, ?_⟩ | refine ⟨.inl (.inl rfl), ?_⟩ | refine ⟨.inl (.inr ⟨_, rfl, rfl⟩), ?_⟩))) ?_
          (try simp only [RB, limBytes, simprocAttr, ne_eq])
          refine UpTo.here ⟨(i + 1, v + 1), hlt, by simp only; omega, by simp only [hLl]; simp [upd, eset], ⟨_, by simp only [hLe _ rfl, et]; simp [nodeV, V.cells]; try rfl⟩⟩
        · have h3b : (nc.kind == 3) = false := by simpa using h3
          rw [if_neg h3] at ec
          have et : treeV (treeG a (k + 1) c) = .agg [.str nc.tag.text, .slice (nc.tag.runs.map runV), .slice (nc.attrs.map attrV), .slice ((nc.kids.map (treeG a k)).map treeV), .str [], .slice []] := by rw [ec, treeV_mk]; simp [zeroS]
          (repeat (first | simp -dsimp only [zrShot31, xnils, xnilm, xrange, xmakeMap, xslice3, h2b, h3b, wi, RB, TB, keep45, tab45, xindexAddr, xindex, xslice, xconvert, xlen, ewOp, FreeW, StabW, SameW, ChangeW, AddW, BaseW, limBytes, simprocAttr, ne_eq] | ((with_reducible refine Need.intro ?_ ?_); (first | trivial | (simp; omega)))))
          refine UpTo.step (Gho.weakLast (H.length + 1) (l := ((n.kids.take i).map (treeG a (k + 1))).map treeV) (m := [.agg [.str nc.tag.text, .slice (nc.tag.runs.map runV), .slice (nc.attrs.map attrV), .slice ((nc.kids.map (treeG a k)).map treeV), .str [], .fslice []]]) (m' := [.agg [.str nc.tag.text, .slice (nc.tag.runs.map runV), .slice (nc.attrs.map attrV), .slice ((nc.kids.map (treeG a k)).map treeV), .str [], .slice []]]) (by first | (rw [hget0]; rfl) | (rw [hget]; rfl) | rfl | (simp; done) | (simp; rfl)) (by repeat (first | exact trivial | refine ⟨.inl (.inl (.inl rfl)), ?_⟩ | refine ⟨.inr ⟨_, _, rfl, rfl, ?_⟩, ?_⟩ | refine ⟨.inl (.inl rfl), ?_⟩ | refine ⟨.inl (.inr ⟨_, rfl, rfl⟩), ?_⟩))) ?_
          (try simp only [RB, limBytes, simprocAttr, ne_eq])
          refine UpTo.here ⟨(i + 1, v + 1), hlt, by simp only; omega, by simp only [hLl]; simp [upd, eset], ⟨_, by simp only [hLe _ rfl, et]; simp [nodeV, V.cells]; try rfl⟩⟩
    · have hi2 : i = n.kids.length := Nat.le_antisymm hi (ge_of hs)
      subst hi2
      (repeat simp -dsimp only [zrShot31, xnils, xnilm, xrange, xmakeMap, xslice3, hs, RB, TB, keep45, tab45, xindexAddr, xindex, xslice, xconvert, xlen, ewOp, FreeW, StabW, SameW, ChangeW, AddW, BaseW, limBytes, simprocAttr, ne_eq])
      refine RetW.auto0 false _ (by first | rfl | exact (List.append_nil _).symm) ?_ ?_
      · (simp (maxDischargeDepth := 6) [LTB, HLt_set, ltL_take, ltL_drop, ltL_rep, ltL_set, upd, eset, hH, hHk, ltL_nodeC, zlShot31] <;> omega)
      (try simp only [wk, wk1, wk0, RB, limBytes, simprocAttr, ne_eq])
      (try (rw [List.take_of_length_le]; rotate_left 1; (· first | (simp; done) | (simp; omega) | omega)))
      simp
set_option maxHeartbeats 2000000 in
theorem lIds (A m : Nat) (a : Arena) (hok : ∀ p ∈ a.nodes, okN p.2.2) (hk : kidsHere a) (hkl : ∀ p ∈ a.nodes, p.2.2.kids.length ≤ 1000000) : ∀ (k : Nat) (id : Int) (H : List Ob), arenaAt H A m a → deepG a k id → (nget a.nodes id).isSome = true → (idsG a k id).length ≤ 1000000 → SCall Try.prog 43 [.ref A 0, .int .i64 id] H (fun r H' => r = .slice ((idsG a k id).map vi) ∧ H' = H) := by
  intro k
  induction k with
  | zero => intro id H _ hd _ _; exact hd.elim
  | succ k ih =>
    intro id H h hd hs hsz
    obtain ⟨n, hn⟩ := Option.isSome_iff_exists.1 hs
    have lA := (List.getElem?_eq_some_iff.1 h.1).1
    obtain ⟨p, hp, hpe⟩ := nget_mem hn
    have hl : n.kids.length ≤ 1000000 := hpe ▸ hkl p hp
    have hkids : (ownN n).kids = n.kids := rfl
    rw [idsG_some hn] at hsz ⊢
    rw [List.length_cons] at hsz
    obtain ⟨out, hout⟩ : ∃ out : Nat → List Int, ∀ i, out i = id :: (n.kids.take i).flatMap (idsG a k) := ⟨_, fun _ => rfl⟩
    have hout0 : out 0 = [id] := by rw [hout]; simp
    have houtn : id :: n.kids.flatMap (idsG a k) = out n.kids.length := by rw [hout, List.take_length]
    have houtl : ∀ i, (out i).length ≤ 1000000 := fun i => by
      have hfl := flatMap_le (idsG a k) (l := n.kids) (i := i)
      rw [hout, List.length_cons]; omega
    rw [houtn]
    refine SCall.of_good fun hH => ?_
    have hHk := HLt.add hH
    refine SCall.of_code Tok Try.func43 rfl Try.call43 (n := 34) rfl (by simp) (rs := [.tmp 4]) rfl ?_
    refine EWn.to ?_
    refine EWn.of_c Tok mixed (own := true) keep43 tab43 (by kernel_rfl) ?_
    (repeat (first | simp -dsimp only [zrShot31, xnils, xnilm, xrange, xmakeMap, xslice3, RB, TB, keep43, tab43, xindexAddr, xindex, xslice, xconvert, xlen, ewOp, FreeW, StabW, SameW, ChangeW, AddW, BaseW, limBytes, simprocAttr, ne_eq] | ((with_reducible refine Need.intro ?_ ?_); (trivial))))
    (refine SCall.then (aGetS _ A m a (arena_app h _) hok id n hn) ?_)
    (repeat simp -dsimp only [zrShot31, xnils, xnilm, xrange, xmakeMap, xslice3, nodeV, hkids, RB, TB, keep43, tab43, xindexAddr, xindex, xslice, xconvert, xlen, ewOp, FreeW, StabW, SameW, ChangeW, AddW, BaseW, limBytes, simprocAttr, ne_eq])
    refine EWn.loopE (ι := (Nat) × (Nat)) (fun (x_ : (Nat) × (Nat)) => match x_ with | (i, v) => i ≤ n.kids.length) (fun (x_ : (Nat) × (Nat)) => match x_ with | (i, v) => n.kids.length - i) (fun (x_ : (Nat) × (Nat)) => match x_ with | (i, v) => [(5, .vec H.length v 0 (out i).length), (8, .int .i64 i)]) (fun (x_ : (Nat) × (Nat)) => match x_ with | (i, v) => H ++ [.vec v 1 ((out i).map vi), .var (nodeV (ownN n)).cells]) (0, 1) ?_ ?_ ?_ ?_ ?_
    · first | rfl | (simp [upd, eset]; done) | (simp [upd, eset, hout0, vi, nodeV, hkids, V.cells]; done)
    · simp [hout0, vi, nodeV, hkids, V.cells]
    · rintro ⟨i, v⟩ hok; exact ⟨by first | (simp; done) | (simp; omega), by (simp (maxDischargeDepth := 6) [LTB, HLt_set, ltL_take, ltL_drop, ltL_rep, ltL_set, upd, eset, hH, hHk, ltL_nodeC, zlShot31] <;> omega), by (simp (maxDischargeDepth := 6) [LTB, HLt_set, ltL_take, ltL_drop, ltL_rep, ltL_set, upd, eset, hH, hHk, ltL_nodeC, zlShot31] <;> omega)⟩
    · omega
    rintro ⟨i, v⟩ hi
    have hol := houtl i
    refine EWn.of_c Tok mixed (own := false) keep43 tab43 (by kernel_rfl) ?_
    (repeat simp -dsimp only [zrShot31, xnils, xnilm, xrange, xmakeMap, xslice3, nodeV, hkids, RB, TB, keep43, tab43, xindexAddr, xindex, xslice, xconvert, xlen, ewOp, FreeW, StabW, SameW, ChangeW, AddW, BaseW, limBytes, simprocAttr, ne_eq])
    refine IfW.intro (fun hs1 => ?_) (fun hs1 => ?_)
    · have hlt := lt_of hs1
      have hsucc : out (i + 1) = out i ++ idsG a k n.kids[i] := by rw [hout, hout, flatMap_succ (idsG a k) hlt]; rfl
      have hol2 := houtl (i + 1)
      rw [hsucc, List.length_append] at hol2
      have hmi := at_map vi n.kids i hlt
      simp only [vi] at hmi
      have hfm : (idsG a k n.kids[i]).length ≤ 1000000 := by omega
      have hC := fun K => ih n.kids[i] (H ++ K) (arena_app h K) (hd n hn _ (List.getElem_mem hlt)) (hk id n hn _ (List.getElem_mem hlt)) hfm
      have wi : IntKind.i64.wrap ((i : Int) + 1) = ((i + 1 : Nat) : Int) := by rw [wrapI (by omega)]; omega
      generalize idsG a k n.kids[i] = l2 at *
      (repeat (first | simp -dsimp only [zrShot31, xnils, xnilm, xrange, xmakeMap, xslice3, hs1, hmi, RB, TB, keep43, tab43, xindexAddr, xindex, xslice, xconvert, xlen, ewOp, FreeW, StabW, SameW, ChangeW, AddW, BaseW, limBytes, simprocAttr, ne_eq] | ((with_reducible refine Need.intro ?_ ?_); (omega))))
      (refine SCall.then (hC _) ?_)
      (repeat (first | simp -dsimp only [zrShot31, xnils, xnilm, xrange, xmakeMap, xslice3, wi, RB, TB, keep43, tab43, xindexAddr, xindex, xslice, xconvert, xlen, ewOp, FreeW, StabW, SameW, ChangeW, AddW, BaseW, limBytes, simprocAttr, ne_eq] | ((with_reducible refine Need.intro ?_ ?_); (omega))))
      refine UpTo.here ⟨(i + 1, v + 1), hlt, by simp only; omega, by simp only [hsucc, List.length_append]; simp [upd, eset], ⟨_, by simp only [hsucc]; simp [nodeV, V.cells, hkids]; try rfl⟩⟩
    · have hi2 : i = n.kids.length := Nat.le_antisymm hi (ge_of hs1)
      subst hi2
      (repeat simp -dsimp only [zrShot31, xnils, xnilm, xrange, xmakeMap, xslice3, hs1, RB, TB, keep43, tab43, xindexAddr, xindex, xslice, xconvert, xlen, ewOp, FreeW, StabW, SameW, ChangeW, AddW, BaseW, limBytes, simprocAttr, ne_eq])
      refine RetW.auto0 false _ (by first | rfl | exact (List.append_nil _).symm) ?_ ?_
      · (simp (maxDischargeDepth := 6) [LTB, HLt_set, ltL_take, ltL_drop, ltL_rep, ltL_set, upd, eset, hH, hHk, ltL_nodeC, zlShot31] <;> omega)
      (try simp only [wk, wk1, wk0, RB, limBytes, simprocAttr, ne_eq])
      (try (rw [List.take_of_length_le]; rotate_left 1; (· first | (simp; done) | (simp; omega) | omega)))
end Go.Proofs.Ytjplgbalpnlanaa

/- The walk of what the law of chapter 21 builds. -/
set_option linter.unusedSimpArgs false
set_option linter.unusedVariables false
set_option maxRecDepth 100000
namespace Go.Proofs.Ytjplgbalpnlanaa
open Go Go.EL
structure OpS where
  at_ : Int
  kind : Int
  owner : Int
  slot : Int
  text : Str
def opsV (o : OpS) : V := .agg [.int .i64 o.at_, .int .i64 o.kind, .int .i64 o.owner, .int .i64 o.slot, .str o.text.text, .slice (o.text.runs.map runV)]
theorem zrShot41 : type_of% (And.intro (And.intro (And.intro (And.intro (@st_run) (And.intro (@sz_run) (@st1_run))) (And.intro (And.intro (@cl_run) (@st_Str)) (And.intro (@sz_Str) (@st1_Str)))) (And.intro (And.intro (@cl_Str) (And.intro (@st_c) (@sz_c))) (And.intro (And.intro (@st1_c) (@cl_c)) (And.intro (@st_attr) (@sz_attr))))) (And.intro (And.intro (And.intro (@st1_attr) (And.intro (@cl_attr) (@st_tree))) (And.intro (And.intro (@sz_tree) (@st1_tree)) (And.intro (@cl_tree) (@st_hook)))) (And.intro (And.intro (@sz_hook) (And.intro (@st1_hook) (@cl_hook))) (And.intro (And.intro (@st_node) (@sz_node)) (And.intro (@st1_node) (@cl_node)))))) := And.intro (And.intro (And.intro (And.intro (@st_run) (And.intro (@sz_run) (@st1_run))) (And.intro (And.intro (@cl_run) (@st_Str)) (And.intro (@sz_Str) (@st1_Str)))) (And.intro (And.intro (@cl_Str) (And.intro (@st_c) (@sz_c))) (And.intro (And.intro (@st1_c) (@cl_c)) (And.intro (@st_attr) (@sz_attr))))) (And.intro (And.intro (And.intro (@st1_attr) (And.intro (@cl_attr) (@st_tree))) (And.intro (And.intro (@sz_tree) (@st1_tree)) (And.intro (@cl_tree) (@st_hook)))) (And.intro (And.intro (@sz_hook) (And.intro (@st1_hook) (@cl_hook))) (And.intro (And.intro (@st_node) (@sz_node)) (And.intro (@st1_node) (@cl_node)))))
theorem zlShot41 : type_of% (And.intro (And.intro (And.intro (And.intro (@lt_vi) (And.intro (@lt_str) (@lt_vb))) (And.intro (@ltc_str) (And.intro (@ltc_vi) (@lt_run)))) (And.intro (And.intro (@lt1_run) (And.intro (@ltc_run) (@lt_Str))) (And.intro (And.intro (@lt1_Str) (@ltc_Str)) (And.intro (@lt_c) (@lt1_c))))) (And.intro (And.intro (And.intro (@ltc_c) (And.intro (@lt_attr) (@lt1_attr))) (And.intro (@ltc_attr) (And.intro (@lt_tree) (@lt1_tree)))) (And.intro (And.intro (@ltc_tree) (And.intro (@lt_hook) (@lt1_hook))) (And.intro (And.intro (@ltc_hook) (@lt_node)) (And.intro (@lt1_node) (@ltc_node)))))) := And.intro (And.intro (And.intro (And.intro (@lt_vi) (And.intro (@lt_str) (@lt_vb))) (And.intro (@ltc_str) (And.intro (@ltc_vi) (@lt_run)))) (And.intro (And.intro (@lt1_run) (And.intro (@ltc_run) (@lt_Str))) (And.intro (And.intro (@lt1_Str) (@ltc_Str)) (And.intro (@lt_c) (@lt1_c))))) (And.intro (And.intro (And.intro (@ltc_c) (And.intro (@lt_attr) (@lt1_attr))) (And.intro (@ltc_attr) (And.intro (@lt_tree) (@lt1_tree)))) (And.intro (And.intro (@ltc_tree) (And.intro (@lt_hook) (@lt1_hook))) (And.intro (And.intro (@ltc_hook) (@lt_node)) (And.intro (@lt1_node) (@ltc_node)))))
theorem lt_ops (n : Nat) (l : List (OpS)) : ltL n (l.map opsV) := ltL_map (f := opsV) (fun _ => by simp [opsV, V.lt, ltL, lt_run]) l
theorem lt1_ops (n : Nat) (x : OpS) : V.lt n (opsV x) := by simp [opsV, V.lt, ltL, lt_run]
theorem ltc_ops {α : Type} (n : Nat) (g : α → OpS) (l : List α) : ltL n (l.map (opsV ∘ g)) := ltL_map (f := opsV ∘ g) (fun x => lt1_ops n (g x)) l
theorem st_ops (l : List (OpS)) : (∀ x, x ∈ l.map opsV → x.storable) = True := eq_true (storable_map (f := opsV) (fun _ => trivial) l)
theorem sz_ops (l : List (OpS)) : Sized 6 (l.map opsV) = True := eq_true (sizedMapV (f := opsV) (fun _ => rfl) l)
theorem st1_ops (x : OpS) : (opsV x).storable = True := eq_true trivial
theorem cl_ops (x : OpS) : (opsV x).cells.length = 6 := rfl

/-- texts are short, attributes there are none -/
def slimN (C : Nat) (n : Node) : Prop := n.tag.text.length ≤ C ∧ n.text.text.length ≤ C ∧ n.attrs = []
def textN (n : Node) (s : Str) : Node := setN n { ownN n with text := fixS s }
theorem dSetTextE (G : List Ob) (A m : Nat) (a : Arena) (h : arenaAt G A m a) (hok : ∀ p ∈ a.nodes, okN p.2.2) (id : Int) (s : Str) (he : (ofF a id 2).2 ≠ 0) : SCall Try.prog 117 [.ref A 0, .int .i64 id, strV s] G (fun r H' => r = .int .i64 (ofF a id 2).2 ∧ H' = G) := by
  have e1 : ((ofF a id 2).2 != 0) = true := by simpa using he
  have lA := (List.getElem?_eq_some_iff.1 h.1).1
  refine SCall.of_good fun hH => ?_
  have hHk := HLt.add hH
  refine SCall.of_code Tok Try.func117 rfl Try.call117 (n := 24) rfl (by simp) (rs := [.tmp 6]) rfl ?_
  refine EWn.to ?_
  refine EWn.of_c Tok mixed (own := false) keep117 tab117 (by kernel_rfl) ?_
  (repeat simp -dsimp only [zrShot41, st_ops, sz_ops, st1_ops, cl_ops, xnils, xnilm, xrange, xmakeMap, xslice3, strV, RB, TB, keep117, tab117, xindexAddr, xindex, xslice, xconvert, xlen, ewOp, FreeW, StabW, SameW, ChangeW, AddW, BaseW, limBytes, simprocAttr, ne_eq])
  (refine SCall.then (dOf _ A m a (arena_app h _) hok id 2) ?_)
  (repeat simp -dsimp only [zrShot41, st_ops, sz_ops, st1_ops, cl_ops, xnils, xnilm, xrange, xmakeMap, xslice3, nodeV, e1, strV, RB, TB, keep117, tab117, xindexAddr, xindex, xslice, xconvert, xlen, ewOp, FreeW, StabW, SameW, ChangeW, AddW, BaseW, limBytes, simprocAttr, ne_eq])
  refine RetW.auto0 false _ (by first | rfl | exact (List.append_nil _).symm) ?_ ?_
  · (simp (maxDischargeDepth := 6) [LTB, HLt_set, ltL_take, ltL_drop, ltL_rep, ltL_set, upd, eset, hH, hHk, zlShot41, lt_ops, lt1_ops, ltc_ops] <;> omega)
  (try simp only [wk, wk1, wk0, RB, limBytes, simprocAttr, ne_eq])
  skip
theorem dSetTextS (G : List Ob) (A m : Nat) (a : Arena) (h : arenaAt G A m a) (hok : ∀ p ∈ a.nodes, okN p.2.2) (id : Int) (s : Str) (hs : okS s) (n : Node) (hn : nget a.nodes id = some n) (hk : n.kind = 2) (hid : n.id = id) : SCall Try.prog 117 [.ref A 0, .int .i64 id, strV s] G (fun r H' => r = .int .i64 0 ∧ H' = G.set m (.map (encM (nset a.nodes id (textN n s))) a.clock)) := by
  have e : ofF a id 2 = (ownN n, 0) := by simp [ofF, hn, hk]
  obtain ⟨p, hp, hp2⟩ := nget_mem hn
  have hokn : okN n := hp2 ▸ hok p hp
  have ho := okN_own hokn
  have lm : m < G.length := (List.getElem?_eq_some_iff.1 h.2.1).1
  refine SCall.of_good fun hH => ?_
  have hHk := HLt.add hH
  refine SCall.of_code Tok Try.func117 rfl Try.call117 (n := 24) rfl (by simp) (rs := [.tmp 6]) rfl ?_
  refine EWn.to ?_
  refine EWn.of_c Tok mixed (own := false) keep117 tab117 (by kernel_rfl) ?_
  (repeat simp -dsimp only [zrShot41, st_ops, sz_ops, st1_ops, cl_ops, xnils, xnilm, xrange, xmakeMap, xslice3, strV, RB, TB, keep117, tab117, xindexAddr, xindex, xslice, xconvert, xlen, ewOp, FreeW, StabW, SameW, ChangeW, AddW, BaseW, limBytes, simprocAttr, ne_eq])
  (refine SCall.then (dOf _ A m a (arena_app h _) hok id 2) ?_)
  (repeat simp -dsimp only [zrShot41, st_ops, sz_ops, st1_ops, cl_ops, xnils, xnilm, xrange, xmakeMap, xslice3, nodeV, e, strV, RB, TB, keep117, tab117, xindexAddr, xindex, xslice, xconvert, xlen, ewOp, FreeW, StabW, SameW, ChangeW, AddW, BaseW, limBytes, simprocAttr, ne_eq])
  (refine SCall.then (mFix _ s hs) ?_)
  (repeat simp -dsimp only [zrShot41, st_ops, sz_ops, st1_ops, cl_ops, xnils, xnilm, xrange, xmakeMap, xslice3, nodeV, strV, RB, TB, keep117, tab117, xindexAddr, xindex, xslice, xconvert, xlen, ewOp, FreeW, StabW, SameW, ChangeW, AddW, BaseW, limBytes, simprocAttr, ne_eq])
  have hx : nget a.nodes ({ ownN n with text := fixS s } : Node).id = some n := by show nget a.nodes n.id = _; rw [hid]; exact hn
  (refine SCall.then (aSet _ A m a (arena_app h _) { ownN n with text := fixS s } n hx ⟨ho.1, okS_fix hs, ho.2.2.1, ho.2.2.2.1, ho.2.2.2.2.1, ho.2.2.2.2.2⟩) ?_)
  (repeat simp -dsimp only [zrShot41, st_ops, sz_ops, st1_ops, cl_ops, xnils, xnilm, xrange, xmakeMap, xslice3, RB, TB, keep117, tab117, xindexAddr, xindex, xslice, xconvert, xlen, ewOp, FreeW, StabW, SameW, ChangeW, AddW, BaseW, limBytes, simprocAttr, ne_eq])
  rw [show ({ ownN n with text := fixS s } : Node).id = id from hid]
  refine RetW.cutK false (G.set m (.map (encM (nset a.nodes id (setN n { ownN n with text := fixS s }))) a.clock)) _ (List.set_append_left _ _ lm) (by simp) ?_ ?_ ?_
  · rw [List.length_set]
    exact HLt_set hH (lt_encM _ _)
  · simp [okW, okW1, okW0, V.lt]
  · simp [wk, wk1, wk0]; rfl
theorem textN_ok {n : Node} (h : okN n) {s : Str} (hs : okS s) : okN (textN n s) := okN_set h (by
  obtain ⟨o1, o2, o3, o4, o5, o6⟩ := okN_own h
  exact ⟨o1, okS_fix hs, o3, o4, o5, o6⟩)
theorem slim_text {C : Nat} {n : Node} (h : slimN C n) {s : Str} (hs : s.text.length ≤ C) : slimN C (textN n s) := by
  obtain ⟨h1, h2, h3⟩ := h
  exact ⟨h1, by simpa [textN, setN, fix_text] using hs, by simp [textN, setN, ownN, h3]⟩
theorem slim_set {C : Nat} {n m : Node} (h : slimN C n) (h2 : m.text.text.length ≤ C) (h3 : m.attrs = []) : slimN C (setN n m) := ⟨h.1, by simpa [setN, fix_text] using h2, by simp [setN, h3]⟩
theorem slim_own {C : Nat} {n : Node} (h : slimN C n) : slimN C (ownN n) := ⟨by simpa [ownN, fix_text] using h.1, by simpa [ownN, fix_text] using h.2.1, by simp [ownN, h.2.2]⟩
/-- slim nodes all over -/
def slimA (C : Nat) (a : Arena) : Prop := ∀ p ∈ a.nodes, slimN C p.2.2
theorem slim_nset {C : Nat} {x : Int} {m : Node} (hm : slimN C m) : ∀ {l : List Ent}, (∀ p ∈ l, slimN C p.2.2) → ∀ p ∈ nset l x m, slimN C p.2.2
  | [], _, p, hp => by simp [nset] at hp
  | q :: l, h, p, hp => by
    simp only [nset] at hp
    split at hp
    · rcases List.mem_cons.1 hp with rfl | hp
      · exact hm
      · exact h p (by simp [hp])
    · rcases List.mem_cons.1 hp with rfl | hp
      · exact h _ (by simp)
      · exact slim_nset hm (fun p hp => h p (by simp [hp])) p hp
section
variable {B i j : Nat} {a : Arena} {ids : List Int}
theorem textAny (g : Grown B i j a ids) {C : Nat} (hsl : slimA C a) {c : Int} {m : Node} (hm : nget a.nodes c = some m) (s : Str) (hs : okS s) (hsC : s.text.length ≤ C) : ∃ (e : Int) (a' : Arena), (∀ H K, SCall Try.prog 117 [.ref (H.length + 1) 0, .int .i64 c, strV s] (H ++ .map (encM a.nodes) a.clock :: .var (arC H.length a) :: K) (fun r H' => r = .int .i64 e ∧
      H' = H ++ .map (encM a'.nodes) a'.clock :: .var (arC H.length a') :: K)) ∧ Grown B i j a' ids ∧ slimA C a' := by
  by_cases hk : m.kind = 2
  · have okm : okN m := by
      obtain ⟨t, ht, rfl⟩ := nget_mem hm
      exact g.oks t ht
    have hh : m.hooks.length ≤ B := by
      obtain ⟨t, ht, rfl⟩ := nget_mem hm
      exact g.hks t ht
    have hms : slimN C m := by
      obtain ⟨t, ht, rfl⟩ := nget_mem hm
      exact hsl t ht
    obtain ⟨g3, hm3⟩ := g.set (m := textN m s) hm rfl rfl rfl rfl (textN_ok okm hs) hh
    refine ⟨0, { a with nodes := nset a.nodes c (textN m s) }, fun H K => ?_, g3, slim_nset (slim_text hms hsC) hsl⟩
    refine SCall.mono (dSetTextS _ (H.length + 1) H.length a (g.at H K) g.oks c s hs m hm hk (nget_key g.keyed hm)) fun r H' h => ⟨h.1, ?_⟩
    rw [h.2]
    simp [arC]
  · refine ⟨12, a, fun H K => ?_, g, hsl⟩
    have e : ofF a c 2 = (nodeZ, 12) := by unfold ofF; rw [hm]; simp [hk]
    have := dSetTextE (H ++ .map (encM a.nodes) a.clock :: .var (arC H.length a) :: K) (H.length + 1) H.length a (g.at H K) g.oks c s (by rw [e]; decide)
    rw [e] at this
    exact this
end
set_option maxHeartbeats 2000000 in
theorem built21 (H : List Ob) (l : List OpS) (hl : ∀ o ∈ l, okS o.text ∧ o.text.text.length ≤ 1048576) : SCall Try.prog 42 [.slice (l.map opsV)] H (fun r H' => ∃ a ids p q, p ≤ 25 ∧ q ≤ 25 ∧ Grown 10 p q a ids ∧ slimA 1048576 a ∧ r = .tuple [.ref (H.length + 1) 0, .slice (ids.map vi)] ∧ H' = H ++ [.map (encM a.nodes) a.clock, .var (arC H.length a)]) := by
  refine SCall.of_good fun hH => ?_
  have hHk := HLt.add hH
  refine SCall.of_code Tok Try.func42 rfl Try.call42 (n := 93) rfl (by simp) (rs := [.tmp 2, .tmp 3]) rfl ?_
  refine EWn.to ?_
  refine EWn.of_c Tok mixed (own := true) keep42 tab42 (by kernel_rfl) ?_
  (repeat simp -dsimp only [zrShot41, st_ops, sz_ops, st1_ops, cl_ops, xnils, xnilm, xrange, xmakeMap, xslice3, RB, TB, keep42, tab42, xindexAddr, xindex, xslice, xconvert, xlen, ewOp, FreeW, StabW, SameW, ChangeW, AddW, BaseW, limBytes, simprocAttr, ne_eq])
  (refine SCall.then (aNew _) ?_)
  (repeat (first | simp -dsimp only [zrShot41, st_ops, sz_ops, st1_ops, cl_ops, xnils, xnilm, xrange, xmakeMap, xslice3, RB, TB, keep42, tab42, xindexAddr, xindex, xslice, xconvert, xlen, ewOp, FreeW, StabW, SameW, ChangeW, AddW, BaseW, limBytes, simprocAttr, ne_eq] | ((with_reducible refine Need.intro ?_ ?_); (trivial))))
  refine EWn.loopE (ι := (Arena) × (List Int) × (Nat) × (Nat)) (fun (x_ : (Arena) × (List Int) × (Nat) × (Nat)) => match x_ with | (a, ids, ver, i) => i ≤ l.length ∧ i ≤ 25 ∧ ∃ p q, p ≤ i ∧ q ≤ i ∧ Grown 10 p q a ids ∧ slimA 1048576 a) (fun (x_ : (Arena) × (List Int) × (Nat) × (Nat)) => match x_ with | (a, ids, ver, i) => l.length - i) (fun (x_ : (Arena) × (List Int) × (Nat) × (Nat)) => match x_ with | (a, ids, ver, i) => [(4, .ref (H.length + 1) 0), (5, .vec (H.length + 2) ver 0 ids.length), (6, .int .i64 i)]) (fun (x_ : (Arena) × (List Int) × (Nat) × (Nat)) => match x_ with | (a, ids, ver, i) => H ++ [.map (encM a.nodes) a.clock, .var (arC H.length a), .vec ver 1 (ids.map vi)]) (newA, [0], 1, 0) ?_ ?_ ?_ ?_ ?_
  · first | rfl | (simp [upd, eset]; done) | (simp [upd, eset, vi, arC, newA]; done)
  · simp [vi, arC, newA]
  · rintro ⟨a, ids, ver, i⟩ hok; exact ⟨by first | (simp; done) | (simp; omega), by (simp (maxDischargeDepth := 6) [LTB, HLt_set, ltL_take, ltL_drop, ltL_rep, ltL_set, upd, eset, hH, hHk, lt_encM, lt_arC, ltL_nodeC, zlShot41, lt_ops, lt1_ops, ltc_ops] <;> omega), by (simp (maxDischargeDepth := 6) [LTB, HLt_set, ltL_take, ltL_drop, ltL_rep, ltL_set, upd, eset, hH, hHk, lt_encM, lt_arC, ltL_nodeC, zlShot41, lt_ops, lt1_ops, ltc_ops] <;> omega)⟩
  · refine ⟨by omega, by omega, 0, 0, by omega, by omega, Grown.new _, fun p hp => ?_⟩
    have hp : p ∈ [((0 : Int), (0 : Nat), rootN)] := hp
    simp only [List.mem_singleton] at hp
    subst hp
    exact ⟨by simp [rootN], by simp [rootN, zeroS], rfl⟩
  rintro ⟨a, ids, ver, i⟩ ⟨hi, hi2, p, q, hp, hq, g, hsl⟩
  have hidl := g.idl
  have hidp : 0 < ids.length := List.length_pos_of_mem g.root
  refine EWn.of_c Tok mixed (own := false) keep42 tab42 (by kernel_rfl) ?_
  (repeat simp -dsimp only [zrShot41, st_ops, sz_ops, st1_ops, cl_ops, xnils, xnilm, xrange, xmakeMap, xslice3, RB, TB, keep42, tab42, xindexAddr, xindex, xslice, xconvert, xlen, ewOp, FreeW, StabW, SameW, ChangeW, AddW, BaseW, limBytes, simprocAttr, ne_eq])
  refine IfW.intro (fun h => ?_) (fun h => ?_)
  · have hlt := lt_of h
    cases h9 : decide ((i : Int) < 25)
    · (repeat simp -dsimp only [zrShot41, st_ops, sz_ops, st1_ops, cl_ops, xnils, xnilm, xrange, xmakeMap, xslice3, h, h9, RB, TB, keep42, tab42, xindexAddr, xindex, xslice, xconvert, xlen, ewOp, FreeW, StabW, SameW, ChangeW, AddW, BaseW, limBytes, simprocAttr, ne_eq])
      refine RetW.auto false [.map (encM a.nodes) a.clock, .var (arC H.length a)] _ (by first | rfl | simp) ?_ ?_ ?_
      · (simp (maxDischargeDepth := 6) [LTB, HLt_set, ltL_take, ltL_drop, ltL_rep, ltL_set, upd, eset, hH, hHk, lt_encM, lt_arC, ltL_nodeC, zlShot41, lt_ops, lt1_ops, ltc_ops] <;> omega)
      · (simp (maxDischargeDepth := 6) [LTB, HLt_set, ltL_take, ltL_drop, ltL_rep, ltL_set, upd, eset, hH, hHk, lt_encM, lt_arC, ltL_nodeC, zlShot41, lt_ops, lt1_ops, ltc_ops] <;> omega)
      (try simp only [wk, wk1, wk0, RB, limBytes, simprocAttr, ne_eq])
      (try (rw [List.take_of_length_le]; rotate_left 1; (· first | (simp; done) | (simp; omega) | omega)))
      exact ⟨a, ids, p, q, by omega, by omega, g, hsl, rfl, rfl⟩
    · have h9' := of_decide_eq_true h9
      have hat := at_map opsV l i hlt
      have hho := hl _ (List.getElem_mem hlt)
      generalize l[i] = o at hat hho
      simp only [opsV] at hat
      obtain ⟨hot, hoC⟩ := hho
      obtain ⟨k, hk, hkw⟩ := tmod4 o.owner
      obtain ⟨k3, hk3, hkw3⟩ := tmod3' o.kind
      have w1 : IntKind.i64.wrap (1 + (k3 : Int)) = 1 + k3 := wrapI (by omega)
      obtain ⟨kd, hkd⟩ : ∃ kd : Int, kd = 1 + k3 := ⟨_, rfl⟩
      rw [← hkd] at w1
      obtain ⟨x, hx, hxw⟩ := tmodn o.at_ ids.length hidp (by omega)
      have hmi := at_map vi ids x hx
      simp only [vi] at hmi
      have hM := fun K => gMake H K g k hk (by omega) kd (by omega) o.text hot o.text.text o.slot
      obtain ⟨g1, hm⟩ := g.made hk (by omega) hot kd o.text.text o.slot
      have hcn := (g.fresh hk (by omega)).2.1
      have hs1 : slimA 1048576 (makeA a k kd o.text o.text.text o.slot) := fun t ht => by
        have ht : t ∈ a.nodes ++ [(idO a k, a.clock, madeO k (idO a k) kd o.text o.text.text o.slot)] := ht
        rcases List.mem_append.1 ht with ht | ht
        · exact hsl t ht
        · rw [List.mem_singleton.1 ht]; exact ⟨by simpa [madeO, fix_text] using hoC, by simp [madeO, zeroS], rfl⟩
      obtain ⟨m, hme⟩ : ∃ m, m = madeO k (idO a k) kd o.text o.text.text o.slot := ⟨_, rfl⟩
      rw [← hme] at hm
      have hms : slimN 1048576 m := by rw [hme]; exact ⟨by simpa [madeO, fix_text] using hoC, by simp [madeO, zeroS], rfl⟩
      have hmp : m.parent = -1 := by rw [hme]; rfl
      have hmks : m.kids = [] := by rw [hme]; rfl
      clear hme
      generalize makeA a k kd o.text o.text.text o.slot = a1 at *
      generalize idO a k = c at *
      have hpi : ids[x] ∈ ids := List.getElem_mem hx
      obtain ⟨n, hn⟩ : ∃ n, nget a1.nodes ids[x] = some n := Option.isSome_iff_exists.1 (g1.mem _ hpi)
      have hG := fun K => aGetS _ (H.length + 1) H.length a1 (g1.at H K) g1.oks ids[x] n hn
      generalize ids[x] = pr at *
      have hkids : (ownN n).kids = n.kids := rfl
      have hns : slimN 1048576 n := by
        obtain ⟨t, ht, rfl⟩ := nget_mem hn
        exact hs1 t ht
      simp only [strV] at hM
      (repeat (first | simp -dsimp only [zrShot41, st_ops, sz_ops, st1_ops, cl_ops, xnils, xnilm, xrange, xmakeMap, xslice3, h, h9, hat, hkw, hkw3, w1, ← hkd, RB, TB, keep42, tab42, xindexAddr, xindex, xslice, xconvert, xlen, ewOp, FreeW, StabW, SameW, ChangeW, AddW, BaseW, limBytes, simprocAttr, ne_eq] | ((with_reducible refine Need.intro ?_ ?_); (omega))))
      (refine SCall.then (hM _) ?_)
      (repeat (first | simp -dsimp only [zrShot41, st_ops, sz_ops, st1_ops, cl_ops, xnils, xnilm, xrange, xmakeMap, xslice3, hxw, hmi, RB, TB, keep42, tab42, xindexAddr, xindex, xslice, xconvert, xlen, ewOp, FreeW, StabW, SameW, ChangeW, AddW, BaseW, limBytes, simprocAttr, ne_eq] | ((with_reducible refine Need.intro ?_ ?_); (first | trivial | omega))))
      (refine SCall.then (hG _) ?_)
      (repeat simp -dsimp only [zrShot41, st_ops, sz_ops, st1_ops, cl_ops, xnils, xnilm, xrange, xmakeMap, xslice3, nodeV, hkids, RB, TB, keep42, tab42, xindexAddr, xindex, xslice, xconvert, xlen, ewOp, FreeW, StabW, SameW, ChangeW, AddW, BaseW, limBytes, simprocAttr, ne_eq])
      by_cases hkn : n.kind = 2
      · (refine SCall.then (gInsertK H _ g1 (by omega) hn hm hkn n.kids.length) ?_)
        (repeat simp -dsimp only [zrShot41, st_ops, sz_ops, st1_ops, cl_ops, xnils, xnilm, xrange, xmakeMap, xslice3, RB, TB, keep42, tab42, xindexAddr, xindex, xslice, xconvert, xlen, ewOp, FreeW, StabW, SameW, ChangeW, AddW, BaseW, limBytes, simprocAttr, ne_eq])
        rw [wrapI (by omega)]
        refine UpTo.here ⟨(a1, ids, ver, i + 1), ⟨hlt, by omega, p + 1, q, by omega, by omega, g1, hs1⟩, by simp only; omega, by simp [upd, eset], ⟨_, by simp; rfl⟩⟩
      · (refine SCall.then (gInsertA H _ g1 (by omega) (by omega) hpi hcn hn hm hkn hmp n.kids.length (by omega) n.kids.length rfl) ?_)
        (repeat simp -dsimp only [zrShot41, st_ops, sz_ops, st1_ops, cl_ops, xnils, xnilm, xrange, xmakeMap, xslice3, RB, TB, keep42, tab42, xindexAddr, xindex, xslice, xconvert, xlen, ewOp, FreeW, StabW, SameW, ChangeW, AddW, BaseW, limBytes, simprocAttr, ne_eq])
        obtain ⟨g2, hm2⟩ := g1.ins (q := n.kids.length) hpi hcn hn hm hmks (by omega) (by omega)
        have g2 : Grown 10 (p + 1) (q + 1) (insA a1 pr c n.kids.length n m) (ids ++ [c]) := g2
        have hm2 : nget (insA a1 pr c n.kids.length n m).nodes c = some (setN m (parN m pr)) := hm2
        have hs2 : slimA 1048576 (insA a1 pr c n.kids.length n m) := slim_nset (slim_set (m := parN m pr) hms (slim_own hms).2.1 (slim_own hms).2.2) (slim_nset (slim_set (m := kidAt n n.kids.length c) hns (slim_own hns).2.1 (slim_own hns).2.2) hs1)
        generalize setN m (parN m pr) = m2 at *
        generalize insA a1 pr c n.kids.length n m = a2 at *
        obtain ⟨e3, a3, hS3, g3, hs3⟩ := textAny g2 hs2 hm2 o.text hot hoC
        simp only [strV] at hS3
        (refine SCall.then (hS3 H _) ?_)
        (repeat (first | simp -dsimp only [zrShot41, st_ops, sz_ops, st1_ops, cl_ops, xnils, xnilm, xrange, xmakeMap, xslice3, RB, TB, keep42, tab42, xindexAddr, xindex, xslice, xconvert, xlen, ewOp, FreeW, StabW, SameW, ChangeW, AddW, BaseW, limBytes, simprocAttr, ne_eq] | ((with_reducible refine Need.intro ?_ ?_); (first | trivial | omega))))
        rw [wrapI (by omega)]
        refine UpTo.here ⟨(a3, ids ++ [c], ver + 1, i + 1), ⟨hlt, by omega, p + 1, q + 1, by omega, by omega, g3, hs3⟩, by simp only; omega, by simp [upd, eset], ⟨_, by simp [vi]; rfl⟩⟩
  · (repeat simp -dsimp only [zrShot41, st_ops, sz_ops, st1_ops, cl_ops, xnils, xnilm, xrange, xmakeMap, xslice3, h, RB, TB, keep42, tab42, xindexAddr, xindex, xslice, xconvert, xlen, ewOp, FreeW, StabW, SameW, ChangeW, AddW, BaseW, limBytes, simprocAttr, ne_eq])
    refine RetW.auto false [.map (encM a.nodes) a.clock, .var (arC H.length a)] _ (by first | rfl | simp) ?_ ?_ ?_
    · (simp (maxDischargeDepth := 6) [LTB, HLt_set, ltL_take, ltL_drop, ltL_rep, ltL_set, upd, eset, hH, hHk, lt_encM, lt_arC, ltL_nodeC, zlShot41, lt_ops, lt1_ops, ltc_ops] <;> omega)
    · (simp (maxDischargeDepth := 6) [LTB, HLt_set, ltL_take, ltL_drop, ltL_rep, ltL_set, upd, eset, hH, hHk, lt_encM, lt_arC, ltL_nodeC, zlShot41, lt_ops, lt1_ops, ltc_ops] <;> omega)
    (try simp only [wk, wk1, wk0, RB, limBytes, simprocAttr, ne_eq])
    (try (rw [List.take_of_length_le]; rotate_left 1; (· first | (simp; done) | (simp; omega) | omega)))
    exact ⟨a, ids, p, q, by omega, by omega, g, hsl, rfl, rfl⟩
end Go.Proofs.Ytjplgbalpnlanaa

/- The walk of the law ShotTells. -/
set_option linter.unusedSimpArgs false
set_option linter.unusedVariables false
set_option maxRecDepth 100000
namespace Go.Proofs.Ytjplgbalpnlanaa
open Go Go.EL
theorem zrShot51 : type_of% (And.intro (And.intro (And.intro (And.intro (And.intro (@st_run) (@sz_run)) (And.intro (@st1_run) (@cl_run))) (And.intro (And.intro (@st_Str) (@sz_Str)) (And.intro (@st1_Str) (@cl_Str)))) (And.intro (And.intro (And.intro (@st_c) (@sz_c)) (And.intro (@st1_c) (@cl_c))) (And.intro (And.intro (@st_attr) (@sz_attr)) (And.intro (@st1_attr) (@cl_attr))))) (And.intro (And.intro (And.intro (And.intro (@st_tree) (@sz_tree)) (And.intro (@st1_tree) (@cl_tree))) (And.intro (And.intro (@st_hook) (@sz_hook)) (And.intro (@st1_hook) (@cl_hook)))) (And.intro (And.intro (And.intro (@st_node) (@sz_node)) (And.intro (@st1_node) (@cl_node))) (And.intro (And.intro (@st_ops) (@sz_ops)) (And.intro (@st1_ops) (@cl_ops)))))) := And.intro (And.intro (And.intro (And.intro (And.intro (@st_run) (@sz_run)) (And.intro (@st1_run) (@cl_run))) (And.intro (And.intro (@st_Str) (@sz_Str)) (And.intro (@st1_Str) (@cl_Str)))) (And.intro (And.intro (And.intro (@st_c) (@sz_c)) (And.intro (@st1_c) (@cl_c))) (And.intro (And.intro (@st_attr) (@sz_attr)) (And.intro (@st1_attr) (@cl_attr))))) (And.intro (And.intro (And.intro (And.intro (@st_tree) (@sz_tree)) (And.intro (@st1_tree) (@cl_tree))) (And.intro (And.intro (@st_hook) (@sz_hook)) (And.intro (@st1_hook) (@cl_hook)))) (And.intro (And.intro (And.intro (@st_node) (@sz_node)) (And.intro (@st1_node) (@cl_node))) (And.intro (And.intro (@st_ops) (@sz_ops)) (And.intro (@st1_ops) (@cl_ops)))))
theorem zlShot51 : type_of% (And.intro (And.intro (And.intro (And.intro (@lt_vi) (And.intro (@lt_str) (@lt_vb))) (And.intro (And.intro (@ltc_str) (@ltc_vi)) (And.intro (@lt_run) (@lt1_run)))) (And.intro (And.intro (@ltc_run) (And.intro (@lt_Str) (@lt1_Str))) (And.intro (And.intro (@ltc_Str) (@lt_c)) (And.intro (@lt1_c) (@ltc_c))))) (And.intro (And.intro (And.intro (@lt_attr) (And.intro (@lt1_attr) (@ltc_attr))) (And.intro (And.intro (@lt_tree) (@lt1_tree)) (And.intro (@ltc_tree) (@lt_hook)))) (And.intro (And.intro (And.intro (@lt1_hook) (@ltc_hook)) (And.intro (@lt_node) (@lt1_node))) (And.intro (And.intro (@ltc_node) (@lt_ops)) (And.intro (@lt1_ops) (@ltc_ops)))))) := And.intro (And.intro (And.intro (And.intro (@lt_vi) (And.intro (@lt_str) (@lt_vb))) (And.intro (And.intro (@ltc_str) (@ltc_vi)) (And.intro (@lt_run) (@lt1_run)))) (And.intro (And.intro (@ltc_run) (And.intro (@lt_Str) (@lt1_Str))) (And.intro (And.intro (@ltc_Str) (@lt_c)) (And.intro (@lt1_c) (@ltc_c))))) (And.intro (And.intro (And.intro (@lt_attr) (And.intro (@lt1_attr) (@ltc_attr))) (And.intro (And.intro (@lt_tree) (@lt1_tree)) (And.intro (@ltc_tree) (@lt_hook)))) (And.intro (And.intro (And.intro (@lt1_hook) (@ltc_hook)) (And.intro (@lt_node) (@lt1_node))) (And.intro (And.intro (@ltc_node) (@lt_ops)) (And.intro (@lt1_ops) (@ltc_ops)))))
theorem pInts (H : List Ob) (l m : List (Int)) : SCall Try.prog 46 [.slice (l.map vi), .slice (m.map vi)] H (fun r H' => r = .bool (decide (l = m)) ∧ H' = H) := by
  refine SCall.sized 0 rfl fun hl => ?_
  rw [List.length_map, maxLen_eq] at hl
  refine SCall.of_good fun hH => ?_
  have hHk := HLt.add hH
  refine SCall.of_code Tok Try.func46 rfl Try.call46 (n := 26) rfl (by simp) (rs := [.tmp 4]) rfl ?_
  refine EWn.to ?_
  refine EWn.of_c Tok mixed (own := false) keep46 tab46 (by kernel_rfl) ?_
  (repeat simp -dsimp only [zrShot51, xnils, xnilm, xrange, xmakeMap, xslice3, RB, TB, keep46, tab46, xindexAddr, xindex, xslice, xconvert, xlen, ewOp, FreeW, StabW, SameW, ChangeW, AddW, BaseW, limBytes, simprocAttr, ne_eq])
  refine IfW.intro (fun h => ?_) (fun h => ?_)
  rotate_left
  · (repeat simp -dsimp only [zrShot51, xnils, xnilm, xrange, xmakeMap, xslice3, h, RB, TB, keep46, tab46, xindexAddr, xindex, xslice, xconvert, xlen, ewOp, FreeW, StabW, SameW, ChangeW, AddW, BaseW, limBytes, simprocAttr, ne_eq])
    refine RetW.auto0 false _ (by first | rfl | exact (List.append_nil _).symm) ?_ ?_
    · (simp (maxDischargeDepth := 6) [LTB, HLt_set, ltL_take, ltL_drop, ltL_rep, ltL_set, upd, eset, hH, hHk, zlShot51] <;> omega)
    (try simp only [wk, wk1, wk0, RB, limBytes, simprocAttr, ne_eq])
    skip
    have hlm : l ≠ m := by rintro rfl; simp at h
    simp [hlm]
  have hlm : l.length = m.length := by simp at h; omega
  (repeat simp -dsimp only [zrShot51, xnils, xnilm, xrange, xmakeMap, xslice3, h, RB, TB, keep46, tab46, xindexAddr, xindex, xslice, xconvert, xlen, ewOp, FreeW, StabW, SameW, ChangeW, AddW, BaseW, limBytes, simprocAttr, ne_eq])
  refine EWn.loopE (ι := (Nat)) (fun (i : (Nat)) => i ≤ l.length ∧ l.take i = m.take i) (fun (i : (Nat)) => l.length - i) (fun (i : (Nat)) => [(5, .int .i64 i)]) (fun (i : (Nat)) => H) (0) ?_ ?_ ?_ ?_ ?_
  · first | rfl | simp [upd, eset]
  · first | rfl | (simp; done) | exact (set_same (by assumption)).symm
  · rintro i hok; exact ⟨by first | (simp; done) | (simp; omega), by (simp (maxDischargeDepth := 6) [LTB, HLt_set, ltL_take, ltL_drop, ltL_rep, ltL_set, upd, eset, hH, hHk, zlShot51] <;> omega), by (simp (maxDischargeDepth := 6) [LTB, HLt_set, ltL_take, ltL_drop, ltL_rep, ltL_set, upd, eset, hH, hHk, zlShot51] <;> omega)⟩
  · simp
  rintro i ⟨hi, hno⟩
  refine EWn.of_c Tok mixed (own := false) keep46 tab46 (by kernel_rfl) ?_
  (repeat simp -dsimp only [zrShot51, xnils, xnilm, xrange, xmakeMap, xslice3, RB, TB, keep46, tab46, xindexAddr, xindex, xslice, xconvert, xlen, ewOp, FreeW, StabW, SameW, ChangeW, AddW, BaseW, limBytes, simprocAttr, ne_eq])
  refine IfW.intro (fun h1 => ?_) (fun h1 => ?_)
  · have hlt := lt_of h1
    have hlt' : i < m.length := by omega
    (repeat (first | simp -dsimp only [zrShot51, xnils, xnilm, xrange, xmakeMap, xslice3, h1, at_map vi l i hlt, at_map vi m i hlt', vi, RB, TB, keep46, tab46, xindexAddr, xindex, xslice, xconvert, xlen, ewOp, FreeW, StabW, SameW, ChangeW, AddW, BaseW, limBytes, simprocAttr, ne_eq] | ((with_reducible refine Need.intro ?_ ?_); (omega))))
    refine IfW.intro (fun hb => ?_) (fun hb => ?_)
    · (repeat simp -dsimp only [zrShot51, xnils, xnilm, xrange, xmakeMap, xslice3, hb, RB, TB, keep46, tab46, xindexAddr, xindex, xslice, xconvert, xlen, ewOp, FreeW, StabW, SameW, ChangeW, AddW, BaseW, limBytes, simprocAttr, ne_eq])
      rw [wrapI (by omega)]
      have hb : l[i] = m[i] := by simpa using hb
      refine UpTo.here ⟨(i + 1), ?_, by first | omega | (simp only [List.length_append, List.length_cons, List.length_nil]; omega), by simp [upd, eset], ⟨_, by simp; try rfl⟩⟩
      exact ⟨hlt, by rw [List.take_succ_eq_append_getElem hlt, List.take_succ_eq_append_getElem hlt', hno, hb]⟩
    · (repeat simp -dsimp only [zrShot51, xnils, xnilm, xrange, xmakeMap, xslice3, hb, RB, TB, keep46, tab46, xindexAddr, xindex, xslice, xconvert, xlen, ewOp, FreeW, StabW, SameW, ChangeW, AddW, BaseW, limBytes, simprocAttr, ne_eq])
      refine RetW.auto0 false _ (by first | rfl | exact (List.append_nil _).symm) ?_ ?_
      · (simp (maxDischargeDepth := 6) [LTB, HLt_set, ltL_take, ltL_drop, ltL_rep, ltL_set, upd, eset, hH, hHk, zlShot51] <;> omega)
      (try simp only [wk, wk1, wk0, RB, limBytes, simprocAttr, ne_eq])
      skip
      have hlm : l ≠ m := by rintro rfl; simp at hb
      simp [hlm]
  · (repeat simp -dsimp only [zrShot51, xnils, xnilm, xrange, xmakeMap, xslice3, h1, RB, TB, keep46, tab46, xindexAddr, xindex, xslice, xconvert, xlen, ewOp, FreeW, StabW, SameW, ChangeW, AddW, BaseW, limBytes, simprocAttr, ne_eq])
    have hge := ge_of h1
    rw [List.take_of_length_le hge, List.take_of_length_le (by omega)] at hno
    refine RetW.auto0 false _ (by first | rfl | exact (List.append_nil _).symm) ?_ ?_
    · (simp (maxDischargeDepth := 6) [LTB, HLt_set, ltL_take, ltL_drop, ltL_rep, ltL_set, upd, eset, hH, hHk, zlShot51] <;> omega)
    (try simp only [wk, wk1, wk0, RB, limBytes, simprocAttr, ne_eq])
    skip
    simp [hno]

theorem szTs_le {f : Int → Tree} {g : Int → List Int} {D : Nat} : ∀ {l : List Int}, (∀ c ∈ l, szT (f c) ≤ D * (g c).length) → szTs (l.map f) ≤ D * (l.flatMap g).length
  | [], _ => by simp [szTs]
  | c :: l, h => by
    have h1 := h c (by simp)
    have h2 := szTs_le (l := l) fun c hc => h c (by simp [hc])
    rw [List.map_cons, szTs, List.flatMap_cons, List.length_append, Nat.mul_add]
    omega
theorem tree_sz {a : Arena} {C : Nat} (hs : slimA C a) (hk : kidsHere a) : ∀ (k : Nat) (id : Int), deepG a k id → (nget a.nodes id).isSome = true → szT (treeG a k id) ≤ (4 * C + 20) * (idsG a k id).length
  | 0, _, h, _ => h.elim
  | k + 1, id, h, hi => by
    obtain ⟨n, hn⟩ := Option.isSome_iff_exists.1 hi
    obtain ⟨p, hp, hpe⟩ := nget_mem hn
    obtain ⟨s1, s2, s3⟩ : slimN C n := hpe ▸ hs p hp
    have hkids : szTs ((ownN n).kids.map (treeG a k)) ≤ (4 * C + 20) * (n.kids.flatMap (idsG a k)).length := szTs_le fun c hc => tree_sz hs hk k c (h n hn c hc) (hk id n hn c hc)
    have h1 := fix_runs n.tag
    have h2 := fix_runs n.text
    have e1 : (ownN n).tag.text.length = n.tag.text.length := by simp [ownN, fix_text]
    have e2 : (ownN n).text.text.length = n.text.text.length := by simp [ownN, fix_text]
    have e3 : (ownN n).attrs = [] := by simp [ownN, s3]
    have t1 : szS' (ownN n).tag ≤ 2 * C + 1 := by unfold szS'; have : (ownN n).tag.runs = (fixS n.tag).runs := rfl; rw [e1, this]; omega
    have t2 : szS' (ownN n).text ≤ 2 * C + 1 := by unfold szS'; have : (ownN n).text.runs = (fixS n.text).runs := rfl; rw [e2, this]; omega
    have z1 : szS' zeroS = 1 := rfl
    have z2 : szS' divS ≤ 7 := by
      have h3 := rle_len (List.replicate 3 (near 0))
      simp only [List.length_replicate] at h3
      unfold szS' divS
      simp only [List.length_cons, List.length_nil]
      omega
    rw [idsG_some hn, List.length_cons, Nat.mul_add, Nat.mul_one, treeG, nodeAt_some hn]
    split
    · rw [szT, z1, szTs]; simp only [List.map_nil, List.sum_nil]; omega
    · split
      · rw [szT, z1]; simp only [List.map_nil, List.sum_nil]; omega
      · rw [szT, z1, e3]; simp only [List.map_nil, List.sum_nil]; omega
theorem Grown.kidsHere {B i j : Nat} {a : Arena} {ids : List Int} (g : Grown B i j a ids) : kidsHere a := fun x n hn c hc => g.mem c ((g.kids x n hn).1 c hc)
theorem ids_mem_deep2 {a : Arena} : ∀ {k : Nat} {x y : Int}, deepG a k x → y ∈ idsG a k x → deepG a k y
  | 0, _, _, h, _ => h.elim
  | k + 1, x, y, h, hy => by
    cases hn : nget a.nodes x with
    | none => rw [idsG_none hn] at hy; cases hy
    | some n =>
      rw [idsG_some hn] at hy
      rcases List.mem_cons.1 hy with rfl | hy
      · exact h
      · obtain ⟨c, hc, hy⟩ := List.mem_flatMap.1 hy
        exact deep_mono (ids_mem_deep2 (h n hn c hc) hy)
theorem ids_mem_len2 {a : Arena} : ∀ {k : Nat} {x y : Int}, deepG a k x → y ∈ idsG a k x → (idsG a k y).length ≤ (idsG a k x).length
  | 0, _, _, h, _ => h.elim
  | k + 1, x, y, h, hy => by
    cases hn : nget a.nodes x with
    | none => rw [idsG_none hn] at hy; cases hy
    | some n =>
      rw [idsG_some hn] at hy
      rcases List.mem_cons.1 hy with rfl | hy
      · exact Nat.le_refl _
      · obtain ⟨c, hc, hy⟩ := List.mem_flatMap.1 hy
        have h1 := ids_mem_len2 (h n hn c hc) hy
        have h2 := flatMap_mem_le (idsG a k) hc
        rw [ids_fuel (ids_mem_deep2 (h n hn c hc) hy), idsG_some hn, List.length_cons]
        omega
theorem Grown.sub_len2 {B i j : Nat} {a : Arena} {ids : List Int} (g : Grown B i j a ids) {x : Int} (hx : x ∈ ids) : (idsG a (j + 1) x).length ≤ ids.length := by
  rw [← g.ids_len]
  exact ids_mem_len2 (g.deep 0) (g.ids_mem.2 hx)
theorem Grown.kids6 {B i j : Nat} {a : Arena} {ids : List Int} (g : Grown B i j a ids) (hj : j ≤ 1000) : ∀ p ∈ a.nodes, p.2.2.kids.length ≤ 1000000 := fun p hp => by
  have := (g.kids p.1 _ (nget_of_mem g.nd hp)).2.1
  omega
theorem Grown.none77 {B i j : Nat} {a : Arena} {ids : List Int} (g : Grown B i j a ids) (hi : i ≤ 50) : nget a.nodes 77 = none := by
  cases h : nget a.nodes 77 with
  | none => rfl
  | some n =>
    rcases g.key 77 (by rw [h]; rfl) with e | ⟨k, hk, h1, h2⟩
    · omega
    · have := g.used k hk; omega
theorem sViewNew (H : List Ob) (A m : Nat) (h : arenaAt H A m newA) : SCall Try.prog 116 [.ref A 0, .int .i64 0] H (fun r H' => (∃ x, r = .slice [x]) ∧ H' = H) := by
  have lA := (List.getElem?_eq_some_iff.1 h.1).1
  have gn := Grown.new 0
  refine SCall.of_good fun hH => ?_
  have hHk := HLt.add hH
  refine SCall.of_code Tok Try.func116 rfl Try.call116 (n := 66) rfl (by simp) (rs := [.tmp 4]) rfl ?_
  refine EWn.to ?_
  refine EWn.of_c Tok mixed (own := false) keep116 tab116 (by kernel_rfl) ?_
  (repeat simp -dsimp only [zrShot51, xnils, xnilm, xrange, xmakeMap, xslice3, RB, TB, keep116, tab116, xindexAddr, xindex, xslice, xconvert, xlen, ewOp, FreeW, StabW, SameW, ChangeW, AddW, BaseW, limBytes, simprocAttr, ne_eq])
  (refine SCall.then (aGetS _ A m newA h gn.oks 0 rootN rfl) ?_)
  (repeat (first | simp -dsimp only [zrShot51, xnils, xnilm, xrange, xmakeMap, xslice3, nodeV, show (ownN rootN).kind = 1 from rfl, show (ownN rootN).owner = 0 from rfl, show (ownN rootN).kids = [] from rfl, RB, TB, keep116, tab116, xindexAddr, xindex, xslice, xconvert, xlen, ewOp, FreeW, StabW, SameW, ChangeW, AddW, BaseW, limBytes, simprocAttr, ne_eq] | ((with_reducible refine Need.intro ?_ ?_); (first | trivial | exact ⟨_, rfl⟩))))
  refine EWn.rounds 1 ?_
  show EWn _ _ _ _ _ _ _
  refine EWn.of_c Tok mixed (own := false) keep116 tab116 (by kernel_rfl) ?_
  (repeat (first | simp -dsimp only [zrShot51, xnils, xnilm, xrange, xmakeMap, xslice3, RB, TB, keep116, tab116, xindexAddr, xindex, xslice, xconvert, xlen, ewOp, FreeW, StabW, SameW, ChangeW, AddW, BaseW, limBytes, simprocAttr, ne_eq] | ((with_reducible refine Need.intro ?_ ?_); (trivial))))
  refine RetW.auto0 false _ (by first | rfl | exact (List.append_nil _).symm) ?_ ?_
  · (simp (maxDischargeDepth := 6) [LTB, HLt_set, ltL_take, ltL_drop, ltL_rep, ltL_set, upd, eset, hH, hHk, zlShot51] <;> omega)
  (try simp only [wk, wk1, wk0, RB, limBytes, simprocAttr, ne_eq])
  skip
  first | exact ⟨⟨_, rfl⟩, rfl⟩ | exact ⟨_, rfl⟩
theorem alive21 (H : List Ob) : SCall Try.prog 41 [] H (fun r H' => r = .bool true ∧ H' = H) := by
  have gn := Grown.new 0
  have hat : ∀ K, arenaAt (H ++ .map (encM newA.nodes) 1 :: .var (arC H.length newA) :: K) (H.length + 1) H.length newA := fun K => ⟨by simp [arC], by simp; rfl, rfl, rfl⟩
  have hT := fun K => sTrees (H.length + 1) H.length newA gn.oks gn.kidsHere (gn.kids6 (by omega)) 0 _ (hat K) (gn.deep 0)
  have hI := fun K => sIds (H.length + 1) H.length newA gn.oks 1 0 _ (hat K) (gn.deep 0) (by show ([0] : List Int).length ≤ _; simp)
  have hV := fun K => sViewNew _ (H.length + 1) H.length (hat K)
  rw [show (nodeAt newA 0).kids = [] from rfl] at hT
  rw [show idsG newA 1 0 = [0] from rfl] at hI
  refine SCall.of_good fun hH => ?_
  have hHk := HLt.add hH
  refine SCall.of_code Tok Try.func41 rfl Try.call41 (n := 19) rfl (by simp) (rs := [.tmp 0]) rfl ?_
  refine EWn.to ?_
  refine EWn.of_c Tok mixed (own := false) keep41 tab41 (by kernel_rfl) ?_
  (repeat simp -dsimp only [zrShot51, xnils, xnilm, xrange, xmakeMap, xslice3, RB, TB, keep41, tab41, xindexAddr, xindex, xslice, xconvert, xlen, ewOp, FreeW, StabW, SameW, ChangeW, AddW, BaseW, limBytes, simprocAttr, ne_eq])
  (refine SCall.then (aNew _) ?_)
  (repeat simp -dsimp only [zrShot51, xnils, xnilm, xrange, xmakeMap, xslice3, RB, TB, keep41, tab41, xindexAddr, xindex, xslice, xconvert, xlen, ewOp, FreeW, StabW, SameW, ChangeW, AddW, BaseW, limBytes, simprocAttr, ne_eq])
  (refine SCall.then (hT _) ?_)
  (repeat simp -dsimp only [zrShot51, xnils, xnilm, xrange, xmakeMap, xslice3, RB, TB, keep41, tab41, xindexAddr, xindex, xslice, xconvert, xlen, ewOp, FreeW, StabW, SameW, ChangeW, AddW, BaseW, limBytes, simprocAttr, ne_eq])
  (refine SCall.then (hI _) ?_)
  (repeat simp -dsimp only [zrShot51, xnils, xnilm, xrange, xmakeMap, xslice3, RB, TB, keep41, tab41, xindexAddr, xindex, xslice, xconvert, xlen, ewOp, FreeW, StabW, SameW, ChangeW, AddW, BaseW, limBytes, simprocAttr, ne_eq])
  refine SCall.mono (hV _) ?_
  rintro _ _ ⟨⟨x, rfl⟩, rfl⟩
  (repeat simp -dsimp only [zrShot51, xnils, xnilm, xrange, xmakeMap, xslice3, RB, TB, keep41, tab41, xindexAddr, xindex, xslice, xconvert, xlen, ewOp, FreeW, StabW, SameW, ChangeW, AddW, BaseW, limBytes, simprocAttr, ne_eq])
  refine RetW.auto0 false _ (by first | rfl | exact (List.append_nil _).symm) ?_ ?_
  · (simp (maxDischargeDepth := 6) [LTB, HLt_set, ltL_take, ltL_drop, ltL_rep, ltL_set, upd, eset, hH, hHk, zlShot51] <;> omega)
  (try simp only [wk, wk1, wk0, RB, limBytes, simprocAttr, ne_eq])
  skip
set_option maxHeartbeats 4000000 in
theorem shotTells (H : List Ob) (l : List OpS) (slot id : Int) (hl : ∀ o ∈ l, okS o.text ∧ o.text.text.length ≤ 1048576) : SCall Try.prog 7 [.slice (l.map opsV), .int .i64 slot, .int .i64 id] H (fun r H' => r = .bool true) := by
  refine SCall.of_good fun hH => ?_
  have hHk := HLt.add hH
  refine SCall.of_code Tok Try.func7 rfl Try.call7 (n := 106) rfl (by simp) (rs := [.tmp 6]) rfl ?_
  refine EWn.to ?_
  refine EWn.of_c Tok mixed (own := false) keep7 tab7 (by kernel_rfl) ?_
  (repeat simp -dsimp only [zrShot51, xnils, xnilm, xrange, xmakeMap, xslice3, RB, TB, keep7, tab7, xindexAddr, xindex, xslice, xconvert, xlen, ewOp, FreeW, StabW, SameW, ChangeW, AddW, BaseW, limBytes, simprocAttr, ne_eq])
  (refine SCall.then (alive21 _) ?_)
  (repeat simp -dsimp only [zrShot51, xnils, xnilm, xrange, xmakeMap, xslice3, RB, TB, keep7, tab7, xindexAddr, xindex, xslice, xconvert, xlen, ewOp, FreeW, StabW, SameW, ChangeW, AddW, BaseW, limBytes, simprocAttr, ne_eq])
  refine SCall.mono (built21 _ l hl) ?_
  rintro _ _ ⟨a, ids, p, q, hp, hq, g, hsl, rfl, rfl⟩
  have hidl := g.idl
  have hidp : 0 < ids.length := List.length_pos_of_mem g.root
  have hg : ∀ K, arenaAt (H ++ .map (encM a.nodes) a.clock :: .var (arC H.length a) :: K) (H.length + 1) H.length a := g.at H
  have hlen := g.ids_len
  have hsz : (idsG a (q + 1) 0).length ≤ 1000000 := by omega
  obtain ⟨x, hx, hxw⟩ := tmodn id ids.length hidp (by omega)
  have hmi := at_map vi ids x hx
  simp only [vi] at hmi
  have hxm : ids[x] ∈ ids := List.getElem_mem hx
  generalize ids[x] = to at *
  have hto := g.mem _ hxm
  have hszt : (idsG a (q + 1) to).length ≤ 1000000 := by have := g.sub_len2 hxm; omega
  have h6 := g.kids6 (by omega)
  have hL0 := fun K => lIds (H.length + 1) H.length a g.oks g.kidsHere h6 (q + 1) 0 _ (hg K) (g.deep 0) (g.mem _ g.root) hsz
  have hLt := fun K => lIds (H.length + 1) H.length a g.oks g.kidsHere h6 (q + 1) to _ (hg K) (g.deep to) hto hszt
  have hI0 := fun K => sIds (H.length + 1) H.length a g.oks (q + 1) 0 _ (hg K) (g.deep 0) hsz
  have hIt := fun K => sIds (H.length + 1) H.length a g.oks (q + 1) to _ (hg K) (g.deep to) hszt
  have hI7 := fun K => sIds (H.length + 1) H.length a g.oks (q + 1) 77 _ (hg K) (g.deep 77) (by rw [idsG_none (g.none77 (by omega))]; simp)
  rw [idsG_none (g.none77 (by omega))] at hI7
  have hT := fun K => sTrees (H.length + 1) H.length a g.oks g.kidsHere h6 q _ (hg K) (g.deep 0)
  have hLT := fun K => lTreesA (H.length + 1) H.length a g.oks g.kidsHere h6 q 0 _ (hg K) (g.deep 0)
  have hM := fun K => sMount _ (H.length + 1) H.length a g.oks (hg K) (q + 1) (g.deep 0) hsz slot
  have hszT : szTs ((nodeAt a 0).kids.map (treeG a q)) ≤ 1000000000 := by
    obtain ⟨n, hn⟩ := Option.isSome_iff_exists.1 (g.mem _ g.root)
    have h1 : szTs ((nodeAt a 0).kids.map (treeG a q)) ≤ (4 * 1048576 + 20) * ((nodeAt a 0).kids.flatMap (idsG a q)).length := by
      rw [nodeAt_some hn]
      exact szTs_le fun c hc => tree_sz hsl g.kidsHere q c ((g.deep 0) n hn c hc) (g.kidsHere 0 n hn c hc)
    have h2 : ((nodeAt a 0).kids.flatMap (idsG a q)).length ≤ 26 := by
      have h3 : (idsG a (q + 1) 0).length = ((nodeAt a 0).kids.flatMap (idsG a q)).length + 1 := by
        rw [idsG_some hn, nodeAt_some hn, List.length_cons]; rfl
      omega
    have h4 : (4 * 1048576 + 20) * ((nodeAt a 0).kids.flatMap (idsG a q)).length ≤ (4 * 1048576 + 20) * 26 := Nat.mul_le_mul_left _ h2
    omega
  have hPT := fun K => pTrees _ _ _ (Nat.le_refl _) hszT hszT K
  generalize (nodeAt a 0).kids.map (treeG a q) = TT at *
  obtain ⟨mx, hmx⟩ : ∃ mx : Nat → Int, ∀ j, mx j = (((idsG a (q + 1) 0).drop j).find? fun x => (nodeAt a x).kind == 3 && (nodeAt a x).slot == slot).getD 0 := ⟨_, fun _ => rfl⟩
  have mx0 : mountG a (q + 1) slot = mx 0 := by rw [hmx]; rfl
  have mxn : mx (idsG a (q + 1) 0).length = 0 := by rw [hmx, List.drop_length]; rfl
  have mxs : ∀ j, (hj : j < (idsG a (q + 1) 0).length) → mx j = if ((nodeAt a (idsG a (q + 1) 0)[j]).kind == 3 && (nodeAt a (idsG a (q + 1) 0)[j]).slot == slot) = true then (idsG a (q + 1) 0)[j] else mx (j + 1) := fun j hj => by
    rw [hmx, hmx, List.drop_eq_getElem_cons hj, List.find?_cons]
    split
    · rename_i h; rw [if_pos h]; rfl
    · rename_i h; rw [if_neg (by rw [h]; simp)]
  rw [mx0] at hM
  generalize idsG a (q + 1) 0 = order at *
  generalize idsG a (q + 1) to = sub at *
  clear hmx mx0
  (repeat simp -dsimp only [zrShot51, xnils, xnilm, xrange, xmakeMap, xslice3, RB, TB, keep7, tab7, xindexAddr, xindex, xslice, xconvert, xlen, ewOp, FreeW, StabW, SameW, ChangeW, AddW, BaseW, limBytes, simprocAttr, ne_eq])
  (refine SCall.then (hL0 _) ?_)
  (repeat simp -dsimp only [zrShot51, xnils, xnilm, xrange, xmakeMap, xslice3, RB, TB, keep7, tab7, xindexAddr, xindex, xslice, xconvert, xlen, ewOp, FreeW, StabW, SameW, ChangeW, AddW, BaseW, limBytes, simprocAttr, ne_eq])
  have w1 : IntKind.i64.wrap ((order.length : Int) - 1) = (order.length : Int) - 1 := wrapI (by omega)
  (repeat simp -dsimp only [zrShot51, xnils, xnilm, xrange, xmakeMap, xslice3, w1, RB, TB, keep7, tab7, xindexAddr, xindex, xslice, xconvert, xlen, ewOp, FreeW, StabW, SameW, ChangeW, AddW, BaseW, limBytes, simprocAttr, ne_eq])
  refine EWn.loopE (ι := (Nat)) (fun (j : (Nat)) => j ≤ order.length) (fun (j : (Nat)) => j) (fun (j : (Nat)) => [(10, .int .i64 (mx j)), (11, .int .i64 ((j : Int) - 1))]) (fun (j : (Nat)) => H ++ [.map (encM a.nodes) a.clock, .var (arC H.length a)]) (order.length) ?_ ?_ ?_ ?_ ?_
  · first | rfl | (simp [upd, eset]; done) | (simp [upd, eset, mxn]; done)
  · simp [mxn]
  · rintro j hok; exact ⟨by first | (simp; done) | (simp; omega), by (simp (maxDischargeDepth := 6) [LTB, HLt_set, ltL_take, ltL_drop, ltL_rep, ltL_set, upd, eset, hH, hHk, lt_encM, lt_arC, ltL_nodeC, zlShot51] <;> omega), by (simp (maxDischargeDepth := 6) [LTB, HLt_set, ltL_take, ltL_drop, ltL_rep, ltL_set, upd, eset, hH, hHk, lt_encM, lt_arC, ltL_nodeC, zlShot51] <;> omega)⟩
  · exact Nat.le_refl _
  rintro j hj
  refine EWn.of_c Tok mixed (own := false) keep7 tab7 (by kernel_rfl) ?_
  (repeat simp -dsimp only [zrShot51, xnils, xnilm, xrange, xmakeMap, xslice3, RB, TB, keep7, tab7, xindexAddr, xindex, xslice, xconvert, xlen, ewOp, FreeW, StabW, SameW, ChangeW, AddW, BaseW, limBytes, simprocAttr, ne_eq])
  have hcond : decide ((j : Int) - 1 ≥ 0) = decide (1 ≤ j) := by by_cases h : 1 ≤ j; rw [decide_eq_true h]; exact decide_eq_true (by omega); rw [decide_eq_false h]; exact decide_eq_false (by omega)
  rw [hcond]
  by_cases h1 : 1 ≤ j
  · obtain ⟨i, rfl⟩ : ∃ i, j = i + 1 := ⟨j - 1, by omega⟩
    have hlt : i < order.length := by omega
    have hmo := at_map vi order i hlt
    simp only [vi] at hmo
    have hns := mxs i hlt
    have w2 : ((i + 1 : Nat) : Int) - 1 = (i : Int) := by omega
    have w3 : IntKind.i64.wrap ((i : Int) - 1) = (i : Int) - 1 := wrapI (by omega)
    have hG := fun K => aGetF _ (H.length + 1) H.length a (hg K) g.oks order[i]
    generalize order[i] = oi at *
    rw [decide_eq_true h1]
    (repeat (first | simp -dsimp only [zrShot51, xnils, xnilm, xrange, xmakeMap, xslice3, hmo, w2, RB, TB, keep7, tab7, xindexAddr, xindex, xslice, xconvert, xlen, ewOp, FreeW, StabW, SameW, ChangeW, AddW, BaseW, limBytes, simprocAttr, ne_eq] | ((with_reducible refine Need.intro ?_ ?_); (omega))))
    (refine SCall.then (hG _) ?_)
    (repeat simp -dsimp only [zrShot51, xnils, xnilm, xrange, xmakeMap, xslice3, nodeV, RB, TB, keep7, tab7, xindexAddr, xindex, xslice, xconvert, xlen, ewOp, FreeW, StabW, SameW, ChangeW, AddW, BaseW, limBytes, simprocAttr, ne_eq])
    generalize nodeAt a oi = n at *
    cases c1 : (n.kind == 3)
    · rw [c1, Bool.false_and, if_neg (by simp)] at hns
      (repeat simp -dsimp only [zrShot51, xnils, xnilm, xrange, xmakeMap, xslice3, c1, w2, w3, RB, TB, keep7, tab7, xindexAddr, xindex, xslice, xconvert, xlen, ewOp, FreeW, StabW, SameW, ChangeW, AddW, BaseW, limBytes, simprocAttr, ne_eq])
      refine UpTo.here ⟨i, by omega, by simp only; omega, by simp [upd, eset, hns], ⟨_, by simp; try rfl⟩⟩
    · cases c2 : (n.slot == slot)
      · rw [c2, Bool.and_false, if_neg (by simp)] at hns
        (repeat simp -dsimp only [zrShot51, xnils, xnilm, xrange, xmakeMap, xslice3, c1, c2, w2, w3, RB, TB, keep7, tab7, xindexAddr, xindex, xslice, xconvert, xlen, ewOp, FreeW, StabW, SameW, ChangeW, AddW, BaseW, limBytes, simprocAttr, ne_eq])
        refine UpTo.here ⟨i, by omega, by simp only; omega, by simp [upd, eset, hns], ⟨_, by simp; try rfl⟩⟩
      · rw [c1, c2, Bool.and_true, if_pos rfl] at hns
        (repeat (first | simp -dsimp only [zrShot51, xnils, xnilm, xrange, xmakeMap, xslice3, c1, c2, hmo, w2, w3, RB, TB, keep7, tab7, xindexAddr, xindex, xslice, xconvert, xlen, ewOp, FreeW, StabW, SameW, ChangeW, AddW, BaseW, limBytes, simprocAttr, ne_eq] | ((with_reducible refine Need.intro ?_ ?_); (omega))))
        refine UpTo.here ⟨i, by omega, by simp only; omega, by simp [upd, eset, hns], ⟨_, by simp; try rfl⟩⟩
  · have hj0 : j = 0 := by omega
    subst hj0
    rw [decide_eq_false h1]
    (repeat (first | simp -dsimp only [zrShot51, xnils, xnilm, xrange, xmakeMap, xslice3, hxw, hmi, RB, TB, keep7, tab7, xindexAddr, xindex, xslice, xconvert, xlen, ewOp, FreeW, StabW, SameW, ChangeW, AddW, BaseW, limBytes, simprocAttr, ne_eq] | ((with_reducible refine Need.intro ?_ ?_); (omega))))
    (refine SCall.then (hT _) ?_)
    (repeat simp -dsimp only [zrShot51, xnils, xnilm, xrange, xmakeMap, xslice3, RB, TB, keep7, tab7, xindexAddr, xindex, xslice, xconvert, xlen, ewOp, FreeW, StabW, SameW, ChangeW, AddW, BaseW, limBytes, simprocAttr, ne_eq])
    (refine SCall.then (hLT _) ?_)
    (repeat simp -dsimp only [zrShot51, xnils, xnilm, xrange, xmakeMap, xslice3, RB, TB, keep7, tab7, xindexAddr, xindex, xslice, xconvert, xlen, ewOp, FreeW, StabW, SameW, ChangeW, AddW, BaseW, limBytes, simprocAttr, ne_eq])
    (refine SCall.then (hPT _) ?_)
    (repeat simp -dsimp only [zrShot51, xnils, xnilm, xrange, xmakeMap, xslice3, RB, TB, keep7, tab7, xindexAddr, xindex, xslice, xconvert, xlen, ewOp, FreeW, StabW, SameW, ChangeW, AddW, BaseW, limBytes, simprocAttr, ne_eq])
    (refine SCall.then (hI0 _) ?_)
    (repeat simp -dsimp only [zrShot51, xnils, xnilm, xrange, xmakeMap, xslice3, RB, TB, keep7, tab7, xindexAddr, xindex, xslice, xconvert, xlen, ewOp, FreeW, StabW, SameW, ChangeW, AddW, BaseW, limBytes, simprocAttr, ne_eq])
    (refine SCall.then (pInts _ _ _) ?_)
    (repeat simp -dsimp only [zrShot51, xnils, xnilm, xrange, xmakeMap, xslice3, RB, TB, keep7, tab7, xindexAddr, xindex, xslice, xconvert, xlen, ewOp, FreeW, StabW, SameW, ChangeW, AddW, BaseW, limBytes, simprocAttr, ne_eq])
    (refine SCall.then (hIt _) ?_)
    (repeat simp -dsimp only [zrShot51, xnils, xnilm, xrange, xmakeMap, xslice3, RB, TB, keep7, tab7, xindexAddr, xindex, xslice, xconvert, xlen, ewOp, FreeW, StabW, SameW, ChangeW, AddW, BaseW, limBytes, simprocAttr, ne_eq])
    (refine SCall.then (hLt _) ?_)
    (repeat simp -dsimp only [zrShot51, xnils, xnilm, xrange, xmakeMap, xslice3, RB, TB, keep7, tab7, xindexAddr, xindex, xslice, xconvert, xlen, ewOp, FreeW, StabW, SameW, ChangeW, AddW, BaseW, limBytes, simprocAttr, ne_eq])
    (refine SCall.then (pInts _ _ _) ?_)
    (repeat simp -dsimp only [zrShot51, xnils, xnilm, xrange, xmakeMap, xslice3, RB, TB, keep7, tab7, xindexAddr, xindex, xslice, xconvert, xlen, ewOp, FreeW, StabW, SameW, ChangeW, AddW, BaseW, limBytes, simprocAttr, ne_eq])
    (refine SCall.then (hM _) ?_)
    (repeat simp -dsimp only [zrShot51, xnils, xnilm, xrange, xmakeMap, xslice3, RB, TB, keep7, tab7, xindexAddr, xindex, xslice, xconvert, xlen, ewOp, FreeW, StabW, SameW, ChangeW, AddW, BaseW, limBytes, simprocAttr, ne_eq])
    (refine SCall.then (hI7 _) ?_)
    (repeat simp -dsimp only [zrShot51, xnils, xnilm, xrange, xmakeMap, xslice3, hlen, RB, TB, keep7, tab7, xindexAddr, xindex, xslice, xconvert, xlen, ewOp, FreeW, StabW, SameW, ChangeW, AddW, BaseW, limBytes, simprocAttr, ne_eq])
    refine RetW.auto0 false _ (by first | rfl | exact (List.append_nil _).symm) ?_ ?_
    · (simp (maxDischargeDepth := 6) [LTB, HLt_set, ltL_take, ltL_drop, ltL_rep, ltL_set, upd, eset, hH, hHk, lt_encM, lt_arC, ltL_nodeC, zlShot51] <;> omega)
    (try simp only [wk, wk1, wk0, RB, limBytes, simprocAttr, ne_eq])
    skip
end Go.Proofs.Ytjplgbalpnlanaa

/- ShotTells, where what it reads is of bulk at most 1048576: the law returns true and the arguments read as they did. -/
set_option linter.unusedSimpArgs false
set_option linter.unusedVariables false
set_option maxRecDepth 100000
set_option maxHeartbeats 1000000
namespace Go.Proofs.Ytjplgbalpnlanaa
open Go Go.EL

mutual
theorem bulk_eq {H : Type} : ∀ d : DataW H, bulk d = Rows.uptoBulk d
  | .lit l => by cases l <;> simp [bulk, Rows.uptoBulk]
  | .nil => by simp [bulk, Rows.uptoBulk]
  | .ptr d => by simp only [bulk, Rows.uptoBulk, bulk_eq d]
  | .slice a b => by simp only [bulk, Rows.uptoBulk, bulkAll_eq a, bulkAll_eq b]
  | .agg ps => by simp only [bulk, Rows.uptoBulk, bulkAll_eq ps]
  | .iface t d => by simp only [bulk, Rows.uptoBulk, bulk_eq d]
  | .map es => by simp only [bulk, Rows.uptoBulk, bulkEntries_eq es]
  | .held _ => by simp [bulk, Rows.uptoBulk]
theorem bulkAll_eq {H : Type} : ∀ l : List (DataW H), bulkAll l = Rows.uptoBulkAll l
  | [] => by simp [bulkAll, Rows.uptoBulkAll]
  | d :: r => by simp only [bulkAll, Rows.uptoBulkAll, bulk_eq d, bulkAll_eq r]
theorem bulkEntries_eq {H : Type} : ∀ l : List (Lit × DataW H), bulkEntries l = Rows.uptoBulkEntries l
  | [] => by simp [bulkEntries, Rows.uptoBulkEntries]
  | d :: r => by simp only [bulkEntries, Rows.uptoBulkEntries, bulkEntry_eq d, bulkEntries_eq r]
theorem bulkEntry_eq {H : Type} : ∀ x : Lit × DataW H, bulkEntry x = Rows.uptoBulkEntry x
  | (k, d) => by cases k <;> simp [bulkEntry, Rows.uptoBulkEntry, bulk_eq d]
end
theorem le_sum {α : Type} (g : α → Nat) : ∀ {l : List α} {x : α}, x ∈ l → g x ≤ (l.map g).sum
  | y :: l, x, h => by
    simp only [List.map_cons, List.sum_cons]
    rcases List.mem_cons.1 h with rfl | h
    · omega
    · have := le_sum g h; omega
theorem len_sum {α : Type} (g : α → Nat) (hg : ∀ x, 1 ≤ g x) : ∀ (l : List α), l.length ≤ (l.map g).sum
  | [] => by simp
  | y :: l => by
    have := len_sum g hg l
    have := hg y
    simp only [List.map_cons, List.sum_cons, List.length_cons]
    omega
theorem own_none : ownKnob Try.prog.godebug = none := by kernel_rfl
theorem laid_out : laidOutB Try.prog = true := by kernel_rfl

theorem dec_run : Dec Try.prog 213 runV (fun _ => True) (fun _ => 1) := by
  refine Dec.of (Dec.struct Try.underlying213 (DecFs.cons rfl (next := 1) (by kernel_rfl) (Dec.int Try.underlying3) (DecFs.cons rfl (next := 2) (by kernel_rfl) (Dec.int Try.underlying3) DecFs.nil))) (fun x => (x.1, x.2.1)) (fun x _ => ⟨rfl, trivial, by first | omega | (simp only; omega)⟩)
theorem dec_runs : Dec Try.prog 28 (fun l : List (Int × Int) => V.slice (l.map runV)) (fun _ => True) (fun l => l.length) :=
  Dec.of (Dec.slice Try.underlying28 (of_decide_eq_true (by kernel_rfl)) dec_run) id (fun x _ => ⟨rfl, trivial, by have := len_sum (fun x : Int × Int => 1) (fun x => by omega) x; simp only [id]; omega⟩)
def szS (s : Str) : Nat := s.text.length + s.runs.length + 1
theorem dec_str : Dec Try.prog 30 strV (fun _ => True) szS := by
  refine Dec.of (Dec.struct Try.underlying30 (DecFs.cons rfl (next := 1) (by kernel_rfl) (Dec.str Try.underlying9) (DecFs.cons rfl (next := 2) (by kernel_rfl) dec_runs DecFs.nil))) (fun x => ⟨x.1, x.2.1⟩) (fun x _ => ⟨rfl, trivial, by simp only [szS]; omega⟩)
theorem okS_sz {s : Str} (h : szS s ≤ 1048576) : okS s := by unfold szS at h; exact ⟨by omega, by omega⟩
def szA (a : Attr) : Nat := szS a.name + szS a.value + 1
theorem dec_attr : Dec Try.prog 126 attrV (fun _ => True) szA := by
  refine Dec.of (Dec.struct Try.underlying126 (DecFs.cons rfl (next := 2) (by kernel_rfl) dec_str (DecFs.cons rfl (next := 4) (by kernel_rfl) dec_str DecFs.nil))) (fun x => ⟨x.1, x.2.1⟩) (fun x _ => ⟨rfl, trivial, by simp only [szA]; omega⟩)
theorem okA_sz {a : Attr} (h : szA a ≤ 1048576) : okA a := by unfold szA at h; exact ⟨okS_sz (by omega), okS_sz (by omega)⟩
def szAs (l : List Attr) : Nat := (l.map szA).sum + 1
theorem dec_attrs : Dec Try.prog 31 (fun l : List Attr => V.slice (l.map attrV)) (fun _ => True) szAs :=
  Dec.of (Dec.slice Try.underlying31 (of_decide_eq_true (by kernel_rfl)) dec_attr) id (fun x _ => ⟨rfl, trivial, by simp only [id, szAs]; omega⟩)
theorem okA_szs {l : List Attr} (h : szAs l ≤ 1048576) : (∀ a ∈ l, okA a) ∧ l.length ≤ 1048576 := by
  unfold szAs at h
  refine ⟨fun a ha => okA_sz (by have := le_sum szA ha; omega), ?_⟩
  have := len_sum szA (fun x => by simp [szA]) l
  omega

theorem dec_ops : Dec Try.prog 177 opsV (fun _ => True) (fun o => szS o.text) := by
  refine Dec.of (Dec.struct Try.underlying177 (DecFs.cons rfl (next := 1) (by kernel_rfl) (Dec.int Try.underlying3) (DecFs.cons rfl (next := 2) (by kernel_rfl) (Dec.int Try.underlying3) (DecFs.cons rfl (next := 3) (by kernel_rfl) (Dec.int Try.underlying3) (DecFs.cons rfl (next := 4) (by kernel_rfl) (Dec.int Try.underlying3) (DecFs.cons rfl (next := 6) (by kernel_rfl) dec_str DecFs.nil)))))) (fun x => ⟨x.1, x.2.1, x.2.2.1, x.2.2.2.1, x.2.2.2.2.1⟩) (fun x _ => ⟨rfl, trivial, by first | omega | (simp only; omega)⟩)
theorem dec_opss : Dec Try.prog 66 (fun l : List OpS => V.slice (l.map opsV)) (fun _ => True) (fun l => (l.map fun o => szS o.text).sum) :=
  Dec.of (Dec.slice Try.underlying66 (of_decide_eq_true (by kernel_rfl)) dec_ops) id (fun x _ => ⟨rfl, trivial, by simp only [id]; omega⟩)
theorem shot_ok {l : List OpS} (h : (l.map fun o => szS o.text).sum ≤ 1048576) (o : OpS) (ho : o ∈ l) : okS o.text ∧ o.text.text.length ≤ 1048576 := by
  have h1 := le_sum (fun o : OpS => szS o.text) ho
  have h2 : szS o.text ≤ 1048576 := by omega
  exact ⟨okS_sz h2, by unfold szS at h2; omega⟩
open Go.ChangeShapes Go.WideShapes Go.ChangeAt Go.RowKit in
theorem shotTells_lifted (os : Os) (started : os.Started) (H : Type) (enc : TypeId × Value → H) (F : Stop.Interp) :
    ReturnsInHanded {} Try.checked os 7 .any ((Rows.OpenSpec.upto Rows.shotTellsSpec).pre6 enc Try.prog Try.f7 Rows.shotTellsUptoRow.domain false) (((Rows.OpenSpec.upto Rows.shotTellsSpec).at F).post enc Try.prog Try.f7 false true false false) := by
  refine returnsInHanded_of_cond (C := Try.checked) (s := Rows.OpenSpec.upto Rows.shotTellsSpec) (k := Rows.uptoSmall) rfl own_none started (by kernel_rfl) Try.func7
    (OpenSpec.witness (enc := enc) (C := Try.checked) (s := Rows.OpenSpec.upto Rows.shotTellsSpec) (k := Rows.uptoSmall) rfl false ⟨#[], #[.slice none 0 0, .int .i64 0, .int .i64 0], []⟩ 8 (by kernel_rfl) (by kernel_rfl) (by kernel_rfl)
      (x := ([.nil, .lit (.int .i64 0), .lit (.int .i64 0)], [], [])) (by kernel_rfl) rfl (by kernel_rfl)) ?_
  intro W base args ds gs before hval0 hW _ hk _
  have hval : ∀ (j : Nat) t v, Try.f7.params[j]? = some t → args[j]? = some v → Value.okWide Try.prog W .any base t v := hval0
  obtain ⟨p0_, q0_, hA, _⟩ := id hW
  have hA0 : DataW.TrodAll enc Try.prog W 0 (fun _ => true) true Try.f7.params.toList args.toList ds p0_ := hA
  rw [Try.params7] at hA0 hval
  obtain ⟨v0, v1, v2, d0, d1, d2, p0, p1, p2, rfl, rfl, rfl, h0, h1, h2⟩ := trodAll_three hA0
  obtain ⟨l, hp_l, hz_l, hv_l⟩ := dec_opss.value h0 (fun _ => okAgg_leaf (by simp) (ok_slice Try.underlying66 (hval 0 66 v0 rfl rfl)))
  obtain ⟨slot, hp_slot, hz_slot, hv_slot⟩ := (Dec.int Try.underlying3).value h1 (fun _ => okAgg_leaf (by simp) (ok_int Try.underlying3 (hval 1 3 v1 rfl rfl)))
  obtain ⟨id, hp_id, hz_id, hv_id⟩ := (Dec.int Try.underlying3).value h2 (fun _ => okAgg_leaf (by simp) (ok_int Try.underlying3 (hval 2 3 v2 rfl rfl)))
  have hb : Rows.uptoBulkAll ([d0, d1, d2] ++ gs) ≤ 1048576 := of_decide_eq_true hk
  rw [← bulkAll_eq] at hb
  simp only [List.cons_append, bulkAll] at hb
  exact row_contract (P := Try.prog) (s := Rows.shotTellsSpec) (vs := [.slice (l.map opsV), .int .i64 slot, .int .i64 id]) laid_out (by kernel_rfl) rfl Try.call7 rfl Try.underlying4 hW ⟨rfl, rfl, rfl⟩ ⟨hv_l, hv_slot, hv_id, trivial⟩ (shotTells [] l slot id (fun o ho => shot_ok (l := l) (by omega) o ho))
theorem shotTells_upto : Rows.ShotTellsUptoSaid :=
  OpenClaim.holds_of_cond 7 Try.f7 rfl rfl rfl rfl rfl rfl rfl ⟨rfl, rfl, rfl, rfl, rfl⟩ rfl rfl rfl rfl rfl (by kernel_rfl) Try.func7 (by kernel_rfl)
    (of_decide_eq_true (by kernel_rfl)) (by unfold Func.isWrapper; first | (rw [if_neg (by decide +kernel)]; exact ⟨rfl, rfl⟩) | (rw [if_pos (by decide +kernel)]; kernel_rfl))
    (fun os started H enc _ F => shotTells_lifted os started H enc F)
end Go.Proofs.Ytjplgbalpnlanaa

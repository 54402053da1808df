/- The walks of package shot: Ids, Mount. -/
import Derived.Test.YtjplgbalpnlanaaPath1
set_option linter.unusedSimpArgs false
set_option linter.unusedVariables false
set_option maxRecDepth 100000
namespace Go.Proofs.Ytjplgbalpnlanaa
open Go Go.EL
theorem zrShot11 : type_of% (And.intro (And.intro (And.intro (And.intro (@st_run) (And.intro (@sz_run) (@st1_run))) (And.intro (@cl_run) (And.intro (@st_Str) (@sz_Str)))) (And.intro (And.intro (@st1_Str) (And.intro (@cl_Str) (@st_c))) (And.intro (@sz_c) (And.intro (@st1_c) (@cl_c))))) (And.intro (And.intro (And.intro (@st_attr) (And.intro (@sz_attr) (@st1_attr))) (And.intro (@cl_attr) (And.intro (@st_hook) (@sz_hook)))) (And.intro (And.intro (@st1_hook) (And.intro (@cl_hook) (@st_node))) (And.intro (@sz_node) (And.intro (@st1_node) (@cl_node)))))) := And.intro (And.intro (And.intro (And.intro (@st_run) (And.intro (@sz_run) (@st1_run))) (And.intro (@cl_run) (And.intro (@st_Str) (@sz_Str)))) (And.intro (And.intro (@st1_Str) (And.intro (@cl_Str) (@st_c))) (And.intro (@sz_c) (And.intro (@st1_c) (@cl_c))))) (And.intro (And.intro (And.intro (@st_attr) (And.intro (@sz_attr) (@st1_attr))) (And.intro (@cl_attr) (And.intro (@st_hook) (@sz_hook)))) (And.intro (And.intro (@st1_hook) (And.intro (@cl_hook) (@st_node))) (And.intro (@sz_node) (And.intro (@st1_node) (@cl_node)))))
theorem zlShot11 : type_of% (And.intro (And.intro (And.intro (And.intro (@lt_vi) (@lt_str)) (And.intro (@lt_vb) (And.intro (@ltc_str) (@ltc_vi)))) (And.intro (And.intro (@lt_run) (And.intro (@lt1_run) (@ltc_run))) (And.intro (@lt_Str) (And.intro (@lt1_Str) (@ltc_Str))))) (And.intro (And.intro (And.intro (@lt_c) (And.intro (@lt1_c) (@ltc_c))) (And.intro (@lt_attr) (And.intro (@lt1_attr) (@ltc_attr)))) (And.intro (And.intro (@lt_hook) (And.intro (@lt1_hook) (@ltc_hook))) (And.intro (@lt_node) (And.intro (@lt1_node) (@ltc_node)))))) := And.intro (And.intro (And.intro (And.intro (@lt_vi) (@lt_str)) (And.intro (@lt_vb) (And.intro (@ltc_str) (@ltc_vi)))) (And.intro (And.intro (@lt_run) (And.intro (@lt1_run) (@ltc_run))) (And.intro (@lt_Str) (And.intro (@lt1_Str) (@ltc_Str))))) (And.intro (And.intro (And.intro (@lt_c) (And.intro (@lt1_c) (@ltc_c))) (And.intro (@lt_attr) (And.intro (@lt1_attr) (@ltc_attr)))) (And.intro (And.intro (@lt_hook) (And.intro (@lt1_hook) (@ltc_hook))) (And.intro (@lt_node) (And.intro (@lt1_node) (@ltc_node)))))
/-- a node, and all within it -/
def idsG (a : Arena) : Nat → Int → List Int
  | 0, _ => []
  | k + 1, id => match nget a.nodes id with
    | none => []
    | some n => id :: n.kids.flatMap (idsG a k)
/-- a node's depth is less than k -/
def deepG (a : Arena) : Nat → Int → Prop
  | 0, _ => False
  | k + 1, id => ∀ n, nget a.nodes id = some n → ∀ c ∈ n.kids, deepG a k c
theorem idsG_some {a : Arena} {k : Nat} {id : Int} {n : Node} (h : nget a.nodes id = some n) : idsG a (k + 1) id = id :: n.kids.flatMap (idsG a k) := by rw [idsG, h]
theorem idsG_none {a : Arena} {k : Nat} {id : Int} (h : nget a.nodes id = none) : idsG a (k + 1) id = [] := by rw [idsG, h]
theorem flatMap_succ {α β : Type} (f : α → List β) {l : List α} {i : Nat} (h : i < l.length) : (l.take (i + 1)).flatMap f = (l.take i).flatMap f ++ f l[i] := by
  rw [List.take_succ_eq_append_getElem h, List.flatMap_append]; simp
theorem flatMap_le {α β : Type} (f : α → List β) {l : List α} {i : Nat} : ((l.take i).flatMap f).length ≤ (l.flatMap f).length := by
  conv => rhs; rw [← List.take_append_drop i l]
  rw [List.flatMap_append, List.length_append]
  omega
theorem flatMap_mem_le {α β : Type} (f : α → List β) {l : List α} {x : α} (h : x ∈ l) : (f x).length ≤ (l.flatMap f).length := by
  induction l with
  | nil => cases h
  | cons y l ih =>
    rw [List.flatMap_cons, List.length_append]
    rcases List.mem_cons.1 h with rfl | h
    · omega
    · have := ih h; omega
set_option maxHeartbeats 2000000 in
theorem sIds (A m : Nat) (a : Arena) (hok : ∀ p ∈ a.nodes, okN p.2.2) : ∀ (k : Nat) (id : Int) (H : List Ob), arenaAt H A m a → deepG a k id → (idsG a k id).length ≤ 1000000 → SCall Try.prog 47 [.ref A 0, .int .i64 id] H (fun r H' => r = .slice ((idsG a k id).map vi) ∧ H' = H) := by
  intro k
  induction k with
  | zero => intro id H _ h; exact h.elim
  | succ k ih =>
    intro id H h hd hsz
    have lA := (List.getElem?_eq_some_iff.1 h.1).1
    cases hn : nget a.nodes id with
    | none =>
      rw [idsG_none hn]
      refine SCall.of_good fun hH => ?_
      have hHk := HLt.add hH
      refine SCall.of_code Tok Try.func47 rfl Try.call47 (n := 34) rfl (by simp) (rs := [.tmp 4]) rfl ?_
      refine EWn.to ?_
      refine EWn.of_c Tok mixed (own := true) keep47 tab47 (by kernel_rfl) ?_
      (repeat (first | simp -dsimp only [zrShot11, xnils, xnilm, xrange, xmakeMap, xslice3, RB, TB, keep47, tab47, xindexAddr, xindex, xslice, xconvert, xlen, ewOp, FreeW, StabW, SameW, ChangeW, AddW, BaseW, limBytes, simprocAttr, ne_eq] | ((with_reducible refine Need.intro ?_ ?_); (first | trivial | exact ⟨_, rfl⟩ | exact ⟨[], (List.append_nil _).symm⟩ | omega | (simp; done) | (simp; omega) | exact ⟨by first | trivial | (simp; done), _, by first | rfl | (simp; rfl)⟩))))
      (first | refine SCall.then (aGetN _ A m a h hok id hn) ?_ | refine SCall.thenA (aGetN _ A m a h hok id hn) (by repeat (first | exact trivial | exact .inl (.inl rfl) | exact .inl (.inr ⟨_, rfl, rfl⟩) | exact .inl rfl | exact .inr ⟨_, rfl, rfl⟩ | refine .inr ⟨_, _, rfl, rfl, ?_⟩ | refine ⟨?_, ?_⟩)) ?_ | refine CallE.intro _ (aGetN _ A m a h hok id hn) ?_ | refine CallE.introA (aGetN _ A m a h hok id hn) (by repeat (first | exact trivial | exact .inl (.inl rfl) | exact .inl (.inr ⟨_, rfl, rfl⟩) | exact .inl rfl | exact .inr ⟨_, rfl, rfl⟩ | refine .inr ⟨_, _, rfl, rfl, ?_⟩ | refine ⟨?_, ?_⟩)) ?_ | refine CallE.intro _ (fun _ => aGetN _ A m a h hok id hn) ?_ | refine CallE.intro _ (fun _ => SCall.arg (by repeat (first | exact trivial | exact .inl (.inl rfl) | exact .inl (.inr ⟨_, rfl, rfl⟩) | exact .inl rfl | exact .inr ⟨_, rfl, rfl⟩ | refine .inr ⟨_, _, rfl, rfl, ?_⟩ | refine ⟨?_, ?_⟩)) (aGetN _ A m a h hok id hn)) ?_ | refine CallE2.intro _ _ (aGetN _ A m a h hok id hn) ?_ | refine CallE2.intro _ _ (SCall.arg (by repeat (first | exact trivial | exact .inl (.inl rfl) | exact .inl (.inr ⟨_, rfl, rfl⟩) | exact .inl rfl | exact .inr ⟨_, rfl, rfl⟩ | refine .inr ⟨_, _, rfl, rfl, ?_⟩ | refine ⟨?_, ?_⟩)) (aGetN _ A m a h hok id hn)) ?_)
      (repeat (first | simp -dsimp only [zrShot11, xnils, xnilm, xrange, xmakeMap, xslice3, nodeV, RB, TB, keep47, tab47, xindexAddr, xindex, xslice, xconvert, xlen, ewOp, FreeW, StabW, SameW, ChangeW, AddW, BaseW, limBytes, simprocAttr, ne_eq] | ((with_reducible refine Need.intro ?_ ?_); (first | trivial | exact ⟨_, rfl⟩ | exact ⟨[], (List.append_nil _).symm⟩ | omega | (simp; done) | (simp; omega) | exact ⟨by first | trivial | (simp; done), _, by first | rfl | (simp; rfl)⟩))))
      refine RetW.auto0 false _ (by first | rfl | exact (List.append_nil _).symm) ?_ ?_
      · (simp (maxDischargeDepth := 6) [LTB, HLt_set, ltL_take, ltL_drop, ltL_rep, ltL_set, upd, eset, hH, hHk, zlShot11] <;> omega)
      (try simp only [wk, wk1, wk0, RB, limBytes, simprocAttr, ne_eq])
      (try (rw [List.take_of_length_le]; rotate_left 1; (· first | (simp; done) | (simp; omega) | omega)))
    | some n =>
      have hdk := hd n hn
      rw [idsG_some hn] at hsz ⊢
      rw [List.length_cons] at hsz
      have hkids : (ownN n).kids = n.kids := rfl
      have hkl : n.kids.length ≤ 1000000000000 := by
        obtain ⟨p, hp, hp2⟩ := nget_mem hn
        exact hp2 ▸ (hok p hp).2.2.2.2.2
      obtain ⟨out, hout⟩ : ∃ out : Nat → List Int, ∀ i, out i = id :: (n.kids.take i).flatMap (idsG a k) := ⟨_, fun _ => rfl⟩
      have hout0 : out 0 = [id] := by rw [hout]; simp
      have houtn : id :: n.kids.flatMap (idsG a k) = out n.kids.length := by rw [hout, List.take_length]
      have houtl : ∀ i, (out i).length ≤ 1000000 := fun i => by
        have hfl := flatMap_le (idsG a k) (l := n.kids) (i := i)
        rw [hout, List.length_cons]; omega
      rw [houtn]
      refine SCall.of_good fun hH => ?_
      have hHk := HLt.add hH
      refine SCall.of_code Tok Try.func47 rfl Try.call47 (n := 34) rfl (by simp) (rs := [.tmp 4]) rfl ?_
      refine EWn.to ?_
      refine EWn.of_c Tok mixed (own := true) keep47 tab47 (by kernel_rfl) ?_
      (repeat (first | simp -dsimp only [zrShot11, xnils, xnilm, xrange, xmakeMap, xslice3, RB, TB, keep47, tab47, xindexAddr, xindex, xslice, xconvert, xlen, ewOp, FreeW, StabW, SameW, ChangeW, AddW, BaseW, limBytes, simprocAttr, ne_eq] | ((with_reducible refine Need.intro ?_ ?_); (first | trivial | exact ⟨_, rfl⟩ | exact ⟨[], (List.append_nil _).symm⟩ | omega | (simp; done) | (simp; omega) | exact ⟨by first | trivial | (simp; done), _, by first | rfl | (simp; rfl)⟩))))
      (first | refine SCall.then (aGetS _ A m a h hok id n hn) ?_ | refine SCall.thenA (aGetS _ A m a h hok id n hn) (by repeat (first | exact trivial | exact .inl (.inl rfl) | exact .inl (.inr ⟨_, rfl, rfl⟩) | exact .inl rfl | exact .inr ⟨_, rfl, rfl⟩ | refine .inr ⟨_, _, rfl, rfl, ?_⟩ | refine ⟨?_, ?_⟩)) ?_ | refine CallE.intro _ (aGetS _ A m a h hok id n hn) ?_ | refine CallE.introA (aGetS _ A m a h hok id n hn) (by repeat (first | exact trivial | exact .inl (.inl rfl) | exact .inl (.inr ⟨_, rfl, rfl⟩) | exact .inl rfl | exact .inr ⟨_, rfl, rfl⟩ | refine .inr ⟨_, _, rfl, rfl, ?_⟩ | refine ⟨?_, ?_⟩)) ?_ | refine CallE.intro _ (fun _ => aGetS _ A m a h hok id n hn) ?_ | refine CallE.intro _ (fun _ => SCall.arg (by repeat (first | exact trivial | exact .inl (.inl rfl) | exact .inl (.inr ⟨_, rfl, rfl⟩) | exact .inl rfl | exact .inr ⟨_, rfl, rfl⟩ | refine .inr ⟨_, _, rfl, rfl, ?_⟩ | refine ⟨?_, ?_⟩)) (aGetS _ A m a h hok id n hn)) ?_ | refine CallE2.intro _ _ (aGetS _ A m a h hok id n hn) ?_ | refine CallE2.intro _ _ (SCall.arg (by repeat (first | exact trivial | exact .inl (.inl rfl) | exact .inl (.inr ⟨_, rfl, rfl⟩) | exact .inl rfl | exact .inr ⟨_, rfl, rfl⟩ | refine .inr ⟨_, _, rfl, rfl, ?_⟩ | refine ⟨?_, ?_⟩)) (aGetS _ A m a h hok id n hn)) ?_)
      (repeat (first | simp -dsimp only [zrShot11, xnils, xnilm, xrange, xmakeMap, xslice3, nodeV, hkids, RB, TB, keep47, tab47, xindexAddr, xindex, xslice, xconvert, xlen, ewOp, FreeW, StabW, SameW, ChangeW, AddW, BaseW, limBytes, simprocAttr, ne_eq] | ((with_reducible refine Need.intro ?_ ?_); (first | trivial | exact ⟨_, rfl⟩ | exact ⟨[], (List.append_nil _).symm⟩ | omega | (simp; done) | (simp; omega) | exact ⟨by first | trivial | (simp; done), _, by first | rfl | (simp; rfl)⟩))))
      have ltc : ∀ (k : Nat) (x : Node), ltL k (nodeV x).cells := fun k x => by have := lt1_node k x; simp only [nodeV, V.lt] at this; exact this
      refine EWn.loopE (ι := (Nat) × (Nat)) (fun (x_ : (Nat) × (Nat)) => match x_ with | (i, v) => i ≤ n.kids.length) (fun (x_ : (Nat) × (Nat)) => match x_ with | (i, v) => n.kids.length - i) (fun (x_ : (Nat) × (Nat)) => match x_ with | (i, v) => [(7, .vec (H.length + 1) v 0 (out i).length), (23, .int .i64 i)]) (fun (x_ : (Nat) × (Nat)) => match x_ with | (i, v) => H ++ [.var (nodeV (ownN n)).cells, .vec v 1 ((out i).map vi)]) (0, 1) ?_ ?_ ?_ ?_ ?_
      · first | rfl | (simp [upd, eset]; done) | (simp [upd, eset, hout0, vi, nodeV, hkids, V.cells]; done)
      · simp [hout0, vi, nodeV, hkids, V.cells]
      · rintro ⟨i, v⟩ hi
        refine ⟨by simp, ?_, ?_⟩
        · rw [HLt_append]
          refine ⟨by rw [List.length_append]; exact hHk _, ?_⟩
          rw [HLt_cons, HLt_cons]
          exact ⟨ltc _ _, lt_vi _ _, HLt_nil⟩
        · (simp (maxDischargeDepth := 6) [LTB, HLt_set, ltL_take, ltL_drop, ltL_rep, ltL_set, upd, eset, hH, hHk, zlShot11] <;> omega)
      · omega
      rintro ⟨i, v⟩ hi
      have hol := houtl i
      refine EWn.of_c Tok mixed (own := false) keep47 tab47 (by kernel_rfl) ?_
      (repeat (first | simp -dsimp only [zrShot11, xnils, xnilm, xrange, xmakeMap, xslice3, RB, TB, keep47, tab47, xindexAddr, xindex, xslice, xconvert, xlen, ewOp, FreeW, StabW, SameW, ChangeW, AddW, BaseW, limBytes, simprocAttr, ne_eq] | ((with_reducible refine Need.intro ?_ ?_); (first | trivial | exact ⟨_, rfl⟩ | exact ⟨[], (List.append_nil _).symm⟩ | omega | (simp; done) | (simp; omega) | exact ⟨by first | trivial | (simp; done), _, by first | rfl | (simp; rfl)⟩))))
      refine IfW.intro (fun hs => ?_) (fun hs => ?_)
      · have hlt := lt_of hs
        have hsucc : out (i + 1) = out i ++ idsG a k n.kids[i] := by rw [hout, hout, flatMap_succ (idsG a k) hlt]; rfl
        have hol2 := houtl (i + 1)
        rw [hsucc, List.length_append] at hol2
        have hmi := at_map vi n.kids i hlt
        simp only [vi] at hmi
        (repeat (first | simp -dsimp only [zrShot11, xnils, xnilm, xrange, xmakeMap, xslice3, hs, hmi, RB, TB, keep47, tab47, xindexAddr, xindex, xslice, xconvert, xlen, ewOp, FreeW, StabW, SameW, ChangeW, AddW, BaseW, limBytes, simprocAttr, ne_eq] | ((with_reducible refine Need.intro ?_ ?_); (first | trivial | exact ⟨_, rfl⟩ | exact ⟨[], (List.append_nil _).symm⟩ | omega | (simp; done) | (simp; omega) | exact ⟨by first | trivial | (simp; done), _, by first | rfl | (simp; rfl)⟩))))
        refine SCall.then (ih n.kids[i] _ (arena_app h _) (hdk _ (List.getElem_mem hlt)) (by omega)) ?_
        generalize idsG a k n.kids[i] = l2 at *
        (repeat (first | simp -dsimp only [zrShot11, xnils, xnilm, xrange, xmakeMap, xslice3, hs, RB, TB, keep47, tab47, xindexAddr, xindex, xslice, xconvert, xlen, ewOp, FreeW, StabW, SameW, ChangeW, AddW, BaseW, limBytes, simprocAttr, ne_eq] | ((with_reducible refine Need.intro ?_ ?_); (first | trivial | exact ⟨_, rfl⟩ | exact ⟨[], (List.append_nil _).symm⟩ | omega | (simp; done) | (simp; omega) | exact ⟨by first | trivial | (simp; done), _, by first | rfl | (simp; rfl)⟩))))
        rw [wrapI (by omega)]
        refine UpTo.here ⟨(i + 1, v + 1), hlt, by simp only; omega, by simp only [hsucc, List.length_append]; simp [upd, eset], ⟨[], by simp only [hsucc, List.map_append, List.append_nil]⟩⟩
      · (repeat (first | simp -dsimp only [zrShot11, xnils, xnilm, xrange, xmakeMap, xslice3, hs, RB, TB, keep47, tab47, xindexAddr, xindex, xslice, xconvert, xlen, ewOp, FreeW, StabW, SameW, ChangeW, AddW, BaseW, limBytes, simprocAttr, ne_eq] | ((with_reducible refine Need.intro ?_ ?_); (first | trivial | exact ⟨_, rfl⟩ | exact ⟨[], (List.append_nil _).symm⟩ | omega | (simp; done) | (simp; omega) | exact ⟨by first | trivial | (simp; done), _, by first | rfl | (simp; rfl)⟩))))
        have hi2 : i = n.kids.length := Nat.le_antisymm hi (ge_of hs)
        subst hi2
        refine RetW.auto0 false _ (by first | rfl | exact (List.append_nil _).symm) ?_ ?_
        · (simp (maxDischargeDepth := 6) [LTB, HLt_set, ltL_take, ltL_drop, ltL_rep, ltL_set, upd, eset, hH, hHk, zlShot11] <;> omega)
        (try simp only [wk, wk1, wk0, RB, limBytes, simprocAttr, ne_eq])
        (try (rw [List.take_of_length_le]; rotate_left 1; (· first | (simp; done) | (simp; omega) | omega)))
        simp
theorem sMountF (G : List Ob) (A m : Nat) (a : Arena) (hok : ∀ p ∈ a.nodes, okN p.2.2) (h : arenaAt G A m a) (id slot : Int) (b c : Nat) (hb : G[b]? = some (.var [.ref A 0])) (hc : G[c]? = some (.var [.int .i64 slot])) : SCall Try.prog 120 [.int .i64 id, .ref b 0, .ref c 0] G (fun r H' => r = .bool ((nodeAt a id).kind == 3 && (nodeAt a id).slot == slot) ∧ H' = G) := by
  have lb := (List.getElem?_eq_some_iff.1 hb).1
  have lc := (List.getElem?_eq_some_iff.1 hc).1
  have hbK := fun K => get_appD (L := K) hb
  have hcK := fun K => get_appD (L := K) hc
  refine SCall.of_good fun hH => ?_
  have hHk := HLt.add hH
  refine SCall.of_code Tok Try.func120 rfl Try.call120 (n := 22) rfl (by simp) (rs := [.tmp 4]) rfl ?_
  refine EWn.to ?_
  refine EWn.of_c Tok mixed (own := false) keep120 tab120 (by kernel_rfl) ?_
  (repeat (first | simp -dsimp only [zrShot11, xnils, xnilm, xrange, xmakeMap, xslice3, hb, hc, hbK, hcK, RB, TB, keep120, tab120, xindexAddr, xindex, xslice, xconvert, xlen, ewOp, FreeW, StabW, SameW, ChangeW, AddW, BaseW, limBytes, simprocAttr, ne_eq] | ((with_reducible refine Need.intro ?_ ?_); (first | trivial | exact ⟨_, rfl⟩ | exact ⟨[], (List.append_nil _).symm⟩ | omega | (simp; done) | (simp; omega) | exact ⟨by first | trivial | (simp; done), _, by first | rfl | (simp; rfl)⟩))))
  (first | refine SCall.then (aGetF _ A m a h hok id) ?_ | refine SCall.thenA (aGetF _ A m a h hok id) (by repeat (first | exact trivial | exact .inl (.inl rfl) | exact .inl (.inr ⟨_, rfl, rfl⟩) | exact .inl rfl | exact .inr ⟨_, rfl, rfl⟩ | refine .inr ⟨_, _, rfl, rfl, ?_⟩ | refine ⟨?_, ?_⟩)) ?_ | refine CallE.intro _ (aGetF _ A m a h hok id) ?_ | refine CallE.introA (aGetF _ A m a h hok id) (by repeat (first | exact trivial | exact .inl (.inl rfl) | exact .inl (.inr ⟨_, rfl, rfl⟩) | exact .inl rfl | exact .inr ⟨_, rfl, rfl⟩ | refine .inr ⟨_, _, rfl, rfl, ?_⟩ | refine ⟨?_, ?_⟩)) ?_ | refine CallE.intro _ (fun _ => aGetF _ A m a h hok id) ?_ | refine CallE.intro _ (fun _ => SCall.arg (by repeat (first | exact trivial | exact .inl (.inl rfl) | exact .inl (.inr ⟨_, rfl, rfl⟩) | exact .inl rfl | exact .inr ⟨_, rfl, rfl⟩ | refine .inr ⟨_, _, rfl, rfl, ?_⟩ | refine ⟨?_, ?_⟩)) (aGetF _ A m a h hok id)) ?_ | refine CallE2.intro _ _ (aGetF _ A m a h hok id) ?_ | refine CallE2.intro _ _ (SCall.arg (by repeat (first | exact trivial | exact .inl (.inl rfl) | exact .inl (.inr ⟨_, rfl, rfl⟩) | exact .inl rfl | exact .inr ⟨_, rfl, rfl⟩ | refine .inr ⟨_, _, rfl, rfl, ?_⟩ | refine ⟨?_, ?_⟩)) (aGetF _ A m a h hok id)) ?_)
  (repeat (first | simp -dsimp only [zrShot11, xnils, xnilm, xrange, xmakeMap, xslice3, nodeV, hb, hc, hbK, hcK, RB, TB, keep120, tab120, xindexAddr, xindex, xslice, xconvert, xlen, ewOp, FreeW, StabW, SameW, ChangeW, AddW, BaseW, limBytes, simprocAttr, ne_eq] | ((with_reducible refine Need.intro ?_ ?_); (first | trivial | exact ⟨_, rfl⟩ | exact ⟨[], (List.append_nil _).symm⟩ | omega | (simp; done) | (simp; omega) | exact ⟨by first | trivial | (simp; done), _, by first | rfl | (simp; rfl)⟩))))
  refine IfW.intro (fun h1 => ?_) (fun h1 => ?_)
  · (repeat (first | simp -dsimp only [zrShot11, xnils, xnilm, xrange, xmakeMap, xslice3, h1, hb, hc, hbK, hcK, nodeV, RB, TB, keep120, tab120, xindexAddr, xindex, xslice, xconvert, xlen, ewOp, FreeW, StabW, SameW, ChangeW, AddW, BaseW, limBytes, simprocAttr, ne_eq] | ((with_reducible refine Need.intro ?_ ?_); (first | trivial | exact ⟨_, rfl⟩ | exact ⟨[], (List.append_nil _).symm⟩ | omega | (simp; done) | (simp; omega) | exact ⟨by first | trivial | (simp; done), _, by first | rfl | (simp; rfl)⟩))))
    refine RetW.auto0 false _ (by first | rfl | exact (List.append_nil _).symm) ?_ ?_
    · (simp (maxDischargeDepth := 6) [LTB, HLt_set, ltL_take, ltL_drop, ltL_rep, ltL_set, upd, eset, hH, hHk, zlShot11] <;> omega)
    (try simp only [wk, wk1, wk0, RB, limBytes, simprocAttr, ne_eq])
    (try (rw [List.take_of_length_le]; rotate_left 1; (· first | (simp; done) | (simp; omega) | omega)))
    all_goals first | rfl | (rw [h1]; rfl)
  · (repeat (first | simp -dsimp only [zrShot11, xnils, xnilm, xrange, xmakeMap, xslice3, h1, hb, hc, hbK, hcK, nodeV, RB, TB, keep120, tab120, xindexAddr, xindex, xslice, xconvert, xlen, ewOp, FreeW, StabW, SameW, ChangeW, AddW, BaseW, limBytes, simprocAttr, ne_eq] | ((with_reducible refine Need.intro ?_ ?_); (first | trivial | exact ⟨_, rfl⟩ | exact ⟨[], (List.append_nil _).symm⟩ | omega | (simp; done) | (simp; omega) | exact ⟨by first | trivial | (simp; done), _, by first | rfl | (simp; rfl)⟩))))
    refine RetW.auto0 false _ (by first | rfl | exact (List.append_nil _).symm) ?_ ?_
    · (simp (maxDischargeDepth := 6) [LTB, HLt_set, ltL_take, ltL_drop, ltL_rep, ltL_set, upd, eset, hH, hHk, zlShot11] <;> omega)
    (try simp only [wk, wk1, wk0, RB, limBytes, simprocAttr, ne_eq])
    (try (rw [List.take_of_length_le]; rotate_left 1; (· first | (simp; done) | (simp; omega) | omega)))
    all_goals first | rfl | (rw [h1]; rfl)
theorem indexFunc_int (H : List Ob) (l : List (Int)) (k : FuncId) (fi ca : List V) (p : Int → Bool) (hf : ∀ x ∈ l, SCall Try.prog k (fi ++ vi x :: ca) H (fun r H' => r = .bool (p x) ∧ H' = H)) (hlf : ltL H.length fi ∧ ltL H.length ca) : SCall Try.prog 119 [.slice (l.map vi), .fn (.func k) fi ca] H (fun r H' => r = .int .i64 (ix p l) ∧ H' = H) := by
  obtain ⟨hl1, hl2⟩ := hlf
  refine SCall.sized 0 rfl fun hl => ?_
  rw [List.length_map, maxLen_eq] at hl
  refine SCall.of_good fun hH => ?_
  have hHk := HLt.add hH
  refine SCall.of_code Tok Try.func119 rfl Try.call119 (n := 19) rfl (by simp) (rs := [.tmp 4]) rfl ?_
  refine EWn.to ?_
  refine EWn.of_c Tok mixed (own := false) keep119 tab119 (by kernel_rfl) ?_
  (repeat (first | simp -dsimp only [zrShot11, xnils, xnilm, xrange, xmakeMap, xslice3, RB, TB, keep119, tab119, xindexAddr, xindex, xslice, xconvert, xlen, ewOp, FreeW, StabW, SameW, ChangeW, AddW, BaseW, limBytes, simprocAttr, ne_eq] | ((with_reducible refine Need.intro ?_ ?_); (first | trivial | exact ⟨_, rfl⟩ | exact ⟨[], (List.append_nil _).symm⟩ | omega | (simp; done) | (simp; omega) | exact ⟨by first | trivial | (simp; done), _, by first | rfl | (simp; rfl)⟩))))
  refine EWn.loopE (ι := (Nat)) (fun (i : (Nat)) => i ≤ l.length ∧ ∀ x ∈ l.take i, p x = false) (fun (i : (Nat)) => l.length - i) (fun (i : (Nat)) => [(8, .int .i64 i)]) (fun (i : (Nat)) => H) (0) ?_ ?_ ?_ ?_ ?_
  · first | rfl | simp [upd, eset]
  · first | rfl | (simp; done) | exact (set_same (by assumption)).symm
  · rintro i hok; exact ⟨by first | (simp; done) | (simp; omega), by (simp (maxDischargeDepth := 6) [LTB, HLt_set, ltL_take, ltL_drop, ltL_rep, ltL_set, upd, eset, hH, hHk, hl1, hl2, zlShot11] <;> omega), by (simp (maxDischargeDepth := 6) [LTB, HLt_set, ltL_take, ltL_drop, ltL_rep, ltL_set, upd, eset, hH, hHk, hl1, hl2, zlShot11] <;> omega)⟩
  · simp
  rintro i ⟨hi, hno⟩
  refine EWn.of_c Tok mixed (own := false) keep119 tab119 (by kernel_rfl) ?_
  (repeat (first | simp -dsimp only [zrShot11, xnils, xnilm, xrange, xmakeMap, xslice3, RB, TB, keep119, tab119, xindexAddr, xindex, xslice, xconvert, xlen, ewOp, FreeW, StabW, SameW, ChangeW, AddW, BaseW, limBytes, simprocAttr, ne_eq] | ((with_reducible refine Need.intro ?_ ?_); (first | trivial | exact ⟨_, rfl⟩ | exact ⟨[], (List.append_nil _).symm⟩ | omega | (simp; done) | (simp; omega) | exact ⟨by first | trivial | (simp; done), _, by first | rfl | (simp; rfl)⟩))))
  refine IfW.intro (fun h => ?_) (fun h => ?_)
  · have hlt := lt_of h
    (repeat (first | simp -dsimp only [zrShot11, xnils, xnilm, xrange, xmakeMap, xslice3, h, at_map vi l i hlt, vi, RB, TB, keep119, tab119, xindexAddr, xindex, xslice, xconvert, xlen, ewOp, FreeW, StabW, SameW, ChangeW, AddW, BaseW, limBytes, simprocAttr, ne_eq] | ((with_reducible refine Need.intro ?_ ?_); (first | trivial | exact ⟨_, rfl⟩ | exact ⟨[], (List.append_nil _).symm⟩ | omega | (simp; done) | (simp; omega) | exact ⟨by first | trivial | (simp; done), _, by first | rfl | (simp; rfl)⟩))))
    refine SCall.then (hf l[i] (List.getElem_mem hlt)) ?_
    (repeat (first | simp -dsimp only [zrShot11, xnils, xnilm, xrange, xmakeMap, xslice3, RB, TB, keep119, tab119, xindexAddr, xindex, xslice, xconvert, xlen, ewOp, FreeW, StabW, SameW, ChangeW, AddW, BaseW, limBytes, simprocAttr, ne_eq] | ((with_reducible refine Need.intro ?_ ?_); (first | trivial | exact ⟨_, rfl⟩ | exact ⟨[], (List.append_nil _).symm⟩ | omega | (simp; done) | (simp; omega) | exact ⟨by first | trivial | (simp; done), _, by first | rfl | (simp; rfl)⟩))))
    refine IfW.intro (fun hb => ?_) (fun hb => ?_)
    · (repeat (first | simp -dsimp only [zrShot11, xnils, xnilm, xrange, xmakeMap, xslice3, hb, RB, TB, keep119, tab119, xindexAddr, xindex, xslice, xconvert, xlen, ewOp, FreeW, StabW, SameW, ChangeW, AddW, BaseW, limBytes, simprocAttr, ne_eq] | ((with_reducible refine Need.intro ?_ ?_); (first | trivial | exact ⟨_, rfl⟩ | exact ⟨[], (List.append_nil _).symm⟩ | omega | (simp; done) | (simp; omega) | exact ⟨by first | trivial | (simp; done), _, by first | rfl | (simp; rfl)⟩))))
      refine RetW.auto0 false _ (by first | rfl | exact (List.append_nil _).symm) ?_ ?_
      · (simp (maxDischargeDepth := 6) [LTB, HLt_set, ltL_take, ltL_drop, ltL_rep, ltL_set, upd, eset, hH, hHk, hl1, hl2, zlShot11] <;> omega)
      (try simp only [wk, wk1, wk0, RB, limBytes, simprocAttr, ne_eq])
      (try (rw [List.take_of_length_le]; rotate_left 1; (· first | (simp; done) | (simp; omega) | omega)))
      rw [ix_hit hlt hb hno]
    · (repeat (first | simp -dsimp only [zrShot11, xnils, xnilm, xrange, xmakeMap, xslice3, hb, RB, TB, keep119, tab119, xindexAddr, xindex, xslice, xconvert, xlen, ewOp, FreeW, StabW, SameW, ChangeW, AddW, BaseW, limBytes, simprocAttr, ne_eq] | ((with_reducible refine Need.intro ?_ ?_); (first | trivial | exact ⟨_, rfl⟩ | exact ⟨[], (List.append_nil _).symm⟩ | omega | (simp; done) | (simp; omega) | exact ⟨by first | trivial | (simp; done), _, by first | rfl | (simp; rfl)⟩))))
      rw [wrapI (by omega)]
      refine UpTo.here ⟨(i + 1), ?_, by first | omega | (simp only [List.length_append, List.length_cons, List.length_nil]; omega), by simp [upd, eset], ⟨_, by simp; try rfl⟩⟩
      exact ⟨hlt, take_step hlt hb hno⟩
  · (repeat (first | simp -dsimp only [zrShot11, xnils, xnilm, xrange, xmakeMap, xslice3, h, RB, TB, keep119, tab119, xindexAddr, xindex, xslice, xconvert, xlen, ewOp, FreeW, StabW, SameW, ChangeW, AddW, BaseW, limBytes, simprocAttr, ne_eq] | ((with_reducible refine Need.intro ?_ ?_); (first | trivial | exact ⟨_, rfl⟩ | exact ⟨[], (List.append_nil _).symm⟩ | omega | (simp; done) | (simp; omega) | exact ⟨by first | trivial | (simp; done), _, by first | rfl | (simp; rfl)⟩))))
    refine RetW.auto0 false _ (by first | rfl | exact (List.append_nil _).symm) ?_ ?_
    · (simp (maxDischargeDepth := 6) [LTB, HLt_set, ltL_take, ltL_drop, ltL_rep, ltL_set, upd, eset, hH, hHk, hl1, hl2, zlShot11] <;> omega)
    (try simp only [wk, wk1, wk0, RB, limBytes, simprocAttr, ne_eq])
    (try (rw [List.take_of_length_le]; rotate_left 1; (· first | (simp; done) | (simp; omega) | omega)))
    rw [ix_none (take_all (ge_of h) hno)]
theorem indexFunc_int_vec (H : List Ob) (l : List (Int)) (k : FuncId) (fi ca : List V) (p : Int → Bool) (hf : ∀ x ∈ l, SCall Try.prog k (fi ++ vi x :: ca) H (fun r H' => r = .bool (p x) ∧ H' = H)) (hlf : ltL H.length fi ∧ ltL H.length ca) (o ver n : Nat) (ho : H[o]? = some (.vec ver 1 (l.map vi))) (hn : n = l.length) (hl : l.length ≤ 1000000000000) : SCall Try.prog 119 [.vec o ver 0 n, .fn (.func k) fi ca] H (fun r H' => r = .int .i64 (ix p l) ∧ H' = H) := by
  subst hn
  obtain ⟨hl1, hl2⟩ := hlf
  have holt := lt_of_get ho
  refine SCall.of_good fun hH => ?_
  have hHk := HLt.add hH
  refine SCall.of_code Tok Try.func119 rfl Try.call119 (n := 19) rfl (by simp) (rs := [.tmp 4]) rfl ?_
  refine EWn.to ?_
  refine EWn.of_c Tok mixed (own := false) keep119 tab119 (by kernel_rfl) ?_
  (repeat (first | simp -dsimp only [zrShot11, xnils, xnilm, xrange, xmakeMap, xslice3, ho, RB, TB, keep119, tab119, xindexAddr, xindex, xslice, xconvert, xlen, ewOp, FreeW, StabW, SameW, ChangeW, AddW, BaseW, limBytes, simprocAttr, ne_eq] | ((with_reducible refine Need.intro ?_ ?_); (first | trivial | exact ⟨_, rfl⟩ | exact ⟨[], (List.append_nil _).symm⟩ | omega | (simp; done) | (simp; omega) | exact ⟨by first | trivial | (simp; done), _, by first | rfl | (simp; rfl)⟩))))
  refine EWn.loopE (ι := (Nat)) (fun (i : (Nat)) => i ≤ l.length ∧ ∀ x ∈ l.take i, p x = false) (fun (i : (Nat)) => l.length - i) (fun (i : (Nat)) => [(8, .int .i64 i)]) (fun (i : (Nat)) => H) (0) ?_ ?_ ?_ ?_ ?_
  · first | rfl | simp [upd, eset]
  · first | rfl | (simp; done) | exact (set_same (by assumption)).symm
  · rintro i hok; exact ⟨by first | (simp; done) | (simp; omega), by (simp (maxDischargeDepth := 6) [LTB, HLt_set, ltL_take, ltL_drop, ltL_rep, ltL_set, upd, eset, hH, hHk, hl1, hl2, holt, zlShot11] <;> omega), by (simp (maxDischargeDepth := 6) [LTB, HLt_set, ltL_take, ltL_drop, ltL_rep, ltL_set, upd, eset, hH, hHk, hl1, hl2, holt, zlShot11] <;> omega)⟩
  · simp
  rintro i ⟨hi, hno⟩
  refine EWn.of_c Tok mixed (own := false) keep119 tab119 (by kernel_rfl) ?_
  (repeat (first | simp -dsimp only [zrShot11, xnils, xnilm, xrange, xmakeMap, xslice3, ho, RB, TB, keep119, tab119, xindexAddr, xindex, xslice, xconvert, xlen, ewOp, FreeW, StabW, SameW, ChangeW, AddW, BaseW, limBytes, simprocAttr, ne_eq] | ((with_reducible refine Need.intro ?_ ?_); (first | trivial | exact ⟨_, rfl⟩ | exact ⟨[], (List.append_nil _).symm⟩ | omega | (simp; done) | (simp; omega) | exact ⟨by first | trivial | (simp; done), _, by first | rfl | (simp; rfl)⟩))))
  refine IfW.intro (fun h => ?_) (fun h => ?_)
  · have hlt := lt_of h
    (repeat (first | simp -dsimp only [zrShot11, xnils, xnilm, xrange, xmakeMap, xslice3, h, ho, at_map vi l i hlt, vi, RB, TB, keep119, tab119, xindexAddr, xindex, xslice, xconvert, xlen, ewOp, FreeW, StabW, SameW, ChangeW, AddW, BaseW, limBytes, simprocAttr, ne_eq] | ((with_reducible refine Need.intro ?_ ?_); (first | trivial | exact ⟨_, rfl⟩ | exact ⟨[], (List.append_nil _).symm⟩ | omega | (simp; done) | (simp; omega) | exact ⟨by first | trivial | (simp; done), _, by first | rfl | (simp; rfl)⟩))))
    refine SCall.then (hf l[i] (List.getElem_mem hlt)) ?_
    (repeat (first | simp -dsimp only [zrShot11, xnils, xnilm, xrange, xmakeMap, xslice3, RB, TB, keep119, tab119, xindexAddr, xindex, xslice, xconvert, xlen, ewOp, FreeW, StabW, SameW, ChangeW, AddW, BaseW, limBytes, simprocAttr, ne_eq] | ((with_reducible refine Need.intro ?_ ?_); (first | trivial | exact ⟨_, rfl⟩ | exact ⟨[], (List.append_nil _).symm⟩ | omega | (simp; done) | (simp; omega) | exact ⟨by first | trivial | (simp; done), _, by first | rfl | (simp; rfl)⟩))))
    refine IfW.intro (fun hb => ?_) (fun hb => ?_)
    · (repeat (first | simp -dsimp only [zrShot11, xnils, xnilm, xrange, xmakeMap, xslice3, hb, RB, TB, keep119, tab119, xindexAddr, xindex, xslice, xconvert, xlen, ewOp, FreeW, StabW, SameW, ChangeW, AddW, BaseW, limBytes, simprocAttr, ne_eq] | ((with_reducible refine Need.intro ?_ ?_); (first | trivial | exact ⟨_, rfl⟩ | exact ⟨[], (List.append_nil _).symm⟩ | omega | (simp; done) | (simp; omega) | exact ⟨by first | trivial | (simp; done), _, by first | rfl | (simp; rfl)⟩))))
      refine RetW.auto0 false _ (by first | rfl | exact (List.append_nil _).symm) ?_ ?_
      · (simp (maxDischargeDepth := 6) [LTB, HLt_set, ltL_take, ltL_drop, ltL_rep, ltL_set, upd, eset, hH, hHk, hl1, hl2, holt, zlShot11] <;> omega)
      (try simp only [wk, wk1, wk0, RB, limBytes, simprocAttr, ne_eq])
      (try (rw [List.take_of_length_le]; rotate_left 1; (· first | (simp; done) | (simp; omega) | omega)))
      rw [ix_hit hlt hb hno]
    · (repeat (first | simp -dsimp only [zrShot11, xnils, xnilm, xrange, xmakeMap, xslice3, hb, RB, TB, keep119, tab119, xindexAddr, xindex, xslice, xconvert, xlen, ewOp, FreeW, StabW, SameW, ChangeW, AddW, BaseW, limBytes, simprocAttr, ne_eq] | ((with_reducible refine Need.intro ?_ ?_); (first | trivial | exact ⟨_, rfl⟩ | exact ⟨[], (List.append_nil _).symm⟩ | omega | (simp; done) | (simp; omega) | exact ⟨by first | trivial | (simp; done), _, by first | rfl | (simp; rfl)⟩))))
      rw [wrapI (by omega)]
      refine UpTo.here ⟨(i + 1), ?_, by first | omega | (simp only [List.length_append, List.length_cons, List.length_nil]; omega), by simp [upd, eset], ⟨_, by simp; try rfl⟩⟩
      exact ⟨hlt, take_step hlt hb hno⟩
  · (repeat (first | simp -dsimp only [zrShot11, xnils, xnilm, xrange, xmakeMap, xslice3, h, RB, TB, keep119, tab119, xindexAddr, xindex, xslice, xconvert, xlen, ewOp, FreeW, StabW, SameW, ChangeW, AddW, BaseW, limBytes, simprocAttr, ne_eq] | ((with_reducible refine Need.intro ?_ ?_); (first | trivial | exact ⟨_, rfl⟩ | exact ⟨[], (List.append_nil _).symm⟩ | omega | (simp; done) | (simp; omega) | exact ⟨by first | trivial | (simp; done), _, by first | rfl | (simp; rfl)⟩))))
    refine RetW.auto0 false _ (by first | rfl | exact (List.append_nil _).symm) ?_ ?_
    · (simp (maxDischargeDepth := 6) [LTB, HLt_set, ltL_take, ltL_drop, ltL_rep, ltL_set, upd, eset, hH, hHk, hl1, hl2, holt, zlShot11] <;> omega)
    (try simp only [wk, wk1, wk0, RB, limBytes, simprocAttr, ne_eq])
    (try (rw [List.take_of_length_le]; rotate_left 1; (· first | (simp; done) | (simp; omega) | omega)))
    rw [ix_none (take_all (ge_of h) hno)]

/-- the first slot of a number; 0: none -/
def mountG (a : Arena) (k : Nat) (slot : Int) : Int := ((idsG a k 0).find? fun id => (nodeAt a id).kind == 3 && (nodeAt a id).slot == slot).getD 0
theorem find_ix (p : Int → Bool) : ∀ l : List Int, (l.find? p = none ∧ ix p l = -1) ∨ ∃ i, ∃ h : i < l.length, ix p l = i ∧ l.find? p = some l[i] := fun l => by
  cases hf : l.find? p with
  | none =>
    left
    refine ⟨rfl, ix_none fun x hx => ?_⟩
    have := List.find?_eq_none.1 hf x hx
    simpa using this
  | some x =>
    right
    have hany : ∃ y ∈ l, p y = true := ⟨x, List.mem_of_find?_eq_some hf, List.find?_some hf⟩
    have hlt := List.findIdx_lt_length.2 hany
    refine ⟨l.findIdx p, hlt, ix_hit hlt List.findIdx_getElem (fun y hy => ?_), ?_⟩
    · obtain ⟨j, hj, rfl⟩ := List.mem_take_iff_getElem.1 hy
      have := List.not_of_lt_findIdx (p := p) (xs := l) (i := j) (by omega)
      simpa using this
    · rw [← hf, List.find?_eq_some_iff_getElem.2 ⟨List.findIdx_getElem (w := hlt), l.findIdx p, hlt, rfl, fun j hj => by
        have := List.not_of_lt_findIdx (p := p) (xs := l) (i := j) hj
        simpa using this⟩]
theorem sMount (H : List Ob) (A m : Nat) (a : Arena) (hok : ∀ p ∈ a.nodes, okN p.2.2) (h : arenaAt H A m a) (k : Nat) (hd : deepG a k 0) (hsz : (idsG a k 0).length ≤ 1000000) (slot : Int) : SCall Try.prog 48 [.ref A 0, .int .i64 slot] H (fun r H' => r = .int .i64 (mountG a k slot) ∧ H' = H) := by
  have lA := (List.getElem?_eq_some_iff.1 h.1).1
  refine SCall.of_good fun hH => ?_
  have hHk := HLt.add hH
  refine SCall.of_code Tok Try.func48 rfl Try.call48 (n := 18) rfl (by simp) (rs := [.tmp 4]) rfl ?_
  refine EWn.to ?_
  refine EWn.of_c Tok mixed (own := false) keep48 tab48 (by kernel_rfl) ?_
  (repeat (first | simp -dsimp only [zrShot11, xnils, xnilm, xrange, xmakeMap, xslice3, RB, TB, keep48, tab48, xindexAddr, xindex, xslice, xconvert, xlen, ewOp, FreeW, StabW, SameW, ChangeW, AddW, BaseW, limBytes, simprocAttr, ne_eq] | ((with_reducible refine Need.intro ?_ ?_); (first | trivial | exact ⟨_, rfl⟩ | exact ⟨[], (List.append_nil _).symm⟩ | omega | (simp; done) | (simp; omega) | exact ⟨by first | trivial | (simp; done), _, by first | rfl | (simp; rfl)⟩))))
  (first | refine SCall.then (sIds A m a hok k 0 _ (arena_app h _) hd hsz) ?_ | refine SCall.thenA (sIds A m a hok k 0 _ (arena_app h _) hd hsz) (by repeat (first | exact trivial | exact .inl (.inl rfl) | exact .inl (.inr ⟨_, rfl, rfl⟩) | exact .inl rfl | exact .inr ⟨_, rfl, rfl⟩ | refine .inr ⟨_, _, rfl, rfl, ?_⟩ | refine ⟨?_, ?_⟩)) ?_ | refine CallE.intro _ (sIds A m a hok k 0 _ (arena_app h _) hd hsz) ?_ | refine CallE.introA (sIds A m a hok k 0 _ (arena_app h _) hd hsz) (by repeat (first | exact trivial | exact .inl (.inl rfl) | exact .inl (.inr ⟨_, rfl, rfl⟩) | exact .inl rfl | exact .inr ⟨_, rfl, rfl⟩ | refine .inr ⟨_, _, rfl, rfl, ?_⟩ | refine ⟨?_, ?_⟩)) ?_ | refine CallE.intro _ (fun _ => sIds A m a hok k 0 _ (arena_app h _) hd hsz) ?_ | refine CallE.intro _ (fun _ => SCall.arg (by repeat (first | exact trivial | exact .inl (.inl rfl) | exact .inl (.inr ⟨_, rfl, rfl⟩) | exact .inl rfl | exact .inr ⟨_, rfl, rfl⟩ | refine .inr ⟨_, _, rfl, rfl, ?_⟩ | refine ⟨?_, ?_⟩)) (sIds A m a hok k 0 _ (arena_app h _) hd hsz)) ?_ | refine CallE2.intro _ _ (sIds A m a hok k 0 _ (arena_app h _) hd hsz) ?_ | refine CallE2.intro _ _ (SCall.arg (by repeat (first | exact trivial | exact .inl (.inl rfl) | exact .inl (.inr ⟨_, rfl, rfl⟩) | exact .inl rfl | exact .inr ⟨_, rfl, rfl⟩ | refine .inr ⟨_, _, rfl, rfl, ?_⟩ | refine ⟨?_, ?_⟩)) (sIds A m a hok k 0 _ (arena_app h _) hd hsz)) ?_)
  (repeat (first | simp -dsimp only [zrShot11, xnils, xnilm, xrange, xmakeMap, xslice3, RB, TB, keep48, tab48, xindexAddr, xindex, xslice, xconvert, xlen, ewOp, FreeW, StabW, SameW, ChangeW, AddW, BaseW, limBytes, simprocAttr, ne_eq] | ((with_reducible refine Need.intro ?_ ?_); (first | trivial | exact ⟨_, rfl⟩ | exact ⟨[], (List.append_nil _).symm⟩ | omega | (simp; done) | (simp; omega) | exact ⟨by first | trivial | (simp; done), _, by first | rfl | (simp; rfl)⟩))))
  (first | refine SCall.then (indexFunc_int _ (idsG a k 0) _ [] [.ref H.length 0, .ref (H.length + 1) 0] _ (fun x _ => sMountF _ A m a hok (arena_app h _) x slot H.length (H.length + 1) (by rw [hget0]; rfl) (by rw [hget]; rfl)) (by simp [ltL, V.lt])) ?_ | refine SCall.thenA (indexFunc_int _ (idsG a k 0) _ [] [.ref H.length 0, .ref (H.length + 1) 0] _ (fun x _ => sMountF _ A m a hok (arena_app h _) x slot H.length (H.length + 1) (by rw [hget0]; rfl) (by rw [hget]; rfl)) (by simp [ltL, V.lt])) (by repeat (first | exact trivial | exact .inl (.inl rfl) | exact .inl (.inr ⟨_, rfl, rfl⟩) | exact .inl rfl | exact .inr ⟨_, rfl, rfl⟩ | refine .inr ⟨_, _, rfl, rfl, ?_⟩ | refine ⟨?_, ?_⟩)) ?_ | refine CallE.intro _ (indexFunc_int _ (idsG a k 0) _ [] [.ref H.length 0, .ref (H.length + 1) 0] _ (fun x _ => sMountF _ A m a hok (arena_app h _) x slot H.length (H.length + 1) (by rw [hget0]; rfl) (by rw [hget]; rfl)) (by simp [ltL, V.lt])) ?_ | refine CallE.introA (indexFunc_int _ (idsG a k 0) _ [] [.ref H.length 0, .ref (H.length + 1) 0] _ (fun x _ => sMountF _ A m a hok (arena_app h _) x slot H.length (H.length + 1) (by rw [hget0]; rfl) (by rw [hget]; rfl)) (by simp [ltL, V.lt])) (by repeat (first | exact trivial | exact .inl (.inl rfl) | exact .inl (.inr ⟨_, rfl, rfl⟩) | exact .inl rfl | exact .inr ⟨_, rfl, rfl⟩ | refine .inr ⟨_, _, rfl, rfl, ?_⟩ | refine ⟨?_, ?_⟩)) ?_ | refine CallE.intro _ (fun _ => indexFunc_int _ (idsG a k 0) _ [] [.ref H.length 0, .ref (H.length + 1) 0] _ (fun x _ => sMountF _ A m a hok (arena_app h _) x slot H.length (H.length + 1) (by rw [hget0]; rfl) (by rw [hget]; rfl)) (by simp [ltL, V.lt])) ?_ | refine CallE.intro _ (fun _ => SCall.arg (by repeat (first | exact trivial | exact .inl (.inl rfl) | exact .inl (.inr ⟨_, rfl, rfl⟩) | exact .inl rfl | exact .inr ⟨_, rfl, rfl⟩ | refine .inr ⟨_, _, rfl, rfl, ?_⟩ | refine ⟨?_, ?_⟩)) (indexFunc_int _ (idsG a k 0) _ [] [.ref H.length 0, .ref (H.length + 1) 0] _ (fun x _ => sMountF _ A m a hok (arena_app h _) x slot H.length (H.length + 1) (by rw [hget0]; rfl) (by rw [hget]; rfl)) (by simp [ltL, V.lt]))) ?_ | refine CallE2.intro _ _ (indexFunc_int _ (idsG a k 0) _ [] [.ref H.length 0, .ref (H.length + 1) 0] _ (fun x _ => sMountF _ A m a hok (arena_app h _) x slot H.length (H.length + 1) (by rw [hget0]; rfl) (by rw [hget]; rfl)) (by simp [ltL, V.lt])) ?_ | refine CallE2.intro _ _ (SCall.arg (by repeat (first | exact trivial | exact .inl (.inl rfl) | exact .inl (.inr ⟨_, rfl, rfl⟩) | exact .inl rfl | exact .inr ⟨_, rfl, rfl⟩ | refine .inr ⟨_, _, rfl, rfl, ?_⟩ | refine ⟨?_, ?_⟩)) (indexFunc_int _ (idsG a k 0) _ [] [.ref H.length 0, .ref (H.length + 1) 0] _ (fun x _ => sMountF _ A m a hok (arena_app h _) x slot H.length (H.length + 1) (by rw [hget0]; rfl) (by rw [hget]; rfl)) (by simp [ltL, V.lt]))) ?_)
  (repeat (first | simp -dsimp only [zrShot11, xnils, xnilm, xrange, xmakeMap, xslice3, RB, TB, keep48, tab48, xindexAddr, xindex, xslice, xconvert, xlen, ewOp, FreeW, StabW, SameW, ChangeW, AddW, BaseW, limBytes, simprocAttr, ne_eq] | ((with_reducible refine Need.intro ?_ ?_); (first | trivial | exact ⟨_, rfl⟩ | exact ⟨[], (List.append_nil _).symm⟩ | omega | (simp; done) | (simp; omega) | exact ⟨by first | trivial | (simp; done), _, by first | rfl | (simp; rfl)⟩))))
  rcases find_ix (fun id => (nodeAt a id).kind == 3 && (nodeAt a id).slot == slot) (idsG a k 0) with ⟨h1, h2⟩ | ⟨i, hi, h1, h2⟩
  · rw [h2]
    (repeat (first | simp -dsimp only [zrShot11, xnils, xnilm, xrange, xmakeMap, xslice3, RB, TB, keep48, tab48, xindexAddr, xindex, xslice, xconvert, xlen, ewOp, FreeW, StabW, SameW, ChangeW, AddW, BaseW, limBytes, simprocAttr, ne_eq] | ((with_reducible refine Need.intro ?_ ?_); (first | trivial | exact ⟨_, rfl⟩ | exact ⟨[], (List.append_nil _).symm⟩ | omega | (simp; done) | (simp; omega) | exact ⟨by first | trivial | (simp; done), _, by first | rfl | (simp; rfl)⟩))))
    refine RetW.auto0 false _ (by first | rfl | exact (List.append_nil _).symm) ?_ ?_
    · (simp (maxDischargeDepth := 6) [LTB, HLt_set, ltL_take, ltL_drop, ltL_rep, ltL_set, upd, eset, hH, hHk, zlShot11] <;> omega)
    (try simp only [wk, wk1, wk0, RB, limBytes, simprocAttr, ne_eq])
    (try (rw [List.take_of_length_le]; rotate_left 1; (· first | (simp; done) | (simp; omega) | omega)))
    simp [mountG, h1]
  · rw [h1]
    have hneg : decide ((i : Int) < 0) = false := decide_eq_false (by omega)
    have hmi := at_map vi (idsG a k 0) i hi
    simp only [vi] at hmi
    (repeat (first | simp -dsimp only [zrShot11, xnils, xnilm, xrange, xmakeMap, xslice3, hneg, hmi, RB, TB, keep48, tab48, xindexAddr, xindex, xslice, xconvert, xlen, ewOp, FreeW, StabW, SameW, ChangeW, AddW, BaseW, limBytes, simprocAttr, ne_eq] | ((with_reducible refine Need.intro ?_ ?_); (first | trivial | exact ⟨_, rfl⟩ | exact ⟨[], (List.append_nil _).symm⟩ | omega | (simp; done) | (simp; omega) | exact ⟨by first | trivial | (simp; done), _, by first | rfl | (simp; rfl)⟩))))
    refine RetW.auto0 false _ (by first | rfl | exact (List.append_nil _).symm) ?_ ?_
    · (simp (maxDischargeDepth := 6) [LTB, HLt_set, ltL_take, ltL_drop, ltL_rep, ltL_set, upd, eset, hH, hHk, zlShot11] <;> omega)
    (try simp only [wk, wk1, wk0, RB, limBytes, simprocAttr, ne_eq])
    (try (rw [List.take_of_length_le]; rotate_left 1; (· first | (simp; done) | (simp; omega) | omega)))
    simp [mountG, h2]
end Go.Proofs.Ytjplgbalpnlanaa

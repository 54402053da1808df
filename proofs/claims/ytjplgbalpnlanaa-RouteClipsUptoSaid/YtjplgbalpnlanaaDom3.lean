/- The walks of package dom: Inside, Insert at the end. -/
import Derived.Test.YtjplgbalpnlanaaDom1
import Derived.Test.YtjplgbalpnlanaaDom2
set_option linter.unusedSimpArgs false
set_option linter.unusedVariables false
set_option maxRecDepth 100000
namespace Go.EL
open Go
theorem SCall.goodA {P : Program} {f : FuncId} {args : List V} {H : List Ob} {R : V → List Ob → Prop} (h : SCall P f args H R) : SCall P f args H (fun r H' => R r H' ∧ HLt H'.length H') := by
  intro g w cargs hG ha
  exact (h g w cargs hG ha).mono fun v w' ⟨r, H', g', h1, h2, h3, h4⟩ => ⟨r, H', g', h1, h2, h3, h4, fun x hx => by obtain ⟨i, hi⟩ := List.getElem?_of_mem hx; exact h1.lt hi⟩
theorem CvO.rflA {z : Option (Nat × Nat × List V)} (u : Ob) : CvO z u u := by
  cases u with
  | gone => trivial
  | hole => trivial
  | var cs => exact All2.rfl' (fun _ => .inl (.inl rfl)) _
  | vec v e l => exact ⟨rfl, rfl, All2.rfl' CvA.rfl' _⟩
  | raw _ _ _ _ => exact ⟨rfl, rfl, rfl, rfl⟩
  | map _ _ => exact ⟨rfl, All2.rfl' (fun _ => ⟨rfl, rfl, CvA.rfl' _⟩) _⟩
  | iter _ _ _ _ => exact ⟨rfl, rfl, rfl, rfl⟩
/-- a list of one's own, in a struct that is handed over, is given up -/
theorem SCall.freezeA {P : Program} (i : Nat) {f : FuncId} {args : List V} {H : List Ob} {R : V → List Ob → Prop} {o ver es : Nat} {l cs cs' : List V} (ho : H[o]? = some (.vec ver es l)) (ha : args[i]? = some (.agg cs)) (hc : All2 (CvB (some (o, ver, l))) cs cs') (h : SCall P f (args.set i (.agg cs')) (H.set o .gone) R) : SCall P f args H R := by
  have hlt := (List.getElem?_eq_some_iff.1 ho).1
  refine SCall.ghost (Gho.conv (some (o, ver, l)) (fun _ _ _ e => by cases e; exact ⟨⟨es, ho⟩, List.getElem?_set_self hlt⟩) (by simp) (fun j x hx hz => ⟨x, ?_, CvO.rflA x⟩) (argEnv_G (R := CvA (some (o, ver, l))) CvA.rfl' (.inr ⟨cs, cs', rfl, rfl, hc⟩) args i 0 ha)) (by simp) h
  rw [List.getElem?_set_ne (by rintro rfl; simp [isZ] at hz)]
  exact hx
theorem SCall.truncA {P : Program} {f : FuncId} {args : List V} {H : List Ob} {R : V → List Ob → Prop} (o n : Nat) {ver es : Nat} {l : List V} (ho : H[o]? = some (.vec ver es l)) (h : SCall P f args (H.set o (.vec ver es (l.take n))) R) : SCall P f args H R :=
  SCall.ghost (Gho.trunc o n ho) rfl h
end Go.EL
namespace Go.Proofs.Ytjplgbalpnlanaa
open Go Go.EL
theorem zrDom31 : type_of% (And.intro (And.intro (And.intro (And.intro (@st_run) (And.intro (@sz_run) (@st1_run))) (And.intro (@cl_run) (And.intro (@st_Str) (@sz_Str)))) (And.intro (And.intro (@st1_Str) (And.intro (@cl_Str) (@st_c))) (And.intro (@sz_c) (And.intro (@st1_c) (@cl_c))))) (And.intro (And.intro (And.intro (@st_attr) (And.intro (@sz_attr) (@st1_attr))) (And.intro (@cl_attr) (And.intro (@st_hook) (@sz_hook)))) (And.intro (And.intro (@st1_hook) (And.intro (@cl_hook) (@st_node))) (And.intro (@sz_node) (And.intro (@st1_node) (@cl_node)))))) := And.intro (And.intro (And.intro (And.intro (@st_run) (And.intro (@sz_run) (@st1_run))) (And.intro (@cl_run) (And.intro (@st_Str) (@sz_Str)))) (And.intro (And.intro (@st1_Str) (And.intro (@cl_Str) (@st_c))) (And.intro (@sz_c) (And.intro (@st1_c) (@cl_c))))) (And.intro (And.intro (And.intro (@st_attr) (And.intro (@sz_attr) (@st1_attr))) (And.intro (@cl_attr) (And.intro (@st_hook) (@sz_hook)))) (And.intro (And.intro (@st1_hook) (And.intro (@cl_hook) (@st_node))) (And.intro (@sz_node) (And.intro (@st1_node) (@cl_node)))))
theorem zlDom31 : type_of% (And.intro (And.intro (And.intro (And.intro (@lt_vi) (@lt_str)) (And.intro (@lt_vb) (And.intro (@ltc_str) (@ltc_vi)))) (And.intro (And.intro (@lt_run) (And.intro (@lt1_run) (@ltc_run))) (And.intro (@lt_Str) (And.intro (@lt1_Str) (@ltc_Str))))) (And.intro (And.intro (And.intro (@lt_c) (And.intro (@lt1_c) (@ltc_c))) (And.intro (@lt_attr) (And.intro (@lt1_attr) (@ltc_attr)))) (And.intro (And.intro (@lt_hook) (And.intro (@lt1_hook) (@ltc_hook))) (And.intro (@lt_node) (And.intro (@lt1_node) (@ltc_node)))))) := And.intro (And.intro (And.intro (And.intro (@lt_vi) (@lt_str)) (And.intro (@lt_vb) (And.intro (@ltc_str) (@ltc_vi)))) (And.intro (And.intro (@lt_run) (And.intro (@lt1_run) (@ltc_run))) (And.intro (@lt_Str) (And.intro (@lt1_Str) (@ltc_Str))))) (And.intro (And.intro (And.intro (@lt_c) (And.intro (@lt1_c) (@ltc_c))) (And.intro (@lt_attr) (And.intro (@lt1_attr) (@ltc_attr)))) (And.intro (And.intro (@lt_hook) (And.intro (@lt1_hook) (@ltc_hook))) (And.intro (@lt_node) (And.intro (@lt1_node) (@ltc_node)))))
theorem get_appD {H L : List Ob} {j : Nat} {x : Ob} (h : H[j]? = some x) : (H ++ L)[j]? = some x := by rw [List.getElem?_append_left (List.getElem?_eq_some_iff.1 h).1]; exact h
/-- what Get tells -/
def nodeAt (a : Arena) (id : Int) : Node := match nget a.nodes id with | some n => ownN n | none => nodeZ
theorem aGetF (G : List Ob) (A m : Nat) (a : Arena) (h : arenaAt G A m a) (hok : ∀ p ∈ a.nodes, okN p.2.2) (id : Int) : SCall Try.prog 40 [.ref A 0, .int .i64 id] G (fun r H' => r = .tuple [nodeV (nodeAt a id), .bool (nget a.nodes id).isSome] ∧ H' = G) := by
  have := aGet G A m a h hok id
  unfold nodeAt
  cases hn : nget a.nodes id with
  | none => rw [hn] at this; exact this
  | some n => rw [hn] at this; exact this
theorem aGetV (G : List Ob) (A m : Nat) (a : Arena) (h : arenaAt G A m a) (hok : ∀ p ∈ a.nodes, okN p.2.2) (id : Int) (n : Node) (hn : nget a.nodes id = some n) : SCall Try.prog 40 [.ref A 0, .int .i64 id] G (fun r H' => ∃ o L, r = .tuple [nodeK (ownN n) o 1, .bool true] ∧ H' = G ++ L ∧ G.length ≤ o ∧ H'[o]? = some (.vec 1 1 (n.kids.map vi))) := by
  have hg := mget_enc id a.nodes
  have hK := fun K => (arena_app h K).1
  have hM := fun K => (arena_app h K).2.1
  rw [hn] at hg
  simp only [Option.map_some] at hg
  obtain ⟨p, hp, rfl⟩ := nget_mem hn
  refine SCall.of_good fun hH => ?_
  have hHk := HLt.add hH
  refine SCall.of_code Tok Try.func40 rfl Try.call40 (n := 18) rfl (by simp) (rs := [.cell 4 60, .tmp 5]) rfl ?_
  refine EWn.to ?_
  refine EWn.of_c Tok mixed (own := false) keep40 tab40 (by kernel_rfl) ?_
  (repeat (first | simp -dsimp only [zrDom31, xnils, xnilm, xrange, xmakeMap, xslice3, RB, TB, keep40, tab40, xindexAddr, xindex, xslice, xconvert, xlen, ewOp, FreeW, StabW, SameW, ChangeW, AddW, BaseW, limBytes, simprocAttr, ne_eq] | ((with_reducible refine Need.intro ?_ ?_); (first | trivial | exact ⟨_, rfl⟩ | exact ⟨[], (List.append_nil _).symm⟩ | omega | (simp; done) | (simp; omega) | exact ⟨by first | trivial | (simp; done), _, by first | rfl | (simp; rfl)⟩))))
  (first | refine SCall.then (aHas _ A m a (arena_app h _) id) ?_ | refine SCall.thenA (aHas _ A m a (arena_app h _) id) (by repeat (first | exact trivial | exact .inl (.inl rfl) | exact .inl (.inr ⟨_, rfl, rfl⟩) | exact .inl rfl | exact .inr ⟨_, rfl, rfl⟩ | refine .inr ⟨_, _, rfl, rfl, ?_⟩ | refine ⟨?_, ?_⟩)) ?_ | refine CallE.intro _ (aHas _ A m a (arena_app h _) id) ?_ | refine CallE.introA (aHas _ A m a (arena_app h _) id) (by repeat (first | exact trivial | exact .inl (.inl rfl) | exact .inl (.inr ⟨_, rfl, rfl⟩) | exact .inl rfl | exact .inr ⟨_, rfl, rfl⟩ | refine .inr ⟨_, _, rfl, rfl, ?_⟩ | refine ⟨?_, ?_⟩)) ?_ | refine CallE.intro _ (fun _ => aHas _ A m a (arena_app h _) id) ?_ | refine CallE.intro _ (fun _ => SCall.arg (by repeat (first | exact trivial | exact .inl (.inl rfl) | exact .inl (.inr ⟨_, rfl, rfl⟩) | exact .inl rfl | exact .inr ⟨_, rfl, rfl⟩ | refine .inr ⟨_, _, rfl, rfl, ?_⟩ | refine ⟨?_, ?_⟩)) (aHas _ A m a (arena_app h _) id)) ?_ | refine CallE2.intro _ _ (aHas _ A m a (arena_app h _) id) ?_ | refine CallE2.intro _ _ (SCall.arg (by repeat (first | exact trivial | exact .inl (.inl rfl) | exact .inl (.inr ⟨_, rfl, rfl⟩) | exact .inl rfl | exact .inr ⟨_, rfl, rfl⟩ | refine .inr ⟨_, _, rfl, rfl, ?_⟩ | refine ⟨?_, ?_⟩)) (aHas _ A m a (arena_app h _) id)) ?_)
  (repeat (first | simp -dsimp only [zrDom31, xnils, xnilm, xrange, xmakeMap, xslice3, hn, Option.isSome_some, hK, hM, hg, RB, TB, keep40, tab40, xindexAddr, xindex, xslice, xconvert, xlen, ewOp, FreeW, StabW, SameW, ChangeW, AddW, BaseW, limBytes, simprocAttr, ne_eq] | ((with_reducible refine Need.intro ?_ ?_); (first | trivial | exact ⟨_, rfl⟩ | exact ⟨[], (List.append_nil _).symm⟩ | omega | (simp; done) | (simp; omega) | exact ⟨by first | trivial | (simp; done), _, by first | rfl | (simp; rfl)⟩))))
  refine SCall.mono (aOwnV _ p.2.2 (hok p hp)).goodA ?_
  rintro _ G2 ⟨⟨o, L, rfl, rfl, hle, ho⟩, hG2⟩
  have lo := (List.getElem?_eq_some_iff.1 ho).1
  (repeat (first | simp -dsimp only [zrDom31, xnils, xnilm, xrange, xmakeMap, xslice3, nodeK, RB, TB, keep40, tab40, xindexAddr, xindex, xslice, xconvert, xlen, ewOp, FreeW, StabW, SameW, ChangeW, AddW, BaseW, limBytes, simprocAttr, ne_eq] | ((with_reducible refine Need.intro ?_ ?_); (first | trivial | exact ⟨_, rfl⟩ | exact ⟨[], (List.append_nil _).symm⟩ | omega | (simp; done) | (simp; omega) | exact ⟨by first | trivial | (simp; done), _, by first | rfl | (simp; rfl)⟩))))
  have e : ∀ X : Ob, (G ++ X :: L) = (G ++ [Ob.var [.int .i64 0, .int .i64 0, .int .i64 0, .int .i64 0, .str [], .fslice [], .str [], .int .i64 0, .fslice [], .fslice [], .fslice [], .str [], .fslice []]] ++ L).set G.length X := fun X => by simp
  have hle2 : G.length + 1 ≤ o := by simpa using hle
  refine RetW.keep false (by simp) ?_ ?_ ?_
  · rw [e, List.length_set]
    refine HLt_set hG2 ?_
    simp only [Ob.lt, ltL, V.lt, and_true, true_and]
    exact ⟨lt_run _ _, lt_attr _ _, lt_hook _ _, lo, lt_run _ _⟩
  · have lo2 : o < (G ++ Ob.gone :: L).length := by simpa using lo
    simp [okW, okW1, okW0, V.lt, ltL, lt_run, lt_hook, lt_attr]
    intro hh
    simp at lo2
    omega
  · refine ⟨o, _, ?_, rfl, by omega, ?_⟩
    · have lo3 : ¬ (G.length + (L.length + 1) ≤ o) := by simp at lo; omega
      simp [wk, wk1, wk0, lo3]
    · rw [e, List.getElem?_set_ne (by omega)]; exact ho
theorem containsIB (H : List Ob) (l : List Int) (v : Int) (x : V) (hx : Bo H x (.slice (l.map vi))) : SCall Try.prog 128 [x, .int .i64 v] H (fun r H' => r = .bool (decide (v ∈ l)) ∧ H' = H) := by
  have e : (l.any fun x => v == x) = decide (v ∈ l) := by
    rw [Bool.eq_iff_iff]; simp
  refine SCall.borrow (args' := [.slice (l.map vi), .int .i64 v]) ⟨hx, ⟨rfl, trivial⟩, trivial⟩ ?_
  refine (containsI [] l v).mono ?_
  rintro r H' ⟨rfl, _⟩
  exact ⟨by rw [e], trivial⟩
/-- does a node lead up to another one? -/
def insideG (a : Arena) (top : Int) : Nat → Int → List Int → Bool
  | 0, _, _ => false
  | k + 1, id, met => match nget a.nodes id with
    | none => false
    | some n => if n.id ∈ met then false else if n.id = top then true else insideG a top k n.parent (met ++ [n.id])
theorem insideG_succ (a : Arena) (top : Int) (k : Nat) (id : Int) (met : List Int) : insideG a top (k + 1) id met = (match nget a.nodes id with | none => false | some n => if n.id ∈ met then false else if n.id = top then true else insideG a top k n.parent (met ++ [n.id])) := rfl
theorem nget_len {id : Int} {n : Node} {l : List Ent} (h : nget l id = some n) : n.id ∈ l.map fun p => p.2.2.id := by
  obtain ⟨p, hp, rfl⟩ := nget_mem h
  exact List.mem_map.2 ⟨p, hp, rfl⟩
theorem nodup_sub : ∀ (l m : List Int), l.Nodup → (∀ x ∈ l, x ∈ m) → l.length ≤ m.length
  | [], m, _, _ => by simp
  | x :: l, m, hn, hs => by
    have hx := hs x (by simp)
    rw [List.nodup_cons] at hn
    have := nodup_sub l (m.erase x) hn.2 (fun y hy => (List.mem_erase_of_ne (fun (e : y = x) => hn.1 (e ▸ hy))).2 (hs y (by simp [hy])))
    rw [List.length_erase_of_mem hx] at this
    have hp := List.length_pos_of_mem hx
    simp only [List.length_cons]
    omega
set_option maxHeartbeats 2000000 in
theorem dInside (H : List Ob) (A m : Nat) (a : Arena) (h : arenaAt H A m a) (hok : ∀ p ∈ a.nodes, okN p.2.2) (hN : a.nodes.length ≤ 1000000) (id top : Int) : SCall Try.prog 87 [.ref A 0, .int .i64 id, .int .i64 top] H (fun r H' => r = .bool (insideG a top (a.nodes.length + 1) id []) ∧ H' = H) := by
  have lA := (List.getElem?_eq_some_iff.1 h.1).1
  refine SCall.of_good fun hH => ?_
  have hHk := HLt.add hH
  refine SCall.of_code Tok Try.func87 rfl Try.call87 (n := 41) rfl (by simp) (rs := [.tmp 6]) rfl ?_
  refine EWn.to ?_
  refine EWn.of_c Tok mixed (own := false) keep87 tab87 (by kernel_rfl) ?_
  (repeat (first | simp -dsimp only [zrDom31, xnils, xnilm, xrange, xmakeMap, xslice3, RB, TB, keep87, tab87, xindexAddr, xindex, xslice, xconvert, xlen, ewOp, FreeW, StabW, SameW, ChangeW, AddW, BaseW, limBytes, simprocAttr, ne_eq] | ((with_reducible refine Need.intro ?_ ?_); (first | trivial | exact ⟨_, rfl⟩ | exact ⟨[], (List.append_nil _).symm⟩ | omega | (simp; done) | (simp; omega) | exact ⟨by first | trivial | (simp; done), _, by first | rfl | (simp; rfl)⟩))))
  (first | refine SCall.then (aGetF _ A m a h hok id) ?_ | refine SCall.thenA (aGetF _ A m a h hok id) (by repeat (first | exact trivial | exact .inl (.inl rfl) | exact .inl (.inr ⟨_, rfl, rfl⟩) | exact .inl rfl | exact .inr ⟨_, rfl, rfl⟩ | refine .inr ⟨_, _, rfl, rfl, ?_⟩ | refine ⟨?_, ?_⟩)) ?_ | refine CallE.intro _ (aGetF _ A m a h hok id) ?_ | refine CallE.introA (aGetF _ A m a h hok id) (by repeat (first | exact trivial | exact .inl (.inl rfl) | exact .inl (.inr ⟨_, rfl, rfl⟩) | exact .inl rfl | exact .inr ⟨_, rfl, rfl⟩ | refine .inr ⟨_, _, rfl, rfl, ?_⟩ | refine ⟨?_, ?_⟩)) ?_ | refine CallE.intro _ (fun _ => aGetF _ A m a h hok id) ?_ | refine CallE.intro _ (fun _ => SCall.arg (by repeat (first | exact trivial | exact .inl (.inl rfl) | exact .inl (.inr ⟨_, rfl, rfl⟩) | exact .inl rfl | exact .inr ⟨_, rfl, rfl⟩ | refine .inr ⟨_, _, rfl, rfl, ?_⟩ | refine ⟨?_, ?_⟩)) (aGetF _ A m a h hok id)) ?_ | refine CallE2.intro _ _ (aGetF _ A m a h hok id) ?_ | refine CallE2.intro _ _ (SCall.arg (by repeat (first | exact trivial | exact .inl (.inl rfl) | exact .inl (.inr ⟨_, rfl, rfl⟩) | exact .inl rfl | exact .inr ⟨_, rfl, rfl⟩ | refine .inr ⟨_, _, rfl, rfl, ?_⟩ | refine ⟨?_, ?_⟩)) (aGetF _ A m a h hok id)) ?_)
  (repeat (first | simp -dsimp only [zrDom31, xnils, xnilm, xrange, xmakeMap, xslice3, nodeV, RB, TB, keep87, tab87, xindexAddr, xindex, xslice, xconvert, xlen, ewOp, FreeW, StabW, SameW, ChangeW, AddW, BaseW, limBytes, simprocAttr, ne_eq] | ((with_reducible refine Need.intro ?_ ?_); (first | trivial | exact ⟨_, rfl⟩ | exact ⟨[], (List.append_nil _).symm⟩ | omega | (simp; done) | (simp; omega) | exact ⟨by first | trivial | (simp; done), _, by first | rfl | (simp; rfl)⟩))))
  refine EWn.ghost (Gho.adopt 7 1 rfl) ?_
  simp only [RB, limBytes, simprocAttr, ne_eq]
  have ltc : ∀ (k : Nat) (x : Node), ltL k (nodeV x).cells := fun k x => by have := lt1_node k x; simp only [nodeV, V.lt] at this; exact this
  refine EWn.loopE (ι := (Int) × (List Int) × (Nat) × (Nat) × (Nat) × (List Ob)) (fun (x_ : (Int) × (List Int) × (Nat) × (Nat) × (Nat) × (List Ob)) => match x_ with | (cur, met, v, o, b, G) => HLt G.length G ∧ G[o]? = some (.vec v 1 (met.map vi)) ∧ G[b]? = some (.var (nodeV (nodeAt a cur)).cells) ∧ H.length ≤ b ∧ H.length ≤ o ∧ b ≠ o ∧ met.Nodup ∧ (∀ x ∈ met, x ∈ a.nodes.map fun p => p.2.2.id) ∧ insideG a top (a.nodes.length + 1) id [] = insideG a top (a.nodes.length + 1 - met.length) cur met ∧ ∃ L, G = H ++ L) (fun (x_ : (Int) × (List Int) × (Nat) × (Nat) × (Nat) × (List Ob)) => match x_ with | (cur, met, v, o, b, G) => a.nodes.length + 1 - met.length) (fun (x_ : (Int) × (List Int) × (Nat) × (Nat) × (Nat) × (List Ob)) => match x_ with | (cur, met, v, o, b, G) => [(7, .vec o v 0 met.length), (8, .ref b 0), (9, .bool (nget a.nodes cur).isSome)]) (fun (x_ : (Int) × (List Int) × (Nat) × (Nat) × (Nat) × (List Ob)) => match x_ with | (cur, met, v, o, b, G) => G) (id, [], 1, (H.length + 1), H.length, (H ++ [.var (nodeV (nodeAt a id)).cells, .vec 1 1 []])) ?_ ?_ ?_ ?_ ?_
  · first | rfl | simp [upd, eset]
  · first | rfl | (simp; done) | exact (set_same (by assumption)).symm
  · rintro ⟨cur, met, v, o, b, G⟩ ⟨hG, ho, hb, hb1, ho1, hbo, _, _, _, L, hL⟩
    have lo := (List.getElem?_eq_some_iff.1 ho).1
    have lb := (List.getElem?_eq_some_iff.1 hb).1
    exact ⟨by rw [hL]; simp, hG, by (simp (maxDischargeDepth := 6) [LTB, HLt_set, ltL_take, ltL_drop, ltL_rep, ltL_set, upd, eset, hH, hHk, zlDom31] <;> omega)⟩
  · refine ⟨?_, by rw [hget]; rfl, by rw [hget0]; rfl, by omega, by omega, by omega, by simp, by simp, by simp, _, rfl⟩
    rw [HLt_append]
    refine ⟨by rw [List.length_append]; exact hHk _, ?_⟩
    rw [HLt_cons, HLt_cons]
    exact ⟨ltc _ _, trivial, HLt_nil⟩
  rintro ⟨cur, met, v, o, b, G⟩ ⟨hG, ho, hb, hb1, ho1, hbo, hnd, hsub, hin, L, hL⟩
  have hml := nodup_sub met _ hnd hsub
  rw [List.length_map] at hml
  have lo := (List.getElem?_eq_some_iff.1 ho).1
  have lb := (List.getElem?_eq_some_iff.1 hb).1
  have hb2 : ∀ K, (G ++ K)[b]? = some (.var (nodeV (nodeAt a cur)).cells) := fun K => get_appD (L := K) hb
  have ho2 : ∀ K, (G ++ K)[o]? = some (.vec v 1 (met.map vi)) := fun K => get_appD (L := K) ho
  have hb3 : ∀ X, (G.set o X)[b]? = some (.var (nodeV (nodeAt a cur)).cells) := fun X => by rw [List.getElem?_set_ne (Ne.symm hbo)]; exact hb
  have hat2 : ∀ X K, arenaAt (G.set o X ++ K) A m a := fun X K => by
    rw [hL, List.set_append_right _ _ ho1]
    exact arena_app (arena_app h _) _
  have hGk := HLt.add hG
  have hat : arenaAt G A m a := by rw [hL]; exact arena_app h _
  refine EWn.of_c Tok mixed (own := false) keep87 tab87 (by kernel_rfl) ?_
  (repeat (first | simp -dsimp only [zrDom31, xnils, xnilm, xrange, xmakeMap, xslice3, hb, ho, nodeV, RB, TB, keep87, tab87, xindexAddr, xindex, xslice, xconvert, xlen, ewOp, FreeW, StabW, SameW, ChangeW, AddW, BaseW, limBytes, simprocAttr, ne_eq] | ((with_reducible refine Need.intro ?_ ?_); (first | trivial | exact ⟨_, rfl⟩ | exact ⟨[], (List.append_nil _).symm⟩ | omega | (simp; done) | (simp; omega) | exact ⟨by first | trivial | (simp; done), _, by first | rfl | (simp; rfl)⟩))))
  cases hc : nget a.nodes cur with
  | none =>
    (repeat (first | simp -dsimp only [zrDom31, xnils, xnilm, xrange, xmakeMap, xslice3, hc, Option.isSome_none, RB, TB, keep87, tab87, xindexAddr, xindex, xslice, xconvert, xlen, ewOp, FreeW, StabW, SameW, ChangeW, AddW, BaseW, limBytes, simprocAttr, ne_eq] | ((with_reducible refine Need.intro ?_ ?_); (first | trivial | exact ⟨_, rfl⟩ | exact ⟨[], (List.append_nil _).symm⟩ | omega | (simp; done) | (simp; omega) | exact ⟨by first | trivial | (simp; done), _, by first | rfl | (simp; rfl)⟩))))
    rw [hL]
    refine RetW.auto0 false _ (by first | rfl | exact (List.append_nil _).symm) ?_ ?_
    · (simp (maxDischargeDepth := 6) [LTB, HLt_set, ltL_take, ltL_drop, ltL_rep, ltL_set, upd, eset, hH, hHk, zlDom31] <;> omega)
    (try simp only [wk, wk1, wk0, RB, limBytes, simprocAttr, ne_eq])
    (try (rw [List.take_of_length_le]; rotate_left 1; (· first | (simp; done) | (simp; omega) | omega)))
    rw [hin, show a.nodes.length + 1 - met.length = (a.nodes.length - met.length) + 1 from by omega, insideG_succ, hc]
  | some n =>
    have hna : nodeAt a cur = ownN n := by unfold nodeAt; rw [hc]
    have hin2 := hin
    have hs2 := insideG_succ a top (a.nodes.length - met.length) cur met
    rw [hc] at hs2
    rw [show a.nodes.length + 1 - met.length = (a.nodes.length - met.length) + 1 from by omega, hs2] at hin2
    simp only at hin2
    have hid : (ownN n).id = n.id := rfl
    (repeat (first | simp -dsimp only [zrDom31, xnils, xnilm, xrange, xmakeMap, xslice3, hc, Option.isSome_some, hna, hb, ho, nodeV, hid, RB, TB, keep87, tab87, xindexAddr, xindex, xslice, xconvert, xlen, ewOp, FreeW, StabW, SameW, ChangeW, AddW, BaseW, limBytes, simprocAttr, ne_eq] | ((with_reducible refine Need.intro ?_ ?_); (first | trivial | exact ⟨_, rfl⟩ | exact ⟨[], (List.append_nil _).symm⟩ | omega | (simp; done) | (simp; omega) | exact ⟨by first | trivial | (simp; done), _, by first | rfl | (simp; rfl)⟩))))
    (first | refine SCall.then (containsIB _ met n.id _ (Bo.vec (ver := v) (es := 1) (l := met.map vi) ho (by simp) (ltL_map (f := vi) (fun _ => trivial) met))) ?_ | refine SCall.thenA (containsIB _ met n.id _ (Bo.vec (ver := v) (es := 1) (l := met.map vi) ho (by simp) (ltL_map (f := vi) (fun _ => trivial) met))) (by repeat (first | exact trivial | exact .inl (.inl rfl) | exact .inl (.inr ⟨_, rfl, rfl⟩) | exact .inl rfl | exact .inr ⟨_, rfl, rfl⟩ | refine .inr ⟨_, _, rfl, rfl, ?_⟩ | refine ⟨?_, ?_⟩)) ?_ | refine CallE.intro _ (containsIB _ met n.id _ (Bo.vec (ver := v) (es := 1) (l := met.map vi) ho (by simp) (ltL_map (f := vi) (fun _ => trivial) met))) ?_ | refine CallE.introA (containsIB _ met n.id _ (Bo.vec (ver := v) (es := 1) (l := met.map vi) ho (by simp) (ltL_map (f := vi) (fun _ => trivial) met))) (by repeat (first | exact trivial | exact .inl (.inl rfl) | exact .inl (.inr ⟨_, rfl, rfl⟩) | exact .inl rfl | exact .inr ⟨_, rfl, rfl⟩ | refine .inr ⟨_, _, rfl, rfl, ?_⟩ | refine ⟨?_, ?_⟩)) ?_ | refine CallE.intro _ (fun _ => containsIB _ met n.id _ (Bo.vec (ver := v) (es := 1) (l := met.map vi) ho (by simp) (ltL_map (f := vi) (fun _ => trivial) met))) ?_ | refine CallE.intro _ (fun _ => SCall.arg (by repeat (first | exact trivial | exact .inl (.inl rfl) | exact .inl (.inr ⟨_, rfl, rfl⟩) | exact .inl rfl | exact .inr ⟨_, rfl, rfl⟩ | refine .inr ⟨_, _, rfl, rfl, ?_⟩ | refine ⟨?_, ?_⟩)) (containsIB _ met n.id _ (Bo.vec (ver := v) (es := 1) (l := met.map vi) ho (by simp) (ltL_map (f := vi) (fun _ => trivial) met)))) ?_ | refine CallE2.intro _ _ (containsIB _ met n.id _ (Bo.vec (ver := v) (es := 1) (l := met.map vi) ho (by simp) (ltL_map (f := vi) (fun _ => trivial) met))) ?_ | refine CallE2.intro _ _ (SCall.arg (by repeat (first | exact trivial | exact .inl (.inl rfl) | exact .inl (.inr ⟨_, rfl, rfl⟩) | exact .inl rfl | exact .inr ⟨_, rfl, rfl⟩ | refine .inr ⟨_, _, rfl, rfl, ?_⟩ | refine ⟨?_, ?_⟩)) (containsIB _ met n.id _ (Bo.vec (ver := v) (es := 1) (l := met.map vi) ho (by simp) (ltL_map (f := vi) (fun _ => trivial) met)))) ?_)
    (repeat (first | simp -dsimp only [zrDom31, xnils, xnilm, xrange, xmakeMap, xslice3, hna, hb, ho, nodeV, hid, RB, TB, keep87, tab87, xindexAddr, xindex, xslice, xconvert, xlen, ewOp, FreeW, StabW, SameW, ChangeW, AddW, BaseW, limBytes, simprocAttr, ne_eq] | ((with_reducible refine Need.intro ?_ ?_); (first | trivial | exact ⟨_, rfl⟩ | exact ⟨[], (List.append_nil _).symm⟩ | omega | (simp; done) | (simp; omega) | exact ⟨by first | trivial | (simp; done), _, by first | rfl | (simp; rfl)⟩))))
    refine IfW.intro (fun h1 => ?_) (fun h1 => ?_)
    · have h1' := of_decide_eq_true h1
      rw [if_pos h1'] at hin2
      (repeat (first | simp -dsimp only [zrDom31, xnils, xnilm, xrange, xmakeMap, xslice3, h1, RB, TB, keep87, tab87, xindexAddr, xindex, xslice, xconvert, xlen, ewOp, FreeW, StabW, SameW, ChangeW, AddW, BaseW, limBytes, simprocAttr, ne_eq] | ((with_reducible refine Need.intro ?_ ?_); (first | trivial | exact ⟨_, rfl⟩ | exact ⟨[], (List.append_nil _).symm⟩ | omega | (simp; done) | (simp; omega) | exact ⟨by first | trivial | (simp; done), _, by first | rfl | (simp; rfl)⟩))))
      rw [hL]
      refine RetW.auto0 false _ (by first | rfl | exact (List.append_nil _).symm) ?_ ?_
      · (simp (maxDischargeDepth := 6) [LTB, HLt_set, ltL_take, ltL_drop, ltL_rep, ltL_set, upd, eset, hH, hHk, zlDom31] <;> omega)
      (try simp only [wk, wk1, wk0, RB, limBytes, simprocAttr, ne_eq])
      (try (rw [List.take_of_length_le]; rotate_left 1; (· first | (simp; done) | (simp; omega) | omega)))
      exact congrArg V.bool hin2.symm
    · have h1' := of_decide_eq_false h1
      rw [if_neg h1'] at hin2
      (repeat (first | simp -dsimp only [zrDom31, xnils, xnilm, xrange, xmakeMap, xslice3, h1, hna, hb, ho, nodeV, hid, RB, TB, keep87, tab87, xindexAddr, xindex, xslice, xconvert, xlen, ewOp, FreeW, StabW, SameW, ChangeW, AddW, BaseW, limBytes, simprocAttr, ne_eq] | ((with_reducible refine Need.intro ?_ ?_); (first | trivial | exact ⟨_, rfl⟩ | exact ⟨[], (List.append_nil _).symm⟩ | omega | (simp; done) | (simp; omega) | exact ⟨by first | trivial | (simp; done), _, by first | rfl | (simp; rfl)⟩))))
      refine IfW.intro (fun h2 => ?_) (fun h2 => ?_)
      · have h2' : n.id = top := by simpa using h2
        rw [if_pos h2'] at hin2
        (repeat (first | simp -dsimp only [zrDom31, xnils, xnilm, xrange, xmakeMap, xslice3, h2, RB, TB, keep87, tab87, xindexAddr, xindex, xslice, xconvert, xlen, ewOp, FreeW, StabW, SameW, ChangeW, AddW, BaseW, limBytes, simprocAttr, ne_eq] | ((with_reducible refine Need.intro ?_ ?_); (first | trivial | exact ⟨_, rfl⟩ | exact ⟨[], (List.append_nil _).symm⟩ | omega | (simp; done) | (simp; omega) | exact ⟨by first | trivial | (simp; done), _, by first | rfl | (simp; rfl)⟩))))
        rw [hL]
        refine RetW.auto0 false _ (by first | rfl | exact (List.append_nil _).symm) ?_ ?_
        · (simp (maxDischargeDepth := 6) [LTB, HLt_set, ltL_take, ltL_drop, ltL_rep, ltL_set, upd, eset, hH, hHk, zlDom31] <;> omega)
        (try simp only [wk, wk1, wk0, RB, limBytes, simprocAttr, ne_eq])
        (try (rw [List.take_of_length_le]; rotate_left 1; (· first | (simp; done) | (simp; omega) | omega)))
        exact congrArg V.bool hin2.symm
      · have h2' : ¬ n.id = top := by simpa using h2
        rw [if_neg h2'] at hin2
        have hpar : (ownN n).parent = n.parent := rfl
        (repeat (first | simp -dsimp only [zrDom31, xnils, xnilm, xrange, xmakeMap, xslice3, h2, hna, hb, hb2, ho, hb3, nodeV, hid, hpar, RB, TB, keep87, tab87, xindexAddr, xindex, xslice, xconvert, xlen, ewOp, FreeW, StabW, SameW, ChangeW, AddW, BaseW, limBytes, simprocAttr, ne_eq] | ((with_reducible refine Need.intro ?_ ?_); (first | trivial | exact ⟨_, rfl⟩ | exact ⟨[], (List.append_nil _).symm⟩ | omega | (simp; done) | (simp; omega) | exact ⟨by first | trivial | (simp; done), _, by first | rfl | (simp; rfl)⟩))))
        (first | refine SCall.then (aGetF _ A m a (hat2 _ _) hok n.parent) ?_ | refine SCall.thenA (aGetF _ A m a (hat2 _ _) hok n.parent) (by repeat (first | exact trivial | exact .inl (.inl rfl) | exact .inl (.inr ⟨_, rfl, rfl⟩) | exact .inl rfl | exact .inr ⟨_, rfl, rfl⟩ | refine .inr ⟨_, _, rfl, rfl, ?_⟩ | refine ⟨?_, ?_⟩)) ?_ | refine CallE.intro _ (aGetF _ A m a (hat2 _ _) hok n.parent) ?_ | refine CallE.introA (aGetF _ A m a (hat2 _ _) hok n.parent) (by repeat (first | exact trivial | exact .inl (.inl rfl) | exact .inl (.inr ⟨_, rfl, rfl⟩) | exact .inl rfl | exact .inr ⟨_, rfl, rfl⟩ | refine .inr ⟨_, _, rfl, rfl, ?_⟩ | refine ⟨?_, ?_⟩)) ?_ | refine CallE.intro _ (fun _ => aGetF _ A m a (hat2 _ _) hok n.parent) ?_ | refine CallE.intro _ (fun _ => SCall.arg (by repeat (first | exact trivial | exact .inl (.inl rfl) | exact .inl (.inr ⟨_, rfl, rfl⟩) | exact .inl rfl | exact .inr ⟨_, rfl, rfl⟩ | refine .inr ⟨_, _, rfl, rfl, ?_⟩ | refine ⟨?_, ?_⟩)) (aGetF _ A m a (hat2 _ _) hok n.parent)) ?_ | refine CallE2.intro _ _ (aGetF _ A m a (hat2 _ _) hok n.parent) ?_ | refine CallE2.intro _ _ (SCall.arg (by repeat (first | exact trivial | exact .inl (.inl rfl) | exact .inl (.inr ⟨_, rfl, rfl⟩) | exact .inl rfl | exact .inr ⟨_, rfl, rfl⟩ | refine .inr ⟨_, _, rfl, rfl, ?_⟩ | refine ⟨?_, ?_⟩)) (aGetF _ A m a (hat2 _ _) hok n.parent)) ?_)
        (repeat (first | simp -dsimp only [zrDom31, xnils, xnilm, xrange, xmakeMap, xslice3, hna, hb, hb2, ho, hb3, nodeV, RB, TB, keep87, tab87, xindexAddr, xindex, xslice, xconvert, xlen, ewOp, FreeW, StabW, SameW, ChangeW, AddW, BaseW, limBytes, simprocAttr, ne_eq] | ((with_reducible refine Need.intro ?_ ?_); (first | trivial | exact ⟨_, rfl⟩ | exact ⟨[], (List.append_nil _).symm⟩ | omega | (simp; done) | (simp; omega) | exact ⟨by first | trivial | (simp; done), _, by first | rfl | (simp; rfl)⟩))))
        have hmem : n.id ∈ a.nodes.map fun p => p.2.2.id := nget_len hc
        have hnd2 : (met ++ [n.id]).Nodup := by
          rw [List.nodup_append]
          exact ⟨hnd, by simp, fun x hx y hy => by simp at hy; rw [hy]; exact fun e => h1' (e ▸ hx)⟩
        have hml2 := nodup_sub (met ++ [n.id]) _ hnd2 (fun x hx => by rcases List.mem_append.1 hx with hx | hx; exact hsub x hx; simp at hx; rw [hx]; exact hmem)
        rw [List.length_map, List.length_append, List.length_singleton] at hml2
        refine UpTo.here ⟨(n.parent, met ++ [n.id], v + 1, o, G.length, G.set o (.vec (v + 1) 1 ((met ++ [n.id]).map vi)) ++ [.var (nodeV (nodeAt a n.parent)).cells]), ⟨?_, ?_, ?_, by rw [hL]; simp, ho1, by omega, hnd2, ?_, ?_, ?_⟩, by simp only [List.length_append, List.length_singleton]; omega, by simp [upd, eset], ⟨[], by simp [nodeV, vi, V.cells]⟩⟩
        · rw [List.length_append, List.length_set, HLt_append]
          refine ⟨HLt_set (hGk _) (lt_vi _ _), ?_⟩
          rw [HLt_cons]
          exact ⟨ltc _ _, HLt_nil⟩
        · rw [List.getElem?_append_left (by simpa using lo), List.getElem?_set_self lo]
        · rw [List.getElem?_append_right (by simp)]; simp
        · intro x hx
          rcases List.mem_append.1 hx with hx | hx
          · exact hsub x hx
          · simp at hx; rw [hx]; exact hmem
        · rw [hin2]; congr 1; simp only [List.length_append, List.length_singleton]; omega
        · exact ⟨_, by rw [hL, List.set_append_right _ _ ho1, List.append_assoc]⟩
end Go.Proofs.Ytjplgbalpnlanaa

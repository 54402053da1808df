/- slices.Reverse of the caller's own ints; dom.Path. -/
import Derived.Test.YtjplgbalpnlanaaDom3
set_option linter.unusedSimpArgs false
set_option linter.unusedVariables false
set_option maxRecDepth 100000
namespace Go.EL
open Go
/-- a list of one's own is what is returned; nothing else stays -/
theorem retOwn {H0 H : List Ob} {o v n es : Nat} {l : List V} {R : V → List Ob → Prop} (hp : ∃ L, H = H0 ++ L) (ho : H[o]? = some (.vec v es l)) (hlo : H0.length ≤ o) (hlt : ltL H0.length l) (hn : n = l.length) (hR : R (.slice l) H0) : RetW H0.length H0 R (.vec o v 0 n) H := by
  obtain ⟨L, rfl⟩ := hp
  subst hn
  refine RetW.auto0 false L rfl ?_ ?_
  · simp only [okW, okW1, okW0, ho]
    exact fun _ => ⟨by first | rfl | trivial, by first | omega | simp, hlt⟩
  · simp only [wk, wk1, wk0, ho]
    rw [if_pos hlo, List.drop_zero, List.take_length]
    exact hR
end Go.EL
namespace Go.Proofs.Ytjplgbalpnlanaa
open Go Go.EL
theorem zrPath11 : type_of% (And.intro (And.intro (And.intro (And.intro (@st_run) (And.intro (@sz_run) (@st1_run))) (And.intro (@cl_run) (And.intro (@st_Str) (@sz_Str)))) (And.intro (And.intro (@st1_Str) (And.intro (@cl_Str) (@st_c))) (And.intro (@sz_c) (And.intro (@st1_c) (@cl_c))))) (And.intro (And.intro (And.intro (@st_attr) (And.intro (@sz_attr) (@st1_attr))) (And.intro (@cl_attr) (And.intro (@st_hook) (@sz_hook)))) (And.intro (And.intro (@st1_hook) (And.intro (@cl_hook) (@st_node))) (And.intro (@sz_node) (And.intro (@st1_node) (@cl_node)))))) := And.intro (And.intro (And.intro (And.intro (@st_run) (And.intro (@sz_run) (@st1_run))) (And.intro (@cl_run) (And.intro (@st_Str) (@sz_Str)))) (And.intro (And.intro (@st1_Str) (And.intro (@cl_Str) (@st_c))) (And.intro (@sz_c) (And.intro (@st1_c) (@cl_c))))) (And.intro (And.intro (And.intro (@st_attr) (And.intro (@sz_attr) (@st1_attr))) (And.intro (@cl_attr) (And.intro (@st_hook) (@sz_hook)))) (And.intro (And.intro (@st1_hook) (And.intro (@cl_hook) (@st_node))) (And.intro (@sz_node) (And.intro (@st1_node) (@cl_node)))))
theorem zlPath11 : type_of% (And.intro (And.intro (And.intro (And.intro (@lt_vi) (@lt_str)) (And.intro (@lt_vb) (And.intro (@ltc_str) (@ltc_vi)))) (And.intro (And.intro (@lt_run) (And.intro (@lt1_run) (@ltc_run))) (And.intro (@lt_Str) (And.intro (@lt1_Str) (@ltc_Str))))) (And.intro (And.intro (And.intro (@lt_c) (And.intro (@lt1_c) (@ltc_c))) (And.intro (@lt_attr) (And.intro (@lt1_attr) (@ltc_attr)))) (And.intro (And.intro (@lt_hook) (And.intro (@lt1_hook) (@ltc_hook))) (And.intro (@lt_node) (And.intro (@lt1_node) (@ltc_node)))))) := And.intro (And.intro (And.intro (And.intro (@lt_vi) (@lt_str)) (And.intro (@lt_vb) (And.intro (@ltc_str) (@ltc_vi)))) (And.intro (And.intro (@lt_run) (And.intro (@lt1_run) (@ltc_run))) (And.intro (@lt_Str) (And.intro (@lt1_Str) (@ltc_Str))))) (And.intro (And.intro (And.intro (@lt_c) (And.intro (@lt1_c) (@ltc_c))) (And.intro (@lt_attr) (And.intro (@lt1_attr) (@ltc_attr)))) (And.intro (And.intro (@lt_hook) (And.intro (@lt1_hook) (@ltc_hook))) (And.intro (@lt_node) (And.intro (@lt1_node) (@ltc_node)))))
/-- a list whose first and last i are reversed -/
def revI (l : List Int) (i : Nat) : List Int := (List.range l.length).map fun k => if k < i ∨ l.length ≤ k + i then l.getD (l.length - 1 - k) 0 else l.getD k 0
theorem revI_len (l : List Int) (i : Nat) : (revI l i).length = l.length := by simp [revI]
theorem revI_get (l : List Int) (i k : Nat) (hk : k < l.length) : (revI l i)[k]'(by rw [revI_len]; exact hk) = if k < i ∨ l.length ≤ k + i then l.getD (l.length - 1 - k) 0 else l.getD k 0 := by simp [revI]
theorem revI_zero (l : List Int) : revI l 0 = l := by
  apply List.ext_getElem (revI_len l 0)
  intro k h1 h2
  rw [revI_get l 0 k h2, if_neg (by omega)]
  simp [List.getD, h2]
theorem revI_end (l : List Int) (i : Nat) (h : l.length ≤ 2 * i + 1) : revI l i = l.reverse := by
  apply List.ext_getElem (by rw [revI_len, List.length_reverse])
  intro k h1 h2
  rw [List.length_reverse] at h2
  rw [revI_get l i k h2, List.getElem_reverse]
  by_cases hk : k < i ∨ l.length ≤ k + i
  · rw [if_pos hk]
    rw [List.getD_eq_getElem?_getD, List.getElem?_eq_getElem (by omega)]; rfl
  · rw [if_neg hk]
    rw [List.getD_eq_getElem?_getD, List.getElem?_eq_getElem (by omega), Option.getD_some]
    congr 1; omega
theorem revI_step (l : List Int) (i : Nat) (h : 2 * i + 1 < l.length) : ((revI l i).set i (l.getD (l.length - 1 - i) 0)).set (l.length - 1 - i) (l.getD i 0) = revI l (i + 1) := by
  apply List.ext_getElem (by simp [revI_len])
  intro k h1 h2
  rw [revI_len] at h2
  rw [revI_get l (i + 1) k h2, List.getElem_set, List.getElem_set]
  by_cases e1 : l.length - 1 - i = k
  · rw [if_pos e1, if_pos (by omega)]
    congr 1; omega
  · rw [if_neg e1]
    by_cases e2 : i = k
    · rw [if_pos e2, if_pos (by omega), e2]
    · rw [if_neg e2, revI_get l i k h2]
      by_cases hk : k < i ∨ l.length ≤ k + i
      · rw [if_pos hk, if_pos (by omega)]
      · rw [if_neg hk, if_neg (by omega)]
theorem revI_at (l : List Int) (i k : Nat) (h1 : i ≤ k) (h2 : k + i < l.length) : (revI l i)[k]'(by rw [revI_len]; omega) = l.getD k 0 := by rw [revI_get l i k (by omega), if_neg (by omega)]
theorem rev (H : List Ob) (o v : Nat) (l : List Int) (ho : H[o]? = some (.vec v 1 (l.map vi))) (hl : l.length ≤ 1000000000) : SCall Try.prog 127 [.vec o v 0 l.length] H (fun r H' => r = .tuple [] ∧ H' = H.set o (.vec v 1 (l.reverse.map vi))) := by
  have lo := (List.getElem?_eq_some_iff.1 ho).1
  have hso : ∀ X, (H.set o X)[o]? = some X := fun X => List.getElem?_set_self lo
  have hss : ∀ X Y, (H.set o X).set o Y = H.set o Y := fun X Y => by rw [List.set_set]
  have w0 : IntKind.i64.wrap ((l.length : Int) - 1) = (l.length : Int) - 1 := wrapI (by omega)
  have ho0 : H[o]? = some (.vec v 1 ((revI l 0).map vi)) := by rw [revI_zero]; exact ho
  refine SCall.of_good fun hH => ?_
  have hHk := HLt.add hH
  refine SCall.of_code Tok Try.func127 rfl Try.call127 (n := 28) rfl (by simp) (rs := []) rfl ?_
  refine EWn.to ?_
  refine EWn.of_c Tok mixed (own := false) keep127 tab127 (by kernel_rfl) ?_
  (repeat (first | simp -dsimp only [zrPath11, xnils, xnilm, xrange, xmakeMap, xslice3, ho, w0, RB, TB, keep127, tab127, xindexAddr, xindex, xslice, xconvert, xlen, ewOp, FreeW, StabW, SameW, ChangeW, AddW, BaseW, limBytes, simprocAttr, ne_eq] | ((with_reducible refine Need.intro ?_ ?_); (first | trivial | exact ⟨_, rfl⟩ | exact ⟨[], (List.append_nil _).symm⟩ | omega | (simp; done) | (simp; omega) | exact ⟨by first | trivial | (simp; done), _, by first | rfl | (simp; rfl)⟩))))
  refine EWn.loopE (ι := (Nat)) (fun (i : (Nat)) => 2 * i ≤ l.length + 1) (fun (i : (Nat)) => l.length - i) (fun (i : (Nat)) => [(2, .int .i64 i), (3, .int .i64 ((l.length : Int) - 1 - i))]) (fun (i : (Nat)) => H.set o (.vec v 1 ((revI l i).map vi))) (0) ?_ ?_ ?_ ?_ ?_
  · first | rfl | simp [upd, eset]
  · first | rfl | (simp; done) | exact (set_same (by assumption)).symm
  · rintro i hi
    refine ⟨by simp, ?_, by (simp (maxDischargeDepth := 6) [LTB, HLt_set, ltL_take, ltL_drop, ltL_rep, ltL_set, upd, eset, hH, hHk, zlPath11] <;> omega)⟩
    rw [List.length_set]
    exact HLt_set hH (by simp only [Ob.lt]; exact lt_vi _ _)
  · omega
  rintro i hi
  refine EWn.of_c Tok mixed (own := false) keep127 tab127 (by kernel_rfl) ?_
  (repeat (first | simp -dsimp only [zrPath11, xnils, xnilm, xrange, xmakeMap, xslice3, hso, hss, RB, TB, keep127, tab127, xindexAddr, xindex, xslice, xconvert, xlen, ewOp, FreeW, StabW, SameW, ChangeW, AddW, BaseW, limBytes, simprocAttr, ne_eq] | ((with_reducible refine Need.intro ?_ ?_); (first | trivial | exact ⟨_, rfl⟩ | exact ⟨[], (List.append_nil _).symm⟩ | omega | (simp; done) | (simp; omega) | exact ⟨by first | trivial | (simp; done), _, by first | rfl | (simp; rfl)⟩))))
  refine IfW.intro (fun h => ?_) (fun h => ?_)
  · have hlt : (i : Int) < (l.length : Int) - 1 - i := by simpa using h
    have hj : ((l.length : Int) - 1 - i).toNat = l.length - 1 - i := by omega
    have hn := revI_len l i
    have a1 := at_map vi (revI l i) i (by rw [hn]; omega)
    have a2 := at_map vi (revI l i) (l.length - 1 - i) (by rw [hn]; omega)
    rw [revI_at l i i (by omega) (by omega)] at a1
    rw [revI_at l i (l.length - 1 - i) (by omega) (by omega)] at a2
    have hst := revI_step l i (by omega)
    simp only [vi] at a1 a2
    have w1 : IntKind.i64.wrap ((i : Int) + 1) = ((i + 1 : Nat) : Int) := by rw [wrapI (by omega)]; omega
    have w2 : IntKind.i64.wrap ((l.length : Int) - 1 - i - 1) = (l.length : Int) - 1 - ((i + 1 : Nat) : Int) := by rw [wrapI (by omega)]; omega
    have a3 : ((List.map vi (revI l i)).set i (V.int .i64 (l.getD (l.length - 1 - i) 0))).getD (l.length - 1 - i) V.dead = .int .i64 (l.getD (l.length - 1 - i) 0) := by
      rw [← a2, List.getD_eq_getElem?_getD, List.getElem?_set_ne (by omega), ← List.getD_eq_getElem?_getD]
    (repeat (first | simp -dsimp only [zrPath11, xnils, xnilm, xrange, xmakeMap, xslice3, h, hso, hss, hj, a1, a2, a3, hn, w1, w2, RB, TB, keep127, tab127, xindexAddr, xindex, xslice, xconvert, xlen, ewOp, FreeW, StabW, SameW, ChangeW, AddW, BaseW, limBytes, simprocAttr, ne_eq] | ((with_reducible refine Need.intro ?_ ?_); (first | trivial | exact ⟨_, rfl⟩ | exact ⟨[], (List.append_nil _).symm⟩ | omega | (simp; done) | (simp; omega) | exact ⟨by first | trivial | (simp; done), _, by first | rfl | (simp; rfl)⟩))))
    refine UpTo.here ⟨i + 1, by omega, by simp only; omega, by simp [upd, eset], [], ?_⟩
    rw [List.append_nil]
    show _ = H.set o (.vec v 1 ((revI l (i + 1)).map vi))
    rw [← hst]
    simp only [List.map_set, vi]
  · have hge : ¬ ((i : Int) < (l.length : Int) - 1 - i) := by simpa using h
    have he := revI_end l i (by omega)
    rw [he]
    (repeat (first | simp -dsimp only [zrPath11, xnils, xnilm, xrange, xmakeMap, xslice3, h, RB, TB, keep127, tab127, xindexAddr, xindex, xslice, xconvert, xlen, ewOp, FreeW, StabW, SameW, ChangeW, AddW, BaseW, limBytes, simprocAttr, ne_eq] | ((with_reducible refine Need.intro ?_ ?_); (first | trivial | exact ⟨_, rfl⟩ | exact ⟨[], (List.append_nil _).symm⟩ | omega | (simp; done) | (simp; omega) | exact ⟨by first | trivial | (simp; done), _, by first | rfl | (simp; rfl)⟩))))
    refine RetW.keep false (by simp) ?_ (by simp [okW]) ⟨by simp [wk, wk1, wk0], rfl⟩
    rw [List.length_set]
    exact HLt_set hH (by simp only [Ob.lt]; exact lt_vi _ _)
/-- the path to a node, from the root down -/
def upG (a : Arena) : Nat → Int → List Int → Option (List Int)
  | 0, _, _ => none
  | k + 1, id, out => match nget a.nodes id with
    | none => none
    | some n => if n.id = 0 then some (out ++ [n.id]).reverse else if n.parent ∈ out ++ [n.id] then none else upG a k n.parent (out ++ [n.id])
theorem upG_succ (a : Arena) (k : Nat) (id : Int) (out : List Int) : upG a (k + 1) id out = (match nget a.nodes id with | none => none | some n => if n.id = 0 then some (out ++ [n.id]).reverse else if n.parent ∈ out ++ [n.id] then none else upG a k n.parent (out ++ [n.id])) := rfl
def pathG (a : Arena) (id : Int) : List Int := (upG a (a.nodes.length + 1) id []).getD []
/-- each node's number is its key -/
def Keyed (ns : List Ent) : Prop := ∀ p ∈ ns, p.2.2.id = p.1
theorem nget_key {ns : List Ent} (hk : Keyed ns) {id : Int} {n : Node} (h : nget ns id = some n) : n.id = id := by
  induction ns with
  | nil => simp [nget] at h
  | cons q l ih =>
    simp only [nget] at h
    split at h
    · rename_i e
      injection h with h
      rw [← h, hk q (by simp), e]
    · exact ih (fun p hp => hk p (by simp [hp])) h
set_option maxHeartbeats 2000000 in
theorem dPath (H : List Ob) (A m : Nat) (a : Arena) (h : arenaAt H A m a) (hok : ∀ p ∈ a.nodes, okN p.2.2) (hN : a.nodes.length ≤ 1000000) (hky : Keyed a.nodes) (id : Int) : SCall Try.prog 66 [.ref A 0, .int .i64 id] H (fun r H' => r = .slice ((pathG a id).map vi) ∧ H' = H) := by
  have lA := (List.getElem?_eq_some_iff.1 h.1).1
  refine SCall.of_good fun hH => ?_
  have hHk := HLt.add hH
  refine SCall.of_code Tok Try.func66 rfl Try.call66 (n := 38) rfl (by simp) (rs := [.tmp 4]) rfl ?_
  refine EWn.to ?_
  refine EWn.of_c Tok mixed (own := false) keep66 tab66 (by kernel_rfl) ?_
  (repeat (first | simp -dsimp only [zrPath11, xnils, xnilm, xrange, xmakeMap, xslice3, RB, TB, keep66, tab66, xindexAddr, xindex, xslice, xconvert, xlen, ewOp, FreeW, StabW, SameW, ChangeW, AddW, BaseW, limBytes, simprocAttr, ne_eq] | ((with_reducible refine Need.intro ?_ ?_); (first | trivial | exact ⟨_, rfl⟩ | exact ⟨[], (List.append_nil _).symm⟩ | omega | (simp; done) | (simp; omega) | exact ⟨by first | trivial | (simp; done), _, by first | rfl | (simp; rfl)⟩))))
  (first | refine SCall.then (aGetF _ A m a h hok id) ?_ | refine SCall.thenA (aGetF _ A m a h hok id) (by repeat (first | exact trivial | exact .inl (.inl rfl) | exact .inl (.inr ⟨_, rfl, rfl⟩) | exact .inl rfl | exact .inr ⟨_, rfl, rfl⟩ | refine .inr ⟨_, _, rfl, rfl, ?_⟩ | refine ⟨?_, ?_⟩)) ?_ | refine CallE.intro _ (aGetF _ A m a h hok id) ?_ | refine CallE.introA (aGetF _ A m a h hok id) (by repeat (first | exact trivial | exact .inl (.inl rfl) | exact .inl (.inr ⟨_, rfl, rfl⟩) | exact .inl rfl | exact .inr ⟨_, rfl, rfl⟩ | refine .inr ⟨_, _, rfl, rfl, ?_⟩ | refine ⟨?_, ?_⟩)) ?_ | refine CallE.intro _ (fun _ => aGetF _ A m a h hok id) ?_ | refine CallE.intro _ (fun _ => SCall.arg (by repeat (first | exact trivial | exact .inl (.inl rfl) | exact .inl (.inr ⟨_, rfl, rfl⟩) | exact .inl rfl | exact .inr ⟨_, rfl, rfl⟩ | refine .inr ⟨_, _, rfl, rfl, ?_⟩ | refine ⟨?_, ?_⟩)) (aGetF _ A m a h hok id)) ?_ | refine CallE2.intro _ _ (aGetF _ A m a h hok id) ?_ | refine CallE2.intro _ _ (SCall.arg (by repeat (first | exact trivial | exact .inl (.inl rfl) | exact .inl (.inr ⟨_, rfl, rfl⟩) | exact .inl rfl | exact .inr ⟨_, rfl, rfl⟩ | refine .inr ⟨_, _, rfl, rfl, ?_⟩ | refine ⟨?_, ?_⟩)) (aGetF _ A m a h hok id)) ?_)
  (repeat (first | simp -dsimp only [zrPath11, xnils, xnilm, xrange, xmakeMap, xslice3, nodeV, RB, TB, keep66, tab66, xindexAddr, xindex, xslice, xconvert, xlen, ewOp, FreeW, StabW, SameW, ChangeW, AddW, BaseW, limBytes, simprocAttr, ne_eq] | ((with_reducible refine Need.intro ?_ ?_); (first | trivial | exact ⟨_, rfl⟩ | exact ⟨[], (List.append_nil _).symm⟩ | omega | (simp; done) | (simp; omega) | exact ⟨by first | trivial | (simp; done), _, by first | rfl | (simp; rfl)⟩))))
  refine EWn.ghost (Gho.adopt 5 1 rfl) ?_
  simp only [RB, limBytes, simprocAttr, ne_eq]
  have ltc : ∀ (k : Nat) (x : Node), ltL k (nodeV x).cells := fun k x => by have := lt1_node k x; simp only [nodeV, V.lt] at this; exact this
  refine EWn.loopE (ι := (Int) × (List Int) × (Nat) × (Nat) × (Nat) × (List Ob)) (fun (x_ : (Int) × (List Int) × (Nat) × (Nat) × (Nat) × (List Ob)) => match x_ with | (cur, met, v, o, b, G) => HLt G.length G ∧ G[o]? = some (.vec v 1 (met.map vi)) ∧ G[b]? = some (.var (nodeV (nodeAt a cur)).cells) ∧ H.length ≤ b ∧ H.length ≤ o ∧ b ≠ o ∧ met.Nodup ∧ cur ∉ met ∧ (∀ x ∈ met, x ∈ a.nodes.map fun p => p.2.2.id) ∧ pathG a id = (upG a (a.nodes.length + 1 - met.length) cur met).getD [] ∧ ∃ L, G = H ++ L) (fun (x_ : (Int) × (List Int) × (Nat) × (Nat) × (Nat) × (List Ob)) => match x_ with | (cur, met, v, o, b, G) => a.nodes.length + 1 - met.length) (fun (x_ : (Int) × (List Int) × (Nat) × (Nat) × (Nat) × (List Ob)) => match x_ with | (cur, met, v, o, b, G) => [(5, .vec o v 0 met.length), (6, .ref b 0), (7, .bool (nget a.nodes cur).isSome)]) (fun (x_ : (Int) × (List Int) × (Nat) × (Nat) × (Nat) × (List Ob)) => match x_ with | (cur, met, v, o, b, G) => G) (id, [], 1, (H.length + 1), H.length, (H ++ [.var (nodeV (nodeAt a id)).cells, .vec 1 1 []])) ?_ ?_ ?_ ?_ ?_
  · first | rfl | simp [upd, eset]
  · first | rfl | (simp; done) | exact (set_same (by assumption)).symm
  · rintro ⟨cur, met, v, o, b, G⟩ ⟨hG, ho, hb, hb1, ho1, hbo, _, _, _, _, L, hL⟩
    have lo := (List.getElem?_eq_some_iff.1 ho).1
    have lb := (List.getElem?_eq_some_iff.1 hb).1
    exact ⟨by rw [hL]; simp, hG, by (simp (maxDischargeDepth := 6) [LTB, HLt_set, ltL_take, ltL_drop, ltL_rep, ltL_set, upd, eset, hH, hHk, zlPath11] <;> omega)⟩
  · refine ⟨?_, by rw [hget]; rfl, by rw [hget0]; rfl, by omega, by omega, by omega, by simp, by simp, by simp, rfl, _, rfl⟩
    rw [HLt_append]
    refine ⟨by rw [List.length_append]; exact hHk _, ?_⟩
    rw [HLt_cons, HLt_cons]
    exact ⟨ltc _ _, trivial, HLt_nil⟩
  rintro ⟨cur, met, v, o, b, G⟩ ⟨hG, ho, hb, hb1, ho1, hbo, hnd, hnm, hsub, hin, L, hL⟩
  have hml := nodup_sub met _ hnd hsub
  rw [List.length_map] at hml
  have lo := (List.getElem?_eq_some_iff.1 ho).1
  have lb := (List.getElem?_eq_some_iff.1 hb).1
  have hb2 : ∀ K, (G ++ K)[b]? = some (.var (nodeV (nodeAt a cur)).cells) := fun K => get_appD (L := K) hb
  have ho2 : ∀ K, (G ++ K)[o]? = some (.vec v 1 (met.map vi)) := fun K => get_appD (L := K) ho
  have hb3 : ∀ X, (G.set o X)[b]? = some (.var (nodeV (nodeAt a cur)).cells) := fun X => by rw [List.getElem?_set_ne (Ne.symm hbo)]; exact hb
  have hat2 : ∀ X K, arenaAt (G.set o X ++ K) A m a := fun X K => by
    rw [hL, List.set_append_right _ _ ho1]
    exact arena_app (arena_app h _) _
  have hGk := HLt.add hG
  refine EWn.of_c Tok mixed (own := false) keep66 tab66 (by kernel_rfl) ?_
  (repeat (first | simp -dsimp only [zrPath11, xnils, xnilm, xrange, xmakeMap, xslice3, hb, ho, nodeV, RB, TB, keep66, tab66, xindexAddr, xindex, xslice, xconvert, xlen, ewOp, FreeW, StabW, SameW, ChangeW, AddW, BaseW, limBytes, simprocAttr, ne_eq] | ((with_reducible refine Need.intro ?_ ?_); (first | trivial | exact ⟨_, rfl⟩ | exact ⟨[], (List.append_nil _).symm⟩ | omega | (simp; done) | (simp; omega) | exact ⟨by first | trivial | (simp; done), _, by first | rfl | (simp; rfl)⟩))))
  cases hc : nget a.nodes cur with
  | none =>
    (repeat (first | simp -dsimp only [zrPath11, xnils, xnilm, xrange, xmakeMap, xslice3, hc, Option.isSome_none, RB, TB, keep66, tab66, xindexAddr, xindex, xslice, xconvert, xlen, ewOp, FreeW, StabW, SameW, ChangeW, AddW, BaseW, limBytes, simprocAttr, ne_eq] | ((with_reducible refine Need.intro ?_ ?_); (first | trivial | exact ⟨_, rfl⟩ | exact ⟨[], (List.append_nil _).symm⟩ | omega | (simp; done) | (simp; omega) | exact ⟨by first | trivial | (simp; done), _, by first | rfl | (simp; rfl)⟩))))
    rw [hL]
    refine RetW.auto0 false _ (by first | rfl | exact (List.append_nil _).symm) ?_ ?_
    · (simp (maxDischargeDepth := 6) [LTB, HLt_set, ltL_take, ltL_drop, ltL_rep, ltL_set, upd, eset, hH, hHk, zlPath11] <;> omega)
    (try simp only [wk, wk1, wk0, RB, limBytes, simprocAttr, ne_eq])
    (try (rw [List.take_of_length_le]; rotate_left 1; (· first | (simp; done) | (simp; omega) | omega)))
    rw [hin, show a.nodes.length + 1 - met.length = (a.nodes.length - met.length) + 1 from by omega, upG_succ, hc]
    rfl
  | some n =>
    have hna : nodeAt a cur = ownN n := by unfold nodeAt; rw [hc]
    have hin2 := hin
    have hs2 := upG_succ a (a.nodes.length - met.length) cur met
    rw [hc] at hs2
    rw [show a.nodes.length + 1 - met.length = (a.nodes.length - met.length) + 1 from by omega, hs2] at hin2
    simp only at hin2
    have hid : (ownN n).id = n.id := rfl
    have hnid : n.id = cur := nget_key hky hc
    have hgo : ∀ X, (G.set o X)[o]? = some X := fun X => List.getElem?_set_self lo
    have hmem : n.id ∈ a.nodes.map fun p => p.2.2.id := nget_len hc
    have hnd2 : (met ++ [n.id]).Nodup := by
      rw [List.nodup_append]
      exact ⟨hnd, by simp, fun x hx y hy => by simp at hy; rw [hy, hnid]; exact fun e => hnm (e ▸ hx)⟩
    have hml2 := nodup_sub (met ++ [n.id]) _ hnd2 (fun x hx => by rcases List.mem_append.1 hx with hx | hx; exact hsub x hx; simp at hx; rw [hx]; exact hmem)
    rw [List.length_map, List.length_append, List.length_singleton] at hml2
    (repeat (first | simp -dsimp only [zrPath11, xnils, xnilm, xrange, xmakeMap, xslice3, hc, Option.isSome_some, hna, hb, hb3, ho, nodeV, hid, RB, TB, keep66, tab66, xindexAddr, xindex, xslice, xconvert, xlen, ewOp, FreeW, StabW, SameW, ChangeW, AddW, BaseW, limBytes, simprocAttr, ne_eq] | ((with_reducible refine Need.intro ?_ ?_); (first | trivial | exact ⟨_, rfl⟩ | exact ⟨[], (List.append_nil _).symm⟩ | omega | (simp; done) | (simp; omega) | exact ⟨by first | trivial | (simp; done), _, by first | rfl | (simp; rfl)⟩))))
    refine IfW.intro (fun h2 => ?_) (fun h2 => ?_)
    · have h2' : n.id = 0 := by simpa using h2
      rw [if_pos h2'] at hin2
      have hlm : met.length + 1 = (met ++ [n.id]).length := by simp
      have hgv : ∀ X, (G.set o (.vec (v + 1) 1 ((met ++ [n.id]).map vi)) ++ X)[o]? = some (.vec (v + 1) 1 ((met ++ [n.id]).map vi)) := fun X => get_appD (hgo _)
      have hmv : met.map vi ++ [.int .i64 n.id] = (met ++ [n.id]).map vi := by simp [vi]
      (repeat (first | simp -dsimp only [zrPath11, xnils, xnilm, xrange, xmakeMap, xslice3, h2, hmv, RB, TB, keep66, tab66, xindexAddr, xindex, xslice, xconvert, xlen, ewOp, FreeW, StabW, SameW, ChangeW, AddW, BaseW, limBytes, simprocAttr, ne_eq] | ((with_reducible refine Need.intro ?_ ?_); (first | trivial | exact ⟨_, rfl⟩ | exact ⟨[], (List.append_nil _).symm⟩ | omega | (simp; done) | (simp; omega) | exact ⟨by first | trivial | (simp; done), _, by first | rfl | (simp; rfl)⟩))))
      rw [hlm]
      (first | refine SCall.then (rev _ o (v + 1) (met ++ [n.id]) (hgo _) (by omega)) ?_ | refine SCall.thenA (rev _ o (v + 1) (met ++ [n.id]) (hgo _) (by omega)) (by repeat (first | exact trivial | exact .inl (.inl rfl) | exact .inl (.inr ⟨_, rfl, rfl⟩) | exact .inl rfl | exact .inr ⟨_, rfl, rfl⟩ | refine .inr ⟨_, _, rfl, rfl, ?_⟩ | refine ⟨?_, ?_⟩)) ?_ | refine CallE.intro _ (rev _ o (v + 1) (met ++ [n.id]) (hgo _) (by omega)) ?_ | refine CallE.introA (rev _ o (v + 1) (met ++ [n.id]) (hgo _) (by omega)) (by repeat (first | exact trivial | exact .inl (.inl rfl) | exact .inl (.inr ⟨_, rfl, rfl⟩) | exact .inl rfl | exact .inr ⟨_, rfl, rfl⟩ | refine .inr ⟨_, _, rfl, rfl, ?_⟩ | refine ⟨?_, ?_⟩)) ?_ | refine CallE.intro _ (fun _ => rev _ o (v + 1) (met ++ [n.id]) (hgo _) (by omega)) ?_ | refine CallE.intro _ (fun _ => SCall.arg (by repeat (first | exact trivial | exact .inl (.inl rfl) | exact .inl (.inr ⟨_, rfl, rfl⟩) | exact .inl rfl | exact .inr ⟨_, rfl, rfl⟩ | refine .inr ⟨_, _, rfl, rfl, ?_⟩ | refine ⟨?_, ?_⟩)) (rev _ o (v + 1) (met ++ [n.id]) (hgo _) (by omega))) ?_ | refine CallE2.intro _ _ (rev _ o (v + 1) (met ++ [n.id]) (hgo _) (by omega)) ?_ | refine CallE2.intro _ _ (SCall.arg (by repeat (first | exact trivial | exact .inl (.inl rfl) | exact .inl (.inr ⟨_, rfl, rfl⟩) | exact .inl rfl | exact .inr ⟨_, rfl, rfl⟩ | refine .inr ⟨_, _, rfl, rfl, ?_⟩ | refine ⟨?_, ?_⟩)) (rev _ o (v + 1) (met ++ [n.id]) (hgo _) (by omega))) ?_)
      (repeat (first | simp -dsimp only [zrPath11, xnils, xnilm, xrange, xmakeMap, xslice3, RB, TB, keep66, tab66, xindexAddr, xindex, xslice, xconvert, xlen, ewOp, FreeW, StabW, SameW, ChangeW, AddW, BaseW, limBytes, simprocAttr, ne_eq] | ((with_reducible refine Need.intro ?_ ?_); (first | trivial | exact ⟨_, rfl⟩ | exact ⟨[], (List.append_nil _).symm⟩ | omega | (simp; done) | (simp; omega) | exact ⟨by first | trivial | (simp; done), _, by first | rfl | (simp; rfl)⟩))))
      refine retOwn ⟨_, by rw [List.set_set, hL, List.set_append_right _ _ ho1]⟩ (List.getElem?_set_self (by simpa using lo)) ho1 (lt_vi _ _) (by simp) ⟨?_, rfl⟩
      rw [hin2]; rfl
    · have h2' : ¬ n.id = 0 := by simpa using h2
      rw [if_neg h2'] at hin2
      have hpar : (ownN n).parent = n.parent := rfl
      have hmv : met.map vi ++ [.int .i64 n.id] = (met ++ [n.id]).map vi := by simp [vi]
      (repeat (first | simp -dsimp only [zrPath11, xnils, xnilm, xrange, xmakeMap, xslice3, h2, hmv, hna, hb, hb2, ho, hb3, nodeV, hid, hpar, RB, TB, keep66, tab66, xindexAddr, xindex, xslice, xconvert, xlen, ewOp, FreeW, StabW, SameW, ChangeW, AddW, BaseW, limBytes, simprocAttr, ne_eq] | ((with_reducible refine Need.intro ?_ ?_); (first | trivial | exact ⟨_, rfl⟩ | exact ⟨[], (List.append_nil _).symm⟩ | omega | (simp; done) | (simp; omega) | exact ⟨by first | trivial | (simp; done), _, by first | rfl | (simp; rfl)⟩))))
      (first | refine SCall.then (containsIB _ (met ++ [n.id]) n.parent _ (Bo.vec (ver := v + 1) (es := 1) (l := (met ++ [n.id]).map vi) (hgo _) (by simp) (ltL_map (f := vi) (fun _ => trivial) _))) ?_ | refine SCall.thenA (containsIB _ (met ++ [n.id]) n.parent _ (Bo.vec (ver := v + 1) (es := 1) (l := (met ++ [n.id]).map vi) (hgo _) (by simp) (ltL_map (f := vi) (fun _ => trivial) _))) (by repeat (first | exact trivial | exact .inl (.inl rfl) | exact .inl (.inr ⟨_, rfl, rfl⟩) | exact .inl rfl | exact .inr ⟨_, rfl, rfl⟩ | refine .inr ⟨_, _, rfl, rfl, ?_⟩ | refine ⟨?_, ?_⟩)) ?_ | refine CallE.intro _ (containsIB _ (met ++ [n.id]) n.parent _ (Bo.vec (ver := v + 1) (es := 1) (l := (met ++ [n.id]).map vi) (hgo _) (by simp) (ltL_map (f := vi) (fun _ => trivial) _))) ?_ | refine CallE.introA (containsIB _ (met ++ [n.id]) n.parent _ (Bo.vec (ver := v + 1) (es := 1) (l := (met ++ [n.id]).map vi) (hgo _) (by simp) (ltL_map (f := vi) (fun _ => trivial) _))) (by repeat (first | exact trivial | exact .inl (.inl rfl) | exact .inl (.inr ⟨_, rfl, rfl⟩) | exact .inl rfl | exact .inr ⟨_, rfl, rfl⟩ | refine .inr ⟨_, _, rfl, rfl, ?_⟩ | refine ⟨?_, ?_⟩)) ?_ | refine CallE.intro _ (fun _ => containsIB _ (met ++ [n.id]) n.parent _ (Bo.vec (ver := v + 1) (es := 1) (l := (met ++ [n.id]).map vi) (hgo _) (by simp) (ltL_map (f := vi) (fun _ => trivial) _))) ?_ | refine CallE.intro _ (fun _ => SCall.arg (by repeat (first | exact trivial | exact .inl (.inl rfl) | exact .inl (.inr ⟨_, rfl, rfl⟩) | exact .inl rfl | exact .inr ⟨_, rfl, rfl⟩ | refine .inr ⟨_, _, rfl, rfl, ?_⟩ | refine ⟨?_, ?_⟩)) (containsIB _ (met ++ [n.id]) n.parent _ (Bo.vec (ver := v + 1) (es := 1) (l := (met ++ [n.id]).map vi) (hgo _) (by simp) (ltL_map (f := vi) (fun _ => trivial) _)))) ?_ | refine CallE2.intro _ _ (containsIB _ (met ++ [n.id]) n.parent _ (Bo.vec (ver := v + 1) (es := 1) (l := (met ++ [n.id]).map vi) (hgo _) (by simp) (ltL_map (f := vi) (fun _ => trivial) _))) ?_ | refine CallE2.intro _ _ (SCall.arg (by repeat (first | exact trivial | exact .inl (.inl rfl) | exact .inl (.inr ⟨_, rfl, rfl⟩) | exact .inl rfl | exact .inr ⟨_, rfl, rfl⟩ | refine .inr ⟨_, _, rfl, rfl, ?_⟩ | refine ⟨?_, ?_⟩)) (containsIB _ (met ++ [n.id]) n.parent _ (Bo.vec (ver := v + 1) (es := 1) (l := (met ++ [n.id]).map vi) (hgo _) (by simp) (ltL_map (f := vi) (fun _ => trivial) _)))) ?_)
      (repeat (first | simp -dsimp only [zrPath11, xnils, xnilm, xrange, xmakeMap, xslice3, hmv, hna, hb, hb2, ho, hb3, nodeV, hid, hpar, RB, TB, keep66, tab66, xindexAddr, xindex, xslice, xconvert, xlen, ewOp, FreeW, StabW, SameW, ChangeW, AddW, BaseW, limBytes, simprocAttr, ne_eq] | ((with_reducible refine Need.intro ?_ ?_); (first | trivial | exact ⟨_, rfl⟩ | exact ⟨[], (List.append_nil _).symm⟩ | omega | (simp; done) | (simp; omega) | exact ⟨by first | trivial | (simp; done), _, by first | rfl | (simp; rfl)⟩))))
      refine IfW.intro (fun h1 => ?_) (fun h1 => ?_)
      · have h1' := of_decide_eq_true h1
        rw [if_pos h1'] at hin2
        (repeat (first | simp -dsimp only [zrPath11, xnils, xnilm, xrange, xmakeMap, xslice3, h1, RB, TB, keep66, tab66, xindexAddr, xindex, xslice, xconvert, xlen, ewOp, FreeW, StabW, SameW, ChangeW, AddW, BaseW, limBytes, simprocAttr, ne_eq] | ((with_reducible refine Need.intro ?_ ?_); (first | trivial | exact ⟨_, rfl⟩ | exact ⟨[], (List.append_nil _).symm⟩ | omega | (simp; done) | (simp; omega) | exact ⟨by first | trivial | (simp; done), _, by first | rfl | (simp; rfl)⟩))))
        rw [hL, List.set_append_right _ _ ho1]
        refine RetW.auto0 false _ (by first | rfl | exact (List.append_nil _).symm) ?_ ?_
        · (simp (maxDischargeDepth := 6) [LTB, HLt_set, ltL_take, ltL_drop, ltL_rep, ltL_set, upd, eset, hH, hHk, zlPath11] <;> omega)
        (try simp only [wk, wk1, wk0, RB, limBytes, simprocAttr, ne_eq])
        (try (rw [List.take_of_length_le]; rotate_left 1; (· first | (simp; done) | (simp; omega) | omega)))
        rw [hin2]; rfl
      · have h1' := of_decide_eq_false h1
        rw [if_neg h1'] at hin2
        (repeat (first | simp -dsimp only [zrPath11, xnils, xnilm, xrange, xmakeMap, xslice3, h1, hna, hb, hb2, ho, hb3, nodeV, hid, hpar, RB, TB, keep66, tab66, xindexAddr, xindex, xslice, xconvert, xlen, ewOp, FreeW, StabW, SameW, ChangeW, AddW, BaseW, limBytes, simprocAttr, ne_eq] | ((with_reducible refine Need.intro ?_ ?_); (first | trivial | exact ⟨_, rfl⟩ | exact ⟨[], (List.append_nil _).symm⟩ | omega | (simp; done) | (simp; omega) | exact ⟨by first | trivial | (simp; done), _, by first | rfl | (simp; rfl)⟩))))
        (first | refine SCall.then (aGetF _ A m a (hat2 _ _) hok n.parent) ?_ | refine SCall.thenA (aGetF _ A m a (hat2 _ _) hok n.parent) (by repeat (first | exact trivial | exact .inl (.inl rfl) | exact .inl (.inr ⟨_, rfl, rfl⟩) | exact .inl rfl | exact .inr ⟨_, rfl, rfl⟩ | refine .inr ⟨_, _, rfl, rfl, ?_⟩ | refine ⟨?_, ?_⟩)) ?_ | refine CallE.intro _ (aGetF _ A m a (hat2 _ _) hok n.parent) ?_ | refine CallE.introA (aGetF _ A m a (hat2 _ _) hok n.parent) (by repeat (first | exact trivial | exact .inl (.inl rfl) | exact .inl (.inr ⟨_, rfl, rfl⟩) | exact .inl rfl | exact .inr ⟨_, rfl, rfl⟩ | refine .inr ⟨_, _, rfl, rfl, ?_⟩ | refine ⟨?_, ?_⟩)) ?_ | refine CallE.intro _ (fun _ => aGetF _ A m a (hat2 _ _) hok n.parent) ?_ | refine CallE.intro _ (fun _ => SCall.arg (by repeat (first | exact trivial | exact .inl (.inl rfl) | exact .inl (.inr ⟨_, rfl, rfl⟩) | exact .inl rfl | exact .inr ⟨_, rfl, rfl⟩ | refine .inr ⟨_, _, rfl, rfl, ?_⟩ | refine ⟨?_, ?_⟩)) (aGetF _ A m a (hat2 _ _) hok n.parent)) ?_ | refine CallE2.intro _ _ (aGetF _ A m a (hat2 _ _) hok n.parent) ?_ | refine CallE2.intro _ _ (SCall.arg (by repeat (first | exact trivial | exact .inl (.inl rfl) | exact .inl (.inr ⟨_, rfl, rfl⟩) | exact .inl rfl | exact .inr ⟨_, rfl, rfl⟩ | refine .inr ⟨_, _, rfl, rfl, ?_⟩ | refine ⟨?_, ?_⟩)) (aGetF _ A m a (hat2 _ _) hok n.parent)) ?_)
        (repeat (first | simp -dsimp only [zrPath11, xnils, xnilm, xrange, xmakeMap, xslice3, hna, hb, hb2, ho, hb3, nodeV, RB, TB, keep66, tab66, xindexAddr, xindex, xslice, xconvert, xlen, ewOp, FreeW, StabW, SameW, ChangeW, AddW, BaseW, limBytes, simprocAttr, ne_eq] | ((with_reducible refine Need.intro ?_ ?_); (first | trivial | exact ⟨_, rfl⟩ | exact ⟨[], (List.append_nil _).symm⟩ | omega | (simp; done) | (simp; omega) | exact ⟨by first | trivial | (simp; done), _, by first | rfl | (simp; rfl)⟩))))
        refine UpTo.here ⟨(n.parent, met ++ [n.id], v + 1, o, G.length, G.set o (.vec (v + 1) 1 ((met ++ [n.id]).map vi)) ++ [.var (nodeV (nodeAt a n.parent)).cells]), ⟨?_, ?_, ?_, by rw [hL]; simp, ho1, by omega, hnd2, h1', ?_, ?_, ?_⟩, by simp only [List.length_append, List.length_singleton]; omega, by simp [upd, eset], ⟨[], by simp [nodeV, vi, V.cells]⟩⟩
        · rw [List.length_append, List.length_set, HLt_append]
          refine ⟨HLt_set (hGk _) (lt_vi _ _), ?_⟩
          rw [HLt_cons]
          exact ⟨ltc _ _, HLt_nil⟩
        · rw [List.getElem?_append_left (by simpa using lo), List.getElem?_set_self lo]
        · rw [List.getElem?_append_right (by simp)]; simp
        · intro x hx
          rcases List.mem_append.1 hx with hx | hx
          · exact hsub x hx
          · simp at hx; rw [hx]; exact hmem
        · rw [hin2]; congr 2; simp only [List.length_append, List.length_singleton]; omega
        · exact ⟨_, by rw [hL, List.set_append_right _ _ ho1, List.append_assoc]⟩
end Go.Proofs.Ytjplgbalpnlanaa

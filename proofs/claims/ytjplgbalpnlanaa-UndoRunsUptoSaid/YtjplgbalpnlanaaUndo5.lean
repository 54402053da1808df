/- The walk of the law UndoRuns. -/
import Derived.Test.YtjplgbalpnlanaaUndo4
set_option linter.unusedSimpArgs false
set_option linter.unusedVariables false
set_option maxRecDepth 100000
namespace Go.Proofs.Ytjplgbalpnlanaa
open Go Go.EL
theorem zrUndo51 : type_of% (And.intro (And.intro (And.intro (And.intro (@st_run) (And.intro (@sz_run) (@st1_run))) (And.intro (@cl_run) (And.intro (@st_Str) (@sz_Str)))) (And.intro (And.intro (@st1_Str) (And.intro (@cl_Str) (@st_c))) (And.intro (@sz_c) (And.intro (@st1_c) (@cl_c))))) (And.intro (And.intro (And.intro (@st_attr) (And.intro (@sz_attr) (@st1_attr))) (And.intro (@cl_attr) (And.intro (@st_hook) (@sz_hook)))) (And.intro (And.intro (@st1_hook) (And.intro (@cl_hook) (@st_node))) (And.intro (@sz_node) (And.intro (@st1_node) (@cl_node)))))) := And.intro (And.intro (And.intro (And.intro (@st_run) (And.intro (@sz_run) (@st1_run))) (And.intro (@cl_run) (And.intro (@st_Str) (@sz_Str)))) (And.intro (And.intro (@st1_Str) (And.intro (@cl_Str) (@st_c))) (And.intro (@sz_c) (And.intro (@st1_c) (@cl_c))))) (And.intro (And.intro (And.intro (@st_attr) (And.intro (@sz_attr) (@st1_attr))) (And.intro (@cl_attr) (And.intro (@st_hook) (@sz_hook)))) (And.intro (And.intro (@st1_hook) (And.intro (@cl_hook) (@st_node))) (And.intro (@sz_node) (And.intro (@st1_node) (@cl_node)))))
theorem zlUndo51 : type_of% (And.intro (And.intro (And.intro (And.intro (@lt_vi) (@lt_str)) (And.intro (@lt_vb) (And.intro (@ltc_str) (@ltc_vi)))) (And.intro (And.intro (@lt_run) (And.intro (@lt1_run) (@ltc_run))) (And.intro (@lt_Str) (And.intro (@lt1_Str) (@ltc_Str))))) (And.intro (And.intro (And.intro (@lt_c) (And.intro (@lt1_c) (@ltc_c))) (And.intro (@lt_attr) (And.intro (@lt1_attr) (@ltc_attr)))) (And.intro (And.intro (@lt_hook) (And.intro (@lt1_hook) (@ltc_hook))) (And.intro (@lt_node) (And.intro (@lt1_node) (@ltc_node)))))) := And.intro (And.intro (And.intro (And.intro (@lt_vi) (@lt_str)) (And.intro (@lt_vb) (And.intro (@ltc_str) (@ltc_vi)))) (And.intro (And.intro (@lt_run) (And.intro (@lt1_run) (@ltc_run))) (And.intro (@lt_Str) (And.intro (@lt1_Str) (@ltc_Str))))) (And.intro (And.intro (And.intro (@lt_c) (And.intro (@lt1_c) (@ltc_c))) (And.intro (@lt_attr) (And.intro (@lt1_attr) (@ltc_attr)))) (And.intro (And.intro (@lt_hook) (And.intro (@lt1_hook) (@ltc_hook))) (And.intro (@lt_node) (And.intro (@lt1_node) (@ltc_node)))))
structure Opu where
  kind : Int
  text : List UInt8
def opuV (o : Opu) : V := .agg [.int .i64 o.kind, .str o.text]
theorem lt_opu (n : Nat) (l : List (Opu)) : ltL n (l.map opuV) := ltL_map (f := opuV) (fun _ => by simp [opuV, V.lt, ltL]) l
theorem lt1_opu (n : Nat) (x : Opu) : V.lt n (opuV x) := by simp [opuV, V.lt, ltL]
theorem ltc_opu {α : Type} (n : Nat) (g : α → Opu) (l : List α) : ltL n (l.map (opuV ∘ g)) := ltL_map (f := opuV ∘ g) (fun x => lt1_opu n (g x)) l
theorem st_opu (l : List (Opu)) : (∀ x, x ∈ l.map opuV → x.storable) = True := eq_true (storable_map (f := opuV) (fun _ => trivial) l)
theorem sz_opu (l : List (Opu)) : Sized 2 (l.map opuV) = True := eq_true (sizedMapV (f := opuV) (fun _ => rfl) l)
theorem st1_opu (x : Opu) : (opuV x).storable = True := eq_true trivial
theorem cl_opu (x : Opu) : (opuV x).cells.length = 2 := rfl

def pushL {α : Type} (most now : Int) (xs : List α) (B : α) : List α := if ((xs.take (now + 1).toNat ++ [B]).length : Int) > most then (xs.take (now + 1).toNat ++ [B]).drop 1 else xs.take (now + 1).toNat ++ [B]
theorem pushX_eq (most now : Int) (xs : List Nat) (B : Nat) : pushX most now xs B = pushL most now xs B := rfl
theorem pushL_map {α β : Type} (f : α → β) (most now : Int) (xs : List α) (B : α) : (pushL most now xs B).map f = pushL most now (xs.map f) (f B) := by
  unfold pushL
  have e : (xs.map f).take (now + 1).toNat ++ [f B] = (xs.take (now + 1).toNat ++ [B]).map f := by simp [List.map_take]
  rw [e, List.length_map]
  split
  · rw [List.map_drop]
  · rfl
theorem pushL_mem {α : Type} {most now : Int} {xs : List α} {B x : α} (h : x ∈ pushL most now xs B) : x = B ∨ x ∈ xs := by
  have key : x ∈ xs.take (now + 1).toNat ++ [B] → x = B ∨ x ∈ xs := fun h => by
    rcases List.mem_append.1 h with h | h
    · exact .inr (List.mem_of_mem_take h)
    · exact .inl (by simpa using h)
  unfold pushL at h
  split at h
  · exact key (List.mem_of_mem_drop h)
  · exact key h
theorem pushL_len {α : Type} {most now : Int} {xs : List α} {B : α} (hm : 0 < most) (hx : (xs.length : Int) ≤ most) (hn : now < xs.length) (hn0 : -1 ≤ now) : 0 < (pushL most now xs B).length ∧ ((pushL most now xs B).length : Int) ≤ most := by
  unfold pushL
  have : (xs.take (now + 1).toNat ++ [B]).length = (now + 1).toNat + 1 := by simp; omega
  split
  · rename_i h; rw [this] at h; rw [List.length_drop, this]; omega
  · rename_i h; rw [this] at h; rw [this]; omega
abbrev Pr := Nat × List UInt8
def InvU (G : List Ob) (Lg : Nat) (ps : List Pr) : Prop := ∀ p ∈ ps, ∃ m a, arenaAt G p.1 m a ∧ OfA a p.2 ∧ p.1 ≠ Lg ∧ m ≠ Lg
theorem arena_mono {G G' : List Ob} {Lg A m : Nat} {a : Arena} (h : arenaAt G A m a) (hA : A ≠ Lg) (hm : m ≠ Lg) (hg : ∀ j, j < G.length → j ≠ Lg → G'[j]? = G[j]?) : arenaAt G' A m a :=
  ⟨by rw [hg A (List.getElem?_eq_some_iff.1 h.1).1 hA]; exact h.1, by rw [hg m (List.getElem?_eq_some_iff.1 h.2.1).1 hm]; exact h.2.1, h.2.2.1, h.2.2.2⟩
theorem InvU.mono {G G' : List Ob} {Lg : Nat} {ps : List Pr} (h : InvU G Lg ps) (hg : ∀ j, j < G.length → j ≠ Lg → G'[j]? = G[j]?) : InvU G' Lg ps := fun p hp => by
  obtain ⟨m, a, h1, h2, h3, h4⟩ := h p hp
  exact ⟨m, a, arena_mono h1 h3 h4 hg, h2, h3, h4⟩
theorem tmod4 (n : Int) : ∃ k : Nat, k < 4 ∧ (IntKind.i64.wrap (n.tmod 4 + 4)).tmod 4 = (k : Int) := by
  have h1 := Int.tmod_lt_of_pos n (show (0 : Int) < 4 by omega)
  have h0 : -4 < n.tmod 4 := Int.lt_tmod_of_pos n (show (0 : Int) < 4 by omega)
  have e : IntKind.i64.wrap (n.tmod 4 + 4) = n.tmod 4 + 4 := wrapI (by omega)
  rw [e]
  have h2 := Int.tmod_lt_of_pos (n.tmod 4 + 4) (show (0 : Int) < 4 by omega)
  have h3 : 0 ≤ (n.tmod 4 + 4).tmod 4 := Int.tmod_nonneg _ (by omega)
  exact ⟨((n.tmod 4 + 4).tmod 4).toNat, by omega, by omega⟩
theorem uUndoNo (G : List Ob) (Lg : Nat) (most now : Int) (xs : List Nat) (h : logS G Lg most now xs) (hm : 0 < most) (hx : xs.length ≤ 100) (hn : now < xs.length) (hn0 : -1 ≤ now) (hno : ¬ (0 ≤ now + (-1) ∧ now + (-1) < xs.length)) : SCall Try.prog 55 [.ref Lg 0] G (fun r H' => r = .tuple [.nilp, .bool false] ∧ H' = G) := by
  refine SCall.of_good fun hH => ?_
  have hHk := HLt.add hH
  refine SCall.of_code Tok Try.func55 rfl Try.call55 (n := 8) rfl (by simp) (rs := [.tmp 2, .tmp 3]) rfl ?_
  refine EWn.to ?_
  refine EWn.of_c Tok mixed (own := false) keep55 tab55 (by kernel_rfl) ?_
  (repeat (first | simp -dsimp only [zrUndo51, xnils, xnilm, xrange, xmakeMap, xslice3, st_opu, sz_opu, st1_opu, cl_opu, RB, TB, keep55, tab55, xindexAddr, xindex, xslice, xconvert, xlen, ewOp, FreeW, StabW, SameW, ChangeW, AddW, BaseW, limBytes, simprocAttr, ne_eq] | ((with_reducible refine Need.intro ?_ ?_); (first | trivial | exact ⟨_, rfl⟩ | exact ⟨[], (List.append_nil _).symm⟩ | omega | (simp; done) | (simp; omega) | exact ⟨by first | trivial | (simp; done), _, by first | rfl | (simp; rfl)⟩))))
  (first | refine SCall.then (uStepNo _ Lg most now (-1) xs h hm hx hn hn0 (by omega) hno) ?_ | refine SCall.thenA (uStepNo _ Lg most now (-1) xs h hm hx hn hn0 (by omega) hno) (by repeat (first | exact trivial | exact .inl (.inl rfl) | exact .inl (.inr ⟨_, rfl, rfl⟩) | exact .inl rfl | exact .inr ⟨_, rfl, rfl⟩ | refine .inr ⟨_, _, rfl, rfl, ?_⟩ | refine ⟨?_, ?_⟩)) ?_ | refine CallE.intro _ (uStepNo _ Lg most now (-1) xs h hm hx hn hn0 (by omega) hno) ?_ | refine CallE.introA (uStepNo _ Lg most now (-1) xs h hm hx hn hn0 (by omega) hno) (by repeat (first | exact trivial | exact .inl (.inl rfl) | exact .inl (.inr ⟨_, rfl, rfl⟩) | exact .inl rfl | exact .inr ⟨_, rfl, rfl⟩ | refine .inr ⟨_, _, rfl, rfl, ?_⟩ | refine ⟨?_, ?_⟩)) ?_ | refine CallE.intro _ (fun _ => uStepNo _ Lg most now (-1) xs h hm hx hn hn0 (by omega) hno) ?_ | refine CallE.intro _ (fun _ => SCall.arg (by repeat (first | exact trivial | exact .inl (.inl rfl) | exact .inl (.inr ⟨_, rfl, rfl⟩) | exact .inl rfl | exact .inr ⟨_, rfl, rfl⟩ | refine .inr ⟨_, _, rfl, rfl, ?_⟩ | refine ⟨?_, ?_⟩)) (uStepNo _ Lg most now (-1) xs h hm hx hn hn0 (by omega) hno)) ?_ | refine CallE2.intro _ _ (uStepNo _ Lg most now (-1) xs h hm hx hn hn0 (by omega) hno) ?_ | refine CallE2.intro _ _ (SCall.arg (by repeat (first | exact trivial | exact .inl (.inl rfl) | exact .inl (.inr ⟨_, rfl, rfl⟩) | exact .inl rfl | exact .inr ⟨_, rfl, rfl⟩ | refine .inr ⟨_, _, rfl, rfl, ?_⟩ | refine ⟨?_, ?_⟩)) (uStepNo _ Lg most now (-1) xs h hm hx hn hn0 (by omega) hno)) ?_)
  (repeat (first | simp -dsimp only [zrUndo51, xnils, xnilm, xrange, xmakeMap, xslice3, st_opu, sz_opu, st1_opu, cl_opu, RB, TB, keep55, tab55, xindexAddr, xindex, xslice, xconvert, xlen, ewOp, FreeW, StabW, SameW, ChangeW, AddW, BaseW, limBytes, simprocAttr, ne_eq] | ((with_reducible refine Need.intro ?_ ?_); (first | trivial | exact ⟨_, rfl⟩ | exact ⟨[], (List.append_nil _).symm⟩ | omega | (simp; done) | (simp; omega) | exact ⟨by first | trivial | (simp; done), _, by first | rfl | (simp; rfl)⟩))))
  refine RetW.auto0 false _ (by first | rfl | exact (List.append_nil _).symm) ?_ ?_
  · (simp (maxDischargeDepth := 6) [LTB, HLt_set, ltL_take, ltL_drop, ltL_rep, ltL_set, upd, eset, hH, hHk, zlUndo51, lt_opu, lt1_opu, ltc_opu] <;> omega)
  (try simp only [wk, wk1, wk0, RB, limBytes, simprocAttr, ne_eq])
  (try (rw [List.take_of_length_le]; rotate_left 1; (· first | (simp; done) | (simp; omega) | omega)))
theorem uUndoS (G : List Ob) (Lg : Nat) (most now : Int) (xs : List Nat) (h : logS G Lg most now xs) (hm : 0 < most) (hx : xs.length ≤ 100) (hn : now < xs.length) (hn0 : -1 ≤ now) (k : Nat) (hk : now + (-1) = k) (hkl : k < xs.length) (m : Nat) (a : Arena) (ha : arenaAt G xs[k] m a) (hok : okAr a) (hd1 : xs[k] ≠ Lg) (hd2 : m ≠ Lg) : SCall Try.prog 55 [.ref Lg 0] G (fun r H' => r = .tuple [.ref (G.length + 1) 0, .bool true] ∧ H' = G.set Lg (.var [.int .i64 most, .slice (xs.map refV), .int .i64 k]) ++ [.map (encM (ownAr a).nodes) a.clock, .var (.mapr G.length :: (a.used.map vi ++ a.live.map vi))]) := by
  refine SCall.of_good fun hH => ?_
  have hHk := HLt.add hH
  refine SCall.of_code Tok Try.func55 rfl Try.call55 (n := 8) rfl (by simp) (rs := [.tmp 2, .tmp 3]) rfl ?_
  refine EWn.to ?_
  refine EWn.of_c Tok mixed (own := false) keep55 tab55 (by kernel_rfl) ?_
  (repeat (first | simp -dsimp only [zrUndo51, xnils, xnilm, xrange, xmakeMap, xslice3, st_opu, sz_opu, st1_opu, cl_opu, RB, TB, keep55, tab55, xindexAddr, xindex, xslice, xconvert, xlen, ewOp, FreeW, StabW, SameW, ChangeW, AddW, BaseW, limBytes, simprocAttr, ne_eq] | ((with_reducible refine Need.intro ?_ ?_); (first | trivial | exact ⟨_, rfl⟩ | exact ⟨[], (List.append_nil _).symm⟩ | omega | (simp; done) | (simp; omega) | exact ⟨by first | trivial | (simp; done), _, by first | rfl | (simp; rfl)⟩))))
  refine SCall.mono (uStepS G Lg most now (-1) xs h hm hx hn hn0 (by omega) k hk hkl m a ha hok hd1 hd2).goodA ?_
  rintro _ G2 ⟨⟨rfl, hG2⟩, hl⟩
  (repeat (first | simp -dsimp only [zrUndo51, xnils, xnilm, xrange, xmakeMap, xslice3, st_opu, sz_opu, st1_opu, cl_opu, RB, TB, keep55, tab55, xindexAddr, xindex, xslice, xconvert, xlen, ewOp, FreeW, StabW, SameW, ChangeW, AddW, BaseW, limBytes, simprocAttr, ne_eq] | ((with_reducible refine Need.intro ?_ ?_); (first | trivial | exact ⟨_, rfl⟩ | exact ⟨[], (List.append_nil _).symm⟩ | omega | (simp; done) | (simp; omega) | exact ⟨by first | trivial | (simp; done), _, by first | rfl | (simp; rfl)⟩))))
  refine RetW.keep false (by rw [hG2]; simp) hl (by rw [hG2]; simp [okW, okW1, okW0, V.lt]) ⟨by simp [wk, wk1, wk0], hG2⟩
theorem uRedoNo (G : List Ob) (Lg : Nat) (most now : Int) (xs : List Nat) (h : logS G Lg most now xs) (hm : 0 < most) (hx : xs.length ≤ 100) (hn : now < xs.length) (hn0 : -1 ≤ now) (hno : ¬ (0 ≤ now + 1 ∧ now + 1 < xs.length)) : SCall Try.prog 56 [.ref Lg 0] G (fun r H' => r = .tuple [.nilp, .bool false] ∧ H' = G) := by
  refine SCall.of_good fun hH => ?_
  have hHk := HLt.add hH
  refine SCall.of_code Tok Try.func56 rfl Try.call56 (n := 8) rfl (by simp) (rs := [.tmp 2, .tmp 3]) rfl ?_
  refine EWn.to ?_
  refine EWn.of_c Tok mixed (own := false) keep56 tab56 (by kernel_rfl) ?_
  (repeat (first | simp -dsimp only [zrUndo51, xnils, xnilm, xrange, xmakeMap, xslice3, st_opu, sz_opu, st1_opu, cl_opu, RB, TB, keep56, tab56, xindexAddr, xindex, xslice, xconvert, xlen, ewOp, FreeW, StabW, SameW, ChangeW, AddW, BaseW, limBytes, simprocAttr, ne_eq] | ((with_reducible refine Need.intro ?_ ?_); (first | trivial | exact ⟨_, rfl⟩ | exact ⟨[], (List.append_nil _).symm⟩ | omega | (simp; done) | (simp; omega) | exact ⟨by first | trivial | (simp; done), _, by first | rfl | (simp; rfl)⟩))))
  (first | refine SCall.then (uStepNo _ Lg most now 1 xs h hm hx hn hn0 (by omega) hno) ?_ | refine SCall.thenA (uStepNo _ Lg most now 1 xs h hm hx hn hn0 (by omega) hno) (by repeat (first | exact trivial | exact .inl (.inl rfl) | exact .inl (.inr ⟨_, rfl, rfl⟩) | exact .inl rfl | exact .inr ⟨_, rfl, rfl⟩ | refine .inr ⟨_, _, rfl, rfl, ?_⟩ | refine ⟨?_, ?_⟩)) ?_ | refine CallE.intro _ (uStepNo _ Lg most now 1 xs h hm hx hn hn0 (by omega) hno) ?_ | refine CallE.introA (uStepNo _ Lg most now 1 xs h hm hx hn hn0 (by omega) hno) (by repeat (first | exact trivial | exact .inl (.inl rfl) | exact .inl (.inr ⟨_, rfl, rfl⟩) | exact .inl rfl | exact .inr ⟨_, rfl, rfl⟩ | refine .inr ⟨_, _, rfl, rfl, ?_⟩ | refine ⟨?_, ?_⟩)) ?_ | refine CallE.intro _ (fun _ => uStepNo _ Lg most now 1 xs h hm hx hn hn0 (by omega) hno) ?_ | refine CallE.intro _ (fun _ => SCall.arg (by repeat (first | exact trivial | exact .inl (.inl rfl) | exact .inl (.inr ⟨_, rfl, rfl⟩) | exact .inl rfl | exact .inr ⟨_, rfl, rfl⟩ | refine .inr ⟨_, _, rfl, rfl, ?_⟩ | refine ⟨?_, ?_⟩)) (uStepNo _ Lg most now 1 xs h hm hx hn hn0 (by omega) hno)) ?_ | refine CallE2.intro _ _ (uStepNo _ Lg most now 1 xs h hm hx hn hn0 (by omega) hno) ?_ | refine CallE2.intro _ _ (SCall.arg (by repeat (first | exact trivial | exact .inl (.inl rfl) | exact .inl (.inr ⟨_, rfl, rfl⟩) | exact .inl rfl | exact .inr ⟨_, rfl, rfl⟩ | refine .inr ⟨_, _, rfl, rfl, ?_⟩ | refine ⟨?_, ?_⟩)) (uStepNo _ Lg most now 1 xs h hm hx hn hn0 (by omega) hno)) ?_)
  (repeat (first | simp -dsimp only [zrUndo51, xnils, xnilm, xrange, xmakeMap, xslice3, st_opu, sz_opu, st1_opu, cl_opu, RB, TB, keep56, tab56, xindexAddr, xindex, xslice, xconvert, xlen, ewOp, FreeW, StabW, SameW, ChangeW, AddW, BaseW, limBytes, simprocAttr, ne_eq] | ((with_reducible refine Need.intro ?_ ?_); (first | trivial | exact ⟨_, rfl⟩ | exact ⟨[], (List.append_nil _).symm⟩ | omega | (simp; done) | (simp; omega) | exact ⟨by first | trivial | (simp; done), _, by first | rfl | (simp; rfl)⟩))))
  refine RetW.auto0 false _ (by first | rfl | exact (List.append_nil _).symm) ?_ ?_
  · (simp (maxDischargeDepth := 6) [LTB, HLt_set, ltL_take, ltL_drop, ltL_rep, ltL_set, upd, eset, hH, hHk, zlUndo51, lt_opu, lt1_opu, ltc_opu] <;> omega)
  (try simp only [wk, wk1, wk0, RB, limBytes, simprocAttr, ne_eq])
  (try (rw [List.take_of_length_le]; rotate_left 1; (· first | (simp; done) | (simp; omega) | omega)))
theorem uRedoS (G : List Ob) (Lg : Nat) (most now : Int) (xs : List Nat) (h : logS G Lg most now xs) (hm : 0 < most) (hx : xs.length ≤ 100) (hn : now < xs.length) (hn0 : -1 ≤ now) (k : Nat) (hk : now + 1 = k) (hkl : k < xs.length) (m : Nat) (a : Arena) (ha : arenaAt G xs[k] m a) (hok : okAr a) (hd1 : xs[k] ≠ Lg) (hd2 : m ≠ Lg) : SCall Try.prog 56 [.ref Lg 0] G (fun r H' => r = .tuple [.ref (G.length + 1) 0, .bool true] ∧ H' = G.set Lg (.var [.int .i64 most, .slice (xs.map refV), .int .i64 k]) ++ [.map (encM (ownAr a).nodes) a.clock, .var (.mapr G.length :: (a.used.map vi ++ a.live.map vi))]) := by
  refine SCall.of_good fun hH => ?_
  have hHk := HLt.add hH
  refine SCall.of_code Tok Try.func56 rfl Try.call56 (n := 8) rfl (by simp) (rs := [.tmp 2, .tmp 3]) rfl ?_
  refine EWn.to ?_
  refine EWn.of_c Tok mixed (own := false) keep56 tab56 (by kernel_rfl) ?_
  (repeat (first | simp -dsimp only [zrUndo51, xnils, xnilm, xrange, xmakeMap, xslice3, st_opu, sz_opu, st1_opu, cl_opu, RB, TB, keep56, tab56, xindexAddr, xindex, xslice, xconvert, xlen, ewOp, FreeW, StabW, SameW, ChangeW, AddW, BaseW, limBytes, simprocAttr, ne_eq] | ((with_reducible refine Need.intro ?_ ?_); (first | trivial | exact ⟨_, rfl⟩ | exact ⟨[], (List.append_nil _).symm⟩ | omega | (simp; done) | (simp; omega) | exact ⟨by first | trivial | (simp; done), _, by first | rfl | (simp; rfl)⟩))))
  refine SCall.mono (uStepS G Lg most now 1 xs h hm hx hn hn0 (by omega) k hk hkl m a ha hok hd1 hd2).goodA ?_
  rintro _ G2 ⟨⟨rfl, hG2⟩, hl⟩
  (repeat (first | simp -dsimp only [zrUndo51, xnils, xnilm, xrange, xmakeMap, xslice3, st_opu, sz_opu, st1_opu, cl_opu, RB, TB, keep56, tab56, xindexAddr, xindex, xslice, xconvert, xlen, ewOp, FreeW, StabW, SameW, ChangeW, AddW, BaseW, limBytes, simprocAttr, ne_eq] | ((with_reducible refine Need.intro ?_ ?_); (first | trivial | exact ⟨_, rfl⟩ | exact ⟨[], (List.append_nil _).symm⟩ | omega | (simp; done) | (simp; omega) | exact ⟨by first | trivial | (simp; done), _, by first | rfl | (simp; rfl)⟩))))
  refine RetW.keep false (by rw [hG2]; simp) hl (by rw [hG2]; simp [okW, okW1, okW0, V.lt]) ⟨by simp [wk, wk1, wk0], hG2⟩
theorem uNowNo (G : List Ob) (Lg : Nat) (most now : Int) (xs : List Nat) (h : logS G Lg most now xs) (hm : 0 < most) (hx : xs.length ≤ 100) (hn : now < xs.length) (hn0 : -1 ≤ now) (hno : ¬ (0 ≤ now + 0 ∧ now + 0 < xs.length)) : SCall Try.prog 54 [.ref Lg 0] G (fun r H' => r = .tuple [.nilp, .bool false] ∧ H' = G) := by
  refine SCall.of_good fun hH => ?_
  have hHk := HLt.add hH
  refine SCall.of_code Tok Try.func54 rfl Try.call54 (n := 8) rfl (by simp) (rs := [.tmp 2, .tmp 3]) rfl ?_
  refine EWn.to ?_
  refine EWn.of_c Tok mixed (own := false) keep54 tab54 (by kernel_rfl) ?_
  (repeat (first | simp -dsimp only [zrUndo51, xnils, xnilm, xrange, xmakeMap, xslice3, st_opu, sz_opu, st1_opu, cl_opu, RB, TB, keep54, tab54, xindexAddr, xindex, xslice, xconvert, xlen, ewOp, FreeW, StabW, SameW, ChangeW, AddW, BaseW, limBytes, simprocAttr, ne_eq] | ((with_reducible refine Need.intro ?_ ?_); (first | trivial | exact ⟨_, rfl⟩ | exact ⟨[], (List.append_nil _).symm⟩ | omega | (simp; done) | (simp; omega) | exact ⟨by first | trivial | (simp; done), _, by first | rfl | (simp; rfl)⟩))))
  (first | refine SCall.then (uStepNo _ Lg most now 0 xs h hm hx hn hn0 (by omega) hno) ?_ | refine SCall.thenA (uStepNo _ Lg most now 0 xs h hm hx hn hn0 (by omega) hno) (by repeat (first | exact trivial | exact .inl (.inl rfl) | exact .inl (.inr ⟨_, rfl, rfl⟩) | exact .inl rfl | exact .inr ⟨_, rfl, rfl⟩ | refine .inr ⟨_, _, rfl, rfl, ?_⟩ | refine ⟨?_, ?_⟩)) ?_ | refine CallE.intro _ (uStepNo _ Lg most now 0 xs h hm hx hn hn0 (by omega) hno) ?_ | refine CallE.introA (uStepNo _ Lg most now 0 xs h hm hx hn hn0 (by omega) hno) (by repeat (first | exact trivial | exact .inl (.inl rfl) | exact .inl (.inr ⟨_, rfl, rfl⟩) | exact .inl rfl | exact .inr ⟨_, rfl, rfl⟩ | refine .inr ⟨_, _, rfl, rfl, ?_⟩ | refine ⟨?_, ?_⟩)) ?_ | refine CallE.intro _ (fun _ => uStepNo _ Lg most now 0 xs h hm hx hn hn0 (by omega) hno) ?_ | refine CallE.intro _ (fun _ => SCall.arg (by repeat (first | exact trivial | exact .inl (.inl rfl) | exact .inl (.inr ⟨_, rfl, rfl⟩) | exact .inl rfl | exact .inr ⟨_, rfl, rfl⟩ | refine .inr ⟨_, _, rfl, rfl, ?_⟩ | refine ⟨?_, ?_⟩)) (uStepNo _ Lg most now 0 xs h hm hx hn hn0 (by omega) hno)) ?_ | refine CallE2.intro _ _ (uStepNo _ Lg most now 0 xs h hm hx hn hn0 (by omega) hno) ?_ | refine CallE2.intro _ _ (SCall.arg (by repeat (first | exact trivial | exact .inl (.inl rfl) | exact .inl (.inr ⟨_, rfl, rfl⟩) | exact .inl rfl | exact .inr ⟨_, rfl, rfl⟩ | refine .inr ⟨_, _, rfl, rfl, ?_⟩ | refine ⟨?_, ?_⟩)) (uStepNo _ Lg most now 0 xs h hm hx hn hn0 (by omega) hno)) ?_)
  (repeat (first | simp -dsimp only [zrUndo51, xnils, xnilm, xrange, xmakeMap, xslice3, st_opu, sz_opu, st1_opu, cl_opu, RB, TB, keep54, tab54, xindexAddr, xindex, xslice, xconvert, xlen, ewOp, FreeW, StabW, SameW, ChangeW, AddW, BaseW, limBytes, simprocAttr, ne_eq] | ((with_reducible refine Need.intro ?_ ?_); (first | trivial | exact ⟨_, rfl⟩ | exact ⟨[], (List.append_nil _).symm⟩ | omega | (simp; done) | (simp; omega) | exact ⟨by first | trivial | (simp; done), _, by first | rfl | (simp; rfl)⟩))))
  refine RetW.auto0 false _ (by first | rfl | exact (List.append_nil _).symm) ?_ ?_
  · (simp (maxDischargeDepth := 6) [LTB, HLt_set, ltL_take, ltL_drop, ltL_rep, ltL_set, upd, eset, hH, hHk, zlUndo51, lt_opu, lt1_opu, ltc_opu] <;> omega)
  (try simp only [wk, wk1, wk0, RB, limBytes, simprocAttr, ne_eq])
  (try (rw [List.take_of_length_le]; rotate_left 1; (· first | (simp; done) | (simp; omega) | omega)))
theorem uNowS (G : List Ob) (Lg : Nat) (most now : Int) (xs : List Nat) (h : logS G Lg most now xs) (hm : 0 < most) (hx : xs.length ≤ 100) (hn : now < xs.length) (hn0 : -1 ≤ now) (k : Nat) (hk : now + 0 = k) (hkl : k < xs.length) (m : Nat) (a : Arena) (ha : arenaAt G xs[k] m a) (hok : okAr a) (hd1 : xs[k] ≠ Lg) (hd2 : m ≠ Lg) : SCall Try.prog 54 [.ref Lg 0] G (fun r H' => r = .tuple [.ref (G.length + 1) 0, .bool true] ∧ H' = G.set Lg (.var [.int .i64 most, .slice (xs.map refV), .int .i64 k]) ++ [.map (encM (ownAr a).nodes) a.clock, .var (.mapr G.length :: (a.used.map vi ++ a.live.map vi))]) := by
  refine SCall.of_good fun hH => ?_
  have hHk := HLt.add hH
  refine SCall.of_code Tok Try.func54 rfl Try.call54 (n := 8) rfl (by simp) (rs := [.tmp 2, .tmp 3]) rfl ?_
  refine EWn.to ?_
  refine EWn.of_c Tok mixed (own := false) keep54 tab54 (by kernel_rfl) ?_
  (repeat (first | simp -dsimp only [zrUndo51, xnils, xnilm, xrange, xmakeMap, xslice3, st_opu, sz_opu, st1_opu, cl_opu, RB, TB, keep54, tab54, xindexAddr, xindex, xslice, xconvert, xlen, ewOp, FreeW, StabW, SameW, ChangeW, AddW, BaseW, limBytes, simprocAttr, ne_eq] | ((with_reducible refine Need.intro ?_ ?_); (first | trivial | exact ⟨_, rfl⟩ | exact ⟨[], (List.append_nil _).symm⟩ | omega | (simp; done) | (simp; omega) | exact ⟨by first | trivial | (simp; done), _, by first | rfl | (simp; rfl)⟩))))
  refine SCall.mono (uStepS G Lg most now 0 xs h hm hx hn hn0 (by omega) k hk hkl m a ha hok hd1 hd2).goodA ?_
  rintro _ G2 ⟨⟨rfl, hG2⟩, hl⟩
  (repeat (first | simp -dsimp only [zrUndo51, xnils, xnilm, xrange, xmakeMap, xslice3, st_opu, sz_opu, st1_opu, cl_opu, RB, TB, keep54, tab54, xindexAddr, xindex, xslice, xconvert, xlen, ewOp, FreeW, StabW, SameW, ChangeW, AddW, BaseW, limBytes, simprocAttr, ne_eq] | ((with_reducible refine Need.intro ?_ ?_); (first | trivial | exact ⟨_, rfl⟩ | exact ⟨[], (List.append_nil _).symm⟩ | omega | (simp; done) | (simp; omega) | exact ⟨by first | trivial | (simp; done), _, by first | rfl | (simp; rfl)⟩))))
  refine RetW.keep false (by rw [hG2]; simp) hl (by rw [hG2]; simp [okW, okW1, okW0, V.lt]) ⟨by simp [wk, wk1, wk0], hG2⟩
set_option maxHeartbeats 4000000 in
theorem undoRuns (H : List Ob) (most0 : Int) (l : List Opu) (hl : l.length ≤ 1048576) (hlt : ∀ o ∈ l, o.text.length ≤ 1048576) : SCall Try.prog 8 [.int .i64 most0, .slice (l.map opuV)] H (fun r H' => r = .bool true) := by
  obtain ⟨most, hmost⟩ : ∃ most, most = min (max most0 1) 64 := ⟨_, rfl⟩
  have hm : 0 < most := by omega
  have hm64 : most ≤ 64 := by omega
  refine SCall.of_good fun hH => ?_
  have hHk := HLt.add hH
  refine SCall.of_code Tok Try.func8 rfl Try.call8 (n := 162) rfl (by simp) (rs := [.tmp 4]) rfl ?_
  refine EWn.to ?_
  refine EWn.of_c Tok mixed (own := false) keep8 tab8 (by kernel_rfl) ?_
  (repeat (first | simp -dsimp only [zrUndo51, xnils, xnilm, xrange, xmakeMap, xslice3, st_opu, sz_opu, st1_opu, cl_opu, RB, TB, keep8, tab8, xindexAddr, xindex, xslice, xconvert, xlen, ewOp, FreeW, StabW, SameW, ChangeW, AddW, BaseW, limBytes, simprocAttr, ne_eq] | ((with_reducible refine Need.intro ?_ ?_); (first | trivial | exact ⟨_, rfl⟩ | exact ⟨[], (List.append_nil _).symm⟩ | omega | (simp; done) | (simp; omega) | exact ⟨by first | trivial | (simp; done), _, by first | rfl | (simp; rfl)⟩))))
  (first | refine SCall.then (alive42 _) ?_ | refine SCall.thenA (alive42 _) (by repeat (first | exact trivial | exact .inl (.inl rfl) | exact .inl (.inr ⟨_, rfl, rfl⟩) | exact .inl rfl | exact .inr ⟨_, rfl, rfl⟩ | refine .inr ⟨_, _, rfl, rfl, ?_⟩ | refine ⟨?_, ?_⟩)) ?_ | refine CallE.intro _ (alive42 _) ?_ | refine CallE.introA (alive42 _) (by repeat (first | exact trivial | exact .inl (.inl rfl) | exact .inl (.inr ⟨_, rfl, rfl⟩) | exact .inl rfl | exact .inr ⟨_, rfl, rfl⟩ | refine .inr ⟨_, _, rfl, rfl, ?_⟩ | refine ⟨?_, ?_⟩)) ?_ | refine CallE.intro _ (fun _ => alive42 _) ?_ | refine CallE.intro _ (fun _ => SCall.arg (by repeat (first | exact trivial | exact .inl (.inl rfl) | exact .inl (.inr ⟨_, rfl, rfl⟩) | exact .inl rfl | exact .inr ⟨_, rfl, rfl⟩ | refine .inr ⟨_, _, rfl, rfl, ?_⟩ | refine ⟨?_, ?_⟩)) (alive42 _)) ?_ | refine CallE2.intro _ _ (alive42 _) ?_ | refine CallE2.intro _ _ (SCall.arg (by repeat (first | exact trivial | exact .inl (.inl rfl) | exact .inl (.inr ⟨_, rfl, rfl⟩) | exact .inl rfl | exact .inr ⟨_, rfl, rfl⟩ | refine .inr ⟨_, _, rfl, rfl, ?_⟩ | refine ⟨?_, ?_⟩)) (alive42 _)) ?_)
  (repeat (first | simp -dsimp only [zrUndo51, xnils, xnilm, xrange, xmakeMap, xslice3, st_opu, sz_opu, st1_opu, cl_opu, RB, TB, keep8, tab8, xindexAddr, xindex, xslice, xconvert, xlen, ewOp, FreeW, StabW, SameW, ChangeW, AddW, BaseW, limBytes, simprocAttr, ne_eq] | ((with_reducible refine Need.intro ?_ ?_); (first | trivial | exact ⟨_, rfl⟩ | exact ⟨[], (List.append_nil _).symm⟩ | omega | (simp; done) | (simp; omega) | exact ⟨by first | trivial | (simp; done), _, by first | rfl | (simp; rfl)⟩))))
  (first | refine SCall.then (uNew _ most0) ?_ | refine SCall.thenA (uNew _ most0) (by repeat (first | exact trivial | exact .inl (.inl rfl) | exact .inl (.inr ⟨_, rfl, rfl⟩) | exact .inl rfl | exact .inr ⟨_, rfl, rfl⟩ | refine .inr ⟨_, _, rfl, rfl, ?_⟩ | refine ⟨?_, ?_⟩)) ?_ | refine CallE.intro _ (uNew _ most0) ?_ | refine CallE.introA (uNew _ most0) (by repeat (first | exact trivial | exact .inl (.inl rfl) | exact .inl (.inr ⟨_, rfl, rfl⟩) | exact .inl rfl | exact .inr ⟨_, rfl, rfl⟩ | refine .inr ⟨_, _, rfl, rfl, ?_⟩ | refine ⟨?_, ?_⟩)) ?_ | refine CallE.intro _ (fun _ => uNew _ most0) ?_ | refine CallE.intro _ (fun _ => SCall.arg (by repeat (first | exact trivial | exact .inl (.inl rfl) | exact .inl (.inr ⟨_, rfl, rfl⟩) | exact .inl rfl | exact .inr ⟨_, rfl, rfl⟩ | refine .inr ⟨_, _, rfl, rfl, ?_⟩ | refine ⟨?_, ?_⟩)) (uNew _ most0)) ?_ | refine CallE2.intro _ _ (uNew _ most0) ?_ | refine CallE2.intro _ _ (SCall.arg (by repeat (first | exact trivial | exact .inl (.inl rfl) | exact .inl (.inr ⟨_, rfl, rfl⟩) | exact .inl rfl | exact .inr ⟨_, rfl, rfl⟩ | refine .inr ⟨_, _, rfl, rfl, ?_⟩ | refine ⟨?_, ?_⟩)) (uNew _ most0)) ?_)
  (repeat (first | simp -dsimp only [zrUndo51, xnils, xnilm, xrange, xmakeMap, xslice3, st_opu, sz_opu, st1_opu, cl_opu, RB, TB, keep8, tab8, xindexAddr, xindex, xslice, xconvert, xlen, ewOp, FreeW, StabW, SameW, ChangeW, AddW, BaseW, limBytes, simprocAttr, ne_eq] | ((with_reducible refine Need.intro ?_ ?_); (first | trivial | exact ⟨_, rfl⟩ | exact ⟨[], (List.append_nil _).symm⟩ | omega | (simp; done) | (simp; omega) | exact ⟨by first | trivial | (simp; done), _, by first | rfl | (simp; rfl)⟩))))
  rw [← hmost]
  have hw := fun (n0 : Nat) (env : Env) => Gho.weakOb (n0 := n0) (env := env) (H := H ++ [.var [.int .i64 most, .fslice [], .int .i64 (-1)]]) H.length (x := .var [.int .i64 most, .fslice [], .int .i64 (-1)]) (y := .var [.int .i64 most, .slice [], .int .i64 (-1)]) (by simp) ⟨.inl (.inl rfl), .inl (.inr ⟨_, rfl, rfl⟩), .inl (.inl rfl), trivial⟩
  refine EWn.ghost ((Gho.weakEnv (eset_G CvA.rfl' (t := 6) (x := .fslice []) (y := .slice []) (.inl (.inl (.inr ⟨_, rfl, rfl⟩))) (by simp) rfl)).trans (hw _ _)) ?_
  simp only [RB, limBytes, simprocAttr, ne_eq]
  refine EWn.loopE (ι := (Nat) × (List Pr) × (Int) × (List Ob)) (fun (x_ : (Nat) × (List Pr) × (Int) × (List Ob)) => match x_ with | (i, ps, now, G) => i ≤ l.length ∧ HLt G.length G ∧ logS G H.length most now (ps.map Prod.fst) ∧ InvU G H.length ps ∧ (ps.length : Int) ≤ most ∧ now < ps.length ∧ -1 ≤ now ∧ (0 < ps.length → 0 ≤ now) ∧ H.length < G.length) (fun (x_ : (Nat) × (List Pr) × (Int) × (List Ob)) => match x_ with | (i, ps, now, G) => l.length - i) (fun (x_ : (Nat) × (List Pr) × (Int) × (List Ob)) => match x_ with | (i, ps, now, G) => [(6, .slice ((ps.map Prod.snd).map V.str)), (7, .int .i64 now), (8, .int .i64 i)]) (fun (x_ : (Nat) × (List Pr) × (Int) × (List Ob)) => match x_ with | (i, ps, now, G) => G) (0, [], (-1), (H ++ [.var [.int .i64 most, .slice [], .int .i64 (-1)]])) ?_ ?_ ?_ ?_ ?_
  · first | rfl | simp [upd, eset]
  · first | rfl | (simp; done) | exact (set_same (by assumption)).symm
  · rintro ⟨i, ps, now, G⟩ ⟨hi, hG, hS, hI, h1, h2, h3, h4, h5⟩
    exact ⟨Nat.le_of_lt h5, hG, by (simp (maxDischargeDepth := 6) [LTB, HLt_set, ltL_take, ltL_drop, ltL_rep, ltL_set, upd, eset, hH, hHk, zlUndo51, lt_opu, lt1_opu, ltc_opu] <;> omega)⟩
  · refine ⟨Nat.zero_le _, by (simp (maxDischargeDepth := 6) [LTB, HLt_set, ltL_take, ltL_drop, ltL_rep, ltL_set, upd, eset, hH, hHk, zlUndo51, lt_opu, lt1_opu, ltc_opu] <;> omega), by simp [logS], fun p hp => (by cases hp), by simp; omega, by simp, by omega, by simp, by simp⟩
  rintro ⟨i, ps, now, G⟩ ⟨hi, hG, hS, hI, h1, h2, h3, h4, h5⟩
  have hGk := HLt.add hG
  refine EWn.of_c Tok mixed (own := false) keep8 tab8 (by kernel_rfl) ?_
  (repeat (first | simp -dsimp only [zrUndo51, xnils, xnilm, xrange, xmakeMap, xslice3, st_opu, sz_opu, st1_opu, cl_opu, RB, TB, keep8, tab8, xindexAddr, xindex, xslice, xconvert, xlen, ewOp, FreeW, StabW, SameW, ChangeW, AddW, BaseW, limBytes, simprocAttr, ne_eq] | ((with_reducible refine Need.intro ?_ ?_); (first | trivial | exact ⟨_, rfl⟩ | exact ⟨[], (List.append_nil _).symm⟩ | omega | (simp; done) | (simp; omega) | exact ⟨by first | trivial | (simp; done), _, by first | rfl | (simp; rfl)⟩))))
  refine IfW.intro (fun h => ?_) (fun h => ?_)
  · have hlt2 := lt_of h
    have hat := at_map opuV l i hlt2
    obtain ⟨hol⟩ : l[i].text.length ≤ 1048576 ∧ True := ⟨hlt _ (List.getElem_mem hlt2), trivial⟩
    generalize l[i] = op at hat hol
    obtain ⟨k, hk4, hk⟩ := tmod4 op.kind
    (repeat (first | simp -dsimp only [zrUndo51, xnils, xnilm, xrange, xmakeMap, xslice3, st_opu, sz_opu, st1_opu, cl_opu, h, RB, TB, keep8, tab8, xindexAddr, xindex, xslice, xconvert, xlen, ewOp, FreeW, StabW, SameW, ChangeW, AddW, BaseW, limBytes, simprocAttr, ne_eq] | ((with_reducible refine Need.intro ?_ ?_); (first | trivial | exact ⟨_, rfl⟩ | exact ⟨[], (List.append_nil _).symm⟩ | omega | (simp; done) | (simp; omega) | exact ⟨by first | trivial | (simp; done), _, by first | rfl | (simp; rfl)⟩))))
    refine IfW.intro (fun h40 => ?_) (fun h40 => ?_)
    · (repeat (first | simp -dsimp only [zrUndo51, xnils, xnilm, xrange, xmakeMap, xslice3, st_opu, sz_opu, st1_opu, cl_opu, h40, hat, opuV, hk, RB, TB, keep8, tab8, xindexAddr, xindex, xslice, xconvert, xlen, ewOp, FreeW, StabW, SameW, ChangeW, AddW, BaseW, limBytes, simprocAttr, ne_eq] | ((with_reducible refine Need.intro ?_ ?_); (first | trivial | exact ⟨_, rfl⟩ | exact ⟨[], (List.append_nil _).symm⟩ | omega | (simp; done) | (simp; omega) | exact ⟨by first | trivial | (simp; done), _, by first | rfl | (simp; rfl)⟩))))
      match k, hk4 with
      | 0, _ =>
        (repeat (first | simp -dsimp only [zrUndo51, xnils, xnilm, xrange, xmakeMap, xslice3, st_opu, sz_opu, st1_opu, cl_opu, hat, opuV, RB, TB, keep8, tab8, xindexAddr, xindex, xslice, xconvert, xlen, ewOp, FreeW, StabW, SameW, ChangeW, AddW, BaseW, limBytes, simprocAttr, ne_eq] | ((with_reducible refine Need.intro ?_ ?_); (first | trivial | exact ⟨_, rfl⟩ | exact ⟨[], (List.append_nil _).symm⟩ | omega | (simp; done) | (simp; omega) | exact ⟨by first | trivial | (simp; done), _, by first | rfl | (simp; rfl)⟩))))
        refine SCall.mono (uOf G op.text (by omega)).goodA ?_
        rintro _ G1 ⟨⟨rfl, a, hof, hG1⟩, hG1h⟩
        have hG1l : G1.length = G.length + 2 := by rw [hG1]; simp
        have hfr1 : ∀ j, j < G.length → G1[j]? = G[j]? := fun j hj => by rw [hG1, List.getElem?_append_left hj]
        have hat1 : arenaAt G1 (G.length + 1) G.length a := by
          obtain ⟨r, w, ha, _⟩ := hof
          exact ⟨by rw [hG1, hget]; rfl, by rw [hG1, hget0, ha]; rfl, by rw [ha]; rfl, by rw [ha]; rfl⟩
        have hS1 : logS G1 H.length most now (ps.map Prod.fst) := by show G1[H.length]? = _; rw [hfr1 _ h5]; exact hS
        (repeat (first | simp -dsimp only [zrUndo51, xnils, xnilm, xrange, xmakeMap, xslice3, st_opu, sz_opu, st1_opu, cl_opu, RB, TB, keep8, tab8, xindexAddr, xindex, xslice, xconvert, xlen, ewOp, FreeW, StabW, SameW, ChangeW, AddW, BaseW, limBytes, simprocAttr, ne_eq] | ((with_reducible refine Need.intro ?_ ?_); (first | trivial | exact ⟨_, rfl⟩ | exact ⟨[], (List.append_nil _).symm⟩ | omega | (simp; done) | (simp; omega) | exact ⟨by first | trivial | (simp; done), _, by first | rfl | (simp; rfl)⟩))))
        refine SCall.mono (uPushS G1 H.length most now (ps.map Prod.fst) hS1 hm hm64 (by simpa using h1) (by simpa using h2) h3 (G.length + 1) G.length a hat1 hof.ok).goodA ?_
        rintro _ G2 ⟨⟨rfl, hG2⟩, hG2h⟩
        obtain ⟨qs, hqs⟩ : ∃ qs, qs = pushL most now ps (G1.length + 1, op.text) := ⟨_, rfl⟩
        have hq1 : pushX most now (ps.map Prod.fst) (G1.length + 1) = qs.map Prod.fst := by rw [hqs, pushL_map]; rfl
        have hq2 : pushL most now (ps.map Prod.snd) op.text = qs.map Prod.snd := by rw [hqs, pushL_map]
        rw [hq1, List.length_map] at hG2
        have hG2l : G2.length = G1.length + 3 := by rw [hG2]; simp
        have hfr2 : ∀ j, j < G1.length → j ≠ H.length → G2[j]? = G1[j]? := fun j hj hjL => by
          rw [hG2, List.getElem?_append_left (by simpa using hj), List.getElem?_set_ne (Ne.symm hjL)]
        have hat2 : arenaAt G2 (G.length + 1) G.length a := arena_mono hat1 (by omega) (by omega) hfr2
        (repeat (first | simp -dsimp only [zrUndo51, xnils, xnilm, xrange, xmakeMap, xslice3, st_opu, sz_opu, st1_opu, cl_opu, RB, TB, keep8, tab8, xindexAddr, xindex, xslice, xconvert, xlen, ewOp, FreeW, StabW, SameW, ChangeW, AddW, BaseW, limBytes, simprocAttr, ne_eq] | ((with_reducible refine Need.intro ?_ ?_); (first | trivial | exact ⟨_, rfl⟩ | exact ⟨[], (List.append_nil _).symm⟩ | omega | (simp; done) | (simp; omega) | exact ⟨by first | trivial | (simp; done), _, by first | rfl | (simp; rfl)⟩))))
        refine SCall.mono (uFree G2 (G.length + 1) G.length a hat2 _ hof (by omega)).goodA ?_
        rintro _ G3 ⟨⟨rfl, X3, Y3, L3, hG3⟩, hG3h⟩
        obtain ⟨c, hc⟩ : ∃ c : Nat, (c : Int) = now + 1 := ⟨(now + 1).toNat, by omega⟩
        have hcn : (now + 1).toNat = c := by omega
        have hcl : c ≤ ps.length := by omega
        have wc : IntKind.i64.wrap (now + 1) = c := by rw [wrapI (by omega), hc]
        have htk : List.take c ((ps.map Prod.snd).map V.str) = ((ps.map Prod.snd).take c).map V.str := by rw [List.map_take]
        have htl : (List.take c (ps.map Prod.snd)).length = c := by simp; omega
        (repeat (first | simp -dsimp only [zrUndo51, xnils, xnilm, xrange, xmakeMap, xslice3, st_opu, sz_opu, st1_opu, cl_opu, wc, hat, opuV, htk, htl, RB, TB, keep8, tab8, xindexAddr, xindex, xslice, xconvert, xlen, ewOp, FreeW, StabW, SameW, ChangeW, AddW, BaseW, limBytes, simprocAttr, ne_eq] | ((with_reducible refine Need.intro ?_ ?_); (first | trivial | exact ⟨_, rfl⟩ | exact ⟨[], (List.append_nil _).symm⟩ | omega | (simp; done) | (simp; omega) | exact ⟨by first | trivial | (simp; done), _, by first | rfl | (simp; rfl)⟩))))
        refine IfW.intro (fun h6 => ?_) (fun h6 => ?_)
        · skip
          have h6' := of_decide_eq_true h6
          have hc1 : 1 ≤ c := by omega
          have hqe : qs = (ps.take c ++ [(G1.length + 1, op.text)]).drop 1 := by rw [hqs]; unfold pushL; rw [hcn, if_pos (by simp; omega)]
          obtain ⟨kk, hkk⟩ : ∃ kk : Nat, kk + 1 = c := ⟨c - 1, by omega⟩
          have hql : qs.length = kk + 1 := by rw [hqe]; simp; omega
          have w5 : IntKind.i64.wrap ((c : Int) - 1) = kk := by rw [wrapI (by omega)]; omega
          have hix : 1 + kk = c := by omega
          have hqk : qs[kk]? = some (G1.length + 1, op.text) := by rw [hqe]; simp [List.getElem?_append_right, hkk, hcl]
          have hqm : ∀ p ∈ qs, p = (G1.length + 1, op.text) ∨ p ∈ ps := fun p hp => by rw [hqs] at hp; exact pushL_mem hp
          have hqb : (qs.length : Int) ≤ most := by rw [hqs]; exact (pushL_len hm h1 h2 h3).2
          (repeat (first | simp -dsimp only [zrUndo51, xnils, xnilm, xrange, xmakeMap, xslice3, st_opu, sz_opu, st1_opu, cl_opu, h6, w5, htl, RB, TB, keep8, tab8, xindexAddr, xindex, xslice, xconvert, xlen, ewOp, FreeW, StabW, SameW, ChangeW, AddW, BaseW, limBytes, simprocAttr, ne_eq] | ((with_reducible refine Need.intro ?_ ?_); (first | trivial | exact ⟨_, rfl⟩ | exact ⟨[], (List.append_nil _).symm⟩ | omega | (simp; done) | (simp; omega) | exact ⟨by first | trivial | (simp; done), _, by first | rfl | (simp; rfl)⟩))))
          refine sgen fun Gy hGy => ?_
          have hGyl : Gy.length = G3.length + 1 := by rw [hGy]; simp
          have hGyo : Gy[G3.length]? = some (.vec 2 1 (((ps.map Prod.snd).take c).map V.str ++ [.str op.text])) := by rw [hGy]; simp
          have hG3l : G2.length ≤ G3.length := by rw [hG3]; simp
          have hfr3 : ∀ j, j < G2.length → j ≠ G.length + 1 → j ≠ G.length → Gy[j]? = G2[j]? := fun j hj hja hjb => by
            rw [hGy, List.getElem?_append_left (by omega), hG3, List.getElem?_append_left (by simpa using hj), List.getElem?_set_ne (Ne.symm hjb), List.getElem?_set_ne (Ne.symm hja)]
          have hfr : ∀ j, j < G.length → j ≠ H.length → Gy[j]? = G[j]? := fun j hj hjL => by
            rw [hfr3 j (by omega) (by omega) (by omega), hfr2 j (by omega) hjL, hfr1 j hj]
          have hSy : logS Gy H.length most kk (qs.map Prod.fst) := by
            show Gy[H.length]? = _
            rw [hfr3 _ (by omega) (by omega) (by omega), hG2, List.getElem?_append_left (by simp; omega), List.getElem?_set_self (by omega), hql]
            simp
          have hatB : arenaAt Gy (G1.length + 1) G1.length (ownAr a) := by
            obtain ⟨r, w, ha, _⟩ := hof
            exact ⟨by rw [hfr3 _ (by omega) (by omega) (by omega), hG2, hgetS]; rfl, by rw [hfr3 _ (by omega) (by omega) (by omega), hG2, hget0S, ha]; rfl, by rw [ha]; rfl, by rw [ha]; rfl⟩
          have hIq : ∀ p ∈ qs, p = (G1.length + 1, op.text) ∨ ∃ m b, arenaAt G p.1 m b ∧ OfA b p.2 ∧ p.1 ≠ H.length ∧ m ≠ H.length := fun p hp => (hqm p hp).imp_right (hI p)
          have hkl : kk < qs.length := by omega
          have hqk2 : qs[kk] = (G1.length + 1, op.text) := by rw [List.getElem?_eq_getElem hkl] at hqk; injection hqk
          refine SCall.mono (uNowS Gy H.length most kk (qs.map Prod.fst) hSy hm (by simp; omega) (by simp; omega) (by omega) kk (by omega) (by simpa using hkl) G1.length (ownAr a) (by simp only [List.getElem_map, hqk2]; exact hatB) hof.own.ok (by simp only [List.getElem_map, hqk2]; omega) (by omega)).goodA ?_
          rintro _ G5 ⟨⟨rfl, hG5⟩, hG5h⟩
          have hG5l : G5.length = Gy.length + 2 := by rw [hG5]; simp
          have hfr5 : ∀ j, j < Gy.length → j ≠ H.length → G5[j]? = Gy[j]? := fun j hj hjL => by
            rw [hG5, List.getElem?_append_left (by simpa using hj), List.getElem?_set_ne (Ne.symm hjL)]
          have hG5o : G5[G3.length]? = some (.vec 2 1 (((ps.map Prod.snd).take c).map V.str ++ [.str op.text])) := by rw [hfr5 _ (by omega) (by omega)]; exact hGyo
          have hatc : arenaAt G5 (Gy.length + 1) Gy.length (ownAr (ownAr a)) := ⟨by rw [hG5, hgetS]; rfl, by rw [hG5, hget0S]; rfl, hatB.2.2.1, hatB.2.2.2⟩
          have e1 : decide ((kk : Int) ≥ 0) = true := decide_eq_true (by omega)
          have e2 : decide ((kk : Int) < (c : Int)) = true := decide_eq_true (by omega)
          have hatv : (((ps.map Prod.snd).take c).map V.str ++ [V.str op.text]).getD c .dead = .str op.text := by
            have hL : (((ps.map Prod.snd).take c).map V.str).length = c := by simp; omega
            rw [List.getD_eq_getElem?_getD, List.getElem?_append_right (by omega), hL]
            simp
          (repeat (first | simp -dsimp only [zrUndo51, xnils, xnilm, xrange, xmakeMap, xslice3, st_opu, sz_opu, st1_opu, cl_opu, e1, e2, hG5o, hix, hatv, htl, RB, TB, keep8, tab8, xindexAddr, xindex, xslice, xconvert, xlen, ewOp, FreeW, StabW, SameW, ChangeW, AddW, BaseW, limBytes, simprocAttr, ne_eq] | ((with_reducible refine Need.intro ?_ ?_); (first | trivial | exact ⟨_, rfl⟩ | exact ⟨[], (List.append_nil _).symm⟩ | omega | (simp; done) | (simp; omega) | exact ⟨by first | trivial | (simp; done), _, by first | rfl | (simp; rfl)⟩))))
          refine SCall.then (uShows G5 (Gy.length + 1) Gy.length (ownAr (ownAr a)) hatc op.text hof.own.own) ?_
          (repeat (first | simp -dsimp only [zrUndo51, xnils, xnilm, xrange, xmakeMap, xslice3, st_opu, sz_opu, st1_opu, cl_opu, RB, TB, keep8, tab8, xindexAddr, xindex, xslice, xconvert, xlen, ewOp, FreeW, StabW, SameW, ChangeW, AddW, BaseW, limBytes, simprocAttr, ne_eq] | ((with_reducible refine Need.intro ?_ ?_); (first | trivial | exact ⟨_, rfl⟩ | exact ⟨[], (List.append_nil _).symm⟩ | omega | (simp; done) | (simp; omega) | exact ⟨by first | trivial | (simp; done), _, by first | rfl | (simp; rfl)⟩))))
          refine SCall.mono (uFree G5 (Gy.length + 1) Gy.length (ownAr (ownAr a)) hatc _ hof.own.own (by omega)).goodA ?_
          rintro _ G6 ⟨⟨rfl, X6, Y6, L6, hG6⟩, hG6h⟩
          have hG6l : G5.length ≤ G6.length := by rw [hG6]; simp
          have hfr6 : ∀ j, j < Gy.length → G6[j]? = G5[j]? := fun j hj => by
            rw [hG6, List.getElem?_append_left (by simp; omega), List.getElem?_set_ne (by omega), List.getElem?_set_ne (by omega)]
          have hS6 : logS G6 H.length most kk (qs.map Prod.fst) := by
            show G6[H.length]? = _
            rw [hfr6 _ (by omega), hG5, List.getElem?_append_left (by simp; omega), List.getElem?_set_self (by omega)]
          have hG6o : G6[G3.length]? = some (.vec 2 1 (((ps.map Prod.snd).take c).map V.str ++ [.str op.text])) := by rw [hfr6 _ (by omega)]; exact hG5o
          have e3 : (((c : Int)) == 0) = false := by rw [beq_eq_false_iff_ne]; omega
          have e4 : decide ((c : Int) > 0) = true := decide_eq_true (by omega)
          have w6 : IntKind.i64.wrap ((kk : Int) - kk) = 0 := by rw [Int.sub_self]; rfl
          have hC : SCall Try.prog 58 [.ref H.length 0] G6 (fun r H' => r = .tuple [.int .i64 kk, .int .i64 0] ∧ H' = G6) := SCall.mono (uCountS G6 H.length most kk (qs.map Prod.fst) hS6 hm (by simp; omega) (by simp; omega) (by omega)) fun r H' h => ⟨by rw [h.1, List.length_map, hql]; simp, h.2⟩
          (repeat (first | simp -dsimp only [zrUndo51, xnils, xnilm, xrange, xmakeMap, xslice3, st_opu, sz_opu, st1_opu, cl_opu, RB, TB, keep8, tab8, xindexAddr, xindex, xslice, xconvert, xlen, ewOp, FreeW, StabW, SameW, ChangeW, AddW, BaseW, limBytes, simprocAttr, ne_eq] | ((with_reducible refine Need.intro ?_ ?_); (first | trivial | exact ⟨_, rfl⟩ | exact ⟨[], (List.append_nil _).symm⟩ | omega | (simp; done) | (simp; omega) | exact ⟨by first | trivial | (simp; done), _, by first | rfl | (simp; rfl)⟩))))
          refine SCall.then hC ?_
          (repeat (first | simp -dsimp only [zrUndo51, xnils, xnilm, xrange, xmakeMap, xslice3, st_opu, sz_opu, st1_opu, cl_opu, hG6o, e3, e4, w5, w6, htl, RB, TB, keep8, tab8, xindexAddr, xindex, xslice, xconvert, xlen, ewOp, FreeW, StabW, SameW, ChangeW, AddW, BaseW, limBytes, simprocAttr, ne_eq] | ((with_reducible refine Need.intro ?_ ?_); (first | trivial | exact ⟨_, rfl⟩ | exact ⟨[], (List.append_nil _).symm⟩ | omega | (simp; done) | (simp; omega) | exact ⟨by first | trivial | (simp; done), _, by first | rfl | (simp; rfl)⟩))))
          rw [wrapI (by omega)]
          have hobj : ((ps.map Prod.snd).take c).map V.str ++ [.str op.text] = ((ps.take c ++ [(G1.length + 1, op.text)]).map Prod.snd).map V.str := by simp [List.map_take]
          have hI7 : InvU (G6.set G3.length .gone) H.length qs := fun p hp => by
            have hfr7 : ∀ j, j < G3.length → j ≠ H.length → (G6.set G3.length .gone)[j]? = Gy[j]? := fun j hj hjL => by
              rw [List.getElem?_set_ne (by omega), hfr6 j (by omega), hfr5 j (by omega) hjL]
            rcases hIq p hp with rfl | ⟨m, b, q1, q2, q3, q4⟩
            · have lA := (List.getElem?_eq_some_iff.1 hatB.1).1
              exact ⟨G1.length, ownAr a, ⟨by rw [hfr7 _ (by simp only; omega) (by simp only; omega)]; exact hatB.1, by rw [hfr7 _ (by omega) (by omega)]; exact hatB.2.1, hatB.2.2.1, hatB.2.2.2⟩, hof.own, by simp only; omega, by omega⟩
            · refine ⟨m, b, arena_mono q1 q3 q4 fun j hj hjL => ?_, q2, q3, q4⟩
              rw [hfr7 j (by omega) hjL, hfr j hj hjL]
          refine UpTo.step (Gho.conv (some (G3.length, 2, ((ps.map Prod.snd).take c).map V.str ++ [.str op.text])) (H' := G6.set G3.length .gone) (fun _ _ _ e => by cases e; exact ⟨⟨1, hG6o⟩, List.getElem?_set_self (by omega)⟩) (by simp) (fun j x hx hz => ⟨x, ?_, CvO.rflA x⟩) (eset_G CvA.rfl' (t := 6) (x := .vec G3.length 2 1 c) (y := .slice ((qs.map Prod.snd).map V.str)) (.inl (.inr ⟨G3.length, 2, _, 1, c, rfl, rfl, ?_, ?_⟩)) (by simp) rfl)) ?_
          · rw [List.getElem?_set_ne (by rintro rfl; simp [isZ] at hz)]
            exact hx
          · simp; omega
          · have hLn : (((ps.take c ++ [(G1.length + 1, op.text)]).map Prod.snd).map V.str).length = c + 1 := by simp; omega
            refine congrArg V.slice ?_
            rw [hobj, hqe, List.map_drop, List.map_drop]
            exact (List.take_of_length_le (by rw [List.length_drop, hLn]; omega)).symm
          · refine UpTo.here ⟨(i + 1, qs, kk, G6.set G3.length .gone), ⟨hlt2, ?_, ?_, hI7, hqb, by omega, by omega, fun _ => by omega, by simp; omega⟩, by simp only; omega, by simp [upd, eset], ⟨[], by simp⟩⟩
            · rw [List.length_set]; exact HLt_set hG6h trivial
            · show (G6.set G3.length .gone)[H.length]? = _
              rw [List.getElem?_set_ne (by omega)]; exact hS6
        · skip
          have h6' := of_decide_eq_false h6
          have hqe : qs = ps.take c ++ [(G1.length + 1, op.text)] := by rw [hqs]; unfold pushL; rw [hcn, if_neg (by simp; omega)]
          obtain ⟨kk, hkk⟩ : ∃ kk : Nat, kk = c := ⟨c, rfl⟩
          have hql : qs.length = kk + 1 := by rw [hqe]; simp; omega
          have w5 : IntKind.i64.wrap (((c + 1 : Nat) : Int) - 1) = kk := by rw [wrapI (by omega)]; omega
          have hix : 0 + kk = c := by omega
          have hqk : qs[kk]? = some (G1.length + 1, op.text) := by rw [hqe]; simp [List.getElem?_append_right, hkk, hcl]
          have hqm : ∀ p ∈ qs, p = (G1.length + 1, op.text) ∨ p ∈ ps := fun p hp => by rw [hqs] at hp; exact pushL_mem hp
          have hqb : (qs.length : Int) ≤ most := by rw [hqs]; exact (pushL_len hm h1 h2 h3).2
          (repeat (first | simp -dsimp only [zrUndo51, xnils, xnilm, xrange, xmakeMap, xslice3, st_opu, sz_opu, st1_opu, cl_opu, h6, w5, htl, RB, TB, keep8, tab8, xindexAddr, xindex, xslice, xconvert, xlen, ewOp, FreeW, StabW, SameW, ChangeW, AddW, BaseW, limBytes, simprocAttr, ne_eq] | ((with_reducible refine Need.intro ?_ ?_); (first | trivial | exact ⟨_, rfl⟩ | exact ⟨[], (List.append_nil _).symm⟩ | omega | (simp; done) | (simp; omega) | exact ⟨by first | trivial | (simp; done), _, by first | rfl | (simp; rfl)⟩))))
          refine sgen fun Gy hGy => ?_
          have hGyl : Gy.length = G3.length + 1 := by rw [hGy]; simp
          have hGyo : Gy[G3.length]? = some (.vec 2 1 (((ps.map Prod.snd).take c).map V.str ++ [.str op.text])) := by rw [hGy]; simp
          have hG3l : G2.length ≤ G3.length := by rw [hG3]; simp
          have hfr3 : ∀ j, j < G2.length → j ≠ G.length + 1 → j ≠ G.length → Gy[j]? = G2[j]? := fun j hj hja hjb => by
            rw [hGy, List.getElem?_append_left (by omega), hG3, List.getElem?_append_left (by simpa using hj), List.getElem?_set_ne (Ne.symm hjb), List.getElem?_set_ne (Ne.symm hja)]
          have hfr : ∀ j, j < G.length → j ≠ H.length → Gy[j]? = G[j]? := fun j hj hjL => by
            rw [hfr3 j (by omega) (by omega) (by omega), hfr2 j (by omega) hjL, hfr1 j hj]
          have hSy : logS Gy H.length most kk (qs.map Prod.fst) := by
            show Gy[H.length]? = _
            rw [hfr3 _ (by omega) (by omega) (by omega), hG2, List.getElem?_append_left (by simp; omega), List.getElem?_set_self (by omega), hql]
            simp
          have hatB : arenaAt Gy (G1.length + 1) G1.length (ownAr a) := by
            obtain ⟨r, w, ha, _⟩ := hof
            exact ⟨by rw [hfr3 _ (by omega) (by omega) (by omega), hG2, hgetS]; rfl, by rw [hfr3 _ (by omega) (by omega) (by omega), hG2, hget0S, ha]; rfl, by rw [ha]; rfl, by rw [ha]; rfl⟩
          have hIq : ∀ p ∈ qs, p = (G1.length + 1, op.text) ∨ ∃ m b, arenaAt G p.1 m b ∧ OfA b p.2 ∧ p.1 ≠ H.length ∧ m ≠ H.length := fun p hp => (hqm p hp).imp_right (hI p)
          have hkl : kk < qs.length := by omega
          have hqk2 : qs[kk] = (G1.length + 1, op.text) := by rw [List.getElem?_eq_getElem hkl] at hqk; injection hqk
          refine SCall.mono (uNowS Gy H.length most kk (qs.map Prod.fst) hSy hm (by simp; omega) (by simp; omega) (by omega) kk (by omega) (by simpa using hkl) G1.length (ownAr a) (by simp only [List.getElem_map, hqk2]; exact hatB) hof.own.ok (by simp only [List.getElem_map, hqk2]; omega) (by omega)).goodA ?_
          rintro _ G5 ⟨⟨rfl, hG5⟩, hG5h⟩
          have hG5l : G5.length = Gy.length + 2 := by rw [hG5]; simp
          have hfr5 : ∀ j, j < Gy.length → j ≠ H.length → G5[j]? = Gy[j]? := fun j hj hjL => by
            rw [hG5, List.getElem?_append_left (by simpa using hj), List.getElem?_set_ne (Ne.symm hjL)]
          have hG5o : G5[G3.length]? = some (.vec 2 1 (((ps.map Prod.snd).take c).map V.str ++ [.str op.text])) := by rw [hfr5 _ (by omega) (by omega)]; exact hGyo
          have hatc : arenaAt G5 (Gy.length + 1) Gy.length (ownAr (ownAr a)) := ⟨by rw [hG5, hgetS]; rfl, by rw [hG5, hget0S]; rfl, hatB.2.2.1, hatB.2.2.2⟩
          have e1 : decide ((kk : Int) ≥ 0) = true := decide_eq_true (by omega)
          have e2 : decide ((kk : Int) < ((c + 1 : Nat) : Int)) = true := decide_eq_true (by omega)
          have hatv : (((ps.map Prod.snd).take c).map V.str ++ [V.str op.text]).getD c .dead = .str op.text := by
            have hL : (((ps.map Prod.snd).take c).map V.str).length = c := by simp; omega
            rw [List.getD_eq_getElem?_getD, List.getElem?_append_right (by omega), hL]
            simp
          (repeat (first | simp -dsimp only [zrUndo51, xnils, xnilm, xrange, xmakeMap, xslice3, st_opu, sz_opu, st1_opu, cl_opu, e1, e2, hG5o, hix, hatv, htl, RB, TB, keep8, tab8, xindexAddr, xindex, xslice, xconvert, xlen, ewOp, FreeW, StabW, SameW, ChangeW, AddW, BaseW, limBytes, simprocAttr, ne_eq] | ((with_reducible refine Need.intro ?_ ?_); (first | trivial | exact ⟨_, rfl⟩ | exact ⟨[], (List.append_nil _).symm⟩ | omega | (simp; done) | (simp; omega) | exact ⟨by first | trivial | (simp; done), _, by first | rfl | (simp; rfl)⟩))))
          refine SCall.then (uShows G5 (Gy.length + 1) Gy.length (ownAr (ownAr a)) hatc op.text hof.own.own) ?_
          (repeat (first | simp -dsimp only [zrUndo51, xnils, xnilm, xrange, xmakeMap, xslice3, st_opu, sz_opu, st1_opu, cl_opu, RB, TB, keep8, tab8, xindexAddr, xindex, xslice, xconvert, xlen, ewOp, FreeW, StabW, SameW, ChangeW, AddW, BaseW, limBytes, simprocAttr, ne_eq] | ((with_reducible refine Need.intro ?_ ?_); (first | trivial | exact ⟨_, rfl⟩ | exact ⟨[], (List.append_nil _).symm⟩ | omega | (simp; done) | (simp; omega) | exact ⟨by first | trivial | (simp; done), _, by first | rfl | (simp; rfl)⟩))))
          refine SCall.mono (uFree G5 (Gy.length + 1) Gy.length (ownAr (ownAr a)) hatc _ hof.own.own (by omega)).goodA ?_
          rintro _ G6 ⟨⟨rfl, X6, Y6, L6, hG6⟩, hG6h⟩
          have hG6l : G5.length ≤ G6.length := by rw [hG6]; simp
          have hfr6 : ∀ j, j < Gy.length → G6[j]? = G5[j]? := fun j hj => by
            rw [hG6, List.getElem?_append_left (by simp; omega), List.getElem?_set_ne (by omega), List.getElem?_set_ne (by omega)]
          have hS6 : logS G6 H.length most kk (qs.map Prod.fst) := by
            show G6[H.length]? = _
            rw [hfr6 _ (by omega), hG5, List.getElem?_append_left (by simp; omega), List.getElem?_set_self (by omega)]
          have hG6o : G6[G3.length]? = some (.vec 2 1 (((ps.map Prod.snd).take c).map V.str ++ [.str op.text])) := by rw [hfr6 _ (by omega)]; exact hG5o
          have e3 : ((((c + 1 : Nat) : Int)) == 0) = false := by rw [beq_eq_false_iff_ne]; omega
          have e4 : decide (((c + 1 : Nat) : Int) > 0) = true := decide_eq_true (by omega)
          have w6 : IntKind.i64.wrap ((kk : Int) - kk) = 0 := by rw [Int.sub_self]; rfl
          have hC : SCall Try.prog 58 [.ref H.length 0] G6 (fun r H' => r = .tuple [.int .i64 kk, .int .i64 0] ∧ H' = G6) := SCall.mono (uCountS G6 H.length most kk (qs.map Prod.fst) hS6 hm (by simp; omega) (by simp; omega) (by omega)) fun r H' h => ⟨by rw [h.1, List.length_map, hql]; simp, h.2⟩
          (repeat (first | simp -dsimp only [zrUndo51, xnils, xnilm, xrange, xmakeMap, xslice3, st_opu, sz_opu, st1_opu, cl_opu, RB, TB, keep8, tab8, xindexAddr, xindex, xslice, xconvert, xlen, ewOp, FreeW, StabW, SameW, ChangeW, AddW, BaseW, limBytes, simprocAttr, ne_eq] | ((with_reducible refine Need.intro ?_ ?_); (first | trivial | exact ⟨_, rfl⟩ | exact ⟨[], (List.append_nil _).symm⟩ | omega | (simp; done) | (simp; omega) | exact ⟨by first | trivial | (simp; done), _, by first | rfl | (simp; rfl)⟩))))
          refine SCall.then hC ?_
          (repeat (first | simp -dsimp only [zrUndo51, xnils, xnilm, xrange, xmakeMap, xslice3, st_opu, sz_opu, st1_opu, cl_opu, hG6o, e3, e4, w5, w6, htl, RB, TB, keep8, tab8, xindexAddr, xindex, xslice, xconvert, xlen, ewOp, FreeW, StabW, SameW, ChangeW, AddW, BaseW, limBytes, simprocAttr, ne_eq] | ((with_reducible refine Need.intro ?_ ?_); (first | trivial | exact ⟨_, rfl⟩ | exact ⟨[], (List.append_nil _).symm⟩ | omega | (simp; done) | (simp; omega) | exact ⟨by first | trivial | (simp; done), _, by first | rfl | (simp; rfl)⟩))))
          rw [wrapI (by omega)]
          have hobj : ((ps.map Prod.snd).take c).map V.str ++ [.str op.text] = ((ps.take c ++ [(G1.length + 1, op.text)]).map Prod.snd).map V.str := by simp [List.map_take]
          have hI7 : InvU (G6.set G3.length .gone) H.length qs := fun p hp => by
            have hfr7 : ∀ j, j < G3.length → j ≠ H.length → (G6.set G3.length .gone)[j]? = Gy[j]? := fun j hj hjL => by
              rw [List.getElem?_set_ne (by omega), hfr6 j (by omega), hfr5 j (by omega) hjL]
            rcases hIq p hp with rfl | ⟨m, b, q1, q2, q3, q4⟩
            · have lA := (List.getElem?_eq_some_iff.1 hatB.1).1
              exact ⟨G1.length, ownAr a, ⟨by rw [hfr7 _ (by simp only; omega) (by simp only; omega)]; exact hatB.1, by rw [hfr7 _ (by omega) (by omega)]; exact hatB.2.1, hatB.2.2.1, hatB.2.2.2⟩, hof.own, by simp only; omega, by omega⟩
            · refine ⟨m, b, arena_mono q1 q3 q4 fun j hj hjL => ?_, q2, q3, q4⟩
              rw [hfr7 j (by omega) hjL, hfr j hj hjL]
          refine UpTo.step (Gho.conv (some (G3.length, 2, ((ps.map Prod.snd).take c).map V.str ++ [.str op.text])) (H' := G6.set G3.length .gone) (fun _ _ _ e => by cases e; exact ⟨⟨1, hG6o⟩, List.getElem?_set_self (by omega)⟩) (by simp) (fun j x hx hz => ⟨x, ?_, CvO.rflA x⟩) (eset_G CvA.rfl' (t := 6) (x := .vec G3.length 2 0 (c + 1)) (y := .slice ((qs.map Prod.snd).map V.str)) (.inl (.inr ⟨G3.length, 2, _, 0, (c + 1), rfl, rfl, ?_, ?_⟩)) (by simp) rfl)) ?_
          · rw [List.getElem?_set_ne (by rintro rfl; simp [isZ] at hz)]
            exact hx
          · simp; omega
          · have hLn : (((ps.take c ++ [(G1.length + 1, op.text)]).map Prod.snd).map V.str).length = c + 1 := by simp; omega
            refine congrArg V.slice ?_
            rw [hobj, hqe, List.drop_zero]
            exact (List.take_of_length_le (by rw [hLn]; exact Nat.le_refl _)).symm
          · refine UpTo.here ⟨(i + 1, qs, kk, G6.set G3.length .gone), ⟨hlt2, ?_, ?_, hI7, hqb, by omega, by omega, fun _ => by omega, by simp; omega⟩, by simp only; omega, by simp [upd, eset], ⟨[], by simp⟩⟩
            · rw [List.length_set]; exact HLt_set hG6h trivial
            · show (G6.set G3.length .gone)[H.length]? = _
              rw [List.getElem?_set_ne (by omega)]; exact hS6
      | 1, _ =>
        (repeat (first | simp -dsimp only [zrUndo51, xnils, xnilm, xrange, xmakeMap, xslice3, st_opu, sz_opu, st1_opu, cl_opu, RB, TB, keep8, tab8, xindexAddr, xindex, xslice, xconvert, xlen, ewOp, FreeW, StabW, SameW, ChangeW, AddW, BaseW, limBytes, simprocAttr, ne_eq] | ((with_reducible refine Need.intro ?_ ?_); (first | trivial | exact ⟨_, rfl⟩ | exact ⟨[], (List.append_nil _).symm⟩ | omega | (simp; done) | (simp; omega) | exact ⟨by first | trivial | (simp; done), _, by first | rfl | (simp; rfl)⟩))))
        by_cases hyes : 0 ≤ (now + (-1)) ∧ (now + (-1)) < ps.length
        · obtain ⟨kk, hkk⟩ : ∃ kk : Nat, (kk : Int) = (now + (-1)) := ⟨((now + (-1))).toNat, by omega⟩
          have hkl : kk < ps.length := by omega
          obtain ⟨m, a, ha, hof, hd1, hd2⟩ := hI ps[kk] (List.getElem_mem hkl)
          have e1 : decide ((kk : Int) ≥ 0) = true := decide_eq_true (by omega)
          have e2 : decide ((kk : Int) < ps.length) = true := decide_eq_true (by omega)
          have wA : IntKind.i64.wrap (now - 1) = kk := by rw [wrapI (by omega)]; omega
          have hatk : ((ps.map Prod.snd).map V.str).getD kk .dead = .str ps[kk].2 := by rw [List.getD_eq_getElem?_getD, List.getElem?_map, List.getElem?_map, List.getElem?_eq_getElem hkl]; rfl
          refine SCall.mono (uUndoS G H.length most now (ps.map Prod.fst) hS hm (by simp; omega) (by simpa using h2) h3 kk (by omega) (by simpa using hkl) m a (by simpa using ha) hof.ok (by simpa using hd1) hd2).goodA ?_
          rintro _ G1 ⟨⟨rfl, hG1⟩, hG1h⟩
          have hG1l : G1.length = G.length + 2 := by rw [hG1]; simp
          have hatc : arenaAt G1 (G.length + 1) G.length (ownAr a) := ⟨by rw [hG1, hgetS]; rfl, by rw [hG1, hget0S]; rfl, ha.2.2.1, ha.2.2.2⟩
          (repeat (first | simp -dsimp only [zrUndo51, xnils, xnilm, xrange, xmakeMap, xslice3, st_opu, sz_opu, st1_opu, cl_opu, wA, e1, e2, hatk, RB, TB, keep8, tab8, xindexAddr, xindex, xslice, xconvert, xlen, ewOp, FreeW, StabW, SameW, ChangeW, AddW, BaseW, limBytes, simprocAttr, ne_eq] | ((with_reducible refine Need.intro ?_ ?_); (first | trivial | exact ⟨_, rfl⟩ | exact ⟨[], (List.append_nil _).symm⟩ | omega | (simp; done) | (simp; omega) | exact ⟨by first | trivial | (simp; done), _, by first | rfl | (simp; rfl)⟩))))
          refine SCall.then (uShows G1 (G.length + 1) G.length (ownAr a) hatc ps[kk].2 hof.own) ?_
          (repeat (first | simp -dsimp only [zrUndo51, xnils, xnilm, xrange, xmakeMap, xslice3, st_opu, sz_opu, st1_opu, cl_opu, RB, TB, keep8, tab8, xindexAddr, xindex, xslice, xconvert, xlen, ewOp, FreeW, StabW, SameW, ChangeW, AddW, BaseW, limBytes, simprocAttr, ne_eq] | ((with_reducible refine Need.intro ?_ ?_); (first | trivial | exact ⟨_, rfl⟩ | exact ⟨[], (List.append_nil _).symm⟩ | omega | (simp; done) | (simp; omega) | exact ⟨by first | trivial | (simp; done), _, by first | rfl | (simp; rfl)⟩))))
          refine SCall.mono (uFree G1 (G.length + 1) G.length (ownAr a) hatc _ hof.own (by omega)).goodA ?_
          rintro _ G2 ⟨⟨rfl, X, Y, L, hG2⟩, hG2h⟩
          have hG2l : G1.length ≤ G2.length := by rw [hG2]; simp
          have hfr : ∀ j, j < G.length → G2[j]? = G1[j]? := fun j hj => by
            rw [hG2, List.getElem?_append_left (by simp; omega), List.getElem?_set_ne (by omega), List.getElem?_set_ne (by omega)]
          have hS2 : logS G2 H.length most kk (ps.map Prod.fst) := by
            show G2[H.length]? = _
            rw [hfr _ h5, hG1, List.getElem?_append_left (by simpa using h5), List.getElem?_set_self h5]
          have hI2 : InvU G2 H.length ps := hI.mono fun j hj hjL => by
            rw [hfr j hj, hG1, List.getElem?_append_left (by simpa using hj), List.getElem?_set_ne (Ne.symm hjL)]
          have hp0 : ¬ ps.length = 0 := by omega
          have e3 : ((ps.length : Int) == 0) = false := by simp; intro hh; simp [hh] at hp0
          have e4 : decide ((ps.length : Int) > 0) = true := decide_eq_true (by omega)
          have w3 : IntKind.i64.wrap ((ps.length : Int) - 1) = ps.length - 1 := wrapI (by omega)
          have w4 : IntKind.i64.wrap ((ps.length : Int) - 1 - kk) = ps.length - 1 - kk := wrapI (by omega)
          have hC : SCall Try.prog 58 [.ref H.length 0] G2 (fun r H' => r = .tuple [.int .i64 kk, .int .i64 (ps.length - 1 - kk)] ∧ H' = G2) := SCall.mono (uCountS G2 H.length most kk (ps.map Prod.fst) hS2 hm (by simp; omega) (by simp; omega) (by omega)) fun r H' h => ⟨by rw [h.1]; simp [hp0], h.2⟩
          (repeat (first | simp -dsimp only [zrUndo51, xnils, xnilm, xrange, xmakeMap, xslice3, st_opu, sz_opu, st1_opu, cl_opu, RB, TB, keep8, tab8, xindexAddr, xindex, xslice, xconvert, xlen, ewOp, FreeW, StabW, SameW, ChangeW, AddW, BaseW, limBytes, simprocAttr, ne_eq] | ((with_reducible refine Need.intro ?_ ?_); (first | trivial | exact ⟨_, rfl⟩ | exact ⟨[], (List.append_nil _).symm⟩ | omega | (simp; done) | (simp; omega) | exact ⟨by first | trivial | (simp; done), _, by first | rfl | (simp; rfl)⟩))))
          refine SCall.then hC ?_
          (repeat (first | simp -dsimp only [zrUndo51, xnils, xnilm, xrange, xmakeMap, xslice3, st_opu, sz_opu, st1_opu, cl_opu, e3, e4, w3, w4, RB, TB, keep8, tab8, xindexAddr, xindex, xslice, xconvert, xlen, ewOp, FreeW, StabW, SameW, ChangeW, AddW, BaseW, limBytes, simprocAttr, ne_eq] | ((with_reducible refine Need.intro ?_ ?_); (first | trivial | exact ⟨_, rfl⟩ | exact ⟨[], (List.append_nil _).symm⟩ | omega | (simp; done) | (simp; omega) | exact ⟨by first | trivial | (simp; done), _, by first | rfl | (simp; rfl)⟩))))
          rw [wrapI (by omega)]
          refine UpTo.here ⟨(i + 1, ps, kk, G2), ⟨hlt2, hG2h, hS2, hI2, h1, by omega, by omega, fun _ => by omega, by omega⟩, by simp only; omega, by simp [upd, eset], ⟨[], by simp⟩⟩
        · have e1 : (decide ((now + (-1)) ≥ 0) && decide ((now + (-1)) < ps.length)) = false := by
            rw [Bool.and_eq_false_iff]
            by_cases hx : (now + (-1)) ≥ 0
            · exact .inr (decide_eq_false (by omega))
            · exact .inl (decide_eq_false hx)
          have wA : IntKind.i64.wrap (now - 1) = (now + (-1)) := by rw [wrapI (by omega)]; try omega
          refine SCall.then (uUndoNo G H.length most now (ps.map Prod.fst) hS hm (by simp; omega) (by simpa using h2) h3 (by simpa using hyes)) ?_
          cases e5 : decide ((now + (-1)) ≥ 0)
          · (repeat (first | simp -dsimp only [zrUndo51, xnils, xnilm, xrange, xmakeMap, xslice3, st_opu, sz_opu, st1_opu, cl_opu, wA, e5, RB, TB, keep8, tab8, xindexAddr, xindex, xslice, xconvert, xlen, ewOp, FreeW, StabW, SameW, ChangeW, AddW, BaseW, limBytes, simprocAttr, ne_eq] | ((with_reducible refine Need.intro ?_ ?_); (first | trivial | exact ⟨_, rfl⟩ | exact ⟨[], (List.append_nil _).symm⟩ | omega | (simp; done) | (simp; omega) | exact ⟨by first | trivial | (simp; done), _, by first | rfl | (simp; rfl)⟩))))
            by_cases hp0 : ps.length = 0
            · have e3 : ((ps.length : Int) == 0) = true := by simp [hp0]
              have hC : SCall Try.prog 58 [.ref H.length 0] G (fun r H' => r = .tuple [.int .i64 0, .int .i64 0] ∧ H' = G) := SCall.mono (uCountS G H.length most now (ps.map Prod.fst) hS hm (by simp; omega) (by simpa using h2) h3) fun r H' h => ⟨by rw [h.1]; simp [hp0], h.2⟩
              refine SCall.then hC ?_
              (repeat (first | simp -dsimp only [zrUndo51, xnils, xnilm, xrange, xmakeMap, xslice3, st_opu, sz_opu, st1_opu, cl_opu, e3, hp0, RB, TB, keep8, tab8, xindexAddr, xindex, xslice, xconvert, xlen, ewOp, FreeW, StabW, SameW, ChangeW, AddW, BaseW, limBytes, simprocAttr, ne_eq] | ((with_reducible refine Need.intro ?_ ?_); (first | trivial | exact ⟨_, rfl⟩ | exact ⟨[], (List.append_nil _).symm⟩ | omega | (simp; done) | (simp; omega) | exact ⟨by first | trivial | (simp; done), _, by first | rfl | (simp; rfl)⟩))))
              rw [wrapI (by omega)]
              refine UpTo.here ⟨(i + 1, ps, now, G), ⟨hlt2, hG, hS, hI, h1, h2, h3, h4, h5⟩, by simp only; omega, by simp [upd, eset], ⟨[], by simp⟩⟩
            · have e3 : ((ps.length : Int) == 0) = false := by simp; intro hh; simp [hh] at hp0
              have e4 : decide ((ps.length : Int) > 0) = true := decide_eq_true (by omega)
              have w3 : IntKind.i64.wrap ((ps.length : Int) - 1) = ps.length - 1 := wrapI (by omega)
              have w4 : IntKind.i64.wrap ((ps.length : Int) - 1 - now) = ps.length - 1 - now := wrapI (by omega)
              have hC : SCall Try.prog 58 [.ref H.length 0] G (fun r H' => r = .tuple [.int .i64 now, .int .i64 (ps.length - 1 - now)] ∧ H' = G) := SCall.mono (uCountS G H.length most now (ps.map Prod.fst) hS hm (by simp; omega) (by simpa using h2) h3) fun r H' h => ⟨by rw [h.1]; simp [hp0], h.2⟩
              refine SCall.then hC ?_
              (repeat (first | simp -dsimp only [zrUndo51, xnils, xnilm, xrange, xmakeMap, xslice3, st_opu, sz_opu, st1_opu, cl_opu, e3, e4, w3, w4, RB, TB, keep8, tab8, xindexAddr, xindex, xslice, xconvert, xlen, ewOp, FreeW, StabW, SameW, ChangeW, AddW, BaseW, limBytes, simprocAttr, ne_eq] | ((with_reducible refine Need.intro ?_ ?_); (first | trivial | exact ⟨_, rfl⟩ | exact ⟨[], (List.append_nil _).symm⟩ | omega | (simp; done) | (simp; omega) | exact ⟨by first | trivial | (simp; done), _, by first | rfl | (simp; rfl)⟩))))
              rw [wrapI (by omega)]
              refine UpTo.here ⟨(i + 1, ps, now, G), ⟨hlt2, hG, hS, hI, h1, h2, h3, h4, h5⟩, by simp only; omega, by simp [upd, eset], ⟨[], by simp⟩⟩
          · rw [e5, Bool.true_and] at e1
            (repeat (first | simp -dsimp only [zrUndo51, xnils, xnilm, xrange, xmakeMap, xslice3, st_opu, sz_opu, st1_opu, cl_opu, wA, e5, e1, RB, TB, keep8, tab8, xindexAddr, xindex, xslice, xconvert, xlen, ewOp, FreeW, StabW, SameW, ChangeW, AddW, BaseW, limBytes, simprocAttr, ne_eq] | ((with_reducible refine Need.intro ?_ ?_); (first | trivial | exact ⟨_, rfl⟩ | exact ⟨[], (List.append_nil _).symm⟩ | omega | (simp; done) | (simp; omega) | exact ⟨by first | trivial | (simp; done), _, by first | rfl | (simp; rfl)⟩))))
            by_cases hp0 : ps.length = 0
            · have e3 : ((ps.length : Int) == 0) = true := by simp [hp0]
              have hC : SCall Try.prog 58 [.ref H.length 0] G (fun r H' => r = .tuple [.int .i64 0, .int .i64 0] ∧ H' = G) := SCall.mono (uCountS G H.length most now (ps.map Prod.fst) hS hm (by simp; omega) (by simpa using h2) h3) fun r H' h => ⟨by rw [h.1]; simp [hp0], h.2⟩
              refine SCall.then hC ?_
              (repeat (first | simp -dsimp only [zrUndo51, xnils, xnilm, xrange, xmakeMap, xslice3, st_opu, sz_opu, st1_opu, cl_opu, e3, hp0, RB, TB, keep8, tab8, xindexAddr, xindex, xslice, xconvert, xlen, ewOp, FreeW, StabW, SameW, ChangeW, AddW, BaseW, limBytes, simprocAttr, ne_eq] | ((with_reducible refine Need.intro ?_ ?_); (first | trivial | exact ⟨_, rfl⟩ | exact ⟨[], (List.append_nil _).symm⟩ | omega | (simp; done) | (simp; omega) | exact ⟨by first | trivial | (simp; done), _, by first | rfl | (simp; rfl)⟩))))
              rw [wrapI (by omega)]
              refine UpTo.here ⟨(i + 1, ps, now, G), ⟨hlt2, hG, hS, hI, h1, h2, h3, h4, h5⟩, by simp only; omega, by simp [upd, eset], ⟨[], by simp⟩⟩
            · have e3 : ((ps.length : Int) == 0) = false := by simp; intro hh; simp [hh] at hp0
              have e4 : decide ((ps.length : Int) > 0) = true := decide_eq_true (by omega)
              have w3 : IntKind.i64.wrap ((ps.length : Int) - 1) = ps.length - 1 := wrapI (by omega)
              have w4 : IntKind.i64.wrap ((ps.length : Int) - 1 - now) = ps.length - 1 - now := wrapI (by omega)
              have hC : SCall Try.prog 58 [.ref H.length 0] G (fun r H' => r = .tuple [.int .i64 now, .int .i64 (ps.length - 1 - now)] ∧ H' = G) := SCall.mono (uCountS G H.length most now (ps.map Prod.fst) hS hm (by simp; omega) (by simpa using h2) h3) fun r H' h => ⟨by rw [h.1]; simp [hp0], h.2⟩
              refine SCall.then hC ?_
              (repeat (first | simp -dsimp only [zrUndo51, xnils, xnilm, xrange, xmakeMap, xslice3, st_opu, sz_opu, st1_opu, cl_opu, e3, e4, w3, w4, RB, TB, keep8, tab8, xindexAddr, xindex, xslice, xconvert, xlen, ewOp, FreeW, StabW, SameW, ChangeW, AddW, BaseW, limBytes, simprocAttr, ne_eq] | ((with_reducible refine Need.intro ?_ ?_); (first | trivial | exact ⟨_, rfl⟩ | exact ⟨[], (List.append_nil _).symm⟩ | omega | (simp; done) | (simp; omega) | exact ⟨by first | trivial | (simp; done), _, by first | rfl | (simp; rfl)⟩))))
              rw [wrapI (by omega)]
              refine UpTo.here ⟨(i + 1, ps, now, G), ⟨hlt2, hG, hS, hI, h1, h2, h3, h4, h5⟩, by simp only; omega, by simp [upd, eset], ⟨[], by simp⟩⟩
      | 2, _ =>
        (repeat (first | simp -dsimp only [zrUndo51, xnils, xnilm, xrange, xmakeMap, xslice3, st_opu, sz_opu, st1_opu, cl_opu, RB, TB, keep8, tab8, xindexAddr, xindex, xslice, xconvert, xlen, ewOp, FreeW, StabW, SameW, ChangeW, AddW, BaseW, limBytes, simprocAttr, ne_eq] | ((with_reducible refine Need.intro ?_ ?_); (first | trivial | exact ⟨_, rfl⟩ | exact ⟨[], (List.append_nil _).symm⟩ | omega | (simp; done) | (simp; omega) | exact ⟨by first | trivial | (simp; done), _, by first | rfl | (simp; rfl)⟩))))
        by_cases hyes : 0 ≤ (now + 1) ∧ (now + 1) < ps.length
        · obtain ⟨kk, hkk⟩ : ∃ kk : Nat, (kk : Int) = (now + 1) := ⟨((now + 1)).toNat, by omega⟩
          have hkl : kk < ps.length := by omega
          obtain ⟨m, a, ha, hof, hd1, hd2⟩ := hI ps[kk] (List.getElem_mem hkl)
          have e1 : decide ((kk : Int) ≥ 0) = true := decide_eq_true (by omega)
          have e2 : decide ((kk : Int) < ps.length) = true := decide_eq_true (by omega)
          have wA : IntKind.i64.wrap (now + 1) = kk := by rw [wrapI (by omega)]; omega
          have hatk : ((ps.map Prod.snd).map V.str).getD kk .dead = .str ps[kk].2 := by rw [List.getD_eq_getElem?_getD, List.getElem?_map, List.getElem?_map, List.getElem?_eq_getElem hkl]; rfl
          refine SCall.mono (uRedoS G H.length most now (ps.map Prod.fst) hS hm (by simp; omega) (by simpa using h2) h3 kk (by omega) (by simpa using hkl) m a (by simpa using ha) hof.ok (by simpa using hd1) hd2).goodA ?_
          rintro _ G1 ⟨⟨rfl, hG1⟩, hG1h⟩
          have hG1l : G1.length = G.length + 2 := by rw [hG1]; simp
          have hatc : arenaAt G1 (G.length + 1) G.length (ownAr a) := ⟨by rw [hG1, hgetS]; rfl, by rw [hG1, hget0S]; rfl, ha.2.2.1, ha.2.2.2⟩
          (repeat (first | simp -dsimp only [zrUndo51, xnils, xnilm, xrange, xmakeMap, xslice3, st_opu, sz_opu, st1_opu, cl_opu, wA, e1, e2, hatk, RB, TB, keep8, tab8, xindexAddr, xindex, xslice, xconvert, xlen, ewOp, FreeW, StabW, SameW, ChangeW, AddW, BaseW, limBytes, simprocAttr, ne_eq] | ((with_reducible refine Need.intro ?_ ?_); (first | trivial | exact ⟨_, rfl⟩ | exact ⟨[], (List.append_nil _).symm⟩ | omega | (simp; done) | (simp; omega) | exact ⟨by first | trivial | (simp; done), _, by first | rfl | (simp; rfl)⟩))))
          refine SCall.then (uShows G1 (G.length + 1) G.length (ownAr a) hatc ps[kk].2 hof.own) ?_
          (repeat (first | simp -dsimp only [zrUndo51, xnils, xnilm, xrange, xmakeMap, xslice3, st_opu, sz_opu, st1_opu, cl_opu, RB, TB, keep8, tab8, xindexAddr, xindex, xslice, xconvert, xlen, ewOp, FreeW, StabW, SameW, ChangeW, AddW, BaseW, limBytes, simprocAttr, ne_eq] | ((with_reducible refine Need.intro ?_ ?_); (first | trivial | exact ⟨_, rfl⟩ | exact ⟨[], (List.append_nil _).symm⟩ | omega | (simp; done) | (simp; omega) | exact ⟨by first | trivial | (simp; done), _, by first | rfl | (simp; rfl)⟩))))
          refine SCall.mono (uFree G1 (G.length + 1) G.length (ownAr a) hatc _ hof.own (by omega)).goodA ?_
          rintro _ G2 ⟨⟨rfl, X, Y, L, hG2⟩, hG2h⟩
          have hG2l : G1.length ≤ G2.length := by rw [hG2]; simp
          have hfr : ∀ j, j < G.length → G2[j]? = G1[j]? := fun j hj => by
            rw [hG2, List.getElem?_append_left (by simp; omega), List.getElem?_set_ne (by omega), List.getElem?_set_ne (by omega)]
          have hS2 : logS G2 H.length most kk (ps.map Prod.fst) := by
            show G2[H.length]? = _
            rw [hfr _ h5, hG1, List.getElem?_append_left (by simpa using h5), List.getElem?_set_self h5]
          have hI2 : InvU G2 H.length ps := hI.mono fun j hj hjL => by
            rw [hfr j hj, hG1, List.getElem?_append_left (by simpa using hj), List.getElem?_set_ne (Ne.symm hjL)]
          have hp0 : ¬ ps.length = 0 := by omega
          have e3 : ((ps.length : Int) == 0) = false := by simp; intro hh; simp [hh] at hp0
          have e4 : decide ((ps.length : Int) > 0) = true := decide_eq_true (by omega)
          have w3 : IntKind.i64.wrap ((ps.length : Int) - 1) = ps.length - 1 := wrapI (by omega)
          have w4 : IntKind.i64.wrap ((ps.length : Int) - 1 - kk) = ps.length - 1 - kk := wrapI (by omega)
          have hC : SCall Try.prog 58 [.ref H.length 0] G2 (fun r H' => r = .tuple [.int .i64 kk, .int .i64 (ps.length - 1 - kk)] ∧ H' = G2) := SCall.mono (uCountS G2 H.length most kk (ps.map Prod.fst) hS2 hm (by simp; omega) (by simp; omega) (by omega)) fun r H' h => ⟨by rw [h.1]; simp [hp0], h.2⟩
          (repeat (first | simp -dsimp only [zrUndo51, xnils, xnilm, xrange, xmakeMap, xslice3, st_opu, sz_opu, st1_opu, cl_opu, RB, TB, keep8, tab8, xindexAddr, xindex, xslice, xconvert, xlen, ewOp, FreeW, StabW, SameW, ChangeW, AddW, BaseW, limBytes, simprocAttr, ne_eq] | ((with_reducible refine Need.intro ?_ ?_); (first | trivial | exact ⟨_, rfl⟩ | exact ⟨[], (List.append_nil _).symm⟩ | omega | (simp; done) | (simp; omega) | exact ⟨by first | trivial | (simp; done), _, by first | rfl | (simp; rfl)⟩))))
          refine SCall.then hC ?_
          (repeat (first | simp -dsimp only [zrUndo51, xnils, xnilm, xrange, xmakeMap, xslice3, st_opu, sz_opu, st1_opu, cl_opu, e3, e4, w3, w4, RB, TB, keep8, tab8, xindexAddr, xindex, xslice, xconvert, xlen, ewOp, FreeW, StabW, SameW, ChangeW, AddW, BaseW, limBytes, simprocAttr, ne_eq] | ((with_reducible refine Need.intro ?_ ?_); (first | trivial | exact ⟨_, rfl⟩ | exact ⟨[], (List.append_nil _).symm⟩ | omega | (simp; done) | (simp; omega) | exact ⟨by first | trivial | (simp; done), _, by first | rfl | (simp; rfl)⟩))))
          rw [wrapI (by omega)]
          refine UpTo.here ⟨(i + 1, ps, kk, G2), ⟨hlt2, hG2h, hS2, hI2, h1, by omega, by omega, fun _ => by omega, by omega⟩, by simp only; omega, by simp [upd, eset], ⟨[], by simp⟩⟩
        · have e1 : (decide ((now + 1) ≥ 0) && decide ((now + 1) < ps.length)) = false := by
            rw [Bool.and_eq_false_iff]
            by_cases hx : (now + 1) ≥ 0
            · exact .inr (decide_eq_false (by omega))
            · exact .inl (decide_eq_false hx)
          have wA : IntKind.i64.wrap (now + 1) = (now + 1) := by rw [wrapI (by omega)]; try omega
          refine SCall.then (uRedoNo G H.length most now (ps.map Prod.fst) hS hm (by simp; omega) (by simpa using h2) h3 (by simpa using hyes)) ?_
          cases e5 : decide ((now + 1) ≥ 0)
          · (repeat (first | simp -dsimp only [zrUndo51, xnils, xnilm, xrange, xmakeMap, xslice3, st_opu, sz_opu, st1_opu, cl_opu, wA, e5, RB, TB, keep8, tab8, xindexAddr, xindex, xslice, xconvert, xlen, ewOp, FreeW, StabW, SameW, ChangeW, AddW, BaseW, limBytes, simprocAttr, ne_eq] | ((with_reducible refine Need.intro ?_ ?_); (first | trivial | exact ⟨_, rfl⟩ | exact ⟨[], (List.append_nil _).symm⟩ | omega | (simp; done) | (simp; omega) | exact ⟨by first | trivial | (simp; done), _, by first | rfl | (simp; rfl)⟩))))
            by_cases hp0 : ps.length = 0
            · have e3 : ((ps.length : Int) == 0) = true := by simp [hp0]
              have hC : SCall Try.prog 58 [.ref H.length 0] G (fun r H' => r = .tuple [.int .i64 0, .int .i64 0] ∧ H' = G) := SCall.mono (uCountS G H.length most now (ps.map Prod.fst) hS hm (by simp; omega) (by simpa using h2) h3) fun r H' h => ⟨by rw [h.1]; simp [hp0], h.2⟩
              refine SCall.then hC ?_
              (repeat (first | simp -dsimp only [zrUndo51, xnils, xnilm, xrange, xmakeMap, xslice3, st_opu, sz_opu, st1_opu, cl_opu, e3, hp0, RB, TB, keep8, tab8, xindexAddr, xindex, xslice, xconvert, xlen, ewOp, FreeW, StabW, SameW, ChangeW, AddW, BaseW, limBytes, simprocAttr, ne_eq] | ((with_reducible refine Need.intro ?_ ?_); (first | trivial | exact ⟨_, rfl⟩ | exact ⟨[], (List.append_nil _).symm⟩ | omega | (simp; done) | (simp; omega) | exact ⟨by first | trivial | (simp; done), _, by first | rfl | (simp; rfl)⟩))))
              rw [wrapI (by omega)]
              refine UpTo.here ⟨(i + 1, ps, now, G), ⟨hlt2, hG, hS, hI, h1, h2, h3, h4, h5⟩, by simp only; omega, by simp [upd, eset], ⟨[], by simp⟩⟩
            · have e3 : ((ps.length : Int) == 0) = false := by simp; intro hh; simp [hh] at hp0
              have e4 : decide ((ps.length : Int) > 0) = true := decide_eq_true (by omega)
              have w3 : IntKind.i64.wrap ((ps.length : Int) - 1) = ps.length - 1 := wrapI (by omega)
              have w4 : IntKind.i64.wrap ((ps.length : Int) - 1 - now) = ps.length - 1 - now := wrapI (by omega)
              have hC : SCall Try.prog 58 [.ref H.length 0] G (fun r H' => r = .tuple [.int .i64 now, .int .i64 (ps.length - 1 - now)] ∧ H' = G) := SCall.mono (uCountS G H.length most now (ps.map Prod.fst) hS hm (by simp; omega) (by simpa using h2) h3) fun r H' h => ⟨by rw [h.1]; simp [hp0], h.2⟩
              refine SCall.then hC ?_
              (repeat (first | simp -dsimp only [zrUndo51, xnils, xnilm, xrange, xmakeMap, xslice3, st_opu, sz_opu, st1_opu, cl_opu, e3, e4, w3, w4, RB, TB, keep8, tab8, xindexAddr, xindex, xslice, xconvert, xlen, ewOp, FreeW, StabW, SameW, ChangeW, AddW, BaseW, limBytes, simprocAttr, ne_eq] | ((with_reducible refine Need.intro ?_ ?_); (first | trivial | exact ⟨_, rfl⟩ | exact ⟨[], (List.append_nil _).symm⟩ | omega | (simp; done) | (simp; omega) | exact ⟨by first | trivial | (simp; done), _, by first | rfl | (simp; rfl)⟩))))
              rw [wrapI (by omega)]
              refine UpTo.here ⟨(i + 1, ps, now, G), ⟨hlt2, hG, hS, hI, h1, h2, h3, h4, h5⟩, by simp only; omega, by simp [upd, eset], ⟨[], by simp⟩⟩
          · rw [e5, Bool.true_and] at e1
            (repeat (first | simp -dsimp only [zrUndo51, xnils, xnilm, xrange, xmakeMap, xslice3, st_opu, sz_opu, st1_opu, cl_opu, wA, e5, e1, RB, TB, keep8, tab8, xindexAddr, xindex, xslice, xconvert, xlen, ewOp, FreeW, StabW, SameW, ChangeW, AddW, BaseW, limBytes, simprocAttr, ne_eq] | ((with_reducible refine Need.intro ?_ ?_); (first | trivial | exact ⟨_, rfl⟩ | exact ⟨[], (List.append_nil _).symm⟩ | omega | (simp; done) | (simp; omega) | exact ⟨by first | trivial | (simp; done), _, by first | rfl | (simp; rfl)⟩))))
            by_cases hp0 : ps.length = 0
            · have e3 : ((ps.length : Int) == 0) = true := by simp [hp0]
              have hC : SCall Try.prog 58 [.ref H.length 0] G (fun r H' => r = .tuple [.int .i64 0, .int .i64 0] ∧ H' = G) := SCall.mono (uCountS G H.length most now (ps.map Prod.fst) hS hm (by simp; omega) (by simpa using h2) h3) fun r H' h => ⟨by rw [h.1]; simp [hp0], h.2⟩
              refine SCall.then hC ?_
              (repeat (first | simp -dsimp only [zrUndo51, xnils, xnilm, xrange, xmakeMap, xslice3, st_opu, sz_opu, st1_opu, cl_opu, e3, hp0, RB, TB, keep8, tab8, xindexAddr, xindex, xslice, xconvert, xlen, ewOp, FreeW, StabW, SameW, ChangeW, AddW, BaseW, limBytes, simprocAttr, ne_eq] | ((with_reducible refine Need.intro ?_ ?_); (first | trivial | exact ⟨_, rfl⟩ | exact ⟨[], (List.append_nil _).symm⟩ | omega | (simp; done) | (simp; omega) | exact ⟨by first | trivial | (simp; done), _, by first | rfl | (simp; rfl)⟩))))
              rw [wrapI (by omega)]
              refine UpTo.here ⟨(i + 1, ps, now, G), ⟨hlt2, hG, hS, hI, h1, h2, h3, h4, h5⟩, by simp only; omega, by simp [upd, eset], ⟨[], by simp⟩⟩
            · have e3 : ((ps.length : Int) == 0) = false := by simp; intro hh; simp [hh] at hp0
              have e4 : decide ((ps.length : Int) > 0) = true := decide_eq_true (by omega)
              have w3 : IntKind.i64.wrap ((ps.length : Int) - 1) = ps.length - 1 := wrapI (by omega)
              have w4 : IntKind.i64.wrap ((ps.length : Int) - 1 - now) = ps.length - 1 - now := wrapI (by omega)
              have hC : SCall Try.prog 58 [.ref H.length 0] G (fun r H' => r = .tuple [.int .i64 now, .int .i64 (ps.length - 1 - now)] ∧ H' = G) := SCall.mono (uCountS G H.length most now (ps.map Prod.fst) hS hm (by simp; omega) (by simpa using h2) h3) fun r H' h => ⟨by rw [h.1]; simp [hp0], h.2⟩
              refine SCall.then hC ?_
              (repeat (first | simp -dsimp only [zrUndo51, xnils, xnilm, xrange, xmakeMap, xslice3, st_opu, sz_opu, st1_opu, cl_opu, e3, e4, w3, w4, RB, TB, keep8, tab8, xindexAddr, xindex, xslice, xconvert, xlen, ewOp, FreeW, StabW, SameW, ChangeW, AddW, BaseW, limBytes, simprocAttr, ne_eq] | ((with_reducible refine Need.intro ?_ ?_); (first | trivial | exact ⟨_, rfl⟩ | exact ⟨[], (List.append_nil _).symm⟩ | omega | (simp; done) | (simp; omega) | exact ⟨by first | trivial | (simp; done), _, by first | rfl | (simp; rfl)⟩))))
              rw [wrapI (by omega)]
              refine UpTo.here ⟨(i + 1, ps, now, G), ⟨hlt2, hG, hS, hI, h1, h2, h3, h4, h5⟩, by simp only; omega, by simp [upd, eset], ⟨[], by simp⟩⟩
      | 3, _ =>
        (repeat (first | simp -dsimp only [zrUndo51, xnils, xnilm, xrange, xmakeMap, xslice3, st_opu, sz_opu, st1_opu, cl_opu, RB, TB, keep8, tab8, xindexAddr, xindex, xslice, xconvert, xlen, ewOp, FreeW, StabW, SameW, ChangeW, AddW, BaseW, limBytes, simprocAttr, ne_eq] | ((with_reducible refine Need.intro ?_ ?_); (first | trivial | exact ⟨_, rfl⟩ | exact ⟨[], (List.append_nil _).symm⟩ | omega | (simp; done) | (simp; omega) | exact ⟨by first | trivial | (simp; done), _, by first | rfl | (simp; rfl)⟩))))
        by_cases hyes : 0 ≤ now ∧ now < ps.length
        · obtain ⟨kk, hkk⟩ : ∃ kk : Nat, (kk : Int) = now := ⟨(now).toNat, by omega⟩
          have hkl : kk < ps.length := by omega
          obtain ⟨m, a, ha, hof, hd1, hd2⟩ := hI ps[kk] (List.getElem_mem hkl)
          have e1 : decide ((kk : Int) ≥ 0) = true := decide_eq_true (by omega)
          have e2 : decide ((kk : Int) < ps.length) = true := decide_eq_true (by omega)
          subst hkk
          have hatk : ((ps.map Prod.snd).map V.str).getD kk .dead = .str ps[kk].2 := by rw [List.getD_eq_getElem?_getD, List.getElem?_map, List.getElem?_map, List.getElem?_eq_getElem hkl]; rfl
          refine SCall.mono (uNowS G H.length most kk (ps.map Prod.fst) hS hm (by simp; omega) (by simpa using h2) h3 kk (by omega) (by simpa using hkl) m a (by simpa using ha) hof.ok (by simpa using hd1) hd2).goodA ?_
          rintro _ G1 ⟨⟨rfl, hG1⟩, hG1h⟩
          have hG1l : G1.length = G.length + 2 := by rw [hG1]; simp
          have hatc : arenaAt G1 (G.length + 1) G.length (ownAr a) := ⟨by rw [hG1, hgetS]; rfl, by rw [hG1, hget0S]; rfl, ha.2.2.1, ha.2.2.2⟩
          (repeat (first | simp -dsimp only [zrUndo51, xnils, xnilm, xrange, xmakeMap, xslice3, st_opu, sz_opu, st1_opu, cl_opu, e1, e2, hatk, RB, TB, keep8, tab8, xindexAddr, xindex, xslice, xconvert, xlen, ewOp, FreeW, StabW, SameW, ChangeW, AddW, BaseW, limBytes, simprocAttr, ne_eq] | ((with_reducible refine Need.intro ?_ ?_); (first | trivial | exact ⟨_, rfl⟩ | exact ⟨[], (List.append_nil _).symm⟩ | omega | (simp; done) | (simp; omega) | exact ⟨by first | trivial | (simp; done), _, by first | rfl | (simp; rfl)⟩))))
          refine SCall.then (uShows G1 (G.length + 1) G.length (ownAr a) hatc ps[kk].2 hof.own) ?_
          (repeat (first | simp -dsimp only [zrUndo51, xnils, xnilm, xrange, xmakeMap, xslice3, st_opu, sz_opu, st1_opu, cl_opu, RB, TB, keep8, tab8, xindexAddr, xindex, xslice, xconvert, xlen, ewOp, FreeW, StabW, SameW, ChangeW, AddW, BaseW, limBytes, simprocAttr, ne_eq] | ((with_reducible refine Need.intro ?_ ?_); (first | trivial | exact ⟨_, rfl⟩ | exact ⟨[], (List.append_nil _).symm⟩ | omega | (simp; done) | (simp; omega) | exact ⟨by first | trivial | (simp; done), _, by first | rfl | (simp; rfl)⟩))))
          refine SCall.mono (uFree G1 (G.length + 1) G.length (ownAr a) hatc _ hof.own (by omega)).goodA ?_
          rintro _ G2 ⟨⟨rfl, X, Y, L, hG2⟩, hG2h⟩
          have hG2l : G1.length ≤ G2.length := by rw [hG2]; simp
          have hfr : ∀ j, j < G.length → G2[j]? = G1[j]? := fun j hj => by
            rw [hG2, List.getElem?_append_left (by simp; omega), List.getElem?_set_ne (by omega), List.getElem?_set_ne (by omega)]
          have hS2 : logS G2 H.length most kk (ps.map Prod.fst) := by
            show G2[H.length]? = _
            rw [hfr _ h5, hG1, List.getElem?_append_left (by simpa using h5), List.getElem?_set_self h5]
          have hI2 : InvU G2 H.length ps := hI.mono fun j hj hjL => by
            rw [hfr j hj, hG1, List.getElem?_append_left (by simpa using hj), List.getElem?_set_ne (Ne.symm hjL)]
          have hp0 : ¬ ps.length = 0 := by omega
          have e3 : ((ps.length : Int) == 0) = false := by simp; intro hh; simp [hh] at hp0
          have e4 : decide ((ps.length : Int) > 0) = true := decide_eq_true (by omega)
          have w3 : IntKind.i64.wrap ((ps.length : Int) - 1) = ps.length - 1 := wrapI (by omega)
          have w4 : IntKind.i64.wrap ((ps.length : Int) - 1 - kk) = ps.length - 1 - kk := wrapI (by omega)
          have hC : SCall Try.prog 58 [.ref H.length 0] G2 (fun r H' => r = .tuple [.int .i64 kk, .int .i64 (ps.length - 1 - kk)] ∧ H' = G2) := SCall.mono (uCountS G2 H.length most kk (ps.map Prod.fst) hS2 hm (by simp; omega) (by simp; omega) (by omega)) fun r H' h => ⟨by rw [h.1]; simp [hp0], h.2⟩
          (repeat (first | simp -dsimp only [zrUndo51, xnils, xnilm, xrange, xmakeMap, xslice3, st_opu, sz_opu, st1_opu, cl_opu, RB, TB, keep8, tab8, xindexAddr, xindex, xslice, xconvert, xlen, ewOp, FreeW, StabW, SameW, ChangeW, AddW, BaseW, limBytes, simprocAttr, ne_eq] | ((with_reducible refine Need.intro ?_ ?_); (first | trivial | exact ⟨_, rfl⟩ | exact ⟨[], (List.append_nil _).symm⟩ | omega | (simp; done) | (simp; omega) | exact ⟨by first | trivial | (simp; done), _, by first | rfl | (simp; rfl)⟩))))
          refine SCall.then hC ?_
          (repeat (first | simp -dsimp only [zrUndo51, xnils, xnilm, xrange, xmakeMap, xslice3, st_opu, sz_opu, st1_opu, cl_opu, e3, e4, w3, w4, RB, TB, keep8, tab8, xindexAddr, xindex, xslice, xconvert, xlen, ewOp, FreeW, StabW, SameW, ChangeW, AddW, BaseW, limBytes, simprocAttr, ne_eq] | ((with_reducible refine Need.intro ?_ ?_); (first | trivial | exact ⟨_, rfl⟩ | exact ⟨[], (List.append_nil _).symm⟩ | omega | (simp; done) | (simp; omega) | exact ⟨by first | trivial | (simp; done), _, by first | rfl | (simp; rfl)⟩))))
          rw [wrapI (by omega)]
          refine UpTo.here ⟨(i + 1, ps, kk, G2), ⟨hlt2, hG2h, hS2, hI2, h1, by omega, by omega, fun _ => by omega, by omega⟩, by simp only; omega, by simp [upd, eset], ⟨[], by simp⟩⟩
        · have e1 : (decide (now ≥ 0) && decide (now < ps.length)) = false := by
            rw [Bool.and_eq_false_iff]
            by_cases hx : now ≥ 0
            · exact .inr (decide_eq_false (by omega))
            · exact .inl (decide_eq_false hx)
          refine SCall.then (uNowNo G H.length most now (ps.map Prod.fst) hS hm (by simp; omega) (by simpa using h2) h3 (by simpa using hyes)) ?_
          cases e5 : decide (now ≥ 0)
          · (repeat (first | simp -dsimp only [zrUndo51, xnils, xnilm, xrange, xmakeMap, xslice3, st_opu, sz_opu, st1_opu, cl_opu, e5, RB, TB, keep8, tab8, xindexAddr, xindex, xslice, xconvert, xlen, ewOp, FreeW, StabW, SameW, ChangeW, AddW, BaseW, limBytes, simprocAttr, ne_eq] | ((with_reducible refine Need.intro ?_ ?_); (first | trivial | exact ⟨_, rfl⟩ | exact ⟨[], (List.append_nil _).symm⟩ | omega | (simp; done) | (simp; omega) | exact ⟨by first | trivial | (simp; done), _, by first | rfl | (simp; rfl)⟩))))
            by_cases hp0 : ps.length = 0
            · have e3 : ((ps.length : Int) == 0) = true := by simp [hp0]
              have hC : SCall Try.prog 58 [.ref H.length 0] G (fun r H' => r = .tuple [.int .i64 0, .int .i64 0] ∧ H' = G) := SCall.mono (uCountS G H.length most now (ps.map Prod.fst) hS hm (by simp; omega) (by simpa using h2) h3) fun r H' h => ⟨by rw [h.1]; simp [hp0], h.2⟩
              refine SCall.then hC ?_
              (repeat (first | simp -dsimp only [zrUndo51, xnils, xnilm, xrange, xmakeMap, xslice3, st_opu, sz_opu, st1_opu, cl_opu, e3, hp0, RB, TB, keep8, tab8, xindexAddr, xindex, xslice, xconvert, xlen, ewOp, FreeW, StabW, SameW, ChangeW, AddW, BaseW, limBytes, simprocAttr, ne_eq] | ((with_reducible refine Need.intro ?_ ?_); (first | trivial | exact ⟨_, rfl⟩ | exact ⟨[], (List.append_nil _).symm⟩ | omega | (simp; done) | (simp; omega) | exact ⟨by first | trivial | (simp; done), _, by first | rfl | (simp; rfl)⟩))))
              rw [wrapI (by omega)]
              refine UpTo.here ⟨(i + 1, ps, now, G), ⟨hlt2, hG, hS, hI, h1, h2, h3, h4, h5⟩, by simp only; omega, by simp [upd, eset], ⟨[], by simp⟩⟩
            · have e3 : ((ps.length : Int) == 0) = false := by simp; intro hh; simp [hh] at hp0
              have e4 : decide ((ps.length : Int) > 0) = true := decide_eq_true (by omega)
              have w3 : IntKind.i64.wrap ((ps.length : Int) - 1) = ps.length - 1 := wrapI (by omega)
              have w4 : IntKind.i64.wrap ((ps.length : Int) - 1 - now) = ps.length - 1 - now := wrapI (by omega)
              have hC : SCall Try.prog 58 [.ref H.length 0] G (fun r H' => r = .tuple [.int .i64 now, .int .i64 (ps.length - 1 - now)] ∧ H' = G) := SCall.mono (uCountS G H.length most now (ps.map Prod.fst) hS hm (by simp; omega) (by simpa using h2) h3) fun r H' h => ⟨by rw [h.1]; simp [hp0], h.2⟩
              refine SCall.then hC ?_
              (repeat (first | simp -dsimp only [zrUndo51, xnils, xnilm, xrange, xmakeMap, xslice3, st_opu, sz_opu, st1_opu, cl_opu, e3, e4, w3, w4, RB, TB, keep8, tab8, xindexAddr, xindex, xslice, xconvert, xlen, ewOp, FreeW, StabW, SameW, ChangeW, AddW, BaseW, limBytes, simprocAttr, ne_eq] | ((with_reducible refine Need.intro ?_ ?_); (first | trivial | exact ⟨_, rfl⟩ | exact ⟨[], (List.append_nil _).symm⟩ | omega | (simp; done) | (simp; omega) | exact ⟨by first | trivial | (simp; done), _, by first | rfl | (simp; rfl)⟩))))
              rw [wrapI (by omega)]
              refine UpTo.here ⟨(i + 1, ps, now, G), ⟨hlt2, hG, hS, hI, h1, h2, h3, h4, h5⟩, by simp only; omega, by simp [upd, eset], ⟨[], by simp⟩⟩
          · rw [e5, Bool.true_and] at e1
            (repeat (first | simp -dsimp only [zrUndo51, xnils, xnilm, xrange, xmakeMap, xslice3, st_opu, sz_opu, st1_opu, cl_opu, e5, e1, RB, TB, keep8, tab8, xindexAddr, xindex, xslice, xconvert, xlen, ewOp, FreeW, StabW, SameW, ChangeW, AddW, BaseW, limBytes, simprocAttr, ne_eq] | ((with_reducible refine Need.intro ?_ ?_); (first | trivial | exact ⟨_, rfl⟩ | exact ⟨[], (List.append_nil _).symm⟩ | omega | (simp; done) | (simp; omega) | exact ⟨by first | trivial | (simp; done), _, by first | rfl | (simp; rfl)⟩))))
            by_cases hp0 : ps.length = 0
            · have e3 : ((ps.length : Int) == 0) = true := by simp [hp0]
              have hC : SCall Try.prog 58 [.ref H.length 0] G (fun r H' => r = .tuple [.int .i64 0, .int .i64 0] ∧ H' = G) := SCall.mono (uCountS G H.length most now (ps.map Prod.fst) hS hm (by simp; omega) (by simpa using h2) h3) fun r H' h => ⟨by rw [h.1]; simp [hp0], h.2⟩
              refine SCall.then hC ?_
              (repeat (first | simp -dsimp only [zrUndo51, xnils, xnilm, xrange, xmakeMap, xslice3, st_opu, sz_opu, st1_opu, cl_opu, e3, hp0, RB, TB, keep8, tab8, xindexAddr, xindex, xslice, xconvert, xlen, ewOp, FreeW, StabW, SameW, ChangeW, AddW, BaseW, limBytes, simprocAttr, ne_eq] | ((with_reducible refine Need.intro ?_ ?_); (first | trivial | exact ⟨_, rfl⟩ | exact ⟨[], (List.append_nil _).symm⟩ | omega | (simp; done) | (simp; omega) | exact ⟨by first | trivial | (simp; done), _, by first | rfl | (simp; rfl)⟩))))
              rw [wrapI (by omega)]
              refine UpTo.here ⟨(i + 1, ps, now, G), ⟨hlt2, hG, hS, hI, h1, h2, h3, h4, h5⟩, by simp only; omega, by simp [upd, eset], ⟨[], by simp⟩⟩
            · have e3 : ((ps.length : Int) == 0) = false := by simp; intro hh; simp [hh] at hp0
              have e4 : decide ((ps.length : Int) > 0) = true := decide_eq_true (by omega)
              have w3 : IntKind.i64.wrap ((ps.length : Int) - 1) = ps.length - 1 := wrapI (by omega)
              have w4 : IntKind.i64.wrap ((ps.length : Int) - 1 - now) = ps.length - 1 - now := wrapI (by omega)
              have hC : SCall Try.prog 58 [.ref H.length 0] G (fun r H' => r = .tuple [.int .i64 now, .int .i64 (ps.length - 1 - now)] ∧ H' = G) := SCall.mono (uCountS G H.length most now (ps.map Prod.fst) hS hm (by simp; omega) (by simpa using h2) h3) fun r H' h => ⟨by rw [h.1]; simp [hp0], h.2⟩
              refine SCall.then hC ?_
              (repeat (first | simp -dsimp only [zrUndo51, xnils, xnilm, xrange, xmakeMap, xslice3, st_opu, sz_opu, st1_opu, cl_opu, e3, e4, w3, w4, RB, TB, keep8, tab8, xindexAddr, xindex, xslice, xconvert, xlen, ewOp, FreeW, StabW, SameW, ChangeW, AddW, BaseW, limBytes, simprocAttr, ne_eq] | ((with_reducible refine Need.intro ?_ ?_); (first | trivial | exact ⟨_, rfl⟩ | exact ⟨[], (List.append_nil _).symm⟩ | omega | (simp; done) | (simp; omega) | exact ⟨by first | trivial | (simp; done), _, by first | rfl | (simp; rfl)⟩))))
              rw [wrapI (by omega)]
              refine UpTo.here ⟨(i + 1, ps, now, G), ⟨hlt2, hG, hS, hI, h1, h2, h3, h4, h5⟩, by simp only; omega, by simp [upd, eset], ⟨[], by simp⟩⟩
    · (repeat (first | simp -dsimp only [zrUndo51, xnils, xnilm, xrange, xmakeMap, xslice3, st_opu, sz_opu, st1_opu, cl_opu, h40, RB, TB, keep8, tab8, xindexAddr, xindex, xslice, xconvert, xlen, ewOp, FreeW, StabW, SameW, ChangeW, AddW, BaseW, limBytes, simprocAttr, ne_eq] | ((with_reducible refine Need.intro ?_ ?_); (first | trivial | exact ⟨_, rfl⟩ | exact ⟨[], (List.append_nil _).symm⟩ | omega | (simp; done) | (simp; omega) | exact ⟨by first | trivial | (simp; done), _, by first | rfl | (simp; rfl)⟩))))
      exact RetW.keep false (Nat.le_of_lt h5) hG (by simp [okW, okW1, okW0, V.lt]) (by simp [wk, wk1, wk0])
  · (repeat (first | simp -dsimp only [zrUndo51, xnils, xnilm, xrange, xmakeMap, xslice3, st_opu, sz_opu, st1_opu, cl_opu, h, RB, TB, keep8, tab8, xindexAddr, xindex, xslice, xconvert, xlen, ewOp, FreeW, StabW, SameW, ChangeW, AddW, BaseW, limBytes, simprocAttr, ne_eq] | ((with_reducible refine Need.intro ?_ ?_); (first | trivial | exact ⟨_, rfl⟩ | exact ⟨[], (List.append_nil _).symm⟩ | omega | (simp; done) | (simp; omega) | exact ⟨by first | trivial | (simp; done), _, by first | rfl | (simp; rfl)⟩))))
    exact RetW.keep false (Nat.le_of_lt h5) hG (by simp [okW, okW1, okW0, V.lt]) (by simp [wk, wk1, wk0])
end Go.Proofs.Ytjplgbalpnlanaa

/- The walk of arena's Clone. -/
import Derived.Test.YtjplgbalpnlanaaArena1
set_option maxHeartbeats 600000
set_option linter.unusedSimpArgs false
set_option linter.unusedVariables false
set_option maxRecDepth 100000
namespace Go.Proofs.Ytjplgbalpnlanaa
open Go Go.EL
theorem zrArena21 : type_of% (And.intro (And.intro (And.intro (And.intro (@st_run) (And.intro (@sz_run) (@st1_run))) (And.intro (@cl_run) (And.intro (@st_Str) (@sz_Str)))) (And.intro (And.intro (@st1_Str) (And.intro (@cl_Str) (@st_c))) (And.intro (@sz_c) (And.intro (@st1_c) (@cl_c))))) (And.intro (And.intro (And.intro (@st_attr) (And.intro (@sz_attr) (@st1_attr))) (And.intro (@cl_attr) (And.intro (@st_hook) (@sz_hook)))) (And.intro (And.intro (@st1_hook) (And.intro (@cl_hook) (@st_node))) (And.intro (@sz_node) (And.intro (@st1_node) (@cl_node)))))) := And.intro (And.intro (And.intro (And.intro (@st_run) (And.intro (@sz_run) (@st1_run))) (And.intro (@cl_run) (And.intro (@st_Str) (@sz_Str)))) (And.intro (And.intro (@st1_Str) (And.intro (@cl_Str) (@st_c))) (And.intro (@sz_c) (And.intro (@st1_c) (@cl_c))))) (And.intro (And.intro (And.intro (@st_attr) (And.intro (@sz_attr) (@st1_attr))) (And.intro (@cl_attr) (And.intro (@st_hook) (@sz_hook)))) (And.intro (And.intro (@st1_hook) (And.intro (@cl_hook) (@st_node))) (And.intro (@sz_node) (And.intro (@st1_node) (@cl_node)))))
theorem zlArena21 : type_of% (And.intro (And.intro (And.intro (And.intro (@lt_vi) (@lt_str)) (And.intro (@lt_vb) (And.intro (@ltc_str) (@ltc_vi)))) (And.intro (And.intro (@lt_run) (And.intro (@lt1_run) (@ltc_run))) (And.intro (@lt_Str) (And.intro (@lt1_Str) (@ltc_Str))))) (And.intro (And.intro (And.intro (@lt_c) (And.intro (@lt1_c) (@ltc_c))) (And.intro (@lt_attr) (And.intro (@lt1_attr) (@ltc_attr)))) (And.intro (And.intro (@lt_hook) (And.intro (@lt1_hook) (@ltc_hook))) (And.intro (@lt_node) (And.intro (@lt1_node) (@ltc_node)))))) := And.intro (And.intro (And.intro (And.intro (@lt_vi) (@lt_str)) (And.intro (@lt_vb) (And.intro (@ltc_str) (@ltc_vi)))) (And.intro (And.intro (@lt_run) (And.intro (@lt1_run) (@ltc_run))) (And.intro (@lt_Str) (And.intro (@lt1_Str) (@ltc_Str))))) (And.intro (And.intro (And.intro (@lt_c) (And.intro (@lt1_c) (@ltc_c))) (And.intro (@lt_attr) (And.intro (@lt1_attr) (@ltc_attr)))) (And.intro (And.intro (@lt_hook) (And.intro (@lt1_hook) (@ltc_hook))) (And.intro (@lt_node) (And.intro (@lt1_node) (@ltc_node)))))
abbrev Ent := Int × Nat × Node
def ownE (p : Ent) : Ent := (p.1, p.2.1, ownN p.2.2)
/-- those that were seen are one's own -/
def mSeen (l : List Ent) (seen : List Nat) : List Ent := l.map fun p => if p.2.1 ∈ seen then ownE p else p
structure okAr (a : Arena) : Prop where
  nodes : ∀ p ∈ a.nodes, okN p.2.2
  keys : (a.nodes.map (·.1)).Nodup
  born : (a.nodes.map (·.2.1)).Nodup
  old : ∀ p ∈ a.nodes, p.2.1 < a.clock
def ownAr (a : Arena) : Arena := { a with nodes := a.nodes.map ownE }
theorem seen_key (p : Ent) (seen : List Nat) : (if p.2.1 ∈ seen then ownE p else p).1 = p.1 := by split <;> rfl
theorem seen_born (p : Ent) (seen : List Nat) : (if p.2.1 ∈ seen then ownE p else p).2.1 = p.2.1 := by split <;> rfl
theorem seen_other {p q : Ent} {seen : List Nat} (h : p.2.1 ≠ q.2.1) : (if p.2.1 ∈ seen ++ [q.2.1] then ownE p else p) = if p.2.1 ∈ seen then ownE p else p := by
  have : (p.2.1 ∈ seen ++ [q.2.1]) ↔ p.2.1 ∈ seen := by simp [h]
  simp only [this]
theorem seen_same {q : Ent} {seen : List Nat} : ∀ {l : List Ent}, q.2.1 ∉ l.map (·.2.1) → mSeen l (seen ++ [q.2.1]) = mSeen l seen
  | [], _ => rfl
  | p :: l, h => by
    simp only [List.map_cons, List.mem_cons, not_or] at h
    simp only [mSeen, List.map_cons]
    rw [seen_other (Ne.symm h.1)]
    congr 1
    exact seen_same h.2
theorem mset_seen {q : Ent} {seen : List Nat} : ∀ {l : List Ent}, (l.map (·.1)).Nodup → (l.map (·.2.1)).Nodup → q ∈ l → mset (encM (mSeen l seen)) q.1 (nodeV (ownN q.2.2)) = encM (mSeen l (seen ++ [q.2.1])) ∧ (mget (encM (mSeen l seen)) q.1).isSome = true
  | [], _, _, h => by cases h
  | p :: l, h1, h2, h => by
    simp only [List.map_cons, List.nodup_cons] at h1 h2
    by_cases hk : q.1 = p.1
    · have hq : q = p := by
        rcases List.mem_cons.1 h with h | h
        · exact h
        · exact absurd (List.mem_map.2 ⟨q, h, hk⟩) h1.1
      subst hq
      refine ⟨?_, ?_⟩
      · have := seen_same (seen := seen) h2.1
        simp only [mSeen] at this
        simp only [mSeen, encM, List.map_cons, mset]
        rw [if_pos (seen_key q seen).symm, this]
        rw [if_pos (show q.2.1 ∈ seen ++ [q.2.1] by simp), seen_key, seen_born]
        rfl
      · simp only [mSeen, encM, List.map_cons, mget]
        rw [if_pos (seen_key q seen).symm]; rfl
    · have hq : q ∈ l := by
        rcases List.mem_cons.1 h with h | h
        · subst h; exact absurd rfl hk
        · exact h
      obtain ⟨k1, k2⟩ := mset_seen h1.2 h2.2 hq
      have hb : p.2.1 ≠ q.2.1 := fun e => h2.1 (List.mem_map.2 ⟨q, hq, e.symm⟩)
      have hn : ¬ q.1 = (if p.2.1 ∈ seen then ownE p else p).1 := by rw [seen_key]; exact hk
      simp only [mSeen, encM] at k1 k2
      refine ⟨?_, ?_⟩
      · simp only [mSeen, encM, List.map_cons, mset]
        rw [if_neg hn, k1, seen_other hb]
      · simp only [mSeen, encM, List.map_cons, mget]
        rw [if_neg hn, k2]
theorem find_seen {q : Ent} {seen : List Nat} (hns : q.2.1 ∉ seen) : ∀ {l : List Ent}, (l.map (·.2.1)).Nodup → q ∈ l → (encM (mSeen l seen)).find? (fun p => p.2.1 == q.2.1) = some (q.1, q.2.1, nodeV q.2.2)
  | [], _, h => by cases h
  | p :: l, h2, h => by
    simp only [List.map_cons, List.nodup_cons] at h2
    by_cases hk : q.2.1 = p.2.1
    · have hq : q = p := by
        rcases List.mem_cons.1 h with h | h
        · exact h
        · exact absurd (List.mem_map.2 ⟨q, h, hk⟩) h2.1
      subst hq
      simp only [mSeen, encM, List.map_cons, if_neg hns]
      rw [List.find?_cons_of_pos (by simp)]
    · have hq : q ∈ l := by
        rcases List.mem_cons.1 h with h | h
        · subst h; exact absurd rfl hk
        · exact h
      have := find_seen hns h2.2 hq
      simp only [mSeen, encM] at this
      simp only [mSeen, encM, List.map_cons]
      rw [List.find?_cons_of_neg (by simp only [seen_born]; simpa using fun e => hk e.symm), this]
theorem seen_mem {p : Int × Nat × V} {seen : List Nat} {l : List Ent} (h : p ∈ encM (mSeen l seen)) (hns : p.2.1 ∉ seen) : ∃ q ∈ l, p = (q.1, q.2.1, nodeV q.2.2) := by
  obtain ⟨x, hx, rfl⟩ := List.mem_map.1 h
  obtain ⟨q, hq, rfl⟩ := List.mem_map.1 hx
  simp only [seen_born] at hns
  exact ⟨q, hq, by rw [if_neg hns]⟩
theorem seen_mem' {q : Ent} {seen : List Nat} {l : List Ent} (h : q ∈ l) : ∃ p ∈ encM (mSeen l seen), p.2.1 = q.2.1 :=
  ⟨_, List.mem_map.2 ⟨_, List.mem_map.2 ⟨q, h, rfl⟩, rfl⟩, seen_born q seen⟩
theorem seen_all {seen : List Nat} {l : List Ent} (h : ∀ q ∈ l, q.2.1 ∈ seen) : mSeen l seen = l.map ownE :=
  List.map_congr_left fun p hp => by rw [if_pos (h p hp)]
theorem seen_nil (l : List Ent) : mSeen l [] = l := by simp [mSeen]
theorem nodup_len : ∀ {l m : List Nat}, l.Nodup → (∀ b ∈ l, b ∈ m) → l.length ≤ m.length
  | [], m, _, _ => Nat.zero_le _
  | a :: l, m, h, hs => by
    rw [List.nodup_cons] at h
    have ha := hs a (by simp)
    have := nodup_len (m := m.erase a) h.2 (fun b hb => by
      rw [List.mem_erase_of_ne (fun e : b = a => h.1 (e ▸ hb))]
      exact hs b (by simp [hb]))
    rw [List.length_erase_of_mem ha] at this
    have := List.length_pos_of_mem ha
    simp only [List.length_cons]
    omega
theorem lt_encM (n : Nat) (l : List Ent) : ltL n ((encM l).map fun p : Int × Nat × V => p.2.2) := by
  simp only [encM, List.map_map]
  exact ltL_map (f := (fun p : Int × Nat × V => p.2.2) ∘ fun p : Ent => (p.1, p.2.1, nodeV p.2.2)) (fun x => lt1_node n x.2.2) l
theorem aCloneNil (H : List Ob) : SCall Try.prog 121 [.nilp] H (fun r H' => r = .nilp ∧ H' = H) := by
  refine SCall.of_good fun hH => ?_
  have hHk := HLt.add hH
  refine SCall.of_code Tok Try.func121 rfl Try.call121 (n := 42) rfl (by simp) (rs := [.tmp 2]) rfl ?_
  refine EWn.to ?_
  refine EWn.of_c Tok mixed (own := false) keep121 tab121 (by kernel_rfl) ?_
  (repeat (first | simp -dsimp only [zrArena21, xnils, xnilm, xrange, xmakeMap, RB, TB, keep121, tab121, xindexAddr, xindex, xslice, xconvert, xlen, ewOp, FreeW, StabW, SameW, ChangeW, AddW, BaseW, limBytes, simprocAttr, ne_eq] | ((with_reducible refine Need.intro ?_ ?_); (first | trivial | exact ⟨_, rfl⟩ | exact ⟨[], (List.append_nil _).symm⟩ | omega | (simp; done) | (simp; omega) | exact ⟨by first | trivial | (simp; done), _, by first | rfl | (simp; rfl)⟩))))
  (first | refine SCall.then (aIsNil _) ?_ | refine SCall.thenA (aIsNil _) (by repeat (first | exact trivial | exact .inl (.inl rfl) | exact .inl (.inr ⟨_, rfl, rfl⟩) | exact .inl rfl | exact .inr ⟨_, rfl, rfl⟩ | refine .inr ⟨_, _, rfl, rfl, ?_⟩ | refine ⟨?_, ?_⟩)) ?_ | refine CallE.intro _ (aIsNil _) ?_ | refine CallE.introA (aIsNil _) (by repeat (first | exact trivial | exact .inl (.inl rfl) | exact .inl (.inr ⟨_, rfl, rfl⟩) | exact .inl rfl | exact .inr ⟨_, rfl, rfl⟩ | refine .inr ⟨_, _, rfl, rfl, ?_⟩ | refine ⟨?_, ?_⟩)) ?_ | refine CallE.intro _ (fun _ => aIsNil _) ?_ | refine CallE.intro _ (fun _ => SCall.arg (by repeat (first | exact trivial | exact .inl (.inl rfl) | exact .inl (.inr ⟨_, rfl, rfl⟩) | exact .inl rfl | exact .inr ⟨_, rfl, rfl⟩ | refine .inr ⟨_, _, rfl, rfl, ?_⟩ | refine ⟨?_, ?_⟩)) (aIsNil _)) ?_ | refine CallE2.intro _ _ (aIsNil _) ?_ | refine CallE2.intro _ _ (SCall.arg (by repeat (first | exact trivial | exact .inl (.inl rfl) | exact .inl (.inr ⟨_, rfl, rfl⟩) | exact .inl rfl | exact .inr ⟨_, rfl, rfl⟩ | refine .inr ⟨_, _, rfl, rfl, ?_⟩ | refine ⟨?_, ?_⟩)) (aIsNil _)) ?_)
  (repeat (first | simp -dsimp only [zrArena21, xnils, xnilm, xrange, xmakeMap, RB, TB, keep121, tab121, xindexAddr, xindex, xslice, xconvert, xlen, ewOp, FreeW, StabW, SameW, ChangeW, AddW, BaseW, limBytes, simprocAttr, ne_eq] | ((with_reducible refine Need.intro ?_ ?_); (first | trivial | exact ⟨_, rfl⟩ | exact ⟨[], (List.append_nil _).symm⟩ | omega | (simp; done) | (simp; omega) | exact ⟨by first | trivial | (simp; done), _, by first | rfl | (simp; rfl)⟩))))
  refine RetW.auto0 false _ (by first | rfl | exact (List.append_nil _).symm) ?_ ?_
  · (simp (maxDischargeDepth := 6) [LTB, HLt_set, ltL_take, ltL_drop, ltL_rep, ltL_set, upd, eset, hH, hHk, lt_encM, vi, zlArena21] <;> omega)
  (try simp only [wk, wk1, wk0, RB, limBytes, simprocAttr, ne_eq])
  (try (rw [List.take_of_length_le]; rotate_left 1; (· first | (simp; done) | (simp; omega) | omega)))
theorem aClone (H : List Ob) (A m : Nat) (a : Arena) (h : arenaAt H A m a) (hok : okAr a) : SCall Try.prog 121 [.ref A 0] H (fun r H' => r = .ref (H.length + 1) 0 ∧ H' = H ++ [.map (encM (ownAr a).nodes) a.clock, .var (.mapr H.length :: (a.used.map vi ++ a.live.map vi))]) := by
  obtain ⟨nodes, clock, used, live⟩ := a
  have hat := h
  obtain ⟨h1, h2, h3, h4⟩ := h
  simp only at h1 h2 h3 h4
  match used, live, h3, h4 with
  | [u0, u1, u2, u3], [l0, l1, l2, l3], _, _ =>
  have hA : ∀ L, (H ++ L)[A]? = some (.var [.mapr m, vi u0, vi u1, vi u2, vi u3, vi l0, vi l1, vi l2, vi l3]) := fun L => by rw [List.getElem?_append_left (List.getElem?_eq_some_iff.1 h1).1]; exact h1
  simp only [List.map_cons, List.map_nil, List.cons_append, List.nil_append] at h1
  refine SCall.of_good fun hH => ?_
  have hHk := HLt.add hH
  refine SCall.of_code Tok Try.func121 rfl Try.call121 (n := 42) rfl (by simp) (rs := [.tmp 2]) rfl ?_
  refine EWn.to ?_
  refine EWn.of_c Tok mixed (own := false) keep121 tab121 (by kernel_rfl) ?_
  (repeat (first | simp -dsimp only [zrArena21, xnils, xnilm, xrange, xmakeMap, RB, TB, keep121, tab121, xindexAddr, xindex, xslice, xconvert, xlen, ewOp, FreeW, StabW, SameW, ChangeW, AddW, BaseW, limBytes, simprocAttr, ne_eq] | ((with_reducible refine Need.intro ?_ ?_); (first | trivial | exact ⟨_, rfl⟩ | exact ⟨[], (List.append_nil _).symm⟩ | omega | (simp; done) | (simp; omega) | exact ⟨by first | trivial | (simp; done), _, by first | rfl | (simp; rfl)⟩))))
  (first | refine SCall.then (aIs H A m _ hat) ?_ | refine SCall.thenA (aIs H A m _ hat) (by repeat (first | exact trivial | exact .inl (.inl rfl) | exact .inl (.inr ⟨_, rfl, rfl⟩) | exact .inl rfl | exact .inr ⟨_, rfl, rfl⟩ | refine .inr ⟨_, _, rfl, rfl, ?_⟩ | refine ⟨?_, ?_⟩)) ?_ | refine CallE.intro _ (aIs H A m _ hat) ?_ | refine CallE.introA (aIs H A m _ hat) (by repeat (first | exact trivial | exact .inl (.inl rfl) | exact .inl (.inr ⟨_, rfl, rfl⟩) | exact .inl rfl | exact .inr ⟨_, rfl, rfl⟩ | refine .inr ⟨_, _, rfl, rfl, ?_⟩ | refine ⟨?_, ?_⟩)) ?_ | refine CallE.intro _ (fun _ => aIs H A m _ hat) ?_ | refine CallE.intro _ (fun _ => SCall.arg (by repeat (first | exact trivial | exact .inl (.inl rfl) | exact .inl (.inr ⟨_, rfl, rfl⟩) | exact .inl rfl | exact .inr ⟨_, rfl, rfl⟩ | refine .inr ⟨_, _, rfl, rfl, ?_⟩ | refine ⟨?_, ?_⟩)) (aIs H A m _ hat)) ?_ | refine CallE2.intro _ _ (aIs H A m _ hat) ?_ | refine CallE2.intro _ _ (SCall.arg (by repeat (first | exact trivial | exact .inl (.inl rfl) | exact .inl (.inr ⟨_, rfl, rfl⟩) | exact .inl rfl | exact .inr ⟨_, rfl, rfl⟩ | refine .inr ⟨_, _, rfl, rfl, ?_⟩ | refine ⟨?_, ?_⟩)) (aIs H A m _ hat)) ?_)
  (repeat (first | simp -dsimp only [zrArena21, xnils, xnilm, xrange, xmakeMap, h1, RB, TB, keep121, tab121, xindexAddr, xindex, xslice, xconvert, xlen, ewOp, FreeW, StabW, SameW, ChangeW, AddW, BaseW, limBytes, simprocAttr, ne_eq] | ((with_reducible refine Need.intro ?_ ?_); (first | trivial | exact ⟨_, rfl⟩ | exact ⟨[], (List.append_nil _).symm⟩ | omega | (simp; done) | (simp; omega) | exact ⟨by first | trivial | (simp; done), _, by first | rfl | (simp; rfl)⟩))))
  (first | refine SCall.then (cloneM _ m _ _ h2) ?_ | refine SCall.thenA (cloneM _ m _ _ h2) (by repeat (first | exact trivial | exact .inl (.inl rfl) | exact .inl (.inr ⟨_, rfl, rfl⟩) | exact .inl rfl | exact .inr ⟨_, rfl, rfl⟩ | refine .inr ⟨_, _, rfl, rfl, ?_⟩ | refine ⟨?_, ?_⟩)) ?_ | refine CallE.intro _ (cloneM _ m _ _ h2) ?_ | refine CallE.introA (cloneM _ m _ _ h2) (by repeat (first | exact trivial | exact .inl (.inl rfl) | exact .inl (.inr ⟨_, rfl, rfl⟩) | exact .inl rfl | exact .inr ⟨_, rfl, rfl⟩ | refine .inr ⟨_, _, rfl, rfl, ?_⟩ | refine ⟨?_, ?_⟩)) ?_ | refine CallE.intro _ (fun _ => cloneM _ m _ _ h2) ?_ | refine CallE.intro _ (fun _ => SCall.arg (by repeat (first | exact trivial | exact .inl (.inl rfl) | exact .inl (.inr ⟨_, rfl, rfl⟩) | exact .inl rfl | exact .inr ⟨_, rfl, rfl⟩ | refine .inr ⟨_, _, rfl, rfl, ?_⟩ | refine ⟨?_, ?_⟩)) (cloneM _ m _ _ h2)) ?_ | refine CallE2.intro _ _ (cloneM _ m _ _ h2) ?_ | refine CallE2.intro _ _ (SCall.arg (by repeat (first | exact trivial | exact .inl (.inl rfl) | exact .inl (.inr ⟨_, rfl, rfl⟩) | exact .inl rfl | exact .inr ⟨_, rfl, rfl⟩ | refine .inr ⟨_, _, rfl, rfl, ?_⟩ | refine ⟨?_, ?_⟩)) (cloneM _ m _ _ h2)) ?_)
  (repeat (first | simp -dsimp only [zrArena21, xnils, xnilm, xrange, xmakeMap, h1, hA, RB, TB, keep121, tab121, xindexAddr, xindex, xslice, xconvert, xlen, ewOp, FreeW, StabW, SameW, ChangeW, AddW, BaseW, limBytes, simprocAttr, ne_eq] | ((with_reducible refine Need.intro ?_ ?_); (first | trivial | exact ⟨_, rfl⟩ | exact ⟨[], (List.append_nil _).symm⟩ | omega | (simp; done) | (simp; omega) | exact ⟨by first | trivial | (simp; done), _, by first | rfl | (simp; rfl)⟩))))
  have hcl : ∀ seen, encM (mSeen nodes seen) = encM (mSeen nodes seen) := fun _ => rfl
  rw [show encM nodes = encM (mSeen nodes []) by rw [seen_nil]]
  refine EWn.loopE (ι := (List Nat)) (fun (seen : (List Nat)) => seen.Nodup ∧ (∀ b ∈ seen, b ∈ nodes.map (·.2.1))) (fun (seen : (List Nat)) => nodes.length - seen.length) (fun (seen : (List Nat)) => []) (fun (seen : (List Nat)) => H ++ [.map (encM (mSeen nodes seen)) clock, .var [.mapr H.length, vi u0, vi u1, vi u2, vi u3, vi l0, vi l1, vi l2, vi l3], .iter H.length clock seen clock]) ([]) ?_ ?_ ?_ ?_ ?_
  · first | rfl | simp [upd, eset]
  · first | rfl | (simp; done) | exact (set_same (by assumption)).symm
  · rintro seen hok; exact ⟨by first | (simp; done) | (simp; omega), by (simp (maxDischargeDepth := 6) [LTB, HLt_set, ltL_take, ltL_drop, ltL_rep, ltL_set, upd, eset, hH, hHk, lt_encM, vi, zlArena21] <;> omega), by (simp (maxDischargeDepth := 6) [LTB, HLt_set, ltL_take, ltL_drop, ltL_rep, ltL_set, upd, eset, hH, hHk, lt_encM, vi, zlArena21] <;> omega)⟩
  · exact ⟨List.nodup_nil, fun b hb => by cases hb⟩
  rintro seen ⟨hnd, hin⟩
  refine EWn.of_c Tok mixed (own := false) keep121 tab121 (by kernel_rfl) ?_
  (repeat (first | simp -dsimp only [zrArena21, xnils, xnilm, xrange, xmakeMap, RB, TB, keep121, tab121, xindexAddr, xindex, xslice, xconvert, xlen, ewOp, FreeW, StabW, SameW, ChangeW, AddW, BaseW, limBytes, simprocAttr, ne_eq] | ((with_reducible refine Need.intro ?_ ?_); (first | trivial | exact ⟨_, rfl⟩ | exact ⟨[], (List.append_nil _).symm⟩ | omega | (simp; done) | (simp; omega) | exact ⟨by first | trivial | (simp; done), _, by first | rfl | (simp; rfl)⟩))))
  refine NextW.intro (H.length + 2) H.length clock seen clock _ clock rfl (by simp) (by simp; rfl) ?_ (fun p hp hns => ?_) (fun hall => ?_)
  · cases nodes with
    | nil => exact .inr (.inl rfl)
    | cons q l =>
      obtain ⟨p, k1, k2⟩ := seen_mem' (seen := seen) (q := q) (l := q :: l) (by simp)
      exact .inr (.inr ⟨p, k1, by rw [k2]; exact hok.old q (by simp)⟩)
  · obtain ⟨q, hq, rfl⟩ := seen_mem hp hns
    simp only at hns
    obtain ⟨s1, s2⟩ := mset_seen (seen := seen) hok.keys hok.born hq
    have hf : List.find? (fun p : Int × Nat × V => p.2.1 == (seen ++ [q.2.1]).getLastD 0) (encM (mSeen nodes seen)) = some (q.1, q.2.1, nodeV q.2.2) := by
      rw [show (seen ++ [q.2.1]).getLastD 0 = q.2.1 by simp]
      exact find_seen hns hok.born hq
    have hnew : (seen ++ [q.2.1]).Nodup := by
      rw [List.nodup_append]
      exact ⟨hnd, by simp, fun a ha b hb e => by simp at hb; subst hb; exact hns (e ▸ ha)⟩
    have hin2 : ∀ b ∈ seen ++ [q.2.1], b ∈ nodes.map (·.2.1) := fun b hb => by
      rcases List.mem_append.1 hb with hb | hb
      · exact hin b hb
      · simp at hb; subst hb; exact List.mem_map.2 ⟨q, hq, rfl⟩
    have hlen : (seen ++ [q.2.1]).length ≤ nodes.length := by
      have := nodup_len hnew hin2
      simpa using this
    (repeat (first | simp -dsimp only [zrArena21, xnils, xnilm, xrange, xmakeMap, hf, nodeV, RB, TB, keep121, tab121, xindexAddr, xindex, xslice, xconvert, xlen, ewOp, FreeW, StabW, SameW, ChangeW, AddW, BaseW, limBytes, simprocAttr, ne_eq] | ((with_reducible refine Need.intro ?_ ?_); (first | trivial | exact ⟨_, rfl⟩ | exact ⟨[], (List.append_nil _).symm⟩ | omega | (simp; done) | (simp; omega) | exact ⟨by first | trivial | (simp; done), _, by first | rfl | (simp; rfl)⟩))))
    refine Need.intro (by simp) ?_
    (repeat (first | simp -dsimp only [zrArena21, xnils, xnilm, xrange, xmakeMap, hf, nodeV, RB, TB, keep121, tab121, xindexAddr, xindex, xslice, xconvert, xlen, ewOp, FreeW, StabW, SameW, ChangeW, AddW, BaseW, limBytes, simprocAttr, ne_eq] | ((with_reducible refine Need.intro ?_ ?_); (first | trivial | exact ⟨_, rfl⟩ | exact ⟨[], (List.append_nil _).symm⟩ | omega | (simp; done) | (simp; omega) | exact ⟨by first | trivial | (simp; done), _, by first | rfl | (simp; rfl)⟩))))
    (first | refine SCall.then (aOwnN _ q.2.2 (hok.nodes q hq)) ?_ | refine SCall.thenA (aOwnN _ q.2.2 (hok.nodes q hq)) (by repeat (first | exact trivial | exact .inl (.inl rfl) | exact .inl (.inr ⟨_, rfl, rfl⟩) | exact .inl rfl | exact .inr ⟨_, rfl, rfl⟩ | refine .inr ⟨_, _, rfl, rfl, ?_⟩ | refine ⟨?_, ?_⟩)) ?_ | refine CallE.intro _ (aOwnN _ q.2.2 (hok.nodes q hq)) ?_ | refine CallE.introA (aOwnN _ q.2.2 (hok.nodes q hq)) (by repeat (first | exact trivial | exact .inl (.inl rfl) | exact .inl (.inr ⟨_, rfl, rfl⟩) | exact .inl rfl | exact .inr ⟨_, rfl, rfl⟩ | refine .inr ⟨_, _, rfl, rfl, ?_⟩ | refine ⟨?_, ?_⟩)) ?_ | refine CallE.intro _ (fun _ => aOwnN _ q.2.2 (hok.nodes q hq)) ?_ | refine CallE.intro _ (fun _ => SCall.arg (by repeat (first | exact trivial | exact .inl (.inl rfl) | exact .inl (.inr ⟨_, rfl, rfl⟩) | exact .inl rfl | exact .inr ⟨_, rfl, rfl⟩ | refine .inr ⟨_, _, rfl, rfl, ?_⟩ | refine ⟨?_, ?_⟩)) (aOwnN _ q.2.2 (hok.nodes q hq))) ?_ | refine CallE2.intro _ _ (aOwnN _ q.2.2 (hok.nodes q hq)) ?_ | refine CallE2.intro _ _ (SCall.arg (by repeat (first | exact trivial | exact .inl (.inl rfl) | exact .inl (.inr ⟨_, rfl, rfl⟩) | exact .inl rfl | exact .inr ⟨_, rfl, rfl⟩ | refine .inr ⟨_, _, rfl, rfl, ?_⟩ | refine ⟨?_, ?_⟩)) (aOwnN _ q.2.2 (hok.nodes q hq))) ?_)
    (repeat (first | simp -dsimp only [zrArena21, xnils, xnilm, xrange, xmakeMap, nodeV, RB, TB, keep121, tab121, xindexAddr, xindex, xslice, xconvert, xlen, ewOp, FreeW, StabW, SameW, ChangeW, AddW, BaseW, limBytes, simprocAttr, ne_eq] | ((with_reducible refine Need.intro ?_ ?_); (first | trivial | exact ⟨_, rfl⟩ | exact ⟨[], (List.append_nil _).symm⟩ | omega | (simp; done) | (simp; omega) | exact ⟨by first | trivial | (simp; done), _, by first | rfl | (simp; rfl)⟩))))
    have e1 : EL.mput (encM (mSeen nodes seen)) clock q.1 (nodeV (ownN q.2.2)) = encM (mSeen nodes (seen ++ [q.2.1])) := by
      unfold EL.mput
      rw [if_pos s2]; exact s1
    have e2 : (if (mget (encM (mSeen nodes seen)) q.1).isSome = true then clock else clock + 1) = clock := if_pos s2
    unfold nodeV at e1
    rw [e1, e2]
    rw [List.length_append, List.length_singleton] at hlen
    refine UpTo.here ⟨seen ++ [q.2.1], ⟨hnew, hin2⟩, by simp only [List.length_append, List.length_singleton]; omega, rfl, ⟨_, by simp only [List.append_assoc, List.cons_append, List.nil_append]; rfl⟩⟩
  · (repeat (first | simp -dsimp only [zrArena21, xnils, xnilm, xrange, xmakeMap, RB, TB, keep121, tab121, xindexAddr, xindex, xslice, xconvert, xlen, ewOp, FreeW, StabW, SameW, ChangeW, AddW, BaseW, limBytes, simprocAttr, ne_eq] | ((with_reducible refine Need.intro ?_ ?_); (first | trivial | exact ⟨_, rfl⟩ | exact ⟨[], (List.append_nil _).symm⟩ | omega | (simp; done) | (simp; omega) | exact ⟨by first | trivial | (simp; done), _, by first | rfl | (simp; rfl)⟩))))
    have hsa : mSeen nodes seen = nodes.map ownE := seen_all fun q hq => by
      obtain ⟨p, k1, k2⟩ := seen_mem' (seen := seen) hq
      have := hall p k1 (by rw [k2]; exact hok.old q hq)
      rwa [k2] at this
    rw [hsa]
    refine RetW.auto false [.map (encM (nodes.map ownE)) clock, .var [.mapr H.length, vi u0, vi u1, vi u2, vi u3, vi l0, vi l1, vi l2, vi l3]] _ (by first | rfl | simp) ?_ ?_ ?_
    · (simp (maxDischargeDepth := 6) [LTB, HLt_set, ltL_take, ltL_drop, ltL_rep, ltL_set, upd, eset, hH, hHk, lt_encM, vi, zlArena21] <;> omega)
    · (simp (maxDischargeDepth := 6) [LTB, HLt_set, ltL_take, ltL_drop, ltL_rep, ltL_set, upd, eset, hH, hHk, lt_encM, vi, zlArena21] <;> omega)
    (try simp only [wk, wk1, wk0, RB, limBytes, simprocAttr, ne_eq])
    (try (rw [List.take_of_length_le]; rotate_left 1; (· first | (simp; done) | (simp; omega) | omega)))
    simp [ownAr]
end Go.Proofs.Ytjplgbalpnlanaa

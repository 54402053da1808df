/- Laws of chapter 20: the example. -/
import Derived.Test.YtjplgbalpnlanaaDom4
set_option maxHeartbeats 600000
set_option linter.unusedSimpArgs false
set_option linter.unusedVariables false
set_option maxRecDepth 100000
namespace Go.Proofs.Ytjplgbalpnlanaa
open Go Go.EL
theorem zrDom51 : type_of% (And.intro (And.intro (And.intro (And.intro (@st_run) (And.intro (@sz_run) (@st1_run))) (And.intro (@cl_run) (And.intro (@st_Str) (@sz_Str)))) (And.intro (And.intro (@st1_Str) (And.intro (@cl_Str) (@st_c))) (And.intro (@sz_c) (And.intro (@st1_c) (@cl_c))))) (And.intro (And.intro (And.intro (@st_attr) (And.intro (@sz_attr) (@st1_attr))) (And.intro (@cl_attr) (And.intro (@st_hook) (@sz_hook)))) (And.intro (And.intro (@st1_hook) (And.intro (@cl_hook) (@st_node))) (And.intro (@sz_node) (And.intro (@st1_node) (@cl_node)))))) := And.intro (And.intro (And.intro (And.intro (@st_run) (And.intro (@sz_run) (@st1_run))) (And.intro (@cl_run) (And.intro (@st_Str) (@sz_Str)))) (And.intro (And.intro (@st1_Str) (And.intro (@cl_Str) (@st_c))) (And.intro (@sz_c) (And.intro (@st1_c) (@cl_c))))) (And.intro (And.intro (And.intro (@st_attr) (And.intro (@sz_attr) (@st1_attr))) (And.intro (@cl_attr) (And.intro (@st_hook) (@sz_hook)))) (And.intro (And.intro (@st1_hook) (And.intro (@cl_hook) (@st_node))) (And.intro (@sz_node) (And.intro (@st1_node) (@cl_node)))))
theorem zlDom51 : type_of% (And.intro (And.intro (And.intro (And.intro (@lt_vi) (@lt_str)) (And.intro (@lt_vb) (And.intro (@ltc_str) (@ltc_vi)))) (And.intro (And.intro (@lt_run) (And.intro (@lt1_run) (@ltc_run))) (And.intro (@lt_Str) (And.intro (@lt1_Str) (@ltc_Str))))) (And.intro (And.intro (And.intro (@lt_c) (And.intro (@lt1_c) (@ltc_c))) (And.intro (@lt_attr) (And.intro (@lt1_attr) (@ltc_attr)))) (And.intro (And.intro (@lt_hook) (And.intro (@lt1_hook) (@ltc_hook))) (And.intro (@lt_node) (And.intro (@lt1_node) (@ltc_node)))))) := And.intro (And.intro (And.intro (And.intro (@lt_vi) (@lt_str)) (And.intro (@lt_vb) (And.intro (@ltc_str) (@ltc_vi)))) (And.intro (And.intro (@lt_run) (And.intro (@lt1_run) (@ltc_run))) (And.intro (@lt_Str) (And.intro (@lt1_Str) (@ltc_Str))))) (And.intro (And.intro (And.intro (@lt_c) (And.intro (@lt1_c) (@ltc_c))) (And.intro (@lt_attr) (And.intro (@lt1_attr) (@ltc_attr)))) (And.intro (And.intro (@lt_hook) (And.intro (@lt1_hook) (@ltc_hook))) (And.intro (@lt_node) (And.intro (@lt1_node) (@ltc_node)))))
theorem okN_set {x n : Node} (hx : okN x) (hn : okN n) : okN (setN x n) := ⟨hx.1, okS_fix hn.2.1, fun a ha => by
  obtain ⟨b, hb, rfl⟩ := List.mem_map.1 ha
  exact okA_own (hn.2.2.1 b hb), by simpa [setN] using hn.2.2.2.1, hn.2.2.2.2.1, hn.2.2.2.2.2⟩
theorem ok_nset {id : Int} {x : Node} (hx : okN x) : ∀ {ns : List Ent}, (∀ p ∈ ns, okN p.2.2) → ∀ p ∈ nset ns id x, okN p.2.2
  | [], h, p, hp => by simp [nset] at hp
  | q :: l, h, p, hp => by
    simp only [nset] at hp
    split at hp
    · rcases List.mem_cons.1 hp with rfl | hp
      · exact hx
      · exact h p (by simp [hp])
    · rcases List.mem_cons.1 hp with rfl | hp
      · exact h _ (by simp)
      · exact ok_nset hx (fun p hp => h p (by simp [hp])) p hp
theorem okN_kid {p : Node} (h : okN p) (hk : p.kids.length ≤ 1000000) (c : Int) : okN (kidN p c) := by
  obtain ⟨o1, o2, o3, o4, o5, o6⟩ := okN_own h
  exact ⟨o1, o2, o3, o4, o5, by simp [kidN]; omega⟩
theorem okN_par {p : Node} (h : okN p) (c : Int) : okN (parN p c) := by
  obtain ⟨o1, o2, o3, o4, o5, o6⟩ := okN_own h
  exact ⟨o1, o2, o3, o4, o5, o6⟩
theorem ok_ins {ns : List Ent} (h : ∀ p ∈ ns, okN p.2.2) {parent child : Int} {p c : Node} (hp : okN p) (hc : okN c) (hk : p.kids.length ≤ 1000000) : ∀ q ∈ insNodes ns parent child p c, okN q.2.2 :=
  ok_nset (okN_set hc (okN_par hc _)) (ok_nset (okN_set hp (okN_kid hp hk _)) h)
def tagP : Str := ⟨[112], rle [near 0]⟩
theorem okP : okS tagP := by unfold tagP; exact ⟨by simp, by have := rle_len [near 0]; simp at this ⊢; omega⟩
theorem okN_made {tag : Str} (h : okS tag) (id kind : Int) (key : List UInt8) (slot : Int) : okN (madeN id kind tag key slot) := ⟨okS_fix h, ⟨by simp [madeN, zeroS], by simp [madeN, zeroS]⟩, fun a ha => by simp [madeN] at ha, by simp [madeN], by simp [madeN], by simp [madeN]⟩
theorem okRoot : okN rootN := by
  refine ⟨⟨by simp [rootN], ?_⟩, ⟨by simp [rootN, zeroS], by simp [rootN, zeroS]⟩, fun a ha => by simp [rootN] at ha, by simp [rootN], by simp [rootN], by simp [rootN]⟩
  have := rle_len (List.replicate 3 (0 : Int)); simp only [rootN]; exact Nat.le_trans this (by simp)
/-- a new arena with one node more -/
def oneA (kind : Int) : Arena := arena8 [(0, 0, rootN), (1, 1, madeN 1 kind tagP [] 0)] 2 1 0 0 0 2 0 0 0
theorem ok_one (kind : Int) : ∀ p ∈ (oneA kind).nodes, okN p.2.2 := by
  intro p hp
  have hp : p ∈ [((0 : Int), (0 : Nat), rootN), (1, 1, madeN 1 kind tagP [] 0)] := hp
  simp only [List.mem_cons, List.not_mem_nil, or_false] at hp
  rcases hp with rfl | rfl
  · exact okRoot
  · exact okN_made okP _ _ _ _
theorem alive20 (H : List Ob) : SCall Try.prog 35 [] H (fun r H' => r = .bool true ∧ H' = H) := by
  have hA0 : arenaAt (H ++ [.map (encM newA.nodes) 1, .var (.mapr H.length :: (newA.used.map vi ++ newA.live.map vi))]) (H.length + 1) H.length newA := ⟨by simp, by simp; rfl, rfl, rfl⟩
  have ok0 : ∀ p ∈ newA.nodes, okN p.2.2 := fun p hp => by
    have hp : p ∈ [((0 : Int), (0 : Nat), rootN)] := hp
    simp only [List.mem_singleton] at hp
    rw [hp]; exact okRoot
  have hM : SCall Try.prog 37 [.ref (H.length + 1) 0, .int .i64 0, .int .i64 1, strV tagP, .str [], .int .i64 0] (H ++ [.map (encM newA.nodes) 1, .var (.mapr H.length :: (newA.used.map vi ++ newA.live.map vi))]) (fun r H' => r = .tuple [.int .i64 1, .int .i64 0] ∧ H' = H ++ [.map (encM (oneA 1).nodes) 2, .var [.mapr H.length, .int .i64 1, .int .i64 0, .int .i64 0, .int .i64 0, .int .i64 2, .int .i64 0, .int .i64 0, .int .i64 0]]) := SCall.mono (aMake0 (H ++ [.map (encM newA.nodes) 1, .var (.mapr H.length :: (newA.used.map vi ++ newA.live.map vi))]) (H.length + 1) H.length newA.nodes 1 0 0 0 0 1 0 0 0 hA0 (by omega) (by omega) (by omega) (by omega) 1 ⟨by omega, by omega⟩ tagP okP [] 0 rfl (by omega)) fun r H' h => ⟨h.1, by rw [h.2]; simp; rfl⟩
  have hA1 : arenaAt (H ++ [.map (encM (oneA 1).nodes) 2, .var [.mapr H.length, .int .i64 1, .int .i64 0, .int .i64 0, .int .i64 0, .int .i64 2, .int .i64 0, .int .i64 0, .int .i64 0]]) (H.length + 1) H.length (oneA 1) := ⟨by simp; rfl, by simp; rfl, rfl, rfl⟩
  have hI : SCall Try.prog 68 [.ref (H.length + 1) 0, .int .i64 0, .int .i64 0, .int .i64 1] (H ++ [.map (encM (oneA 1).nodes) 2, .var [.mapr H.length, .int .i64 1, .int .i64 0, .int .i64 0, .int .i64 0, .int .i64 2, .int .i64 0, .int .i64 0, .int .i64 0]]) (fun r H' => r = .int .i64 0 ∧ H' = H ++ [.map (encM (insNodes (oneA 1).nodes 0 1 rootN (madeN 1 1 tagP [] 0))) 2, .var [.mapr H.length, .int .i64 1, .int .i64 0, .int .i64 0, .int .i64 0, .int .i64 2, .int .i64 0, .int .i64 0, .int .i64 0]]) := SCall.mono (dInsert _ (H.length + 1) H.length (oneA 1) hA1 (ok_one 1) (by simp [oneA, arena8]) 0 1 rootN (madeN 1 1 tagP [] 0) rfl rfl (by simp [rootN]) (by simp [madeN]) (by omega) rfl rfl rfl (by simp [rootN]) (by omega)) fun r H' h => ⟨h.1, by rw [h.2]; simp; rfl⟩
  have hA2 : arenaAt (H ++ [.map (encM (insNodes (oneA 1).nodes 0 1 rootN (madeN 1 1 tagP [] 0))) 2, .var [.mapr H.length, .int .i64 1, .int .i64 0, .int .i64 0, .int .i64 0, .int .i64 2, .int .i64 0, .int .i64 0, .int .i64 0]]) (H.length + 1) H.length { oneA 1 with nodes := insNodes (oneA 1).nodes 0 1 rootN (madeN 1 1 tagP [] 0) } := ⟨by simp; rfl, by simp; rfl, rfl, rfl⟩
  have hN := dInside _ (H.length + 1) H.length { oneA 1 with nodes := insNodes (oneA 1).nodes 0 1 rootN (madeN 1 1 tagP [] 0) } hA2 (ok_ins (ok_one 1) okRoot (okN_made okP _ _ _ _) (by simp [rootN])) (by simp [insNodes, oneA, arena8, nset]) 1 0
  rw [show insideG { oneA 1 with nodes := insNodes (oneA 1).nodes 0 1 rootN (madeN 1 1 tagP [] 0) } 0 (({ oneA 1 with nodes := insNodes (oneA 1).nodes 0 1 rootN (madeN 1 1 tagP [] 0) } : Arena).nodes.length + 1) 1 [] = true from rfl] at hN
  refine SCall.of_good fun hH => ?_
  have hHk := HLt.add hH
  refine SCall.of_code Tok Try.func35 rfl Try.call35 (n := 31) rfl (by simp) (rs := [.tmp 0]) rfl ?_
  refine EWn.to ?_
  refine EWn.of_c Tok mixed (own := false) keep35 tab35 (by kernel_rfl) ?_
  (repeat (first | simp -dsimp only [zrDom51, xnils, xnilm, xrange, xmakeMap, xslice3, RB, TB, keep35, tab35, xindexAddr, xindex, xslice, xconvert, xlen, ewOp, FreeW, StabW, SameW, ChangeW, AddW, BaseW, limBytes, simprocAttr, ne_eq] | ((with_reducible refine Need.intro ?_ ?_); (first | trivial | exact ⟨_, rfl⟩ | exact ⟨[], (List.append_nil _).symm⟩ | omega | (simp; done) | (simp; omega) | exact ⟨by first | trivial | (simp; done), _, by first | rfl | (simp; rfl)⟩))))
  (first | refine SCall.then (aNew _) ?_ | refine SCall.thenA (aNew _) (by repeat (first | exact trivial | exact .inl (.inl rfl) | exact .inl (.inr ⟨_, rfl, rfl⟩) | exact .inl rfl | exact .inr ⟨_, rfl, rfl⟩ | refine .inr ⟨_, _, rfl, rfl, ?_⟩ | refine ⟨?_, ?_⟩)) ?_ | refine CallE.intro _ (aNew _) ?_ | refine CallE.introA (aNew _) (by repeat (first | exact trivial | exact .inl (.inl rfl) | exact .inl (.inr ⟨_, rfl, rfl⟩) | exact .inl rfl | exact .inr ⟨_, rfl, rfl⟩ | refine .inr ⟨_, _, rfl, rfl, ?_⟩ | refine ⟨?_, ?_⟩)) ?_ | refine CallE.intro _ (fun _ => aNew _) ?_ | refine CallE.intro _ (fun _ => SCall.arg (by repeat (first | exact trivial | exact .inl (.inl rfl) | exact .inl (.inr ⟨_, rfl, rfl⟩) | exact .inl rfl | exact .inr ⟨_, rfl, rfl⟩ | refine .inr ⟨_, _, rfl, rfl, ?_⟩ | refine ⟨?_, ?_⟩)) (aNew _)) ?_ | refine CallE2.intro _ _ (aNew _) ?_ | refine CallE2.intro _ _ (SCall.arg (by repeat (first | exact trivial | exact .inl (.inl rfl) | exact .inl (.inr ⟨_, rfl, rfl⟩) | exact .inl rfl | exact .inr ⟨_, rfl, rfl⟩ | refine .inr ⟨_, _, rfl, rfl, ?_⟩ | refine ⟨?_, ?_⟩)) (aNew _)) ?_)
  (repeat (first | simp -dsimp only [zrDom51, xnils, xnilm, xrange, xmakeMap, xslice3, RB, TB, keep35, tab35, xindexAddr, xindex, xslice, xconvert, xlen, ewOp, FreeW, StabW, SameW, ChangeW, AddW, BaseW, limBytes, simprocAttr, ne_eq] | ((with_reducible refine Need.intro ?_ ?_); (first | trivial | exact ⟨_, rfl⟩ | exact ⟨[], (List.append_nil _).symm⟩ | omega | (simp; done) | (simp; omega) | exact ⟨by first | trivial | (simp; done), _, by first | rfl | (simp; rfl)⟩))))
  (first | refine SCall.then (dRemove0 _ (H.length + 1) H.length newA hA0 ok0 rootN rfl) ?_ | refine SCall.thenA (dRemove0 _ (H.length + 1) H.length newA hA0 ok0 rootN rfl) (by repeat (first | exact trivial | exact .inl (.inl rfl) | exact .inl (.inr ⟨_, rfl, rfl⟩) | exact .inl rfl | exact .inr ⟨_, rfl, rfl⟩ | refine .inr ⟨_, _, rfl, rfl, ?_⟩ | refine ⟨?_, ?_⟩)) ?_ | refine CallE.intro _ (dRemove0 _ (H.length + 1) H.length newA hA0 ok0 rootN rfl) ?_ | refine CallE.introA (dRemove0 _ (H.length + 1) H.length newA hA0 ok0 rootN rfl) (by repeat (first | exact trivial | exact .inl (.inl rfl) | exact .inl (.inr ⟨_, rfl, rfl⟩) | exact .inl rfl | exact .inr ⟨_, rfl, rfl⟩ | refine .inr ⟨_, _, rfl, rfl, ?_⟩ | refine ⟨?_, ?_⟩)) ?_ | refine CallE.intro _ (fun _ => dRemove0 _ (H.length + 1) H.length newA hA0 ok0 rootN rfl) ?_ | refine CallE.intro _ (fun _ => SCall.arg (by repeat (first | exact trivial | exact .inl (.inl rfl) | exact .inl (.inr ⟨_, rfl, rfl⟩) | exact .inl rfl | exact .inr ⟨_, rfl, rfl⟩ | refine .inr ⟨_, _, rfl, rfl, ?_⟩ | refine ⟨?_, ?_⟩)) (dRemove0 _ (H.length + 1) H.length newA hA0 ok0 rootN rfl)) ?_ | refine CallE2.intro _ _ (dRemove0 _ (H.length + 1) H.length newA hA0 ok0 rootN rfl) ?_ | refine CallE2.intro _ _ (SCall.arg (by repeat (first | exact trivial | exact .inl (.inl rfl) | exact .inl (.inr ⟨_, rfl, rfl⟩) | exact .inl rfl | exact .inr ⟨_, rfl, rfl⟩ | refine .inr ⟨_, _, rfl, rfl, ?_⟩ | refine ⟨?_, ?_⟩)) (dRemove0 _ (H.length + 1) H.length newA hA0 ok0 rootN rfl)) ?_)
  (repeat (first | simp -dsimp only [zrDom51, xnils, xnilm, xrange, xmakeMap, xslice3, RB, TB, keep35, tab35, xindexAddr, xindex, xslice, xconvert, xlen, ewOp, FreeW, StabW, SameW, ChangeW, AddW, BaseW, limBytes, simprocAttr, ne_eq] | ((with_reducible refine Need.intro ?_ ?_); (first | trivial | exact ⟨_, rfl⟩ | exact ⟨[], (List.append_nil _).symm⟩ | omega | (simp; done) | (simp; omega) | exact ⟨by first | trivial | (simp; done), _, by first | rfl | (simp; rfl)⟩))))
  (first | refine SCall.then (mOf _ _ _) ?_ | refine SCall.thenA (mOf _ _ _) (by repeat (first | exact trivial | exact .inl (.inl rfl) | exact .inl (.inr ⟨_, rfl, rfl⟩) | exact .inl rfl | exact .inr ⟨_, rfl, rfl⟩ | refine .inr ⟨_, _, rfl, rfl, ?_⟩ | refine ⟨?_, ?_⟩)) ?_ | refine CallE.intro _ (mOf _ _ _) ?_ | refine CallE.introA (mOf _ _ _) (by repeat (first | exact trivial | exact .inl (.inl rfl) | exact .inl (.inr ⟨_, rfl, rfl⟩) | exact .inl rfl | exact .inr ⟨_, rfl, rfl⟩ | refine .inr ⟨_, _, rfl, rfl, ?_⟩ | refine ⟨?_, ?_⟩)) ?_ | refine CallE.intro _ (fun _ => mOf _ _ _) ?_ | refine CallE.intro _ (fun _ => SCall.arg (by repeat (first | exact trivial | exact .inl (.inl rfl) | exact .inl (.inr ⟨_, rfl, rfl⟩) | exact .inl rfl | exact .inr ⟨_, rfl, rfl⟩ | refine .inr ⟨_, _, rfl, rfl, ?_⟩ | refine ⟨?_, ?_⟩)) (mOf _ _ _)) ?_ | refine CallE2.intro _ _ (mOf _ _ _) ?_ | refine CallE2.intro _ _ (SCall.arg (by repeat (first | exact trivial | exact .inl (.inl rfl) | exact .inl (.inr ⟨_, rfl, rfl⟩) | exact .inl rfl | exact .inr ⟨_, rfl, rfl⟩ | refine .inr ⟨_, _, rfl, rfl, ?_⟩ | refine ⟨?_, ?_⟩)) (mOf _ _ _)) ?_)
  (repeat (first | simp -dsimp only [zrDom51, xnils, xnilm, xrange, xmakeMap, xslice3, strV, RB, TB, keep35, tab35, xindexAddr, xindex, xslice, xconvert, xlen, ewOp, FreeW, StabW, SameW, ChangeW, AddW, BaseW, limBytes, simprocAttr, ne_eq] | ((with_reducible refine Need.intro ?_ ?_); (first | trivial | exact ⟨_, rfl⟩ | exact ⟨[], (List.append_nil _).symm⟩ | omega | (simp; done) | (simp; omega) | exact ⟨by first | trivial | (simp; done), _, by first | rfl | (simp; rfl)⟩))))
  refine SCall.then hM ?_
  (repeat (first | simp -dsimp only [zrDom51, xnils, xnilm, xrange, xmakeMap, xslice3, RB, TB, keep35, tab35, xindexAddr, xindex, xslice, xconvert, xlen, ewOp, FreeW, StabW, SameW, ChangeW, AddW, BaseW, limBytes, simprocAttr, ne_eq] | ((with_reducible refine Need.intro ?_ ?_); (first | trivial | exact ⟨_, rfl⟩ | exact ⟨[], (List.append_nil _).symm⟩ | omega | (simp; done) | (simp; omega) | exact ⟨by first | trivial | (simp; done), _, by first | rfl | (simp; rfl)⟩))))
  refine SCall.then hI ?_
  (repeat (first | simp -dsimp only [zrDom51, xnils, xnilm, xrange, xmakeMap, xslice3, RB, TB, keep35, tab35, xindexAddr, xindex, xslice, xconvert, xlen, ewOp, FreeW, StabW, SameW, ChangeW, AddW, BaseW, limBytes, simprocAttr, ne_eq] | ((with_reducible refine Need.intro ?_ ?_); (first | trivial | exact ⟨_, rfl⟩ | exact ⟨[], (List.append_nil _).symm⟩ | omega | (simp; done) | (simp; omega) | exact ⟨by first | trivial | (simp; done), _, by first | rfl | (simp; rfl)⟩))))
  refine SCall.then hN ?_
  (repeat (first | simp -dsimp only [zrDom51, xnils, xnilm, xrange, xmakeMap, xslice3, RB, TB, keep35, tab35, xindexAddr, xindex, xslice, xconvert, xlen, ewOp, FreeW, StabW, SameW, ChangeW, AddW, BaseW, limBytes, simprocAttr, ne_eq] | ((with_reducible refine Need.intro ?_ ?_); (first | trivial | exact ⟨_, rfl⟩ | exact ⟨[], (List.append_nil _).symm⟩ | omega | (simp; done) | (simp; omega) | exact ⟨by first | trivial | (simp; done), _, by first | rfl | (simp; rfl)⟩))))
  refine RetW.auto0 false _ (by first | rfl | exact (List.append_nil _).symm) ?_ ?_
  · (simp (maxDischargeDepth := 6) [LTB, HLt_set, ltL_take, ltL_drop, ltL_rep, ltL_set, upd, eset, hH, hHk, zlDom51] <;> omega)
  (try simp only [wk, wk1, wk0, RB, limBytes, simprocAttr, ne_eq])
  (try (rw [List.take_of_length_le]; rotate_left 1; (· first | (simp; done) | (simp; omega) | omega)))
end Go.Proofs.Ytjplgbalpnlanaa

/- The example of chapter 29. -/
import Derived.Test.YtjplgbalpnlanaaRoute3
import Derived.Test.YtjplgbalpnlanaaDom5
set_option maxHeartbeats 600000
set_option linter.unusedSimpArgs false
set_option linter.unusedVariables false
set_option maxRecDepth 100000
namespace Go.Proofs.Ytjplgbalpnlanaa
open Go Go.EL
theorem zrRoute41 : type_of% (And.intro (And.intro (And.intro (And.intro (@st_run) (And.intro (@sz_run) (@st1_run))) (And.intro (And.intro (@cl_run) (@st_Str)) (And.intro (@sz_Str) (@st1_Str)))) (And.intro (And.intro (@cl_Str) (And.intro (@st_c) (@sz_c))) (And.intro (And.intro (@st1_c) (@cl_c)) (And.intro (@st_attr) (@sz_attr))))) (And.intro (And.intro (And.intro (@st1_attr) (And.intro (@cl_attr) (@st_hook))) (And.intro (And.intro (@sz_hook) (@st1_hook)) (And.intro (@cl_hook) (@st_node)))) (And.intro (And.intro (@sz_node) (And.intro (@st1_node) (@cl_node))) (And.intro (And.intro (@st_callr) (@sz_callr)) (And.intro (@st1_callr) (@cl_callr)))))) := And.intro (And.intro (And.intro (And.intro (@st_run) (And.intro (@sz_run) (@st1_run))) (And.intro (And.intro (@cl_run) (@st_Str)) (And.intro (@sz_Str) (@st1_Str)))) (And.intro (And.intro (@cl_Str) (And.intro (@st_c) (@sz_c))) (And.intro (And.intro (@st1_c) (@cl_c)) (And.intro (@st_attr) (@sz_attr))))) (And.intro (And.intro (And.intro (@st1_attr) (And.intro (@cl_attr) (@st_hook))) (And.intro (And.intro (@sz_hook) (@st1_hook)) (And.intro (@cl_hook) (@st_node)))) (And.intro (And.intro (@sz_node) (And.intro (@st1_node) (@cl_node))) (And.intro (And.intro (@st_callr) (@sz_callr)) (And.intro (@st1_callr) (@cl_callr)))))
theorem zlRoute41 : type_of% (And.intro (And.intro (And.intro (And.intro (@lt_vi) (And.intro (@lt_str) (@lt_vb))) (And.intro (@ltc_str) (And.intro (@ltc_vi) (@lt_run)))) (And.intro (And.intro (@lt1_run) (And.intro (@ltc_run) (@lt_Str))) (And.intro (And.intro (@lt1_Str) (@ltc_Str)) (And.intro (@lt_c) (@lt1_c))))) (And.intro (And.intro (And.intro (@ltc_c) (And.intro (@lt_attr) (@lt1_attr))) (And.intro (@ltc_attr) (And.intro (@lt_hook) (@lt1_hook)))) (And.intro (And.intro (@ltc_hook) (And.intro (@lt_node) (@lt1_node))) (And.intro (And.intro (@ltc_node) (@lt_callr)) (And.intro (@lt1_callr) (@ltc_callr)))))) := And.intro (And.intro (And.intro (And.intro (@lt_vi) (And.intro (@lt_str) (@lt_vb))) (And.intro (@ltc_str) (And.intro (@ltc_vi) (@lt_run)))) (And.intro (And.intro (@lt1_run) (And.intro (@ltc_run) (@lt_Str))) (And.intro (And.intro (@lt1_Str) (@ltc_Str)) (And.intro (@lt_c) (@lt1_c))))) (And.intro (And.intro (And.intro (@ltc_c) (And.intro (@lt_attr) (@lt1_attr))) (And.intro (@ltc_attr) (And.intro (@lt_hook) (@lt1_hook)))) (And.intro (And.intro (@ltc_hook) (And.intro (@lt_node) (@lt1_node))) (And.intro (And.intro (@ltc_node) (@lt_callr)) (And.intro (@lt1_callr) (@ltc_callr)))))
/-- a new arena with one node in the root -/
def inA : Arena := { oneA 1 with nodes := insNodes (oneA 1).nodes 0 1 rootN (madeN 1 1 tagP [] 0) }
def inW : Node := setN (madeN 1 1 tagP [] 0) (parN (madeN 1 1 tagP [] 0) 0)
/-- .. that has a hook -/
def hookA : Arena := { inA with nodes := nset inA.nodes 1 (setN inW { ownN inW with hooks := [⟨2, false, 7⟩] }) }
theorem ok_in : ∀ p ∈ inA.nodes, okN p.2.2 := ok_ins (ok_one 1) okRoot (okN_made okP _ _ _ _) (by simp [rootN])
theorem okInW : okN inW := okN_set (okN_made okP _ _ _ _) (okN_par (okN_made okP _ _ _ _) _)
theorem ok_hook : ∀ p ∈ hookA.nodes, okN p.2.2 := ok_nset (okN_set okInW (by
  obtain ⟨o1, o2, o3, o4, o5, o6⟩ := okN_own okInW
  exact ⟨o1, o2, o3, o4, by simp, o6⟩)) ok_in
theorem hook_path : rPathG hookA 2 1 = [0, 1] := rfl
theorem hook_calls : callsG hookA 2 [0, 1] = [⟨0, 7, 1, 2⟩] := rfl
theorem hook_keys : Keyed hookA.nodes := by
  intro p hp
  have hp : p ∈ [((0 : Int), (0 : Nat), setN rootN (kidN rootN 1)), (1, 1, setN inW { ownN inW with hooks := [⟨2, false, 7⟩] })] := hp
  simp only [List.mem_cons, List.not_mem_nil, or_false] at hp
  rcases hp with rfl | rfl <;> rfl
theorem hook_deep : deepG hookA 2 0 := by
  intro n hn c hc
  have hn : some (setN rootN (kidN rootN 1)) = some n := hn
  injection hn with hn
  subst hn
  have hc : c ∈ [(1 : Int)] := hc
  simp only [List.mem_singleton] at hc
  subst hc
  intro n hn c hc
  have hn : some (setN inW { ownN inW with hooks := [⟨2, false, 7⟩] }) = some n := hn
  injection hn with hn
  subst hn
  have hc : c ∈ ([] : List Int) := hc
  cases hc
theorem alive29 (H : List Ob) : SCall Try.prog 59 [] H (fun r H' => r = .bool true ∧ H' = H) := by
  have hA0 : arenaAt (H ++ [.map (encM newA.nodes) 1, .var (.mapr H.length :: (newA.used.map vi ++ newA.live.map vi))]) (H.length + 1) H.length newA := ⟨by simp, by simp; rfl, rfl, rfl⟩
  have hM : SCall Try.prog 37 [.ref (H.length + 1) 0, .int .i64 0, .int .i64 1, strV tagP, .str [], .int .i64 0] (H ++ [.map (encM newA.nodes) 1, .var (.mapr H.length :: (newA.used.map vi ++ newA.live.map vi))]) (fun r H' => r = .tuple [.int .i64 1, .int .i64 0] ∧ H' = H ++ [.map (encM (oneA 1).nodes) 2, .var [.mapr H.length, .int .i64 1, .int .i64 0, .int .i64 0, .int .i64 0, .int .i64 2, .int .i64 0, .int .i64 0, .int .i64 0]]) := SCall.mono (aMake0 (H ++ [.map (encM newA.nodes) 1, .var (.mapr H.length :: (newA.used.map vi ++ newA.live.map vi))]) (H.length + 1) H.length newA.nodes 1 0 0 0 0 1 0 0 0 hA0 (by omega) (by omega) (by omega) (by omega) 1 ⟨by omega, by omega⟩ tagP okP [] 0 rfl (by omega)) fun r H' h => ⟨h.1, by rw [h.2]; simp; rfl⟩
  have hA1 : arenaAt (H ++ [.map (encM (oneA 1).nodes) 2, .var [.mapr H.length, .int .i64 1, .int .i64 0, .int .i64 0, .int .i64 0, .int .i64 2, .int .i64 0, .int .i64 0, .int .i64 0]]) (H.length + 1) H.length (oneA 1) := ⟨by simp; rfl, by simp; rfl, rfl, rfl⟩
  have hI : SCall Try.prog 68 [.ref (H.length + 1) 0, .int .i64 0, .int .i64 0, .int .i64 1] (H ++ [.map (encM (oneA 1).nodes) 2, .var [.mapr H.length, .int .i64 1, .int .i64 0, .int .i64 0, .int .i64 0, .int .i64 2, .int .i64 0, .int .i64 0, .int .i64 0]]) (fun r H' => r = .int .i64 0 ∧ H' = H ++ [.map (encM inA.nodes) 2, .var [.mapr H.length, .int .i64 1, .int .i64 0, .int .i64 0, .int .i64 0, .int .i64 2, .int .i64 0, .int .i64 0, .int .i64 0]]) := SCall.mono (dInsert _ (H.length + 1) H.length (oneA 1) hA1 (ok_one 1) (by simp [oneA, arena8]) 0 1 rootN (madeN 1 1 tagP [] 0) rfl rfl (by simp [rootN]) (by simp [madeN]) (by omega) rfl rfl rfl (by simp [rootN]) (by omega)) fun r H' h => ⟨h.1, by rw [h.2]; simp; exact ⟨rfl, rfl⟩⟩
  have hA2 : arenaAt (H ++ [.map (encM inA.nodes) 2, .var [.mapr H.length, .int .i64 1, .int .i64 0, .int .i64 0, .int .i64 0, .int .i64 2, .int .i64 0, .int .i64 0, .int .i64 0]]) (H.length + 1) H.length inA := ⟨by simp; rfl, by simp; rfl, rfl, rfl⟩
  have hS : SCall Try.prog 39 [.ref (H.length + 1) 0, .int .i64 1, .slice ([(⟨2, false, 7⟩ : Hook)].map hookV)] (H ++ [.map (encM inA.nodes) 2, .var [.mapr H.length, .int .i64 1, .int .i64 0, .int .i64 0, .int .i64 0, .int .i64 2, .int .i64 0, .int .i64 0, .int .i64 0]]) (fun r H' => r = .int .i64 0 ∧ H' = H ++ [.map (encM hookA.nodes) 2, .var [.mapr H.length, .int .i64 1, .int .i64 0, .int .i64 0, .int .i64 0, .int .i64 2, .int .i64 0, .int .i64 0, .int .i64 0]]) := SCall.mono (dSetHooks _ (H.length + 1) H.length inA hA2 ok_in 1 [⟨2, false, 7⟩] (by simp) inW rfl rfl rfl) fun r H' h => ⟨h.1, by rw [h.2]; simp; exact ⟨rfl, rfl⟩⟩
  have hA3 : arenaAt (H ++ [.map (encM hookA.nodes) 2, .var [.mapr H.length, .int .i64 1, .int .i64 0, .int .i64 0, .int .i64 0, .int .i64 2, .int .i64 0, .int .i64 0, .int .i64 0]]) (H.length + 1) H.length hookA := ⟨by simp; rfl, by simp; rfl, rfl, rfl⟩
  have hC := rCalls _ (H.length + 1) H.length hookA hA3 ok_hook (by simp [hookA, inA, insNodes, oneA, arena8, nset]) hook_keys 2 hook_deep (by show ([0, 1] : List Int).length ≤ _; simp) 1 2 rfl (fun p hp => by
    have hp : p ∈ [((0 : Int), (0 : Nat), setN rootN (kidN rootN 1)), (1, 1, setN inW { ownN inW with hooks := [⟨2, false, 7⟩] })] := hp
    simp only [List.mem_cons, List.not_mem_nil, or_false] at hp
    rcases hp with rfl | rfl <;> simp [setN, kidN, ownN, rootN]) (by rw [hook_path]; simp)
  rw [hook_path, hook_calls] at hC
  refine SCall.of_good fun hH => ?_
  have hHk := HLt.add hH
  refine SCall.of_code Tok Try.func59 rfl Try.call59 (n := 44) rfl (by simp) (rs := [.tmp 0]) rfl ?_
  refine EWn.to ?_
  refine EWn.of_c Tok mixed (own := false) keep59 tab59 (by kernel_rfl) ?_
  (repeat (first | simp -dsimp only [zrRoute41, xnils, xnilm, xrange, xmakeMap, xslice3, RB, TB, keep59, tab59, xindexAddr, xindex, xslice, xconvert, xlen, ewOp, FreeW, StabW, SameW, ChangeW, AddW, BaseW, limBytes, simprocAttr, ne_eq] | ((with_reducible refine Need.intro ?_ ?_); (first | trivial | exact ⟨_, rfl⟩ | exact ⟨[], (List.append_nil _).symm⟩ | omega | (simp; done) | (simp; omega) | exact ⟨by first | trivial | (simp; done), _, by first | rfl | (simp; rfl)⟩))))
  (first | refine SCall.then (aNew _) ?_ | refine SCall.thenA (aNew _) (by repeat (first | exact trivial | exact .inl (.inl rfl) | exact .inl (.inr ⟨_, rfl, rfl⟩) | exact .inl rfl | exact .inr ⟨_, rfl, rfl⟩ | refine .inr ⟨_, _, rfl, rfl, ?_⟩ | refine ⟨?_, ?_⟩)) ?_ | refine CallE.intro _ (aNew _) ?_ | refine CallE.introA (aNew _) (by repeat (first | exact trivial | exact .inl (.inl rfl) | exact .inl (.inr ⟨_, rfl, rfl⟩) | exact .inl rfl | exact .inr ⟨_, rfl, rfl⟩ | refine .inr ⟨_, _, rfl, rfl, ?_⟩ | refine ⟨?_, ?_⟩)) ?_ | refine CallE.intro _ (fun _ => aNew _) ?_ | refine CallE.intro _ (fun _ => SCall.arg (by repeat (first | exact trivial | exact .inl (.inl rfl) | exact .inl (.inr ⟨_, rfl, rfl⟩) | exact .inl rfl | exact .inr ⟨_, rfl, rfl⟩ | refine .inr ⟨_, _, rfl, rfl, ?_⟩ | refine ⟨?_, ?_⟩)) (aNew _)) ?_ | refine CallE2.intro _ _ (aNew _) ?_ | refine CallE2.intro _ _ (SCall.arg (by repeat (first | exact trivial | exact .inl (.inl rfl) | exact .inl (.inr ⟨_, rfl, rfl⟩) | exact .inl rfl | exact .inr ⟨_, rfl, rfl⟩ | refine .inr ⟨_, _, rfl, rfl, ?_⟩ | refine ⟨?_, ?_⟩)) (aNew _)) ?_)
  (repeat (first | simp -dsimp only [zrRoute41, xnils, xnilm, xrange, xmakeMap, xslice3, RB, TB, keep59, tab59, xindexAddr, xindex, xslice, xconvert, xlen, ewOp, FreeW, StabW, SameW, ChangeW, AddW, BaseW, limBytes, simprocAttr, ne_eq] | ((with_reducible refine Need.intro ?_ ?_); (first | trivial | exact ⟨_, rfl⟩ | exact ⟨[], (List.append_nil _).symm⟩ | omega | (simp; done) | (simp; omega) | exact ⟨by first | trivial | (simp; done), _, by first | rfl | (simp; rfl)⟩))))
  (first | refine SCall.then (mOf _ _ _) ?_ | refine SCall.thenA (mOf _ _ _) (by repeat (first | exact trivial | exact .inl (.inl rfl) | exact .inl (.inr ⟨_, rfl, rfl⟩) | exact .inl rfl | exact .inr ⟨_, rfl, rfl⟩ | refine .inr ⟨_, _, rfl, rfl, ?_⟩ | refine ⟨?_, ?_⟩)) ?_ | refine CallE.intro _ (mOf _ _ _) ?_ | refine CallE.introA (mOf _ _ _) (by repeat (first | exact trivial | exact .inl (.inl rfl) | exact .inl (.inr ⟨_, rfl, rfl⟩) | exact .inl rfl | exact .inr ⟨_, rfl, rfl⟩ | refine .inr ⟨_, _, rfl, rfl, ?_⟩ | refine ⟨?_, ?_⟩)) ?_ | refine CallE.intro _ (fun _ => mOf _ _ _) ?_ | refine CallE.intro _ (fun _ => SCall.arg (by repeat (first | exact trivial | exact .inl (.inl rfl) | exact .inl (.inr ⟨_, rfl, rfl⟩) | exact .inl rfl | exact .inr ⟨_, rfl, rfl⟩ | refine .inr ⟨_, _, rfl, rfl, ?_⟩ | refine ⟨?_, ?_⟩)) (mOf _ _ _)) ?_ | refine CallE2.intro _ _ (mOf _ _ _) ?_ | refine CallE2.intro _ _ (SCall.arg (by repeat (first | exact trivial | exact .inl (.inl rfl) | exact .inl (.inr ⟨_, rfl, rfl⟩) | exact .inl rfl | exact .inr ⟨_, rfl, rfl⟩ | refine .inr ⟨_, _, rfl, rfl, ?_⟩ | refine ⟨?_, ?_⟩)) (mOf _ _ _)) ?_)
  (repeat (first | simp -dsimp only [zrRoute41, xnils, xnilm, xrange, xmakeMap, xslice3, strV, RB, TB, keep59, tab59, xindexAddr, xindex, xslice, xconvert, xlen, ewOp, FreeW, StabW, SameW, ChangeW, AddW, BaseW, limBytes, simprocAttr, ne_eq] | ((with_reducible refine Need.intro ?_ ?_); (first | trivial | exact ⟨_, rfl⟩ | exact ⟨[], (List.append_nil _).symm⟩ | omega | (simp; done) | (simp; omega) | exact ⟨by first | trivial | (simp; done), _, by first | rfl | (simp; rfl)⟩))))
  refine SCall.then hM ?_
  (repeat (first | simp -dsimp only [zrRoute41, xnils, xnilm, xrange, xmakeMap, xslice3, RB, TB, keep59, tab59, xindexAddr, xindex, xslice, xconvert, xlen, ewOp, FreeW, StabW, SameW, ChangeW, AddW, BaseW, limBytes, simprocAttr, ne_eq] | ((with_reducible refine Need.intro ?_ ?_); (first | trivial | exact ⟨_, rfl⟩ | exact ⟨[], (List.append_nil _).symm⟩ | omega | (simp; done) | (simp; omega) | exact ⟨by first | trivial | (simp; done), _, by first | rfl | (simp; rfl)⟩))))
  refine SCall.then hI ?_
  (repeat (first | simp -dsimp only [zrRoute41, xnils, xnilm, xrange, xmakeMap, xslice3, RB, TB, keep59, tab59, xindexAddr, xindex, xslice, xconvert, xlen, ewOp, FreeW, StabW, SameW, ChangeW, AddW, BaseW, limBytes, simprocAttr, ne_eq] | ((with_reducible refine Need.intro ?_ ?_); (first | trivial | exact ⟨_, rfl⟩ | exact ⟨[], (List.append_nil _).symm⟩ | omega | (simp; done) | (simp; omega) | exact ⟨by first | trivial | (simp; done), _, by first | rfl | (simp; rfl)⟩))))
  simp only [hookV, List.map_cons, List.map_nil] at hS
  (first | refine SCall.then (hS) ?_ | refine SCall.thenA (hS) (by repeat (first | exact trivial | exact .inl (.inl rfl) | exact .inl (.inr ⟨_, rfl, rfl⟩) | exact .inl rfl | exact .inr ⟨_, rfl, rfl⟩ | refine .inr ⟨_, _, rfl, rfl, ?_⟩ | refine ⟨?_, ?_⟩)) ?_ | refine CallE.intro _ (hS) ?_ | refine CallE.introA (hS) (by repeat (first | exact trivial | exact .inl (.inl rfl) | exact .inl (.inr ⟨_, rfl, rfl⟩) | exact .inl rfl | exact .inr ⟨_, rfl, rfl⟩ | refine .inr ⟨_, _, rfl, rfl, ?_⟩ | refine ⟨?_, ?_⟩)) ?_ | refine CallE.intro _ (fun _ => hS) ?_ | refine CallE.intro _ (fun _ => SCall.arg (by repeat (first | exact trivial | exact .inl (.inl rfl) | exact .inl (.inr ⟨_, rfl, rfl⟩) | exact .inl rfl | exact .inr ⟨_, rfl, rfl⟩ | refine .inr ⟨_, _, rfl, rfl, ?_⟩ | refine ⟨?_, ?_⟩)) (hS)) ?_ | refine CallE2.intro _ _ (hS) ?_ | refine CallE2.intro _ _ (SCall.arg (by repeat (first | exact trivial | exact .inl (.inl rfl) | exact .inl (.inr ⟨_, rfl, rfl⟩) | exact .inl rfl | exact .inr ⟨_, rfl, rfl⟩ | refine .inr ⟨_, _, rfl, rfl, ?_⟩ | refine ⟨?_, ?_⟩)) (hS)) ?_)
  (repeat (first | simp -dsimp only [zrRoute41, xnils, xnilm, xrange, xmakeMap, xslice3, RB, TB, keep59, tab59, xindexAddr, xindex, xslice, xconvert, xlen, ewOp, FreeW, StabW, SameW, ChangeW, AddW, BaseW, limBytes, simprocAttr, ne_eq] | ((with_reducible refine Need.intro ?_ ?_); (first | trivial | exact ⟨_, rfl⟩ | exact ⟨[], (List.append_nil _).symm⟩ | omega | (simp; done) | (simp; omega) | exact ⟨by first | trivial | (simp; done), _, by first | rfl | (simp; rfl)⟩))))
  refine SCall.then hC ?_
  (repeat (first | simp -dsimp only [zrRoute41, xnils, xnilm, xrange, xmakeMap, xslice3, callV, RB, TB, keep59, tab59, xindexAddr, xindex, xslice, xconvert, xlen, ewOp, FreeW, StabW, SameW, ChangeW, AddW, BaseW, limBytes, simprocAttr, ne_eq] | ((with_reducible refine Need.intro ?_ ?_); (first | trivial | exact ⟨_, rfl⟩ | exact ⟨[], (List.append_nil _).symm⟩ | omega | (simp; done) | (simp; omega) | exact ⟨by first | trivial | (simp; done), _, by first | rfl | (simp; rfl)⟩))))
  refine RetW.auto0 false _ (by first | rfl | exact (List.append_nil _).symm) ?_ ?_
  · (simp (maxDischargeDepth := 6) [LTB, HLt_set, ltL_take, ltL_drop, ltL_rep, ltL_set, upd, eset, hH, hHk, zlRoute41] <;> omega)
  (try simp only [wk, wk1, wk0, RB, limBytes, simprocAttr, ne_eq])
  (try (rw [List.take_of_length_le]; rotate_left 1; (· first | (simp; done) | (simp; omega) | omega)))
end Go.Proofs.Ytjplgbalpnlanaa

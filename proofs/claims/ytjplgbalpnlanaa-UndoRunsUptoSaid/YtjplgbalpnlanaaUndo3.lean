/- The walks of the law of undo: arenas with a text. -/
import Derived.Test.YtjplgbalpnlanaaDom5
import Derived.Test.YtjplgbalpnlanaaUndo2
set_option maxHeartbeats 600000
set_option linter.unusedSimpArgs false
set_option linter.unusedVariables false
set_option maxRecDepth 100000
namespace Go.Proofs.Ytjplgbalpnlanaa
open Go Go.EL
theorem zrUndo31 : type_of% (And.intro (And.intro (And.intro (And.intro (@st_run) (And.intro (@sz_run) (@st1_run))) (And.intro (@cl_run) (And.intro (@st_Str) (@sz_Str)))) (And.intro (And.intro (@st1_Str) (And.intro (@cl_Str) (@st_c))) (And.intro (@sz_c) (And.intro (@st1_c) (@cl_c))))) (And.intro (And.intro (And.intro (@st_attr) (And.intro (@sz_attr) (@st1_attr))) (And.intro (@cl_attr) (And.intro (@st_hook) (@sz_hook)))) (And.intro (And.intro (@st1_hook) (And.intro (@cl_hook) (@st_node))) (And.intro (@sz_node) (And.intro (@st1_node) (@cl_node)))))) := And.intro (And.intro (And.intro (And.intro (@st_run) (And.intro (@sz_run) (@st1_run))) (And.intro (@cl_run) (And.intro (@st_Str) (@sz_Str)))) (And.intro (And.intro (@st1_Str) (And.intro (@cl_Str) (@st_c))) (And.intro (@sz_c) (And.intro (@st1_c) (@cl_c))))) (And.intro (And.intro (And.intro (@st_attr) (And.intro (@sz_attr) (@st1_attr))) (And.intro (@cl_attr) (And.intro (@st_hook) (@sz_hook)))) (And.intro (And.intro (@st1_hook) (And.intro (@cl_hook) (@st_node))) (And.intro (@sz_node) (And.intro (@st1_node) (@cl_node)))))
theorem zlUndo31 : type_of% (And.intro (And.intro (And.intro (And.intro (@lt_vi) (@lt_str)) (And.intro (@lt_vb) (And.intro (@ltc_str) (@ltc_vi)))) (And.intro (And.intro (@lt_run) (And.intro (@lt1_run) (@ltc_run))) (And.intro (@lt_Str) (And.intro (@lt1_Str) (@ltc_Str))))) (And.intro (And.intro (And.intro (@lt_c) (And.intro (@lt1_c) (@ltc_c))) (And.intro (@lt_attr) (And.intro (@lt1_attr) (@ltc_attr)))) (And.intro (And.intro (@lt_hook) (And.intro (@lt1_hook) (@ltc_hook))) (And.intro (@lt_node) (And.intro (@lt1_node) (@ltc_node)))))) := And.intro (And.intro (And.intro (And.intro (@lt_vi) (@lt_str)) (And.intro (@lt_vb) (And.intro (@ltc_str) (@ltc_vi)))) (And.intro (And.intro (@lt_run) (And.intro (@lt1_run) (@ltc_run))) (And.intro (@lt_Str) (And.intro (@lt1_Str) (@ltc_Str))))) (And.intro (And.intro (And.intro (@lt_c) (And.intro (@lt1_c) (@ltc_c))) (And.intro (@lt_attr) (And.intro (@lt1_attr) (@ltc_attr)))) (And.intro (And.intro (@lt_hook) (And.intro (@lt1_hook) (@ltc_hook))) (And.intro (@lt_node) (And.intro (@lt1_node) (@ltc_node)))))
theorem dSetText (G : List Ob) (A m : Nat) (a : Arena) (h : arenaAt G A m a) (hok : ∀ p ∈ a.nodes, okN p.2.2) (id : Int) (s : Str) (hs : okS s) (n : Node) (hn : nget a.nodes id = some n) (hk : n.kind = 2) (hid : n.id = id) : SCall Try.prog 117 [.ref A 0, .int .i64 id, strV s] G (fun r H' => r = .int .i64 0 ∧ H' = G.set m (.map (encM (nset a.nodes id (setN n { ownN n with text := fixS s }))) a.clock)) := by
  have e : ofF a id 2 = (ownN n, 0) := by simp [ofF, hn, hk]
  obtain ⟨p, hp, hp2⟩ := nget_mem hn
  have hokn : okN n := hp2 ▸ hok p hp
  have ho := okN_own hokn
  have lm : m < G.length := (List.getElem?_eq_some_iff.1 h.2.1).1
  refine SCall.of_good fun hH => ?_
  have hHk := HLt.add hH
  refine SCall.of_code Tok Try.func117 rfl Try.call117 (n := 24) rfl (by simp) (rs := [.tmp 6]) rfl ?_
  refine EWn.to ?_
  refine EWn.of_c Tok mixed (own := false) keep117 tab117 (by kernel_rfl) ?_
  (repeat (first | simp -dsimp only [zrUndo31, xnils, xnilm, xrange, xmakeMap, xslice3, strV, RB, TB, keep117, tab117, xindexAddr, xindex, xslice, xconvert, xlen, ewOp, FreeW, StabW, SameW, ChangeW, AddW, BaseW, limBytes, simprocAttr, ne_eq] | ((with_reducible refine Need.intro ?_ ?_); (first | trivial | exact ⟨_, rfl⟩ | exact ⟨[], (List.append_nil _).symm⟩ | omega | (simp; done) | (simp; omega) | exact ⟨by first | trivial | (simp; done), _, by first | rfl | (simp; rfl)⟩))))
  (first | refine SCall.then (dOf _ A m a (arena_app h _) hok id 2) ?_ | refine SCall.thenA (dOf _ A m a (arena_app h _) hok id 2) (by repeat (first | exact trivial | exact .inl (.inl rfl) | exact .inl (.inr ⟨_, rfl, rfl⟩) | exact .inl rfl | exact .inr ⟨_, rfl, rfl⟩ | refine .inr ⟨_, _, rfl, rfl, ?_⟩ | refine ⟨?_, ?_⟩)) ?_ | refine CallE.intro _ (dOf _ A m a (arena_app h _) hok id 2) ?_ | refine CallE.introA (dOf _ A m a (arena_app h _) hok id 2) (by repeat (first | exact trivial | exact .inl (.inl rfl) | exact .inl (.inr ⟨_, rfl, rfl⟩) | exact .inl rfl | exact .inr ⟨_, rfl, rfl⟩ | refine .inr ⟨_, _, rfl, rfl, ?_⟩ | refine ⟨?_, ?_⟩)) ?_ | refine CallE.intro _ (fun _ => dOf _ A m a (arena_app h _) hok id 2) ?_ | refine CallE.intro _ (fun _ => SCall.arg (by repeat (first | exact trivial | exact .inl (.inl rfl) | exact .inl (.inr ⟨_, rfl, rfl⟩) | exact .inl rfl | exact .inr ⟨_, rfl, rfl⟩ | refine .inr ⟨_, _, rfl, rfl, ?_⟩ | refine ⟨?_, ?_⟩)) (dOf _ A m a (arena_app h _) hok id 2)) ?_ | refine CallE2.intro _ _ (dOf _ A m a (arena_app h _) hok id 2) ?_ | refine CallE2.intro _ _ (SCall.arg (by repeat (first | exact trivial | exact .inl (.inl rfl) | exact .inl (.inr ⟨_, rfl, rfl⟩) | exact .inl rfl | exact .inr ⟨_, rfl, rfl⟩ | refine .inr ⟨_, _, rfl, rfl, ?_⟩ | refine ⟨?_, ?_⟩)) (dOf _ A m a (arena_app h _) hok id 2)) ?_)
  (repeat (first | simp -dsimp only [zrUndo31, xnils, xnilm, xrange, xmakeMap, xslice3, nodeV, e, strV, RB, TB, keep117, tab117, xindexAddr, xindex, xslice, xconvert, xlen, ewOp, FreeW, StabW, SameW, ChangeW, AddW, BaseW, limBytes, simprocAttr, ne_eq] | ((with_reducible refine Need.intro ?_ ?_); (first | trivial | exact ⟨_, rfl⟩ | exact ⟨[], (List.append_nil _).symm⟩ | omega | (simp; done) | (simp; omega) | exact ⟨by first | trivial | (simp; done), _, by first | rfl | (simp; rfl)⟩))))
  (first | refine SCall.then (mFix _ s hs) ?_ | refine SCall.thenA (mFix _ s hs) (by repeat (first | exact trivial | exact .inl (.inl rfl) | exact .inl (.inr ⟨_, rfl, rfl⟩) | exact .inl rfl | exact .inr ⟨_, rfl, rfl⟩ | refine .inr ⟨_, _, rfl, rfl, ?_⟩ | refine ⟨?_, ?_⟩)) ?_ | refine CallE.intro _ (mFix _ s hs) ?_ | refine CallE.introA (mFix _ s hs) (by repeat (first | exact trivial | exact .inl (.inl rfl) | exact .inl (.inr ⟨_, rfl, rfl⟩) | exact .inl rfl | exact .inr ⟨_, rfl, rfl⟩ | refine .inr ⟨_, _, rfl, rfl, ?_⟩ | refine ⟨?_, ?_⟩)) ?_ | refine CallE.intro _ (fun _ => mFix _ s hs) ?_ | refine CallE.intro _ (fun _ => SCall.arg (by repeat (first | exact trivial | exact .inl (.inl rfl) | exact .inl (.inr ⟨_, rfl, rfl⟩) | exact .inl rfl | exact .inr ⟨_, rfl, rfl⟩ | refine .inr ⟨_, _, rfl, rfl, ?_⟩ | refine ⟨?_, ?_⟩)) (mFix _ s hs)) ?_ | refine CallE2.intro _ _ (mFix _ s hs) ?_ | refine CallE2.intro _ _ (SCall.arg (by repeat (first | exact trivial | exact .inl (.inl rfl) | exact .inl (.inr ⟨_, rfl, rfl⟩) | exact .inl rfl | exact .inr ⟨_, rfl, rfl⟩ | refine .inr ⟨_, _, rfl, rfl, ?_⟩ | refine ⟨?_, ?_⟩)) (mFix _ s hs)) ?_)
  (repeat (first | simp -dsimp only [zrUndo31, xnils, xnilm, xrange, xmakeMap, xslice3, nodeV, strV, RB, TB, keep117, tab117, xindexAddr, xindex, xslice, xconvert, xlen, ewOp, FreeW, StabW, SameW, ChangeW, AddW, BaseW, limBytes, simprocAttr, ne_eq] | ((with_reducible refine Need.intro ?_ ?_); (first | trivial | exact ⟨_, rfl⟩ | exact ⟨[], (List.append_nil _).symm⟩ | omega | (simp; done) | (simp; omega) | exact ⟨by first | trivial | (simp; done), _, by first | rfl | (simp; rfl)⟩))))
  have hx : nget a.nodes ({ ownN n with text := fixS s } : Node).id = some n := by show nget a.nodes n.id = _; rw [hid]; exact hn
  (first | refine SCall.then (aSet _ A m a (arena_app h _) { ownN n with text := fixS s } n hx ⟨ho.1, okS_fix hs, ho.2.2.1, ho.2.2.2.1, ho.2.2.2.2.1, ho.2.2.2.2.2⟩) ?_ | refine SCall.thenA (aSet _ A m a (arena_app h _) { ownN n with text := fixS s } n hx ⟨ho.1, okS_fix hs, ho.2.2.1, ho.2.2.2.1, ho.2.2.2.2.1, ho.2.2.2.2.2⟩) (by repeat (first | exact trivial | exact .inl (.inl rfl) | exact .inl (.inr ⟨_, rfl, rfl⟩) | exact .inl rfl | exact .inr ⟨_, rfl, rfl⟩ | refine .inr ⟨_, _, rfl, rfl, ?_⟩ | refine ⟨?_, ?_⟩)) ?_ | refine CallE.intro _ (aSet _ A m a (arena_app h _) { ownN n with text := fixS s } n hx ⟨ho.1, okS_fix hs, ho.2.2.1, ho.2.2.2.1, ho.2.2.2.2.1, ho.2.2.2.2.2⟩) ?_ | refine CallE.introA (aSet _ A m a (arena_app h _) { ownN n with text := fixS s } n hx ⟨ho.1, okS_fix hs, ho.2.2.1, ho.2.2.2.1, ho.2.2.2.2.1, ho.2.2.2.2.2⟩) (by repeat (first | exact trivial | exact .inl (.inl rfl) | exact .inl (.inr ⟨_, rfl, rfl⟩) | exact .inl rfl | exact .inr ⟨_, rfl, rfl⟩ | refine .inr ⟨_, _, rfl, rfl, ?_⟩ | refine ⟨?_, ?_⟩)) ?_ | refine CallE.intro _ (fun _ => aSet _ A m a (arena_app h _) { ownN n with text := fixS s } n hx ⟨ho.1, okS_fix hs, ho.2.2.1, ho.2.2.2.1, ho.2.2.2.2.1, ho.2.2.2.2.2⟩) ?_ | refine CallE.intro _ (fun _ => SCall.arg (by repeat (first | exact trivial | exact .inl (.inl rfl) | exact .inl (.inr ⟨_, rfl, rfl⟩) | exact .inl rfl | exact .inr ⟨_, rfl, rfl⟩ | refine .inr ⟨_, _, rfl, rfl, ?_⟩ | refine ⟨?_, ?_⟩)) (aSet _ A m a (arena_app h _) { ownN n with text := fixS s } n hx ⟨ho.1, okS_fix hs, ho.2.2.1, ho.2.2.2.1, ho.2.2.2.2.1, ho.2.2.2.2.2⟩)) ?_ | refine CallE2.intro _ _ (aSet _ A m a (arena_app h _) { ownN n with text := fixS s } n hx ⟨ho.1, okS_fix hs, ho.2.2.1, ho.2.2.2.1, ho.2.2.2.2.1, ho.2.2.2.2.2⟩) ?_ | refine CallE2.intro _ _ (SCall.arg (by repeat (first | exact trivial | exact .inl (.inl rfl) | exact .inl (.inr ⟨_, rfl, rfl⟩) | exact .inl rfl | exact .inr ⟨_, rfl, rfl⟩ | refine .inr ⟨_, _, rfl, rfl, ?_⟩ | refine ⟨?_, ?_⟩)) (aSet _ A m a (arena_app h _) { ownN n with text := fixS s } n hx ⟨ho.1, okS_fix hs, ho.2.2.1, ho.2.2.2.1, ho.2.2.2.2.1, ho.2.2.2.2.2⟩)) ?_)
  (repeat (first | simp -dsimp only [zrUndo31, xnils, xnilm, xrange, xmakeMap, xslice3, RB, TB, keep117, tab117, xindexAddr, xindex, xslice, xconvert, xlen, ewOp, FreeW, StabW, SameW, ChangeW, AddW, BaseW, limBytes, simprocAttr, ne_eq] | ((with_reducible refine Need.intro ?_ ?_); (first | trivial | exact ⟨_, rfl⟩ | exact ⟨[], (List.append_nil _).symm⟩ | omega | (simp; done) | (simp; omega) | exact ⟨by first | trivial | (simp; done), _, by first | rfl | (simp; rfl)⟩))))
  rw [show ({ ownN n with text := fixS s } : Node).id = id from hid]
  refine RetW.cutK false (G.set m (.map (encM (nset a.nodes id (setN n { ownN n with text := fixS s }))) a.clock)) _ (List.set_append_left _ _ lm) (by simp) ?_ ?_ ?_
  · rw [List.length_set]
    exact HLt_set hH (lt_encM _ _)
  · simp [okW, okW1, okW0, V.lt]
  · simp [wk, wk1, wk0]; rfl
/-- an arena with a text -/
def OfA (a : Arena) (t : List UInt8) : Prop := ∃ r w : Node, a = ⟨[(0, 0, r), (1, 1, w)], 2, [1, 0, 0, 0], [2, 0, 0, 0]⟩ ∧ okN r ∧ okN w ∧ r.id = 0 ∧ w.id = 1 ∧ r.kids = [1] ∧ w.kids = [] ∧ w.kind = 2 ∧ w.owner = 0 ∧ w.text.text = t
theorem OfA.own {a : Arena} {t : List UInt8} (h : OfA a t) : OfA (ownAr a) t := by
  obtain ⟨r, w, rfl, h1, h2, h3, h4, h5, h6, h7, h8, h9⟩ := h
  exact ⟨ownN r, ownN w, rfl, okN_own h1, okN_own h2, h3, h4, h5, h6, h7, h8, h9⟩
theorem OfA.ok {a : Arena} {t : List UInt8} (h : OfA a t) : okAr a := by
  obtain ⟨r, w, rfl, h1, h2, h3, h4, h5, h6, h7, h8, h9⟩ := h
  refine ⟨fun p hp => ?_, by simp, by simp, fun p hp => ?_⟩
  · simp only [List.mem_cons, List.not_mem_nil, or_false] at hp
    rcases hp with rfl | rfl
    · exact h1
    · exact h2
  · simp only [List.mem_cons, List.not_mem_nil, or_false] at hp
    rcases hp with rfl | rfl <;> simp
def strOf (t : List UInt8) : Str := ⟨t, rle (List.replicate t.length (near 0))⟩
theorem okOf {t : List UInt8} (h : t.length ≤ 2000000) : okS (strOf t) := ⟨by simp [strOf]; omega, by have := rle_len (List.replicate t.length (near 0)); simp [strOf] at this ⊢; omega⟩
def wordA : Arena := arena8 [(0, 0, rootN), (1, 1, madeN 1 2 zeroS [] 0)] 2 1 0 0 0 2 0 0 0
theorem okZero : okS zeroS := ⟨by simp [zeroS], by simp [zeroS]⟩
theorem ok_word : ∀ p ∈ wordA.nodes, okN p.2.2 := by
  intro p hp
  have hp : p ∈ [((0 : Int), (0 : Nat), rootN), (1, 1, madeN 1 2 zeroS [] 0)] := hp
  simp only [List.mem_cons, List.not_mem_nil, or_false] at hp
  rcases hp with rfl | rfl
  · exact okRoot
  · exact okN_made okZero _ _ _ _
theorem uOf (H : List Ob) (t : List UInt8) (ht : t.length ≤ 2000000) : SCall Try.prog 51 [.str t] H (fun r H' => r = .ref (H.length + 1) 0 ∧ ∃ a, OfA a t ∧ H' = H ++ [.map (encM a.nodes) 2, .var (.mapr H.length :: (a.used.map vi ++ a.live.map vi))]) := by
  have hA0 : arenaAt (H ++ [.map (encM newA.nodes) 1, .var (.mapr H.length :: (newA.used.map vi ++ newA.live.map vi))]) (H.length + 1) H.length newA := ⟨by simp, by simp; rfl, rfl, rfl⟩
  have hM : SCall Try.prog 37 [.ref (H.length + 1) 0, .int .i64 0, .int .i64 2, strV zeroS, .str [], .int .i64 0] (H ++ [.map (encM newA.nodes) 1, .var (.mapr H.length :: (newA.used.map vi ++ newA.live.map vi))]) (fun r H' => r = .tuple [.int .i64 1, .int .i64 0] ∧ H' = H ++ [.map (encM wordA.nodes) 2, .var [.mapr H.length, .int .i64 1, .int .i64 0, .int .i64 0, .int .i64 0, .int .i64 2, .int .i64 0, .int .i64 0, .int .i64 0]]) := SCall.mono (aMake0 (H ++ [.map (encM newA.nodes) 1, .var (.mapr H.length :: (newA.used.map vi ++ newA.live.map vi))]) (H.length + 1) H.length newA.nodes 1 0 0 0 0 1 0 0 0 hA0 (by omega) (by omega) (by omega) (by omega) 2 ⟨by omega, by omega⟩ zeroS okZero [] 0 rfl (by omega)) fun r H' h => ⟨h.1, by rw [h.2]; simp; rfl⟩
  have hA1 : arenaAt (H ++ [.map (encM wordA.nodes) 2, .var [.mapr H.length, .int .i64 1, .int .i64 0, .int .i64 0, .int .i64 0, .int .i64 2, .int .i64 0, .int .i64 0, .int .i64 0]]) (H.length + 1) H.length wordA := ⟨by simp; rfl, by simp; rfl, rfl, rfl⟩
  obtain ⟨a2, ha2⟩ : ∃ a2 : Arena, a2 = { wordA with nodes := insNodes wordA.nodes 0 1 rootN (madeN 1 2 zeroS [] 0) } := ⟨_, rfl⟩
  have hI : SCall Try.prog 68 [.ref (H.length + 1) 0, .int .i64 0, .int .i64 0, .int .i64 1] (H ++ [.map (encM wordA.nodes) 2, .var [.mapr H.length, .int .i64 1, .int .i64 0, .int .i64 0, .int .i64 0, .int .i64 2, .int .i64 0, .int .i64 0, .int .i64 0]]) (fun r H' => r = .int .i64 0 ∧ H' = H ++ [.map (encM a2.nodes) 2, .var [.mapr H.length, .int .i64 1, .int .i64 0, .int .i64 0, .int .i64 0, .int .i64 2, .int .i64 0, .int .i64 0, .int .i64 0]]) := SCall.mono (dInsert _ (H.length + 1) H.length wordA hA1 ok_word (by simp [wordA, arena8]) 0 1 rootN (madeN 1 2 zeroS [] 0) rfl rfl (by simp [rootN]) (by simp [madeN]) (by omega) rfl rfl rfl (by simp [rootN]) (by omega)) fun r H' h => ⟨h.1, by rw [h.2, ha2]; simp; rfl⟩
  have hA2 : arenaAt (H ++ [.map (encM a2.nodes) 2, .var [.mapr H.length, .int .i64 1, .int .i64 0, .int .i64 0, .int .i64 0, .int .i64 2, .int .i64 0, .int .i64 0, .int .i64 0]]) (H.length + 1) H.length a2 := by rw [ha2]; exact ⟨by simp; rfl, by simp; rfl, rfl, rfl⟩
  have ok2 : ∀ p ∈ a2.nodes, okN p.2.2 := by rw [ha2]; exact ok_ins ok_word okRoot (okN_made okZero _ _ _ _) (by simp [rootN])
  obtain ⟨w1, hw1⟩ : ∃ w1, w1 = setN (madeN 1 2 zeroS [] 0) (parN (madeN 1 2 zeroS [] 0) 0) := ⟨_, rfl⟩
  have hn2 : nget a2.nodes 1 = some w1 := by rw [ha2, hw1]; rfl
  obtain ⟨a3, ha3⟩ : ∃ a3 : Arena, a3 = { a2 with nodes := nset a2.nodes 1 (setN w1 { ownN w1 with text := fixS (strOf t) }) } := ⟨_, rfl⟩
  have okw : okN w1 := by rw [hw1]; exact okN_set (okN_made okZero _ _ _ _) (okN_par (okN_made okZero _ _ _ _) _)
  have hS : SCall Try.prog 117 [.ref (H.length + 1) 0, .int .i64 1, strV (strOf t)] (H ++ [.map (encM a2.nodes) 2, .var [.mapr H.length, .int .i64 1, .int .i64 0, .int .i64 0, .int .i64 0, .int .i64 2, .int .i64 0, .int .i64 0, .int .i64 0]]) (fun r H' => r = .int .i64 0 ∧ H' = H ++ [.map (encM a3.nodes) 2, .var [.mapr H.length, .int .i64 1, .int .i64 0, .int .i64 0, .int .i64 0, .int .i64 2, .int .i64 0, .int .i64 0, .int .i64 0]]) := SCall.mono (dSetText _ (H.length + 1) H.length a2 hA2 ok2 1 (strOf t) (okOf ht) w1 hn2 (by rw [hw1]; rfl) (by rw [hw1]; rfl)) fun r H' h => ⟨h.1, by rw [h.2, ha3, ha2]; simp; rfl⟩
  have hof : OfA a3 t := by
    refine ⟨setN rootN (kidN rootN 1), setN w1 { ownN w1 with text := fixS (strOf t) }, by rw [ha3, ha2]; rfl, okN_set okRoot (okN_kid okRoot (by simp [rootN]) _), okN_set okw ?_, rfl, by rw [hw1]; rfl, rfl, by rw [hw1]; rfl, by rw [hw1]; rfl, by rw [hw1]; rfl, rfl⟩
    obtain ⟨o1, o2, o3, o4, o5, o6⟩ := okN_own okw
    exact ⟨o1, okS_fix (okOf ht), o3, o4, o5, o6⟩
  refine SCall.of_good fun hH => ?_
  have hHk := HLt.add hH
  refine SCall.of_code Tok Try.func51 rfl Try.call51 (n := 22) rfl (by simp) (rs := [.tmp 2]) rfl ?_
  refine EWn.to ?_
  refine EWn.of_c Tok mixed (own := false) keep51 tab51 (by kernel_rfl) ?_
  (repeat (first | simp -dsimp only [zrUndo31, xnils, xnilm, xrange, xmakeMap, xslice3, RB, TB, keep51, tab51, xindexAddr, xindex, xslice, xconvert, xlen, ewOp, FreeW, StabW, SameW, ChangeW, AddW, BaseW, limBytes, simprocAttr, ne_eq] | ((with_reducible refine Need.intro ?_ ?_); (first | trivial | exact ⟨_, rfl⟩ | exact ⟨[], (List.append_nil _).symm⟩ | omega | (simp; done) | (simp; omega) | exact ⟨by first | trivial | (simp; done), _, by first | rfl | (simp; rfl)⟩))))
  (first | refine SCall.then (aNew _) ?_ | refine SCall.thenA (aNew _) (by repeat (first | exact trivial | exact .inl (.inl rfl) | exact .inl (.inr ⟨_, rfl, rfl⟩) | exact .inl rfl | exact .inr ⟨_, rfl, rfl⟩ | refine .inr ⟨_, _, rfl, rfl, ?_⟩ | refine ⟨?_, ?_⟩)) ?_ | refine CallE.intro _ (aNew _) ?_ | refine CallE.introA (aNew _) (by repeat (first | exact trivial | exact .inl (.inl rfl) | exact .inl (.inr ⟨_, rfl, rfl⟩) | exact .inl rfl | exact .inr ⟨_, rfl, rfl⟩ | refine .inr ⟨_, _, rfl, rfl, ?_⟩ | refine ⟨?_, ?_⟩)) ?_ | refine CallE.intro _ (fun _ => aNew _) ?_ | refine CallE.intro _ (fun _ => SCall.arg (by repeat (first | exact trivial | exact .inl (.inl rfl) | exact .inl (.inr ⟨_, rfl, rfl⟩) | exact .inl rfl | exact .inr ⟨_, rfl, rfl⟩ | refine .inr ⟨_, _, rfl, rfl, ?_⟩ | refine ⟨?_, ?_⟩)) (aNew _)) ?_ | refine CallE2.intro _ _ (aNew _) ?_ | refine CallE2.intro _ _ (SCall.arg (by repeat (first | exact trivial | exact .inl (.inl rfl) | exact .inl (.inr ⟨_, rfl, rfl⟩) | exact .inl rfl | exact .inr ⟨_, rfl, rfl⟩ | refine .inr ⟨_, _, rfl, rfl, ?_⟩ | refine ⟨?_, ?_⟩)) (aNew _)) ?_)
  (repeat (first | simp -dsimp only [zrUndo31, xnils, xnilm, xrange, xmakeMap, xslice3, RB, TB, keep51, tab51, xindexAddr, xindex, xslice, xconvert, xlen, ewOp, FreeW, StabW, SameW, ChangeW, AddW, BaseW, limBytes, simprocAttr, ne_eq] | ((with_reducible refine Need.intro ?_ ?_); (first | trivial | exact ⟨_, rfl⟩ | exact ⟨[], (List.append_nil _).symm⟩ | omega | (simp; done) | (simp; omega) | exact ⟨by first | trivial | (simp; done), _, by first | rfl | (simp; rfl)⟩))))
  refine SCall.mono (SCall.arg (args' := [.ref (H.length + 1) 0, .int .i64 0, .int .i64 2, strV zeroS, .str [], .int .i64 0]) ?_ hM) ?_
  · exact ⟨.inl (.inl rfl), .inl (.inl rfl), .inl (.inl rfl), .inr ⟨_, _, rfl, rfl, .inl rfl, .inr ⟨_, rfl, rfl⟩, trivial⟩, .inl (.inl rfl), .inl (.inl rfl), trivial⟩
  rintro _ _ ⟨rfl, rfl⟩
  (repeat (first | simp -dsimp only [zrUndo31, xnils, xnilm, xrange, xmakeMap, xslice3, RB, TB, keep51, tab51, xindexAddr, xindex, xslice, xconvert, xlen, ewOp, FreeW, StabW, SameW, ChangeW, AddW, BaseW, limBytes, simprocAttr, ne_eq] | ((with_reducible refine Need.intro ?_ ?_); (first | trivial | exact ⟨_, rfl⟩ | exact ⟨[], (List.append_nil _).symm⟩ | omega | (simp; done) | (simp; omega) | exact ⟨by first | trivial | (simp; done), _, by first | rfl | (simp; rfl)⟩))))
  refine SCall.then hI ?_
  (repeat (first | simp -dsimp only [zrUndo31, xnils, xnilm, xrange, xmakeMap, xslice3, RB, TB, keep51, tab51, xindexAddr, xindex, xslice, xconvert, xlen, ewOp, FreeW, StabW, SameW, ChangeW, AddW, BaseW, limBytes, simprocAttr, ne_eq] | ((with_reducible refine Need.intro ?_ ?_); (first | trivial | exact ⟨_, rfl⟩ | exact ⟨[], (List.append_nil _).symm⟩ | omega | (simp; done) | (simp; omega) | exact ⟨by first | trivial | (simp; done), _, by first | rfl | (simp; rfl)⟩))))
  (first | refine SCall.then (mOf _ _ _) ?_ | refine SCall.thenA (mOf _ _ _) (by repeat (first | exact trivial | exact .inl (.inl rfl) | exact .inl (.inr ⟨_, rfl, rfl⟩) | exact .inl rfl | exact .inr ⟨_, rfl, rfl⟩ | refine .inr ⟨_, _, rfl, rfl, ?_⟩ | refine ⟨?_, ?_⟩)) ?_ | refine CallE.intro _ (mOf _ _ _) ?_ | refine CallE.introA (mOf _ _ _) (by repeat (first | exact trivial | exact .inl (.inl rfl) | exact .inl (.inr ⟨_, rfl, rfl⟩) | exact .inl rfl | exact .inr ⟨_, rfl, rfl⟩ | refine .inr ⟨_, _, rfl, rfl, ?_⟩ | refine ⟨?_, ?_⟩)) ?_ | refine CallE.intro _ (fun _ => mOf _ _ _) ?_ | refine CallE.intro _ (fun _ => SCall.arg (by repeat (first | exact trivial | exact .inl (.inl rfl) | exact .inl (.inr ⟨_, rfl, rfl⟩) | exact .inl rfl | exact .inr ⟨_, rfl, rfl⟩ | refine .inr ⟨_, _, rfl, rfl, ?_⟩ | refine ⟨?_, ?_⟩)) (mOf _ _ _)) ?_ | refine CallE2.intro _ _ (mOf _ _ _) ?_ | refine CallE2.intro _ _ (SCall.arg (by repeat (first | exact trivial | exact .inl (.inl rfl) | exact .inl (.inr ⟨_, rfl, rfl⟩) | exact .inl rfl | exact .inr ⟨_, rfl, rfl⟩ | refine .inr ⟨_, _, rfl, rfl, ?_⟩ | refine ⟨?_, ?_⟩)) (mOf _ _ _)) ?_)
  (repeat (first | simp -dsimp only [zrUndo31, xnils, xnilm, xrange, xmakeMap, xslice3, strV, RB, TB, keep51, tab51, xindexAddr, xindex, xslice, xconvert, xlen, ewOp, FreeW, StabW, SameW, ChangeW, AddW, BaseW, limBytes, simprocAttr, ne_eq] | ((with_reducible refine Need.intro ?_ ?_); (first | trivial | exact ⟨_, rfl⟩ | exact ⟨[], (List.append_nil _).symm⟩ | omega | (simp; done) | (simp; omega) | exact ⟨by first | trivial | (simp; done), _, by first | rfl | (simp; rfl)⟩))))
  refine SCall.then hS ?_
  (repeat (first | simp -dsimp only [zrUndo31, xnils, xnilm, xrange, xmakeMap, xslice3, RB, TB, keep51, tab51, xindexAddr, xindex, xslice, xconvert, xlen, ewOp, FreeW, StabW, SameW, ChangeW, AddW, BaseW, limBytes, simprocAttr, ne_eq] | ((with_reducible refine Need.intro ?_ ?_); (first | trivial | exact ⟨_, rfl⟩ | exact ⟨[], (List.append_nil _).symm⟩ | omega | (simp; done) | (simp; omega) | exact ⟨by first | trivial | (simp; done), _, by first | rfl | (simp; rfl)⟩))))
  have hu : a3.used = [1, 0, 0, 0] ∧ a3.live = [2, 0, 0, 0] := by rw [ha3, ha2]; exact ⟨rfl, rfl⟩
  refine RetW.auto false [.map (encM a3.nodes) 2, .var [.mapr H.length, .int .i64 1, .int .i64 0, .int .i64 0, .int .i64 0, .int .i64 2, .int .i64 0, .int .i64 0, .int .i64 0]] _ (by first | rfl | simp) ?_ ?_ ?_
  · (simp (maxDischargeDepth := 6) [LTB, HLt_set, ltL_take, ltL_drop, ltL_rep, ltL_set, upd, eset, hH, hHk, lt_encM, zlUndo31] <;> omega)
  · (simp (maxDischargeDepth := 6) [LTB, HLt_set, ltL_take, ltL_drop, ltL_rep, ltL_set, upd, eset, hH, hHk, lt_encM, zlUndo31] <;> omega)
  (try simp only [wk, wk1, wk0, RB, limBytes, simprocAttr, ne_eq])
  (try (rw [List.take_of_length_le]; rotate_left 1; (· first | (simp; done) | (simp; omega) | omega)))
  exact ⟨a3, hof, by rw [hu.1, hu.2]; rfl⟩
theorem uFree (G : List Ob) (A m : Nat) (a : Arena) (h : arenaAt G A m a) (t : List UInt8) (hof : OfA a t) (hAm : A ≠ m) : SCall Try.prog 53 [.ref A 0, .int .i64 1] G (fun r H' => r = .int .i64 1 ∧ ∃ X Y L, H' = (G.set A X).set m Y ++ L) := by
  obtain ⟨r, w, rfl, h1, h2, h3, h4, h5, h6, h7, h8, h9⟩ := hof
  have hg : mget (encM [((0 : Int), (0 : Nat), r), (1, 1, w)]) 1 = some (nodeV w) := rfl
  have hd : mdel (encM [((0 : Int), (0 : Nat), r), (1, 1, w)]) 1 = encM [(0, 0, r)] := rfl
  have lA := (List.getElem?_eq_some_iff.1 h.1).1
  have lm := (List.getElem?_eq_some_iff.1 h.2.1).1
  have hK : ∀ K, (G ++ K)[A]? = some (.var [.mapr m, .int .i64 1, .int .i64 0, .int .i64 0, .int .i64 0, .int .i64 2, .int .i64 0, .int .i64 0, .int .i64 0]) := fun K => (arena_app h K).1
  have hM : ∀ K, (G ++ K)[m]? = some (.map (encM [(0, 0, r), (1, 1, w)]) 2) := fun K => (arena_app h K).2.1
  have hsM : ∀ (K : List Ob) (x : Ob), (G ++ K).set m x = G.set m x ++ K := fun K x => List.set_append_left _ _ lm
  have hgA : ∀ (K : List Ob) (x : Ob), (G.set m x ++ K)[A]? = some (.var [.mapr m, .int .i64 1, .int .i64 0, .int .i64 0, .int .i64 0, .int .i64 2, .int .i64 0, .int .i64 0, .int .i64 0]) := fun K x => by
    rw [List.getElem?_append_left (by simpa using lA), List.getElem?_set_ne (Ne.symm hAm)]; exact h.1
  have hsA : ∀ (K : List Ob) (x y : Ob), (G.set m x ++ K).set A y = (G.set m x).set A y ++ K := fun K x y => List.set_append_left _ _ (by simpa using lA)
  have hgB : ∀ (K : List Ob) (x y : Ob), ((G.set m x).set A y ++ K)[G.length]? = K[0]? := fun K x y => by rw [List.getElem?_append_right (by simp)]; simp
  refine SCall.of_good fun hH => ?_
  have hHk := HLt.add hH
  refine SCall.of_code Tok Try.func53 rfl Try.call53 (n := 53) rfl (by simp) (rs := [.tmp 4]) rfl ?_
  refine EWn.to ?_
  refine EWn.of_c Tok mixed (own := false) keep53 tab53 (by kernel_rfl) ?_
  (repeat (first | simp -dsimp only [zrUndo31, xnils, xnilm, xrange, xmakeMap, xslice3, RB, TB, keep53, tab53, xindexAddr, xindex, xslice, xconvert, xlen, ewOp, FreeW, StabW, SameW, ChangeW, AddW, BaseW, limBytes, simprocAttr, ne_eq] | ((with_reducible refine Need.intro ?_ ?_); (first | trivial | exact ⟨_, rfl⟩ | exact ⟨[], (List.append_nil _).symm⟩ | omega | (simp; done) | (simp; omega) | exact ⟨by first | trivial | (simp; done), _, by first | rfl | (simp; rfl)⟩))))
  (first | refine SCall.then (aHas _ A m _ h 1) ?_ | refine SCall.thenA (aHas _ A m _ h 1) (by repeat (first | exact trivial | exact .inl (.inl rfl) | exact .inl (.inr ⟨_, rfl, rfl⟩) | exact .inl rfl | exact .inr ⟨_, rfl, rfl⟩ | refine .inr ⟨_, _, rfl, rfl, ?_⟩ | refine ⟨?_, ?_⟩)) ?_ | refine CallE.intro _ (aHas _ A m _ h 1) ?_ | refine CallE.introA (aHas _ A m _ h 1) (by repeat (first | exact trivial | exact .inl (.inl rfl) | exact .inl (.inr ⟨_, rfl, rfl⟩) | exact .inl rfl | exact .inr ⟨_, rfl, rfl⟩ | refine .inr ⟨_, _, rfl, rfl, ?_⟩ | refine ⟨?_, ?_⟩)) ?_ | refine CallE.intro _ (fun _ => aHas _ A m _ h 1) ?_ | refine CallE.intro _ (fun _ => SCall.arg (by repeat (first | exact trivial | exact .inl (.inl rfl) | exact .inl (.inr ⟨_, rfl, rfl⟩) | exact .inl rfl | exact .inr ⟨_, rfl, rfl⟩ | refine .inr ⟨_, _, rfl, rfl, ?_⟩ | refine ⟨?_, ?_⟩)) (aHas _ A m _ h 1)) ?_ | refine CallE2.intro _ _ (aHas _ A m _ h 1) ?_ | refine CallE2.intro _ _ (SCall.arg (by repeat (first | exact trivial | exact .inl (.inl rfl) | exact .inl (.inr ⟨_, rfl, rfl⟩) | exact .inl rfl | exact .inr ⟨_, rfl, rfl⟩ | refine .inr ⟨_, _, rfl, rfl, ?_⟩ | refine ⟨?_, ?_⟩)) (aHas _ A m _ h 1)) ?_)
  (repeat (first | simp -dsimp only [zrUndo31, xnils, xnilm, xrange, xmakeMap, xslice3, nget, Option.isSome_some, h.1, h.2.1, hK, hM, hg, hd, nodeV, hsM, hgA, hsA, hgB, h8, h6, RB, TB, keep53, tab53, xindexAddr, xindex, xslice, xconvert, xlen, ewOp, FreeW, StabW, SameW, ChangeW, AddW, BaseW, limBytes, simprocAttr, ne_eq] | ((with_reducible refine Need.intro ?_ ?_); (first | trivial | exact ⟨_, rfl⟩ | exact ⟨[], (List.append_nil _).symm⟩ | omega | (simp; done) | (simp; omega) | exact ⟨by first | trivial | (simp; done), _, by first | rfl | (simp; rfl)⟩))))
  refine EWn.rounds 1 ?_
  show EWn _ _ _ _ _ _ _
  refine EWn.of_c Tok mixed (own := false) keep53 tab53 (by kernel_rfl) ?_
  (repeat (first | simp -dsimp only [zrUndo31, xnils, xnilm, xrange, xmakeMap, xslice3, RB, TB, keep53, tab53, xindexAddr, xindex, xslice, xconvert, xlen, ewOp, FreeW, StabW, SameW, ChangeW, AddW, BaseW, limBytes, simprocAttr, ne_eq] | ((with_reducible refine Need.intro ?_ ?_); (first | trivial | exact ⟨_, rfl⟩ | exact ⟨[], (List.append_nil _).symm⟩ | omega | (simp; done) | (simp; omega) | exact ⟨by first | trivial | (simp; done), _, by first | rfl | (simp; rfl)⟩))))
  have hx := lt_encM G.length [(0, 0, r)]
  refine RetW.keep false (by simp) ?_ (by simp [okW, okW1, okW0, V.lt]) ?_
  · rw [List.length_append, List.length_set, List.length_set, HLt_append]
    refine ⟨HLt_set (HLt_set (hHk _) (lt_encM _ _)) ?_, ?_⟩
    · simp only [Ob.lt, ltL, V.lt, and_true]; exact Nat.lt_of_lt_of_le lm (Nat.le_add_right _ _)
    · rw [HLt_cons]
      exact ⟨by simp only [Ob.lt, ltL, V.lt, and_true, true_and]; exact ⟨lt_run _ _, lt_attr _ _, lt_hook _ _, lt_run _ _⟩, HLt_nil⟩
  · exact ⟨by simp [wk, wk1, wk0], _, _, _, by rw [List.set_comm _ _ (Ne.symm hAm)]⟩
theorem sTree1 (G : List Ob) (A m : Nat) (a : Arena) (h : arenaAt G A m a) (t : List UInt8) (hof : OfA a t) (w : Node) (hn : nget a.nodes 1 = some w) : SCall Try.prog 162 [.ref A 0, .int .i64 1] G (fun r H' => r = .slice [.agg [.str [], .fslice [], .fslice [], .fslice [], .str t, .slice ((ownN w).text.runs.map runV)]] ∧ H' = G) := by
  have hok := hof.ok
  obtain ⟨r, w', ha, h1, h2, h3, h4, h5, h6, h7, h8, h9⟩ := hof
  have hw : w = w' := by rw [ha] at hn; have hn : some w' = some w := hn; injection hn with hn; exact hn.symm
  subst hw
  have hk : (ownN w).kind = 2 := h7
  have ht : (ownN w).text.text = t := h9
  refine SCall.of_good fun hH => ?_
  have hHk := HLt.add hH
  refine SCall.of_code Tok Try.func162 rfl Try.call162 (n := 43) rfl (by simp) (rs := [.tmp 4]) rfl ?_
  refine EWn.to ?_
  refine EWn.of_c Tok mixed (own := false) keep162 tab162 (by kernel_rfl) ?_
  (repeat (first | simp -dsimp only [zrUndo31, xnils, xnilm, xrange, xmakeMap, xslice3, RB, TB, keep162, tab162, xindexAddr, xindex, xslice, xconvert, xlen, ewOp, FreeW, StabW, SameW, ChangeW, AddW, BaseW, limBytes, simprocAttr, ne_eq] | ((with_reducible refine Need.intro ?_ ?_); (first | trivial | exact ⟨_, rfl⟩ | exact ⟨[], (List.append_nil _).symm⟩ | omega | (simp; done) | (simp; omega) | exact ⟨by first | trivial | (simp; done), _, by first | rfl | (simp; rfl)⟩))))
  (first | refine SCall.then (aGetS _ A m a h hok.nodes 1 w hn) ?_ | refine SCall.thenA (aGetS _ A m a h hok.nodes 1 w hn) (by repeat (first | exact trivial | exact .inl (.inl rfl) | exact .inl (.inr ⟨_, rfl, rfl⟩) | exact .inl rfl | exact .inr ⟨_, rfl, rfl⟩ | refine .inr ⟨_, _, rfl, rfl, ?_⟩ | refine ⟨?_, ?_⟩)) ?_ | refine CallE.intro _ (aGetS _ A m a h hok.nodes 1 w hn) ?_ | refine CallE.introA (aGetS _ A m a h hok.nodes 1 w hn) (by repeat (first | exact trivial | exact .inl (.inl rfl) | exact .inl (.inr ⟨_, rfl, rfl⟩) | exact .inl rfl | exact .inr ⟨_, rfl, rfl⟩ | refine .inr ⟨_, _, rfl, rfl, ?_⟩ | refine ⟨?_, ?_⟩)) ?_ | refine CallE.intro _ (fun _ => aGetS _ A m a h hok.nodes 1 w hn) ?_ | refine CallE.intro _ (fun _ => SCall.arg (by repeat (first | exact trivial | exact .inl (.inl rfl) | exact .inl (.inr ⟨_, rfl, rfl⟩) | exact .inl rfl | exact .inr ⟨_, rfl, rfl⟩ | refine .inr ⟨_, _, rfl, rfl, ?_⟩ | refine ⟨?_, ?_⟩)) (aGetS _ A m a h hok.nodes 1 w hn)) ?_ | refine CallE2.intro _ _ (aGetS _ A m a h hok.nodes 1 w hn) ?_ | refine CallE2.intro _ _ (SCall.arg (by repeat (first | exact trivial | exact .inl (.inl rfl) | exact .inl (.inr ⟨_, rfl, rfl⟩) | exact .inl rfl | exact .inr ⟨_, rfl, rfl⟩ | refine .inr ⟨_, _, rfl, rfl, ?_⟩ | refine ⟨?_, ?_⟩)) (aGetS _ A m a h hok.nodes 1 w hn)) ?_)
  (repeat (first | simp -dsimp only [zrUndo31, xnils, xnilm, xrange, xmakeMap, xslice3, nodeV, hk, ht, RB, TB, keep162, tab162, xindexAddr, xindex, xslice, xconvert, xlen, ewOp, FreeW, StabW, SameW, ChangeW, AddW, BaseW, limBytes, simprocAttr, ne_eq] | ((with_reducible refine Need.intro ?_ ?_); (first | trivial | exact ⟨_, rfl⟩ | exact ⟨[], (List.append_nil _).symm⟩ | omega | (simp; done) | (simp; omega) | exact ⟨by first | trivial | (simp; done), _, by first | rfl | (simp; rfl)⟩))))
  refine RetW.auto0 false _ (by first | rfl | exact (List.append_nil _).symm) ?_ ?_
  · (simp (maxDischargeDepth := 6) [LTB, HLt_set, ltL_take, ltL_drop, ltL_rep, ltL_set, upd, eset, hH, hHk, zlUndo31] <;> omega)
  · simp [wk, wk1, wk0]
theorem sKids1 (G : List Ob) (A m : Nat) (a : Arena) (h : arenaAt G A m a) (t : List UInt8) (hof : OfA a t) (n : Node) (hn : n.kids = [1]) : ∃ rs : List (Int × Int), SCall Try.prog 118 [.ref A 0, nodeV n] G (fun r H' => r = .slice [.agg [.str [], .fslice [], .fslice [], .fslice [], .str t, .slice (rs.map runV)]] ∧ H' = G) := by
  obtain ⟨rs, hT⟩ : ∃ rs : List (Int × Int), ∀ K, SCall Try.prog 162 [.ref A 0, .int .i64 1] (G ++ K) (fun r H' => r = .slice [.agg [.str [], .fslice [], .fslice [], .fslice [], .str t, .slice (rs.map runV)]] ∧ H' = G ++ K) := by
    have hof2 := hof
    obtain ⟨r, w, ha, h1, h2, h3, h4, h5, h6, h7, h8, h9⟩ := hof2
    refine ⟨(ownN w).text.runs, fun K => ?_⟩
    exact sTree1 (G ++ K) A m a (arena_app h K) t hof w (by rw [ha]; rfl)
  refine ⟨rs, ?_⟩
  refine SCall.of_good fun hH => ?_
  have hHk := HLt.add hH
  refine SCall.of_code Tok Try.func118 rfl Try.call118 (n := 22) rfl (by simp) (rs := [.tmp 4]) rfl ?_
  refine EWn.to ?_
  refine EWn.of_c Tok mixed (own := false) keep118 tab118 (by kernel_rfl) ?_
  (repeat (first | simp -dsimp only [zrUndo31, xnils, xnilm, xrange, xmakeMap, xslice3, nodeV, hn, RB, TB, keep118, tab118, xindexAddr, xindex, xslice, xconvert, xlen, ewOp, FreeW, StabW, SameW, ChangeW, AddW, BaseW, limBytes, simprocAttr, ne_eq] | ((with_reducible refine Need.intro ?_ ?_); (first | trivial | exact ⟨_, rfl⟩ | exact ⟨[], (List.append_nil _).symm⟩ | omega | (simp; done) | (simp; omega) | exact ⟨by first | trivial | (simp; done), _, by first | rfl | (simp; rfl)⟩))))
  refine EWn.rounds 2 ?_
  show EWn _ _ _ _ _ _ _
  refine EWn.of_c Tok mixed (own := false) keep118 tab118 (by kernel_rfl) ?_
  (repeat (first | simp -dsimp only [zrUndo31, xnils, xnilm, xrange, xmakeMap, xslice3, RB, TB, keep118, tab118, xindexAddr, xindex, xslice, xconvert, xlen, ewOp, FreeW, StabW, SameW, ChangeW, AddW, BaseW, limBytes, simprocAttr, ne_eq] | ((with_reducible refine Need.intro ?_ ?_); (first | trivial | exact ⟨_, rfl⟩ | exact ⟨[], (List.append_nil _).symm⟩ | omega | (simp; done) | (simp; omega) | exact ⟨by first | trivial | (simp; done), _, by first | rfl | (simp; rfl)⟩))))
  (first | refine SCall.then (hT _) ?_ | refine SCall.thenA (hT _) (by repeat (first | exact trivial | exact .inl (.inl rfl) | exact .inl (.inr ⟨_, rfl, rfl⟩) | exact .inl rfl | exact .inr ⟨_, rfl, rfl⟩ | refine .inr ⟨_, _, rfl, rfl, ?_⟩ | refine ⟨?_, ?_⟩)) ?_ | refine CallE.intro _ (hT _) ?_ | refine CallE.introA (hT _) (by repeat (first | exact trivial | exact .inl (.inl rfl) | exact .inl (.inr ⟨_, rfl, rfl⟩) | exact .inl rfl | exact .inr ⟨_, rfl, rfl⟩ | refine .inr ⟨_, _, rfl, rfl, ?_⟩ | refine ⟨?_, ?_⟩)) ?_ | refine CallE.intro _ (fun _ => hT _) ?_ | refine CallE.intro _ (fun _ => SCall.arg (by repeat (first | exact trivial | exact .inl (.inl rfl) | exact .inl (.inr ⟨_, rfl, rfl⟩) | exact .inl rfl | exact .inr ⟨_, rfl, rfl⟩ | refine .inr ⟨_, _, rfl, rfl, ?_⟩ | refine ⟨?_, ?_⟩)) (hT _)) ?_ | refine CallE2.intro _ _ (hT _) ?_ | refine CallE2.intro _ _ (SCall.arg (by repeat (first | exact trivial | exact .inl (.inl rfl) | exact .inl (.inr ⟨_, rfl, rfl⟩) | exact .inl rfl | exact .inr ⟨_, rfl, rfl⟩ | refine .inr ⟨_, _, rfl, rfl, ?_⟩ | refine ⟨?_, ?_⟩)) (hT _)) ?_)
  (repeat (first | simp -dsimp only [zrUndo31, xnils, xnilm, xrange, xmakeMap, xslice3, RB, TB, keep118, tab118, xindexAddr, xindex, xslice, xconvert, xlen, ewOp, FreeW, StabW, SameW, ChangeW, AddW, BaseW, limBytes, simprocAttr, ne_eq] | ((with_reducible refine Need.intro ?_ ?_); (first | trivial | exact ⟨_, rfl⟩ | exact ⟨[], (List.append_nil _).symm⟩ | omega | (simp; done) | (simp; omega) | exact ⟨by first | trivial | (simp; done), _, by first | rfl | (simp; rfl)⟩))))
  show EWn _ _ _ _ _ _ _
  refine EWn.of_c Tok mixed (own := false) keep118 tab118 (by kernel_rfl) ?_
  (repeat (first | simp -dsimp only [zrUndo31, xnils, xnilm, xrange, xmakeMap, xslice3, RB, TB, keep118, tab118, xindexAddr, xindex, xslice, xconvert, xlen, ewOp, FreeW, StabW, SameW, ChangeW, AddW, BaseW, limBytes, simprocAttr, ne_eq] | ((with_reducible refine Need.intro ?_ ?_); (first | trivial | exact ⟨_, rfl⟩ | exact ⟨[], (List.append_nil _).symm⟩ | omega | (simp; done) | (simp; omega) | exact ⟨by first | trivial | (simp; done), _, by first | rfl | (simp; rfl)⟩))))
  refine RetW.auto0 false _ (by first | rfl | exact (List.append_nil _).symm) ?_ ?_
  · (simp (maxDischargeDepth := 6) [LTB, HLt_set, ltL_take, ltL_drop, ltL_rep, ltL_set, upd, eset, hH, hHk, zlUndo31] <;> omega)
  (try simp only [wk, wk1, wk0, RB, limBytes, simprocAttr, ne_eq])
  (try (rw [List.take_of_length_le]; rotate_left 1; (· first | (simp; done) | (simp; omega) | omega)))
  simp
theorem sTrees1 (G : List Ob) (A m : Nat) (a : Arena) (h : arenaAt G A m a) (t : List UInt8) (hof : OfA a t) : ∃ rs : List (Int × Int), SCall Try.prog 44 [.ref A 0] G (fun r H' => r = .slice [.agg [.str [], .fslice [], .fslice [], .fslice [], .str t, .slice (rs.map runV)]] ∧ H' = G) := by
  have hok := hof.ok
  have hof2 := hof
  obtain ⟨r, w, ha, h1, h2, h3, h4, h5, h6, h7, h8, h9⟩ := hof2
  obtain ⟨rs, hT⟩ := sKids1 (G ++ [.var (nodeV (ownN r)).cells]) A m a (arena_app h _) t hof (ownN r) h5
  refine ⟨rs, ?_⟩
  have hn : nget a.nodes 0 = some r := by rw [ha]; rfl
  refine SCall.of_good fun hH => ?_
  have hHk := HLt.add hH
  refine SCall.of_code Tok Try.func44 rfl Try.call44 (n := 13) rfl (by simp) (rs := [.tmp 2]) rfl ?_
  refine EWn.to ?_
  refine EWn.of_c Tok mixed (own := false) keep44 tab44 (by kernel_rfl) ?_
  (repeat (first | simp -dsimp only [zrUndo31, xnils, xnilm, xrange, xmakeMap, xslice3, RB, TB, keep44, tab44, xindexAddr, xindex, xslice, xconvert, xlen, ewOp, FreeW, StabW, SameW, ChangeW, AddW, BaseW, limBytes, simprocAttr, ne_eq] | ((with_reducible refine Need.intro ?_ ?_); (first | trivial | exact ⟨_, rfl⟩ | exact ⟨[], (List.append_nil _).symm⟩ | omega | (simp; done) | (simp; omega) | exact ⟨by first | trivial | (simp; done), _, by first | rfl | (simp; rfl)⟩))))
  (first | refine SCall.then (aGetS _ A m a h hok.nodes 0 r hn) ?_ | refine SCall.thenA (aGetS _ A m a h hok.nodes 0 r hn) (by repeat (first | exact trivial | exact .inl (.inl rfl) | exact .inl (.inr ⟨_, rfl, rfl⟩) | exact .inl rfl | exact .inr ⟨_, rfl, rfl⟩ | refine .inr ⟨_, _, rfl, rfl, ?_⟩ | refine ⟨?_, ?_⟩)) ?_ | refine CallE.intro _ (aGetS _ A m a h hok.nodes 0 r hn) ?_ | refine CallE.introA (aGetS _ A m a h hok.nodes 0 r hn) (by repeat (first | exact trivial | exact .inl (.inl rfl) | exact .inl (.inr ⟨_, rfl, rfl⟩) | exact .inl rfl | exact .inr ⟨_, rfl, rfl⟩ | refine .inr ⟨_, _, rfl, rfl, ?_⟩ | refine ⟨?_, ?_⟩)) ?_ | refine CallE.intro _ (fun _ => aGetS _ A m a h hok.nodes 0 r hn) ?_ | refine CallE.intro _ (fun _ => SCall.arg (by repeat (first | exact trivial | exact .inl (.inl rfl) | exact .inl (.inr ⟨_, rfl, rfl⟩) | exact .inl rfl | exact .inr ⟨_, rfl, rfl⟩ | refine .inr ⟨_, _, rfl, rfl, ?_⟩ | refine ⟨?_, ?_⟩)) (aGetS _ A m a h hok.nodes 0 r hn)) ?_ | refine CallE2.intro _ _ (aGetS _ A m a h hok.nodes 0 r hn) ?_ | refine CallE2.intro _ _ (SCall.arg (by repeat (first | exact trivial | exact .inl (.inl rfl) | exact .inl (.inr ⟨_, rfl, rfl⟩) | exact .inl rfl | exact .inr ⟨_, rfl, rfl⟩ | refine .inr ⟨_, _, rfl, rfl, ?_⟩ | refine ⟨?_, ?_⟩)) (aGetS _ A m a h hok.nodes 0 r hn)) ?_)
  (repeat (first | simp -dsimp only [zrUndo31, xnils, xnilm, xrange, xmakeMap, xslice3, nodeV, RB, TB, keep44, tab44, xindexAddr, xindex, xslice, xconvert, xlen, ewOp, FreeW, StabW, SameW, ChangeW, AddW, BaseW, limBytes, simprocAttr, ne_eq] | ((with_reducible refine Need.intro ?_ ?_); (first | trivial | exact ⟨_, rfl⟩ | exact ⟨[], (List.append_nil _).symm⟩ | omega | (simp; done) | (simp; omega) | exact ⟨by first | trivial | (simp; done), _, by first | rfl | (simp; rfl)⟩))))
  refine SCall.then hT ?_
  (repeat (first | simp -dsimp only [zrUndo31, xnils, xnilm, xrange, xmakeMap, xslice3, RB, TB, keep44, tab44, xindexAddr, xindex, xslice, xconvert, xlen, ewOp, FreeW, StabW, SameW, ChangeW, AddW, BaseW, limBytes, simprocAttr, ne_eq] | ((with_reducible refine Need.intro ?_ ?_); (first | trivial | exact ⟨_, rfl⟩ | exact ⟨[], (List.append_nil _).symm⟩ | omega | (simp; done) | (simp; omega) | exact ⟨by first | trivial | (simp; done), _, by first | rfl | (simp; rfl)⟩))))
  refine RetW.auto0 false _ (by first | rfl | exact (List.append_nil _).symm) ?_ ?_
  · (simp (maxDischargeDepth := 6) [LTB, HLt_set, ltL_take, ltL_drop, ltL_rep, ltL_set, upd, eset, hH, hHk, zlUndo31] <;> omega)
  (try simp only [wk, wk1, wk0, RB, limBytes, simprocAttr, ne_eq])
  (try (rw [List.take_of_length_le]; rotate_left 1; (· first | (simp; done) | (simp; omega) | omega)))
theorem uShows (G : List Ob) (A m : Nat) (a : Arena) (h : arenaAt G A m a) (t : List UInt8) (hof : OfA a t) : SCall Try.prog 57 [.ref A 0, .str t] G (fun r H' => r = .bool true ∧ H' = G) := by
  obtain ⟨rs, hT⟩ := sTrees1 G A m a h t hof
  refine SCall.of_good fun hH => ?_
  have hHk := HLt.add hH
  refine SCall.of_code Tok Try.func57 rfl Try.call57 (n := 20) rfl (by simp) (rs := [.tmp 4]) rfl ?_
  refine EWn.to ?_
  refine EWn.of_c Tok mixed (own := false) keep57 tab57 (by kernel_rfl) ?_
  (repeat (first | simp -dsimp only [zrUndo31, xnils, xnilm, xrange, xmakeMap, xslice3, RB, TB, keep57, tab57, xindexAddr, xindex, xslice, xconvert, xlen, ewOp, FreeW, StabW, SameW, ChangeW, AddW, BaseW, limBytes, simprocAttr, ne_eq] | ((with_reducible refine Need.intro ?_ ?_); (first | trivial | exact ⟨_, rfl⟩ | exact ⟨[], (List.append_nil _).symm⟩ | omega | (simp; done) | (simp; omega) | exact ⟨by first | trivial | (simp; done), _, by first | rfl | (simp; rfl)⟩))))
  refine SCall.then hT ?_
  (repeat (first | simp -dsimp only [zrUndo31, xnils, xnilm, xrange, xmakeMap, xslice3, RB, TB, keep57, tab57, xindexAddr, xindex, xslice, xconvert, xlen, ewOp, FreeW, StabW, SameW, ChangeW, AddW, BaseW, limBytes, simprocAttr, ne_eq] | ((with_reducible refine Need.intro ?_ ?_); (first | trivial | exact ⟨_, rfl⟩ | exact ⟨[], (List.append_nil _).symm⟩ | omega | (simp; done) | (simp; omega) | exact ⟨by first | trivial | (simp; done), _, by first | rfl | (simp; rfl)⟩))))
  refine RetW.auto0 false _ (by first | rfl | exact (List.append_nil _).symm) ?_ ?_
  · (simp (maxDischargeDepth := 6) [LTB, HLt_set, ltL_take, ltL_drop, ltL_rep, ltL_set, upd, eset, hH, hHk, zlUndo31] <;> omega)
  (try simp only [wk, wk1, wk0, RB, limBytes, simprocAttr, ne_eq])
  (try (rw [List.take_of_length_le]; rotate_left 1; (· first | (simp; done) | (simp; omega) | omega)))
end Go.Proofs.Ytjplgbalpnlanaa

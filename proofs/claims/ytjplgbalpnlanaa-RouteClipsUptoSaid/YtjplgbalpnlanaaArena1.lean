/- The walks of package arena: is, maps.Clone, New, Clone. -/
import Derived.Test.YtjplgbalpnlanaaArena0
import Derived.Laws.Externs
set_option maxHeartbeats 600000
set_option linter.unusedSimpArgs false
set_option linter.unusedVariables false
set_option maxRecDepth 100000
namespace Go.Proofs.Ytjplgbalpnlanaa
open Go Go.EL
theorem zrArena11 : type_of% (And.intro (And.intro (And.intro (And.intro (@st_run) (And.intro (@sz_run) (@st1_run))) (And.intro (@cl_run) (And.intro (@st_Str) (@sz_Str)))) (And.intro (And.intro (@st1_Str) (And.intro (@cl_Str) (@st_c))) (And.intro (@sz_c) (And.intro (@st1_c) (@cl_c))))) (And.intro (And.intro (And.intro (@st_attr) (And.intro (@sz_attr) (@st1_attr))) (And.intro (@cl_attr) (And.intro (@st_hook) (@sz_hook)))) (And.intro (And.intro (@st1_hook) (And.intro (@cl_hook) (@st_node))) (And.intro (@sz_node) (And.intro (@st1_node) (@cl_node)))))) := And.intro (And.intro (And.intro (And.intro (@st_run) (And.intro (@sz_run) (@st1_run))) (And.intro (@cl_run) (And.intro (@st_Str) (@sz_Str)))) (And.intro (And.intro (@st1_Str) (And.intro (@cl_Str) (@st_c))) (And.intro (@sz_c) (And.intro (@st1_c) (@cl_c))))) (And.intro (And.intro (And.intro (@st_attr) (And.intro (@sz_attr) (@st1_attr))) (And.intro (@cl_attr) (And.intro (@st_hook) (@sz_hook)))) (And.intro (And.intro (@st1_hook) (And.intro (@cl_hook) (@st_node))) (And.intro (@sz_node) (And.intro (@st1_node) (@cl_node)))))
theorem zlArena11 : type_of% (And.intro (And.intro (And.intro (And.intro (@lt_vi) (@lt_str)) (And.intro (@lt_vb) (And.intro (@ltc_str) (@ltc_vi)))) (And.intro (And.intro (@lt_run) (And.intro (@lt1_run) (@ltc_run))) (And.intro (@lt_Str) (And.intro (@lt1_Str) (@ltc_Str))))) (And.intro (And.intro (And.intro (@lt_c) (And.intro (@lt1_c) (@ltc_c))) (And.intro (@lt_attr) (And.intro (@lt1_attr) (@ltc_attr)))) (And.intro (And.intro (@lt_hook) (And.intro (@lt1_hook) (@ltc_hook))) (And.intro (@lt_node) (And.intro (@lt1_node) (@ltc_node)))))) := And.intro (And.intro (And.intro (And.intro (@lt_vi) (@lt_str)) (And.intro (@lt_vb) (And.intro (@ltc_str) (@ltc_vi)))) (And.intro (And.intro (@lt_run) (And.intro (@lt1_run) (@ltc_run))) (And.intro (@lt_Str) (And.intro (@lt1_Str) (@ltc_Str))))) (And.intro (And.intro (And.intro (@lt_c) (And.intro (@lt1_c) (@ltc_c))) (And.intro (@lt_attr) (And.intro (@lt1_attr) (@ltc_attr)))) (And.intro (And.intro (@lt_hook) (And.intro (@lt1_hook) (@ltc_hook))) (And.intro (@lt_node) (And.intro (@lt1_node) (@ltc_node)))))
structure Arena where
  nodes : List (Int × Nat × Node)
  clock : Nat
  used : List Int
  live : List Int
def encM (l : List (Int × Nat × Node)) : List (Int × Nat × V) := l.map fun p => (p.1, p.2.1, nodeV p.2.2)
/-- an arena stands at A, its nodes at m -/
def arenaAt (H : List Ob) (A m : Nat) (a : Arena) : Prop := H[A]? = some (.var (.mapr m :: (a.used.map vi ++ a.live.map vi))) ∧ H[m]? = some (.map (encM a.nodes) a.clock) ∧ a.used.length = 4 ∧ a.live.length = 4
theorem aIsNil (H : List Ob) : SCall Try.prog 105 [.nilp] H (fun r H' => r = .bool false ∧ H' = H) := by
  refine SCall.of_good fun hH => ?_
  have hHk := HLt.add hH
  refine SCall.of_code Tok Try.func105 rfl Try.call105 (n := 12) rfl (by simp) (rs := [.tmp 2]) rfl ?_
  refine EWn.to ?_
  refine EWn.of_c Tok mixed (own := false) keep105 tab105 (by kernel_rfl) ?_
  (repeat (first | simp -dsimp only [zrArena11, xnils, xnilm, xrange, xmakeMap, RB, TB, keep105, tab105, xindexAddr, xindex, xslice, xconvert, xlen, ewOp, FreeW, StabW, SameW, ChangeW, AddW, BaseW, limBytes, simprocAttr, ne_eq] | ((with_reducible refine Need.intro ?_ ?_); (first | trivial | exact ⟨_, rfl⟩ | exact ⟨[], (List.append_nil _).symm⟩ | omega | (simp; done) | (simp; omega) | exact ⟨by first | trivial | (simp; done), _, by first | rfl | (simp; rfl)⟩))))
  refine RetW.auto0 false _ (by first | rfl | exact (List.append_nil _).symm) ?_ ?_
  · (simp (maxDischargeDepth := 6) [LTB, HLt_set, ltL_take, ltL_drop, ltL_rep, ltL_set, upd, eset, hH, hHk, zlArena11] <;> omega)
  (try simp only [wk, wk1, wk0, RB, limBytes, simprocAttr, ne_eq])
  (try (rw [List.take_of_length_le]; rotate_left 1; (· first | (simp; done) | (simp; omega) | omega)))
theorem aIs (H : List Ob) (A m : Nat) (a : Arena) (h : arenaAt H A m a) : SCall Try.prog 105 [.ref A 0] H (fun r H' => r = .bool true ∧ H' = H) := by
  obtain ⟨h1, h2, h3, h4⟩ := h
  refine SCall.of_good fun hH => ?_
  have hHk := HLt.add hH
  refine SCall.of_code Tok Try.func105 rfl Try.call105 (n := 12) rfl (by simp) (rs := [.tmp 2]) rfl ?_
  refine EWn.to ?_
  refine EWn.of_c Tok mixed (own := false) keep105 tab105 (by kernel_rfl) ?_
  (repeat (first | simp -dsimp only [zrArena11, xnils, xnilm, xrange, xmakeMap, h1, h2, RB, TB, keep105, tab105, xindexAddr, xindex, xslice, xconvert, xlen, ewOp, FreeW, StabW, SameW, ChangeW, AddW, BaseW, limBytes, simprocAttr, ne_eq] | ((with_reducible refine Need.intro ?_ ?_); (first | trivial | exact ⟨_, rfl⟩ | exact ⟨[], (List.append_nil _).symm⟩ | omega | (simp; done) | (simp; omega) | exact ⟨by first | trivial | (simp; done), _, by first | rfl | (simp; rfl)⟩))))
  try with_reducible refine Need.intro ⟨_, _, rfl⟩ ?_
  (repeat (first | simp -dsimp only [zrArena11, xnils, xnilm, xrange, xmakeMap, h1, h2, RB, TB, keep105, tab105, xindexAddr, xindex, xslice, xconvert, xlen, ewOp, FreeW, StabW, SameW, ChangeW, AddW, BaseW, limBytes, simprocAttr, ne_eq] | ((with_reducible refine Need.intro ?_ ?_); (first | trivial | exact ⟨_, rfl⟩ | exact ⟨[], (List.append_nil _).symm⟩ | omega | (simp; done) | (simp; omega) | exact ⟨by first | trivial | (simp; done), _, by first | rfl | (simp; rfl)⟩))))
  refine RetW.auto0 false _ (by first | rfl | exact (List.append_nil _).symm) ?_ ?_
  · (simp (maxDischargeDepth := 6) [LTB, HLt_set, ltL_take, ltL_drop, ltL_rep, ltL_set, upd, eset, hH, hHk, zlArena11] <;> omega)
  (try simp only [wk, wk1, wk0, RB, limBytes, simprocAttr, ne_eq])
  (try (rw [List.take_of_length_le]; rotate_left 1; (· first | (simp; done) | (simp; omega) | omega)))
theorem cloneX (H : List Ob) (t o : Nat) (l : List (Int × Nat × V)) (ck : Nat) (h : H[o]? = some (.map l ck)) : SCall Try.prog 178 [.iface t (.mapr o)] H (fun r H' => r = .iface t (.mapr H.length) ∧ H' = H ++ [.map l ck]) := by
  intro g w cargs hG ha
  obtain ⟨b, es, q1, q2, q3⟩ := hG.map h
  obtain ⟨v, rfl, hv⟩ : ∃ v, cargs = #[v] ∧ RepV (cxOf g H.length w) (.iface t (.mapr o)) v := by
    rcases cargs with ⟨l⟩
    match l, ha with
    | [c], ha => exact ⟨c, rfl, ha.1⟩
  have hl := hv.leaf (by simp) (by simp)
  simp only [RepC] at hl
  obtain ⟨u, hu, k1, k2⟩ := hl
  injection hu with hu
  subst hu
  have hm := mapr_val (RepV.of_parts (by simpa only [RepC] using k1) k2) q1
  subst hm
  obtain ⟨s1, s2, s3⟩ := step_map_new hG (ck := ck) q3
  have hrun : (callFunc 178 #[.iface t (.map (some b))]).run Try.prog w = .ok (.value (.iface t (.map (some w.heap.size)))) (pushW w (.map es ck)) := by
    rw [run_callFunc_extern (P := Try.prog) (fn := Try.f178) (e := Extern.MapsClone.clone) (by kernel_rfl) (by kernel_rfl) (by kernel_rfl) (by kernel_rfl) (by kernel_rfl)]
    rw [show Extern.MapsClone.clone #[.iface t (.map (some b))] = (do match ← getObj b with | .map entries clock => pure (.iface t (.map (some (← newObj (.map entries clock))))) | _ => stuck "maps.clone: a map expected" : Sem Value) from rfl]
    simp [getObj_run q2, run_newObj, pushW]
  unfold CallR
  rw [hrun]
  refine ⟨_, _, _, s1, s2, ?_, rfl, rfl⟩
  have k := s3.leaf (by simp) (by simp)
  refine RepV.mk_leaf ?_ (by simp) (by simp)
  simp only [RepC] at k ⊢
  exact ⟨_, rfl, k, trivial⟩
theorem cloneM (H : List Ob) (o : Nat) (l : List (Int × Nat × V)) (ck : Nat) (h : H[o]? = some (.map l ck)) : SCall Try.prog 163 [.mapr o] H (fun r H' => r = .mapr H.length ∧ H' = H ++ [.map l ck]) := by
  refine SCall.of_good fun hH => ?_
  have hHk := HLt.add hH
  refine SCall.of_code Tok Try.func163 rfl Try.call163 (n := 9) rfl (by simp) (rs := [.tmp 2]) rfl ?_
  refine EWn.to ?_
  refine EWn.of_c Tok mixed (own := false) keep163 tab163 (by kernel_rfl) ?_
  (repeat (first | simp -dsimp only [zrArena11, xnils, xnilm, xrange, xmakeMap, h, RB, TB, keep163, tab163, xindexAddr, xindex, xslice, xconvert, xlen, ewOp, FreeW, StabW, SameW, ChangeW, AddW, BaseW, limBytes, simprocAttr, ne_eq] | ((with_reducible refine Need.intro ?_ ?_); (first | trivial | exact ⟨_, rfl⟩ | exact ⟨[], (List.append_nil _).symm⟩ | omega | (simp; done) | (simp; omega) | exact ⟨by first | trivial | (simp; done), _, by first | rfl | (simp; rfl)⟩))))
  try with_reducible refine Need.intro ⟨_, _, rfl⟩ ?_
  (repeat (first | simp -dsimp only [zrArena11, xnils, xnilm, xrange, xmakeMap, h, RB, TB, keep163, tab163, xindexAddr, xindex, xslice, xconvert, xlen, ewOp, FreeW, StabW, SameW, ChangeW, AddW, BaseW, limBytes, simprocAttr, ne_eq] | ((with_reducible refine Need.intro ?_ ?_); (first | trivial | exact ⟨_, rfl⟩ | exact ⟨[], (List.append_nil _).symm⟩ | omega | (simp; done) | (simp; omega) | exact ⟨by first | trivial | (simp; done), _, by first | rfl | (simp; rfl)⟩))))
  (first | refine SCall.then (cloneX H _ o l ck h) ?_ | refine SCall.thenA (cloneX H _ o l ck h) (by repeat (first | exact trivial | exact .inl (.inl rfl) | exact .inl (.inr ⟨_, rfl, rfl⟩) | exact .inl rfl | exact .inr ⟨_, rfl, rfl⟩ | refine .inr ⟨_, _, rfl, rfl, ?_⟩ | refine ⟨?_, ?_⟩)) ?_ | refine CallE.intro _ (cloneX H _ o l ck h) ?_ | refine CallE.introA (cloneX H _ o l ck h) (by repeat (first | exact trivial | exact .inl (.inl rfl) | exact .inl (.inr ⟨_, rfl, rfl⟩) | exact .inl rfl | exact .inr ⟨_, rfl, rfl⟩ | refine .inr ⟨_, _, rfl, rfl, ?_⟩ | refine ⟨?_, ?_⟩)) ?_ | refine CallE.intro _ (fun _ => cloneX H _ o l ck h) ?_ | refine CallE.intro _ (fun _ => SCall.arg (by repeat (first | exact trivial | exact .inl (.inl rfl) | exact .inl (.inr ⟨_, rfl, rfl⟩) | exact .inl rfl | exact .inr ⟨_, rfl, rfl⟩ | refine .inr ⟨_, _, rfl, rfl, ?_⟩ | refine ⟨?_, ?_⟩)) (cloneX H _ o l ck h)) ?_ | refine CallE2.intro _ _ (cloneX H _ o l ck h) ?_ | refine CallE2.intro _ _ (SCall.arg (by repeat (first | exact trivial | exact .inl (.inl rfl) | exact .inl (.inr ⟨_, rfl, rfl⟩) | exact .inl rfl | exact .inr ⟨_, rfl, rfl⟩ | refine .inr ⟨_, _, rfl, rfl, ?_⟩ | refine ⟨?_, ?_⟩)) (cloneX H _ o l ck h)) ?_)
  (repeat (first | simp -dsimp only [zrArena11, xnils, xnilm, xrange, xmakeMap, RB, TB, keep163, tab163, xindexAddr, xindex, xslice, xconvert, xlen, ewOp, FreeW, StabW, SameW, ChangeW, AddW, BaseW, limBytes, simprocAttr, ne_eq] | ((with_reducible refine Need.intro ?_ ?_); (first | trivial | exact ⟨_, rfl⟩ | exact ⟨[], (List.append_nil _).symm⟩ | omega | (simp; done) | (simp; omega) | exact ⟨by first | trivial | (simp; done), _, by first | rfl | (simp; rfl)⟩))))
  have hlm : ltL (H.length + 1) (l.map (·.2.2)) := ltL_le (Nat.le_succ _) _ (hH _ (List.mem_of_getElem? h))
  refine RetW.auto false [.map l ck] _ (by first | rfl | simp) ?_ ?_ ?_
  · (simp (maxDischargeDepth := 6) [LTB, HLt_set, ltL_take, ltL_drop, ltL_rep, ltL_set, upd, eset, hH, hHk, hlm, zlArena11] <;> omega)
  · (simp (maxDischargeDepth := 6) [LTB, HLt_set, ltL_take, ltL_drop, ltL_rep, ltL_set, upd, eset, hH, hHk, hlm, zlArena11] <;> omega)
  (try simp only [wk, wk1, wk0, RB, limBytes, simprocAttr, ne_eq])
  (try (rw [List.take_of_length_le]; rotate_left 1; (· first | (simp; done) | (simp; omega) | omega)))
def rootN : Node := ⟨0, 0, -1, 1, ⟨[100, 105, 118], rle (List.replicate 3 0)⟩, [], 0, [], [], [], zeroS⟩
def newA : Arena := ⟨[(0, 0, rootN)], 1, [0, 0, 0, 0], [1, 0, 0, 0]⟩
def rootV : V := .agg [.int .i64 0, .int .i64 0, .int .i64 (-1), .int .i64 1, .str [100, 105, 118], .slice ((rle (List.replicate 3 0)).map runV), .str [], .int .i64 0, .fslice [], .fslice [], .fslice [], .str [], .fslice []]
theorem aNew0 (H : List Ob) : SCall Try.prog 36 [] H (fun r H' => r = .ref (H.length + 1) 0 ∧ H' = H ++ [.map [(0, 0, rootV)] 1, .var (.mapr H.length :: (newA.used.map vi ++ newA.live.map vi))]) := by
  refine SCall.of_good fun hH => ?_
  have hHk := HLt.add hH
  refine SCall.of_code Tok Try.func36 rfl Try.call36 (n := 16) rfl (by simp) (rs := [.tmp 0]) rfl ?_
  refine EWn.to ?_
  refine EWn.of_c Tok mixed (own := false) keep36 tab36 (by kernel_rfl) ?_
  (repeat (first | simp -dsimp only [zrArena11, xnils, xnilm, xrange, xmakeMap, RB, TB, keep36, tab36, xindexAddr, xindex, xslice, xconvert, xlen, ewOp, FreeW, StabW, SameW, ChangeW, AddW, BaseW, limBytes, simprocAttr, ne_eq] | ((with_reducible refine Need.intro ?_ ?_); (first | trivial | exact ⟨_, rfl⟩ | exact ⟨[], (List.append_nil _).symm⟩ | omega | (simp; done) | (simp; omega) | exact ⟨by first | trivial | (simp; done), _, by first | rfl | (simp; rfl)⟩))))
  refine CallE.intro _ (mOf _ [100, 105, 118] 0) ?_
  (repeat (first | simp -dsimp only [zrArena11, xnils, xnilm, xrange, xmakeMap, strV, RB, TB, keep36, tab36, xindexAddr, xindex, xslice, xconvert, xlen, ewOp, FreeW, StabW, SameW, ChangeW, AddW, BaseW, limBytes, simprocAttr, ne_eq] | ((with_reducible refine Need.intro ?_ ?_); (first | trivial | exact ⟨_, rfl⟩ | exact ⟨[], (List.append_nil _).symm⟩ | omega | (simp; done) | (simp; omega) | exact ⟨by first | trivial | (simp; done), _, by first | rfl | (simp; rfl)⟩))))
  have hlm : ltL (H.length + 2) ([(0, 0, rootV)].map fun p : Int × Nat × V => p.2.2) := by simp [rootV, ltL, V.lt]; exact lt_run _ _
  refine RetW.auto false [.map [(0, 0, rootV)] 1, .var (.mapr H.length :: (newA.used.map vi ++ newA.live.map vi))] [] (by simp [EL.mput, mget, rootV, newA, vi, near]; rfl) ?_ ?_ ?_
  · refine HLt.cons ?_ (HLt.cons ?_ (HLt.nil _))
    · simpa [Ob.lt] using hlm
    · simp [Ob.lt, newA, vi, ltL, V.lt]
  · simp [okW, okW1, okW0, V.lt]
  · simp [wk, wk1, wk0]
/-- what a call leaves, told otherwise -/
theorem _root_.Go.EL.SCall.gho {f : FuncId} {args : List V} {H : List Ob} {v v1 : V} {H1 H2 : List Ob} (h : SCall Try.prog f args H (fun r H' => r = v ∧ H' = H1)) (hg : Gho H.length [(0, v)] H1 [(0, v1)] H2) : SCall Try.prog f args H (fun r H' => r = v1 ∧ H' = H2) := by
  intro g w cargs hG ha
  refine (h g w cargs hG ha).mono fun cv w' ⟨r, H', g', h1, h2, h3, h4, h5⟩ => ?_
  subst h4 h5
  obtain ⟨g'', k1, k2, k3⟩ := hg g' w' h1
  exact ⟨v1, H2, g'', k1, k2 _ _ h2, k3 0 cv h3, rfl, rfl⟩
theorem aNew (H : List Ob) : SCall Try.prog 36 [] H (fun r H' => r = .ref (H.length + 1) 0 ∧ H' = H ++ [.map (encM newA.nodes) 1, .var (.mapr H.length :: (newA.used.map vi ++ newA.live.map vi))]) := by
  refine (aNew0 H).gho ?_
  have hs : H ++ [Ob.map (encM newA.nodes) 1, .var (.mapr H.length :: (newA.used.map vi ++ newA.live.map vi))] = (H ++ [Ob.map [(0, 0, rootV)] 1, .var (.mapr H.length :: (newA.used.map vi ++ newA.live.map vi))]).set H.length (Ob.map (encM newA.nodes) 1) := by simp
  rw [hs]
  refine Gho.weakOb H.length (x := Ob.map [(0, 0, rootV)] 1) (by simp) ⟨rfl, ⟨rfl, rfl, .inr ⟨_, _, rfl, rfl, ?_⟩⟩, trivial⟩
  repeat (first | exact trivial | refine ⟨.inl (.inl rfl), ?_⟩ | refine ⟨.inl (.inr ⟨_, rfl, rfl⟩), ?_⟩)
end Go.Proofs.Ytjplgbalpnlanaa

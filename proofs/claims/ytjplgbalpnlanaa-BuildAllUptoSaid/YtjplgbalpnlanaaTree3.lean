/- The walks of package tree: Size, Depth, Tags, Words. -/
import Derived.Test.YtjplgbalpnlanaaTree2
set_option maxHeartbeats 600000
set_option linter.unusedSimpArgs false
set_option linter.unusedVariables false
set_option maxRecDepth 100000
namespace Go.Proofs.Ytjplgbalpnlanaa
open Go Go.EL
theorem zrTree31 : type_of% (And.intro (And.intro (And.intro (And.intro (@st_run) (@sz_run)) (And.intro (@st1_run) (And.intro (@cl_run) (@st_Str)))) (And.intro (And.intro (@sz_Str) (@st1_Str)) (And.intro (@cl_Str) (And.intro (@st_c) (@sz_c))))) (And.intro (And.intro (And.intro (@st1_c) (@cl_c)) (And.intro (@st_attr) (And.intro (@sz_attr) (@st1_attr)))) (And.intro (And.intro (@cl_attr) (@st_tree)) (And.intro (@sz_tree) (And.intro (@st1_tree) (@cl_tree)))))) := And.intro (And.intro (And.intro (And.intro (@st_run) (@sz_run)) (And.intro (@st1_run) (And.intro (@cl_run) (@st_Str)))) (And.intro (And.intro (@sz_Str) (@st1_Str)) (And.intro (@cl_Str) (And.intro (@st_c) (@sz_c))))) (And.intro (And.intro (And.intro (@st1_c) (@cl_c)) (And.intro (@st_attr) (And.intro (@sz_attr) (@st1_attr)))) (And.intro (And.intro (@cl_attr) (@st_tree)) (And.intro (@sz_tree) (And.intro (@st1_tree) (@cl_tree)))))
theorem zlTree31 : type_of% (And.intro (And.intro (And.intro (And.intro (@lt_vi) (@lt_str)) (And.intro (@lt_vb) (And.intro (@ltc_str) (@ltc_vi)))) (And.intro (And.intro (@lt_run) (@lt1_run)) (And.intro (@ltc_run) (And.intro (@lt_Str) (@lt1_Str))))) (And.intro (And.intro (And.intro (@ltc_Str) (@lt_c)) (And.intro (@lt1_c) (And.intro (@ltc_c) (@lt_attr)))) (And.intro (And.intro (@lt1_attr) (@ltc_attr)) (And.intro (@lt_tree) (And.intro (@lt1_tree) (@ltc_tree)))))) := And.intro (And.intro (And.intro (And.intro (@lt_vi) (@lt_str)) (And.intro (@lt_vb) (And.intro (@ltc_str) (@ltc_vi)))) (And.intro (And.intro (@lt_run) (@lt1_run)) (And.intro (@ltc_run) (And.intro (@lt_Str) (@lt1_Str))))) (And.intro (And.intro (And.intro (@ltc_Str) (@lt_c)) (And.intro (@lt1_c) (And.intro (@ltc_c) (@lt_attr)))) (And.intro (And.intro (@lt1_attr) (@ltc_attr)) (And.intro (@lt_tree) (And.intro (@lt1_tree) (@ltc_tree)))))
mutual
theorem visK_len : ∀ (t : Tree) (d : Int), (visK t d).length + 1 ≤ szT t
  | .mk tag attrs kids text, d => by
    have := visL_len kids (d + 1)
    rw [visK, szT]; omega
theorem visL_len : ∀ (l : List Tree) (d : Int), (visL l d).length ≤ szTs l
  | [], d => by simp [visL]
  | t :: l, d => by
    have h1 := visK_len t d
    have h2 := visL_len l d
    simp only [visL, szTs, List.length_cons, List.length_append]
    omega
end
theorem visA_len (l : List Tree) : (visA l).length ≤ 2 * szTs l := by
  have h1 := visL_len (mergeT l) 1
  have h2 := merge_sz l
  unfold visA; omega
theorem tSize (H : List Ob) (l : List Tree) (hsz : szTs l ≤ 100000000) : SCall Try.prog 27 [.slice (l.map treeV)] H (fun r H' => r = .int .i64 (visA l).length ∧ H' = H) := by
  have hva := visA_len l
  refine SCall.of_good fun hH => ?_
  have hHk := HLt.add hH
  refine ofWalk (env := [(3, .ref H.length 0), (5, .fn (.func 155) [] [.ref (H.length + 1) 0])]) (cc := H.length + 1) Try.func27 rfl Try.call27 (n := 11) rfl (by simp) (rs := [.tmp 2]) rfl [()] (by simp only [headC]; rfl) (by simp only [tailC]; rfl) (by kernel_rfl) keep27 tab27 (by kernel_rfl) (by kernel_rfl) (l) (hsz) (ι := (Nat)) (fun (n : (Nat)) => H ++ [.var [.int .i64 n], .var [.slice (l.map treeV)]]) (fun pre_ => fun (n : (Nat)) => n = pre_.length) (0) (fun a_ N_ => [(3, .ref H.length 0), (5, .fn (.func 155) [] [.ref (H.length + 1) 0]), (6, treeV a_.1), (7, .int .i64 a_.2)]) (fun a_ N_ => []) ?_ rfl (by first | (rw [hget0]; rfl) | (rw [hget]; rfl)) ?_ (fun _ => by simp) ?_ rfl (by simp) (by simp) ?_ ?_ ?_
  · (repeat (first | simp -dsimp only [zrTree31, RB, TB, keep27, tab27, xindexAddr, xindex, xslice, xconvert, xlen, ewOp, FreeW, StabW, SameW, ChangeW, AddW, BaseW, limBytes, simprocAttr, ne_eq] | ((with_reducible refine Need.intro ?_ ?_); (first | trivial | exact ⟨_, rfl⟩ | exact ⟨[], (List.append_nil _).symm⟩ | omega | (simp; done) | (simp; omega) | exact ⟨by first | trivial | (simp; done), _, by first | rfl | (simp; rfl)⟩))))
    (first | refine SCall.then (tWalk _ l) ?_ | refine SCall.thenA (tWalk _ l) (by repeat (first | exact trivial | exact .inl (.inl rfl) | exact .inl (.inr ⟨_, rfl, rfl⟩) | exact .inl rfl | exact .inr ⟨_, rfl, rfl⟩ | refine .inr ⟨_, _, rfl, rfl, ?_⟩ | refine ⟨?_, ?_⟩)) ?_ | refine CallE.intro _ (tWalk _ l) ?_ | refine CallE.introA (tWalk _ l) (by repeat (first | exact trivial | exact .inl (.inl rfl) | exact .inl (.inr ⟨_, rfl, rfl⟩) | exact .inl rfl | exact .inr ⟨_, rfl, rfl⟩ | refine .inr ⟨_, _, rfl, rfl, ?_⟩ | refine ⟨?_, ?_⟩)) ?_ | refine CallE.intro _ (fun _ => tWalk _ l) ?_ | refine CallE.intro _ (fun _ => SCall.arg (by repeat (first | exact trivial | exact .inl (.inl rfl) | exact .inl (.inr ⟨_, rfl, rfl⟩) | exact .inl rfl | exact .inr ⟨_, rfl, rfl⟩ | refine .inr ⟨_, _, rfl, rfl, ?_⟩ | refine ⟨?_, ?_⟩)) (tWalk _ l)) ?_ | refine CallE2.intro _ _ (tWalk _ l) ?_ | refine CallE2.intro _ _ (SCall.arg (by repeat (first | exact trivial | exact .inl (.inl rfl) | exact .inl (.inr ⟨_, rfl, rfl⟩) | exact .inl rfl | exact .inr ⟨_, rfl, rfl⟩ | refine .inr ⟨_, _, rfl, rfl, ?_⟩ | refine ⟨?_, ?_⟩)) (tWalk _ l)) ?_)
    (repeat (first | simp -dsimp only [zrTree31, RB, TB, keep27, tab27, xindexAddr, xindex, xslice, xconvert, xlen, ewOp, FreeW, StabW, SameW, ChangeW, AddW, BaseW, limBytes, simprocAttr, ne_eq] | ((with_reducible refine Need.intro ?_ ?_); (first | trivial | exact ⟨_, rfl⟩ | exact ⟨[], (List.append_nil _).symm⟩ | omega | (simp; done) | (simp; omega) | exact ⟨by first | trivial | (simp; done), _, by first | rfl | (simp; rfl)⟩))))
    exact UpTo.here ⟨by simp [restr, eget], by simp⟩
  · rfl
  · rintro pre x rfl
    (simp (maxDischargeDepth := 6) [LTB, HLt_set, ltL_take, ltL_drop, ltL_rep, ltL_set, upd, eset, hH, hHk, zlTree31] <;> omega)
  · rintro pre a post x R hv rfl
    refine EWn.of (EW.skip ?_)
    simp [thenE, updP, eset, encT]
  · rintro pre a post x R hv rfl
    intro hHR
    have hvl : (visA l).length = pre.length + 1 + post.length := by rw [hv]; simp; omega
    refine EWn.of_c Tok mixed (own := false) keep27 tab27 (by kernel_rfl) ?_
    (repeat (first | simp -dsimp only [zrTree31, RB, TB, keep27, tab27, xindexAddr, xindex, xslice, xconvert, xlen, ewOp, FreeW, StabW, SameW, ChangeW, AddW, BaseW, limBytes, simprocAttr, ne_eq] | ((with_reducible refine Need.intro ?_ ?_); (first | trivial | exact ⟨_, rfl⟩ | exact ⟨[], (List.append_nil _).symm⟩ | omega | (simp; done) | (simp; omega) | exact ⟨by first | trivial | (simp; done), _, by first | rfl | (simp; rfl)⟩))))
    rw [wrapI (by omega)]
    exact UpTo.here ⟨rfl, _, rfl, by simp⟩
  · rintro D l' y vs cs x rfl
    refine EWn.of_c Tok mixed (own := false) keep27 tab27 (by kernel_rfl) ?_
    (repeat (first | simp -dsimp only [zrTree31, RB, TB, keep27, tab27, xindexAddr, xindex, xslice, xconvert, xlen, ewOp, FreeW, StabW, SameW, ChangeW, AddW, BaseW, limBytes, simprocAttr, ne_eq] | ((with_reducible refine Need.intro ?_ ?_); (first | trivial | exact ⟨_, rfl⟩ | exact ⟨[], (List.append_nil _).symm⟩ | omega | (simp; done) | (simp; omega) | exact ⟨by first | trivial | (simp; done), _, by first | rfl | (simp; rfl)⟩))))
    refine ⟨by (first | rw [hget] | rw [hget0]); rfl, ?_⟩
    (repeat (first | simp -dsimp only [zrTree31, hset, RB, TB, keep27, tab27, xindexAddr, xindex, xslice, xconvert, xlen, ewOp, FreeW, StabW, SameW, ChangeW, AddW, BaseW, limBytes, simprocAttr, ne_eq] | ((with_reducible refine Need.intro ?_ ?_); (first | trivial | exact ⟨_, rfl⟩ | exact ⟨[], (List.append_nil _).symm⟩ | omega | (simp; done) | (simp; omega) | exact ⟨by first | trivial | (simp; done), _, by first | rfl | (simp; rfl)⟩))))
    refine RetW.auto0 false _ (by first | rfl | exact (List.append_nil _).symm) ?_ ?_
    · (simp (maxDischargeDepth := 6) [LTB, HLt_set, ltL_take, ltL_drop, ltL_rep, ltL_set, upd, eset, hH, hHk, zlTree31] <;> omega)
    (try simp only [wk, wk1, wk0, RB, limBytes, simprocAttr, ne_eq])
    (try (rw [List.take_of_length_le]; rotate_left 1; (· first | (simp; done) | (simp; omega) | omega)))
/-- how deep -/
def depF : List (Tree × Int) → Int → Int
  | [], m => m
  | a :: l, m => depF l (if a.1.isE then max m a.2 else m)
theorem depF_append : ∀ (a b : List (Tree × Int)) (m : Int), depF (a ++ b) m = depF b (depF a m)
  | [], b, m => rfl
  | x :: a, b, m => by simp only [List.cons_append, depF]; exact depF_append a b _
section
variable {H R M : List Ob} {a b c d : Ob}
theorem hgetR3 : (H ++ a :: b :: c :: (R ++ M))[H.length + (R.length + 3)]? = M[0]? := by
  have e : H ++ a :: b :: c :: (R ++ M) = (H ++ a :: b :: c :: R) ++ M := by simp
  rw [e, show H.length + (R.length + 3) = (H ++ a :: b :: c :: R).length from by simp, hget0]
theorem hsetR3 {x : Ob} : (H ++ a :: b :: c :: (R ++ M)).set (H.length + (R.length + 3)) x = H ++ a :: b :: c :: (R ++ M.set 0 x) := by
  have e : H ++ a :: b :: c :: (R ++ M) = (H ++ a :: b :: c :: R) ++ M := by simp
  rw [e, show H.length + (R.length + 3) = (H ++ a :: b :: c :: R).length from by simp, hset0]
  simp
theorem hgetR4 : (H ++ a :: b :: c :: d :: (R ++ M))[H.length + (R.length + 4)]? = M[0]? := by
  have e : H ++ a :: b :: c :: d :: (R ++ M) = (H ++ a :: b :: c :: d :: R) ++ M := by simp
  rw [e, show H.length + (R.length + 4) = (H ++ a :: b :: c :: d :: R).length from by simp, hget0]
theorem hsetR4 {x : Ob} : (H ++ a :: b :: c :: d :: (R ++ M)).set (H.length + (R.length + 4)) x = H ++ a :: b :: c :: d :: (R ++ M.set 0 x) := by
  have e : H ++ a :: b :: c :: d :: (R ++ M) = (H ++ a :: b :: c :: d :: R) ++ M := by simp
  rw [e, show H.length + (R.length + 4) = (H ++ a :: b :: c :: d :: R).length from by simp, hset0]
  simp
end
/-- the tags -/
def tagsF (l : List (Tree × Int)) : List (List UInt8) := (l.filter (fun a => a.1.isE)).map fun a => a.1.tag.text
theorem tagsF_len (l : List (Tree × Int)) : (tagsF l).length ≤ l.length := by unfold tagsF; rw [List.length_map]; exact List.length_filter_le _ _
theorem tagsF_app (a b : List (Tree × Int)) : tagsF (a ++ b) = tagsF a ++ tagsF b := by simp [tagsF]
theorem tTags (H : List Ob) (l : List Tree) (hsz : szTs l ≤ 100000000) : SCall Try.prog 34 [.slice (l.map treeV)] H (fun r H' => r = .slice ((tagsF (visA l)).map V.str) ∧ H' = H) := by
  have hva := visA_len l
  refine SCall.of_good fun hH => ?_
  have hHk := HLt.add hH
  refine ofWalk (env := [(3, .ref H.length 0), (6, .fn (.func 155) [] [.ref (H.length + 1) 0])]) (cc := H.length + 1) Try.func34 rfl Try.call34 (n := 18) rfl (by simp) (rs := [.tmp 2]) rfl [()] (by simp only [headC]; rfl) (by simp only [tailC]; rfl) (by kernel_rfl) keep34 tab34 (by kernel_rfl) (by kernel_rfl) (l) (hsz) (ι := (List (List UInt8)) × (Nat)) (fun (x_ : (List (List UInt8)) × (Nat)) => match x_ with | (L, ver) => H ++ [.var [.vec (H.length + 2) ver 0 L.length], .var [.slice (l.map treeV)], .vec ver 1 (L.map V.str)]) (fun pre_ => fun (x_ : (List (List UInt8)) × (Nat)) => match x_ with | (L, ver) => L = tagsF pre_) ([], 1) (fun a_ N_ => [(3, .ref H.length 0), (4, .ref N_ 0)]) (fun a_ N_ => [.var [.str a_.1.tag.text, .slice (a_.1.tag.runs.map runV), .slice (a_.1.attrs.map attrV), .slice (a_.1.kids.map treeV), .str a_.1.text.text, .slice (a_.1.text.runs.map runV)]]) ?_ rfl (by first | (rw [hget0]; rfl) | (rw [hget]; rfl)) ?_ (fun _ => by simp) ?_ rfl (by simp) (by simp) ?_ ?_ ?_
  · (repeat (first | simp -dsimp only [zrTree31, RB, TB, keep34, tab34, xindexAddr, xindex, xslice, xconvert, xlen, ewOp, FreeW, StabW, SameW, ChangeW, AddW, BaseW, limBytes, simprocAttr, ne_eq] | ((with_reducible refine Need.intro ?_ ?_); (first | trivial | exact ⟨_, rfl⟩ | exact ⟨[], (List.append_nil _).symm⟩ | omega | (simp; done) | (simp; omega) | exact ⟨by first | trivial | (simp; done), _, by first | rfl | (simp; rfl)⟩))))
    (first | refine SCall.then (tWalk _ l) ?_ | refine SCall.thenA (tWalk _ l) (by repeat (first | exact trivial | exact .inl (.inl rfl) | exact .inl (.inr ⟨_, rfl, rfl⟩) | exact .inl rfl | exact .inr ⟨_, rfl, rfl⟩ | refine .inr ⟨_, _, rfl, rfl, ?_⟩ | refine ⟨?_, ?_⟩)) ?_ | refine CallE.intro _ (tWalk _ l) ?_ | refine CallE.introA (tWalk _ l) (by repeat (first | exact trivial | exact .inl (.inl rfl) | exact .inl (.inr ⟨_, rfl, rfl⟩) | exact .inl rfl | exact .inr ⟨_, rfl, rfl⟩ | refine .inr ⟨_, _, rfl, rfl, ?_⟩ | refine ⟨?_, ?_⟩)) ?_ | refine CallE.intro _ (fun _ => tWalk _ l) ?_ | refine CallE.intro _ (fun _ => SCall.arg (by repeat (first | exact trivial | exact .inl (.inl rfl) | exact .inl (.inr ⟨_, rfl, rfl⟩) | exact .inl rfl | exact .inr ⟨_, rfl, rfl⟩ | refine .inr ⟨_, _, rfl, rfl, ?_⟩ | refine ⟨?_, ?_⟩)) (tWalk _ l)) ?_ | refine CallE2.intro _ _ (tWalk _ l) ?_ | refine CallE2.intro _ _ (SCall.arg (by repeat (first | exact trivial | exact .inl (.inl rfl) | exact .inl (.inr ⟨_, rfl, rfl⟩) | exact .inl rfl | exact .inr ⟨_, rfl, rfl⟩ | refine .inr ⟨_, _, rfl, rfl, ?_⟩ | refine ⟨?_, ?_⟩)) (tWalk _ l)) ?_)
    (repeat (first | simp -dsimp only [zrTree31, RB, TB, keep34, tab34, xindexAddr, xindex, xslice, xconvert, xlen, ewOp, FreeW, StabW, SameW, ChangeW, AddW, BaseW, limBytes, simprocAttr, ne_eq] | ((with_reducible refine Need.intro ?_ ?_); (first | trivial | exact ⟨_, rfl⟩ | exact ⟨[], (List.append_nil _).symm⟩ | omega | (simp; done) | (simp; omega) | exact ⟨by first | trivial | (simp; done), _, by first | rfl | (simp; rfl)⟩))))
    refine UpTo.step (Gho.adoptCell H.length 0 1 (by simp only [RB, hget0]; rfl) rfl (by simp)) ?_
    exact UpTo.here ⟨by simp [restr, eget], by simp⟩
  · rfl
  · rintro pre ⟨L, ver⟩ h
    (simp (maxDischargeDepth := 6) [LTB, HLt_set, ltL_take, ltL_drop, ltL_rep, ltL_set, upd, eset, hH, hHk, zlTree31] <;> omega)
  · rintro pre a post ⟨L, ver⟩ R hv h
    have h : L = tagsF pre := h
    subst h
    have hte := treeV_eq a.1
    rw [updP_two, hte]
    simp only [eset, limBytes, simprocAttr, ne_eq]
    refine EWn.of_c Tok mixed (own := false) keep34 tab34 (by kernel_rfl) ?_
    (repeat (first | simp -dsimp only [zrTree31, hgetR3, hsetR3, RB, TB, keep34, tab34, xindexAddr, xindex, xslice, xconvert, xlen, ewOp, FreeW, StabW, SameW, ChangeW, AddW, BaseW, limBytes, simprocAttr, ne_eq] | ((with_reducible refine Need.intro ?_ ?_); (first | trivial | exact ⟨_, rfl⟩ | exact ⟨[], (List.append_nil _).symm⟩ | omega | (simp; done) | (simp; omega) | exact ⟨by first | trivial | (simp; done), _, by first | rfl | (simp; rfl)⟩))))
  · rintro pre a post ⟨L, ver⟩ R hv h hHR
    have h : L = tagsF pre := h
    subst h
    have hvl : (visA l).length = pre.length + 1 + post.length := by rw [hv]; simp; omega
    have htl := tagsF_len pre
    refine EWn.of_c Tok mixed (own := false) keep34 tab34 (by kernel_rfl) ?_
    (repeat (first | simp -dsimp only [zrTree31, hgetR3, hsetR3, RB, TB, keep34, tab34, xindexAddr, xindex, xslice, xconvert, xlen, ewOp, FreeW, StabW, SameW, ChangeW, AddW, BaseW, limBytes, simprocAttr, ne_eq] | ((with_reducible refine Need.intro ?_ ?_); (first | trivial | exact ⟨_, rfl⟩ | exact ⟨[], (List.append_nil _).symm⟩ | omega | (simp; done) | (simp; omega) | exact ⟨by first | trivial | (simp; done), _, by first | rfl | (simp; rfl)⟩))))
    (first | refine SCall.then (tElem _ a.1) ?_ | refine SCall.thenA (tElem _ a.1) (by repeat (first | exact trivial | exact .inl (.inl rfl) | exact .inl (.inr ⟨_, rfl, rfl⟩) | exact .inl rfl | exact .inr ⟨_, rfl, rfl⟩ | refine .inr ⟨_, _, rfl, rfl, ?_⟩ | refine ⟨?_, ?_⟩)) ?_ | refine CallE.intro _ (tElem _ a.1) ?_ | refine CallE.introA (tElem _ a.1) (by repeat (first | exact trivial | exact .inl (.inl rfl) | exact .inl (.inr ⟨_, rfl, rfl⟩) | exact .inl rfl | exact .inr ⟨_, rfl, rfl⟩ | refine .inr ⟨_, _, rfl, rfl, ?_⟩ | refine ⟨?_, ?_⟩)) ?_ | refine CallE.intro _ (fun _ => tElem _ a.1) ?_ | refine CallE.intro _ (fun _ => SCall.arg (by repeat (first | exact trivial | exact .inl (.inl rfl) | exact .inl (.inr ⟨_, rfl, rfl⟩) | exact .inl rfl | exact .inr ⟨_, rfl, rfl⟩ | refine .inr ⟨_, _, rfl, rfl, ?_⟩ | refine ⟨?_, ?_⟩)) (tElem _ a.1)) ?_ | refine CallE2.intro _ _ (tElem _ a.1) ?_ | refine CallE2.intro _ _ (SCall.arg (by repeat (first | exact trivial | exact .inl (.inl rfl) | exact .inl (.inr ⟨_, rfl, rfl⟩) | exact .inl rfl | exact .inr ⟨_, rfl, rfl⟩ | refine .inr ⟨_, _, rfl, rfl, ?_⟩ | refine ⟨?_, ?_⟩)) (tElem _ a.1)) ?_)
    (repeat (first | simp -dsimp only [zrTree31, hgetR3, hsetR3, RB, TB, keep34, tab34, xindexAddr, xindex, xslice, xconvert, xlen, ewOp, FreeW, StabW, SameW, ChangeW, AddW, BaseW, limBytes, simprocAttr, ne_eq] | ((with_reducible refine Need.intro ?_ ?_); (first | trivial | exact ⟨_, rfl⟩ | exact ⟨[], (List.append_nil _).symm⟩ | omega | (simp; done) | (simp; omega) | exact ⟨by first | trivial | (simp; done), _, by first | rfl | (simp; rfl)⟩))))
    refine IfW.intro (fun he => ?_) (fun he => ?_)
    · (repeat (first | simp -dsimp only [zrTree31, he, hgetR3, hsetR3, RB, TB, keep34, tab34, xindexAddr, xindex, xslice, xconvert, xlen, ewOp, FreeW, StabW, SameW, ChangeW, AddW, BaseW, limBytes, simprocAttr, ne_eq] | ((with_reducible refine Need.intro ?_ ?_); (first | trivial | exact ⟨_, rfl⟩ | exact ⟨[], (List.append_nil _).symm⟩ | omega | (simp; done) | (simp; omega) | exact ⟨by first | trivial | (simp; done), _, by first | rfl | (simp; rfl)⟩))))
      refine dropR (H ++ .var [.vec (H.length + 2) (ver + 1) 0 ((tagsF pre).length + 1)] :: .var [.slice (l.map treeV)] :: .vec (ver + 1) 1 ((tagsF pre ++ [a.1.tag.text]).map V.str) :: R) (by simp; rfl) (by simp) ?_ (UpTo.here ⟨rfl, (tagsF pre ++ [a.1.tag.text], ver + 1), ?_, by first | (simp; done) | (simp; rfl)⟩)
      · exact hltR [.var [.vec (H.length + 2) (ver + 1) 0 ((tagsF pre).length + 1)], .var [.slice (l.map treeV)], .vec (ver + 1) 1 ((tagsF pre ++ [a.1.tag.text]).map V.str)] hHR rfl (by (simp (maxDischargeDepth := 6) [LTB, HLt_set, ltL_take, ltL_drop, ltL_rep, ltL_set, upd, eset, hH, hHk, zlTree31] <;> omega))
      · show _ = _
        rw [tagsF_app]; simp [tagsF, he]
    · (repeat (first | simp -dsimp only [zrTree31, he, hgetR3, hsetR3, RB, TB, keep34, tab34, xindexAddr, xindex, xslice, xconvert, xlen, ewOp, FreeW, StabW, SameW, ChangeW, AddW, BaseW, limBytes, simprocAttr, ne_eq] | ((with_reducible refine Need.intro ?_ ?_); (first | trivial | exact ⟨_, rfl⟩ | exact ⟨[], (List.append_nil _).symm⟩ | omega | (simp; done) | (simp; omega) | exact ⟨by first | trivial | (simp; done), _, by first | rfl | (simp; rfl)⟩))))
      refine dropR (H ++ .var [.vec (H.length + 2) ver 0 (tagsF pre).length] :: .var [.slice (l.map treeV)] :: .vec ver 1 ((tagsF pre).map V.str) :: R) (by simp; rfl) (by simp) ?_ (UpTo.here ⟨rfl, (tagsF pre, ver), ?_, by first | (simp; done) | (simp; rfl)⟩)
      · exact hltR [.var [.vec (H.length + 2) ver 0 (tagsF pre).length], .var [.slice (l.map treeV)], .vec ver 1 ((tagsF pre).map V.str)] hHR rfl (by (simp (maxDischargeDepth := 6) [LTB, HLt_set, ltL_take, ltL_drop, ltL_rep, ltL_set, upd, eset, hH, hHk, zlTree31] <;> omega))
      · show _ = _
        rw [tagsF_app]; simp [tagsF, he]
  · rintro D l' y vs cs ⟨L, ver⟩ h
    have h : L = tagsF (visA l) := h
    subst h
    refine EWn.of_c Tok mixed (own := false) keep34 tab34 (by kernel_rfl) ?_
    (repeat (first | simp -dsimp only [zrTree31, RB, TB, keep34, tab34, xindexAddr, xindex, xslice, xconvert, xlen, ewOp, FreeW, StabW, SameW, ChangeW, AddW, BaseW, limBytes, simprocAttr, ne_eq] | ((with_reducible refine Need.intro ?_ ?_); (first | trivial | exact ⟨_, rfl⟩ | exact ⟨[], (List.append_nil _).symm⟩ | omega | (simp; done) | (simp; omega) | exact ⟨by first | trivial | (simp; done), _, by first | rfl | (simp; rfl)⟩))))
    refine ⟨by (first | rw [hget] | rw [hget0]); rfl, ?_⟩
    (repeat (first | simp -dsimp only [zrTree31, hset, RB, TB, keep34, tab34, xindexAddr, xindex, xslice, xconvert, xlen, ewOp, FreeW, StabW, SameW, ChangeW, AddW, BaseW, limBytes, simprocAttr, ne_eq] | ((with_reducible refine Need.intro ?_ ?_); (first | trivial | exact ⟨_, rfl⟩ | exact ⟨[], (List.append_nil _).symm⟩ | omega | (simp; done) | (simp; omega) | exact ⟨by first | trivial | (simp; done), _, by first | rfl | (simp; rfl)⟩))))
    refine RetW.auto0 false _ (by first | rfl | exact (List.append_nil _).symm) ?_ ?_
    · (simp (maxDischargeDepth := 6) [LTB, HLt_set, ltL_take, ltL_drop, ltL_rep, ltL_set, upd, eset, hH, hHk, zlTree31] <;> omega)
    (try simp only [wk, wk1, wk0, RB, limBytes, simprocAttr, ne_eq])
    (try (rw [List.take_of_length_le]; rotate_left 1; (· first | (simp; done) | (simp; omega) | omega)))
    rw [if_pos (by omega)]
/-- the texts -/
def wordsF (l : List (Tree × Int)) : List Str := l.map fun a => a.1.text
theorem wordsF_app (a b : List (Tree × Int)) : wordsF (a ++ b) = wordsF a ++ wordsF b := by simp [wordsF]
mutual
theorem words_szK : ∀ (t : Tree) (d : Int), (((wordsF (visK t d)).map szS').sum + szS' t.text) ≤ szT t
  | .mk tag attrs kids text, d => by
    have := words_szL kids (d + 1)
    rw [visK, szT]; simp only [Tree.text]; omega
theorem words_szL : ∀ (l : List Tree) (d : Int), ((wordsF (visL l d)).map szS').sum ≤ szTs l
  | [], d => by simp [visL, wordsF]
  | t :: l, d => by
    have h1 := words_szK t d
    have h2 := words_szL l d
    simp only [visL, szTs]
    have e : wordsF ((t, d) :: (visK t d ++ visL l d)) = t.text :: (wordsF (visK t d) ++ wordsF (visL l d)) := by simp [wordsF]
    rw [e, List.map_cons, List.map_append, List.sum_cons, List.sum_append]
    omega
end
theorem words_sum {l : List Str} {s : Str} (h : s ∈ l) : szS' s ≤ (l.map szS').sum := by
  induction l with
  | nil => cases h
  | cons b l ih =>
    simp only [List.map_cons, List.sum_cons]
    rcases List.mem_cons.1 h with rfl | h
    · omega
    · have := ih h; omega
theorem words_flat : ∀ l : List Str, (l.flatMap Str.text).length ≤ (l.map szS').sum
  | [] => by simp
  | s :: l => by
    have := words_flat l
    simp only [List.flatMap_cons, List.length_append, List.map_cons, List.sum_cons]
    unfold szS' at *
    omega
theorem words_ok (l : List Tree) (hsz : szTs l ≤ 100000000) : (∀ s ∈ wordsF (visA l), okS s) ∧ ((wordsF (visA l)).flatMap Str.text).length ≤ 1000000000 ∧ (wordsF (visA l)).length ≤ 1000000000 := by
  have h1 := words_szL (mergeT l) 1
  have h2 := merge_sz l
  have h3 := visA_len l
  refine ⟨fun s hs => okS_sz' (Nat.le_trans (words_sum hs) (by unfold visA; omega)), Nat.le_trans (words_flat _) (by unfold visA; omega), by unfold wordsF; rw [List.length_map]; omega⟩
theorem tWords (H : List Ob) (l : List Tree) (hsz : szTs l ≤ 100000000) : SCall Try.prog 32 [.slice (l.map treeV)] H (fun r H' => r = strV (catS (wordsF (visA l))) ∧ H' = H) := by
  have hva := visA_len l
  obtain ⟨hw1, hw2, hw3⟩ := words_ok l hsz
  refine SCall.of_good fun hH => ?_
  have hHk := HLt.add hH
  refine ofWalk (env := [(2, .ref H.length 0), (3, .ref (H.length + 1) 0), (6, .fn (.func 155) [] [.ref (H.length + 2) 0])]) (cc := H.length + 2) Try.func32 rfl Try.call32 (n := 16) rfl (by simp) (rs := [.cell 2 30]) rfl [()] (by simp only [headC]; rfl) (by simp only [tailC]; rfl) (by kernel_rfl) keep32 tab32 (by kernel_rfl) (by kernel_rfl) (l) (hsz) (ι := (List Str) × (Nat)) (fun (x_ : (List Str) × (Nat)) => match x_ with | (L, ver) => H ++ [.var [.str [], .fslice []], .var [.vec (H.length + 3) ver 0 L.length], .var [.slice (l.map treeV)], .vec ver 2 (L.map strV)]) (fun pre_ => fun (x_ : (List Str) × (Nat)) => match x_ with | (L, ver) => L = wordsF pre_) ([], 1) (fun a_ N_ => [(3, .ref (H.length + 1) 0), (4, .ref N_ 0)]) (fun a_ N_ => [.var [.str a_.1.tag.text, .slice (a_.1.tag.runs.map runV), .slice (a_.1.attrs.map attrV), .slice (a_.1.kids.map treeV), .str a_.1.text.text, .slice (a_.1.text.runs.map runV)]]) ?_ rfl (by first | (rw [hget0]; rfl) | (rw [hget]; rfl)) ?_ (fun _ => by simp) ?_ rfl (by simp) (by simp) ?_ ?_ ?_
  · (repeat (first | simp -dsimp only [zrTree31, RB, TB, keep32, tab32, xindexAddr, xindex, xslice, xconvert, xlen, ewOp, FreeW, StabW, SameW, ChangeW, AddW, BaseW, limBytes, simprocAttr, ne_eq] | ((with_reducible refine Need.intro ?_ ?_); (first | trivial | exact ⟨_, rfl⟩ | exact ⟨[], (List.append_nil _).symm⟩ | omega | (simp; done) | (simp; omega) | exact ⟨by first | trivial | (simp; done), _, by first | rfl | (simp; rfl)⟩))))
    (first | refine SCall.then (tWalk _ l) ?_ | refine SCall.thenA (tWalk _ l) (by repeat (first | exact trivial | exact .inl (.inl rfl) | exact .inl (.inr ⟨_, rfl, rfl⟩) | exact .inl rfl | exact .inr ⟨_, rfl, rfl⟩ | refine .inr ⟨_, _, rfl, rfl, ?_⟩ | refine ⟨?_, ?_⟩)) ?_ | refine CallE.intro _ (tWalk _ l) ?_ | refine CallE.introA (tWalk _ l) (by repeat (first | exact trivial | exact .inl (.inl rfl) | exact .inl (.inr ⟨_, rfl, rfl⟩) | exact .inl rfl | exact .inr ⟨_, rfl, rfl⟩ | refine .inr ⟨_, _, rfl, rfl, ?_⟩ | refine ⟨?_, ?_⟩)) ?_ | refine CallE.intro _ (fun _ => tWalk _ l) ?_ | refine CallE.intro _ (fun _ => SCall.arg (by repeat (first | exact trivial | exact .inl (.inl rfl) | exact .inl (.inr ⟨_, rfl, rfl⟩) | exact .inl rfl | exact .inr ⟨_, rfl, rfl⟩ | refine .inr ⟨_, _, rfl, rfl, ?_⟩ | refine ⟨?_, ?_⟩)) (tWalk _ l)) ?_ | refine CallE2.intro _ _ (tWalk _ l) ?_ | refine CallE2.intro _ _ (SCall.arg (by repeat (first | exact trivial | exact .inl (.inl rfl) | exact .inl (.inr ⟨_, rfl, rfl⟩) | exact .inl rfl | exact .inr ⟨_, rfl, rfl⟩ | refine .inr ⟨_, _, rfl, rfl, ?_⟩ | refine ⟨?_, ?_⟩)) (tWalk _ l)) ?_)
    (repeat (first | simp -dsimp only [zrTree31, RB, TB, keep32, tab32, xindexAddr, xindex, xslice, xconvert, xlen, ewOp, FreeW, StabW, SameW, ChangeW, AddW, BaseW, limBytes, simprocAttr, ne_eq] | ((with_reducible refine Need.intro ?_ ?_); (first | trivial | exact ⟨_, rfl⟩ | exact ⟨[], (List.append_nil _).symm⟩ | omega | (simp; done) | (simp; omega) | exact ⟨by first | trivial | (simp; done), _, by first | rfl | (simp; rfl)⟩))))
    refine UpTo.step (Gho.adoptCell (H.length + 1) 0 2 (by simp only [RB, hget]; rfl) rfl (by simp)) ?_
    exact UpTo.here ⟨by simp [restr, eget], by simp⟩
  · rfl
  · rintro pre ⟨L, ver⟩ h
    (simp (maxDischargeDepth := 6) [LTB, HLt_set, ltL_take, ltL_drop, ltL_rep, ltL_set, upd, eset, hH, hHk, zlTree31] <;> omega)
  · rintro pre a post ⟨L, ver⟩ R hv h
    have h : L = wordsF pre := h
    subst h
    have hte := treeV_eq a.1
    rw [updP_two, hte]
    simp only [eset, limBytes, simprocAttr, ne_eq]
    refine EWn.of_c Tok mixed (own := false) keep32 tab32 (by kernel_rfl) ?_
    (repeat (first | simp -dsimp only [zrTree31, hgetR4, hsetR4, RB, TB, keep32, tab32, xindexAddr, xindex, xslice, xconvert, xlen, ewOp, FreeW, StabW, SameW, ChangeW, AddW, BaseW, limBytes, simprocAttr, ne_eq] | ((with_reducible refine Need.intro ?_ ?_); (first | trivial | exact ⟨_, rfl⟩ | exact ⟨[], (List.append_nil _).symm⟩ | omega | (simp; done) | (simp; omega) | exact ⟨by first | trivial | (simp; done), _, by first | rfl | (simp; rfl)⟩))))
  · rintro pre a post ⟨L, ver⟩ R hv h hHR
    have h : L = wordsF pre := h
    subst h
    have hvl : (visA l).length = pre.length + 1 + post.length := by rw [hv]; simp; omega
    have htl : (wordsF pre).length = pre.length := by simp [wordsF]
    refine EWn.of_c Tok mixed (own := false) keep32 tab32 (by kernel_rfl) ?_
    (repeat (first | simp -dsimp only [zrTree31, hgetR4, hsetR4, RB, TB, keep32, tab32, xindexAddr, xindex, xslice, xconvert, xlen, ewOp, FreeW, StabW, SameW, ChangeW, AddW, BaseW, limBytes, simprocAttr, ne_eq] | ((with_reducible refine Need.intro ?_ ?_); (first | trivial | exact ⟨_, rfl⟩ | exact ⟨[], (List.append_nil _).symm⟩ | omega | (simp; done) | (simp; omega) | exact ⟨by first | trivial | (simp; done), _, by first | rfl | (simp; rfl)⟩))))
    refine dropR (H ++ .var [.str [], .fslice []] :: .var [.vec (H.length + 3) (ver + 1) 0 ((wordsF pre).length + 1)] :: .var [.slice (l.map treeV)] :: .vec (ver + 1) 2 ((wordsF pre ++ [a.1.text]).map strV) :: R) (by simp [strV]; try rfl) (by simp) ?_ (UpTo.here ⟨rfl, (wordsF pre ++ [a.1.text], ver + 1), ?_, by first | (simp; done) | (simp; rfl)⟩)
    · exact hltR [.var [.str [], .fslice []], .var [.vec (H.length + 3) (ver + 1) 0 ((wordsF pre).length + 1)], .var [.slice (l.map treeV)], .vec (ver + 1) 2 ((wordsF pre ++ [a.1.text]).map strV)] hHR rfl (by (simp (maxDischargeDepth := 6) [LTB, HLt_set, ltL_take, ltL_drop, ltL_rep, ltL_set, upd, eset, hH, hHk, zlTree31] <;> omega))
    · show _ = _
      rw [wordsF_app]; simp [wordsF]
  · rintro D l' y vs cs ⟨L, ver⟩ h
    have h : L = wordsF (visA l) := h
    subst h
    refine EWn.of_c Tok mixed (own := false) keep32 tab32 (by kernel_rfl) ?_
    (repeat (first | simp -dsimp only [zrTree31, RB, TB, keep32, tab32, xindexAddr, xindex, xslice, xconvert, xlen, ewOp, FreeW, StabW, SameW, ChangeW, AddW, BaseW, limBytes, simprocAttr, ne_eq] | ((with_reducible refine Need.intro ?_ ?_); (first | trivial | exact ⟨_, rfl⟩ | exact ⟨[], (List.append_nil _).symm⟩ | omega | (simp; done) | (simp; omega) | exact ⟨by first | trivial | (simp; done), _, by first | rfl | (simp; rfl)⟩))))
    refine SCall.freeze 0 (l := (wordsF (visA l)).map strV) (by rfl) ?_ ?_ ?_
    · apply Exists.intro; (try simp only [RB, List.map_append, List.map_cons, List.map_nil, limBytes, simprocAttr, ne_eq]); first | rfl | (simp; done) | (simp; rfl)
    · first | rfl | (simp; done) | (simp; omega)
    (try simp only [RB, limBytes, simprocAttr, ne_eq])
    (first | refine SCall.then (mCat _ (wordsF (visA l)) hw1 hw2 hw3) ?_ | refine SCall.thenA (mCat _ (wordsF (visA l)) hw1 hw2 hw3) (by repeat (first | exact trivial | exact .inl (.inl rfl) | exact .inl (.inr ⟨_, rfl, rfl⟩) | exact .inl rfl | exact .inr ⟨_, rfl, rfl⟩ | refine .inr ⟨_, _, rfl, rfl, ?_⟩ | refine ⟨?_, ?_⟩)) ?_ | refine CallE.intro _ (mCat _ (wordsF (visA l)) hw1 hw2 hw3) ?_ | refine CallE.introA (mCat _ (wordsF (visA l)) hw1 hw2 hw3) (by repeat (first | exact trivial | exact .inl (.inl rfl) | exact .inl (.inr ⟨_, rfl, rfl⟩) | exact .inl rfl | exact .inr ⟨_, rfl, rfl⟩ | refine .inr ⟨_, _, rfl, rfl, ?_⟩ | refine ⟨?_, ?_⟩)) ?_ | refine CallE.intro _ (fun _ => mCat _ (wordsF (visA l)) hw1 hw2 hw3) ?_ | refine CallE.intro _ (fun _ => SCall.arg (by repeat (first | exact trivial | exact .inl (.inl rfl) | exact .inl (.inr ⟨_, rfl, rfl⟩) | exact .inl rfl | exact .inr ⟨_, rfl, rfl⟩ | refine .inr ⟨_, _, rfl, rfl, ?_⟩ | refine ⟨?_, ?_⟩)) (mCat _ (wordsF (visA l)) hw1 hw2 hw3)) ?_ | refine CallE2.intro _ _ (mCat _ (wordsF (visA l)) hw1 hw2 hw3) ?_ | refine CallE2.intro _ _ (SCall.arg (by repeat (first | exact trivial | exact .inl (.inl rfl) | exact .inl (.inr ⟨_, rfl, rfl⟩) | exact .inl rfl | exact .inr ⟨_, rfl, rfl⟩ | refine .inr ⟨_, _, rfl, rfl, ?_⟩ | refine ⟨?_, ?_⟩)) (mCat _ (wordsF (visA l)) hw1 hw2 hw3)) ?_)
    (repeat (first | simp -dsimp only [zrTree31, strV, RB, TB, keep32, tab32, xindexAddr, xindex, xslice, xconvert, xlen, ewOp, FreeW, StabW, SameW, ChangeW, AddW, BaseW, limBytes, simprocAttr, ne_eq] | ((with_reducible refine Need.intro ?_ ?_); (first | trivial | exact ⟨_, rfl⟩ | exact ⟨[], (List.append_nil _).symm⟩ | omega | (simp; done) | (simp; omega) | exact ⟨by first | trivial | (simp; done), _, by first | rfl | (simp; rfl)⟩))))
    refine ⟨by (first | rw [hget] | rw [hget0]); rfl, ?_⟩
    (repeat (first | simp -dsimp only [zrTree31, hset, RB, TB, keep32, tab32, xindexAddr, xindex, xslice, xconvert, xlen, ewOp, FreeW, StabW, SameW, ChangeW, AddW, BaseW, limBytes, simprocAttr, ne_eq] | ((with_reducible refine Need.intro ?_ ?_); (first | trivial | exact ⟨_, rfl⟩ | exact ⟨[], (List.append_nil _).symm⟩ | omega | (simp; done) | (simp; omega) | exact ⟨by first | trivial | (simp; done), _, by first | rfl | (simp; rfl)⟩))))
    refine RetW.auto0 false _ (by first | rfl | exact (List.append_nil _).symm) ?_ ?_
    · (simp (maxDischargeDepth := 6) [LTB, HLt_set, ltL_take, ltL_drop, ltL_rep, ltL_set, upd, eset, hH, hHk, zlTree31] <;> omega)
    (try simp only [wk, wk1, wk0, RB, limBytes, simprocAttr, ne_eq])
    (try (rw [List.take_of_length_le]; rotate_left 1; (· first | (simp; done) | (simp; omega) | omega)))
end Go.Proofs.Ytjplgbalpnlanaa

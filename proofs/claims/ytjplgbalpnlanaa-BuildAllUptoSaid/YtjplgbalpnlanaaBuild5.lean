/- The walks of package build: Trees, Open. -/
import Derived.Test.YtjplgbalpnlanaaBuild4
set_option maxHeartbeats 600000
set_option linter.unusedSimpArgs false
set_option linter.unusedVariables false
set_option maxRecDepth 100000
namespace Go.Proofs.Ytjplgbalpnlanaa
open Go Go.EL
theorem zrBuild51 : type_of% (And.intro (And.intro (And.intro (And.intro (@st_run) (And.intro (@sz_run) (@st1_run))) (And.intro (@cl_run) (And.intro (@st_Str) (@sz_Str)))) (And.intro (And.intro (@st1_Str) (And.intro (@cl_Str) (@st_c))) (And.intro (@sz_c) (And.intro (@st1_c) (@cl_c))))) (And.intro (And.intro (And.intro (@st_attr) (And.intro (@sz_attr) (@st1_attr))) (And.intro (@cl_attr) (And.intro (@st_tree) (@sz_tree)))) (And.intro (And.intro (@st1_tree) (And.intro (@cl_tree) (@st_tok))) (And.intro (@sz_tok) (And.intro (@st1_tok) (@cl_tok)))))) := And.intro (And.intro (And.intro (And.intro (@st_run) (And.intro (@sz_run) (@st1_run))) (And.intro (@cl_run) (And.intro (@st_Str) (@sz_Str)))) (And.intro (And.intro (@st1_Str) (And.intro (@cl_Str) (@st_c))) (And.intro (@sz_c) (And.intro (@st1_c) (@cl_c))))) (And.intro (And.intro (And.intro (@st_attr) (And.intro (@sz_attr) (@st1_attr))) (And.intro (@cl_attr) (And.intro (@st_tree) (@sz_tree)))) (And.intro (And.intro (@st1_tree) (And.intro (@cl_tree) (@st_tok))) (And.intro (@sz_tok) (And.intro (@st1_tok) (@cl_tok)))))
theorem zlBuild51 : type_of% (And.intro (And.intro (And.intro (And.intro (@lt_vi) (@lt_str)) (And.intro (@lt_vb) (And.intro (@ltc_str) (@ltc_vi)))) (And.intro (And.intro (@lt_run) (And.intro (@lt1_run) (@ltc_run))) (And.intro (@lt_Str) (And.intro (@lt1_Str) (@ltc_Str))))) (And.intro (And.intro (And.intro (@lt_c) (And.intro (@lt1_c) (@ltc_c))) (And.intro (@lt_attr) (And.intro (@lt1_attr) (@ltc_attr)))) (And.intro (And.intro (@lt_tree) (And.intro (@lt1_tree) (@ltc_tree))) (And.intro (@lt_tok) (And.intro (@lt1_tok) (@ltc_tok)))))) := And.intro (And.intro (And.intro (And.intro (@lt_vi) (@lt_str)) (And.intro (@lt_vb) (And.intro (@ltc_str) (@ltc_vi)))) (And.intro (And.intro (@lt_run) (And.intro (@lt1_run) (@ltc_run))) (And.intro (@lt_Str) (And.intro (@lt1_Str) (@ltc_Str))))) (And.intro (And.intro (And.intro (@lt_c) (And.intro (@lt1_c) (@ltc_c))) (And.intro (@lt_attr) (And.intro (@lt1_attr) (@ltc_attr)))) (And.intro (And.intro (@lt_tree) (And.intro (@lt1_tree) (@ltc_tree))) (And.intro (@lt_tok) (And.intro (@lt1_tok) (@ltc_tok)))))
theorem bTrees (H : List Ob) (l : List Toke) (hb : (l.map szK).sum ≤ 90000000) : SCall Try.prog 22 [.slice (l.map tokV)] H (fun r H' => r = .slice ((mergeT (finF (stA l))).map treeV) ∧ H' = H) := by
  have hsz := stA_sz l
  have hll := szK_len l
  have hfz := finF_sz _ (stA l) (Nat.le_refl _)
  have hsl := len_st (st := stA l)
  have hst0 := List.length_pos_iff.2 (stA_ne l)
  refine SCall.of_good fun hH => ?_
  have hHk := HLt.add hH
  refine SCall.of_code Tok Try.func22 rfl Try.call22 (n := 20) rfl (by simp) (rs := [.tmp 2]) rfl ?_
  refine EWn.to ?_
  refine EWn.of_c Tok mixed (own := false) keep22 tab22 (by kernel_rfl) ?_
  (repeat (first | simp -dsimp only [zrBuild51, RB, TB, keep22, tab22, xindexAddr, xindex, xslice, xconvert, xlen, ewOp, FreeW, StabW, SameW, ChangeW, AddW, BaseW, limBytes, simprocAttr, ne_eq] | ((with_reducible refine Need.intro ?_ ?_); (first | trivial | exact ⟨_, rfl⟩ | exact ⟨[], (List.append_nil _).symm⟩ | omega | (simp; done) | (simp; omega) | exact ⟨by first | trivial | (simp; done), _, by first | rfl | (simp; rfl)⟩))))
  refine SCall.mono (bAll H l hb) ?_
  rintro _ G0 ⟨s, own0, rfl, hG0, hS0, hK0⟩
  (repeat (first | simp -dsimp only [zrBuild51, RB, TB, keep22, tab22, xindexAddr, xindex, xslice, xconvert, xlen, ewOp, FreeW, StabW, SameW, ChangeW, AddW, BaseW, limBytes, simprocAttr, ne_eq] | ((with_reducible refine Need.intro ?_ ?_); (first | trivial | exact ⟨_, rfl⟩ | exact ⟨[], (List.append_nil _).symm⟩ | omega | (simp; done) | (simp; omega) | exact ⟨by first | trivial | (simp; done), _, by first | rfl | (simp; rfl)⟩))))
  refine EWn.loopE (ι := (List Fr) × (List Ob) × (List Nat)) (fun (x_ : (List Fr) × (List Ob) × (List Nat)) => match x_ with | (st2, G, own2) => (∃ j, st2 = popN j (stA l) ∧ j < (stA l).length) ∧ HLt G.length G ∧ Stk G s st2 own2 ∧ Kept0 H own2 G) (fun (x_ : (List Fr) × (List Ob) × (List Nat)) => match x_ with | (st2, G, own2) => st2.length) (fun (x_ : (List Fr) × (List Ob) × (List Nat)) => match x_ with | (st2, G, own2) => [(3, .ref s 0)]) (fun (x_ : (List Fr) × (List Ob) × (List Nat)) => match x_ with | (st2, G, own2) => G) (stA l, G0, own0) ?_ ?_ ?_ ?_ ?_
  · first | rfl | simp [upd, eset]
  · first | rfl | (simp; done) | exact (set_same (by assumption)).symm
  · rintro ⟨st2, G, own2⟩ ⟨_, hG, hS2, hK⟩
    have ls2 : s < G.length := by obtain ⟨o, ver, ps, rfl, hm, g1, -⟩ := hS2; exact (List.getElem?_eq_some_iff.1 g1).1
    exact ⟨hK.1, hG, by (simp (maxDischargeDepth := 6) [LTB, HLt_set, ltL_take, ltL_drop, ltL_rep, ltL_set, upd, eset, hH, hHk, zlBuild51, lt_op] <;> omega)⟩
  · exact ⟨⟨0, rfl, hst0⟩, hG0, hS0, hK0⟩
  rintro ⟨st2, G, own2⟩ ⟨⟨j, hst2, hj⟩, hG, hS2, hK⟩
  have hl2 : st2.length = (stA l).length - j := by rw [hst2, popN_len]
  have hz2 := sz_popN j (stA l)
  rw [← hst2] at hz2
  obtain ⟨o2, ver2, ps2, ho2, hm2, hat⟩ := id hS2
  obtain ⟨q1, q2, q3, q4⟩ := id hat
  have hpl2 : ps2.length = st2.length := by rw [← hm2, List.length_map]
  refine EWn.of_c Tok mixed (own := false) keep22 tab22 (by kernel_rfl) ?_
  (repeat (first | simp -dsimp only [zrBuild51, q1, q2, RB, TB, keep22, tab22, xindexAddr, xindex, xslice, xconvert, xlen, ewOp, FreeW, StabW, SameW, ChangeW, AddW, BaseW, limBytes, simprocAttr, ne_eq] | ((with_reducible refine Need.intro ?_ ?_); (first | trivial | exact ⟨_, rfl⟩ | exact ⟨[], (List.append_nil _).symm⟩ | omega | (simp; done) | (simp; omega) | exact ⟨by first | trivial | (simp; done), _, by first | rfl | (simp; rfl)⟩))))
  refine IfW.intro (fun h => ?_) (fun h => ?_)
  · have h' := of_decide_eq_true h
    (repeat (first | simp -dsimp only [zrBuild51, h, RB, TB, keep22, tab22, xindexAddr, xindex, xslice, xconvert, xlen, ewOp, FreeW, StabW, SameW, ChangeW, AddW, BaseW, limBytes, simprocAttr, ne_eq] | ((with_reducible refine Need.intro ?_ ?_); (first | trivial | exact ⟨_, rfl⟩ | exact ⟨[], (List.append_nil _).symm⟩ | omega | (simp; done) | (simp; omega) | exact ⟨by first | trivial | (simp; done), _, by first | rfl | (simp; rfl)⟩))))
    match st2, hS2, hst2, hl2, hpl2, hz2 with
    | a :: b :: rest, hS2, hst2, hl2, hpl2, hz2 =>
      refine SCall.mono (bPop G s a b rest own2 hS2 (by omega)) ?_
      rintro _ G2 ⟨rfl, hG2, own3, hS3, hK3⟩
      (repeat (first | simp -dsimp only [zrBuild51, RB, TB, keep22, tab22, xindexAddr, xindex, xslice, xconvert, xlen, ewOp, FreeW, StabW, SameW, ChangeW, AddW, BaseW, limBytes, simprocAttr, ne_eq] | ((with_reducible refine Need.intro ?_ ?_); (first | trivial | exact ⟨_, rfl⟩ | exact ⟨[], (List.append_nil _).symm⟩ | omega | (simp; done) | (simp; omega) | exact ⟨by first | trivial | (simp; done), _, by first | rfl | (simp; rfl)⟩))))
      refine UpTo.here ⟨(popF (a :: b :: rest), G2, own3), ⟨⟨j + 1, by rw [hst2]; exact popN_succ j (stA l), by simp only [List.length_cons] at *; omega⟩, hG2, hS3, hK.step hK3⟩, by simp only [popF_len, List.length_cons]; omega, by simp [upd, eset], ⟨[], by simp⟩⟩
    | [a], hS2, hst2, hl2, hpl2, hz2 => simp only [List.length_cons, List.length_nil] at hpl2; omega
    | [], hS2, hst2, hl2, hpl2, hz2 => simp only [List.length_nil] at hpl2; omega
  · have h' := of_decide_eq_false h
    (repeat (first | simp -dsimp only [zrBuild51, h, RB, TB, keep22, tab22, xindexAddr, xindex, xslice, xconvert, xlen, ewOp, FreeW, StabW, SameW, ChangeW, AddW, BaseW, limBytes, simprocAttr, ne_eq] | ((with_reducible refine Need.intro ?_ ?_); (first | trivial | exact ⟨_, rfl⟩ | exact ⟨[], (List.append_nil _).symm⟩ | omega | (simp; done) | (simp; omega) | exact ⟨by first | trivial | (simp; done), _, by first | rfl | (simp; rfl)⟩))))
    match ps2, hm2, hat, hpl2 with
    | [(f, k, kv)], hm2, hat, hpl2 =>
      obtain ⟨g1, g2, g3, hso, hsk, hok, -⟩ := hat.cons
      simp only [List.reverse_nil, List.map_nil, List.nil_append, List.length_nil] at g1 g2
      have hf : finF (stA l) = f.kids := by
        rw [← finF_popN j (stA l) hj, ← hst2, ← hm2]; exact finF_one f
      have lk := (List.getElem?_eq_some_iff.1 g3).1
      refine SCall.then (bTop G s o2 ver2 [] _ g1 g2 (by simp)) ?_
      (repeat (first | simp -dsimp only [zrBuild51, g2, opV, RB, TB, keep22, tab22, xindexAddr, xindex, xslice, xconvert, xlen, ewOp, FreeW, StabW, SameW, ChangeW, AddW, BaseW, limBytes, simprocAttr, ne_eq] | ((with_reducible refine Need.intro ?_ ?_); (first | trivial | exact ⟨_, rfl⟩ | exact ⟨[], (List.append_nil _).symm⟩ | omega | (simp; done) | (simp; omega) | exact ⟨by first | trivial | (simp; done), _, by first | rfl | (simp; rfl)⟩))))
      refine SCall.freeze 0 (l := f.kids.map treeV) (by rfl) ⟨_, g3⟩ (by simp) ?_
      obtain ⟨L, hL⟩ := hK.app
      have hge : H.length ≤ k := hK.2.2 k (by rw [ho2]; simp [ownOf])
      obtain ⟨L2, hL2⟩ : ∃ L2, G.set k .gone = H ++ L2 := ⟨L.set (k - H.length) .gone, by rw [hL, List.set_append_right _ _ hge]⟩
      refine SCall.then (tMerge _ f.kids (Nat.le_refl _) (by rw [← hf]; omega) _) ?_
      (repeat (first | simp -dsimp only [zrBuild51, RB, TB, keep22, tab22, xindexAddr, xindex, xslice, xconvert, xlen, ewOp, FreeW, StabW, SameW, ChangeW, AddW, BaseW, limBytes, simprocAttr, ne_eq] | ((with_reducible refine Need.intro ?_ ?_); (first | trivial | exact ⟨_, rfl⟩ | exact ⟨[], (List.append_nil _).symm⟩ | omega | (simp; done) | (simp; omega) | exact ⟨by first | trivial | (simp; done), _, by first | rfl | (simp; rfl)⟩))))
      refine RetW.auto0 false L2 hL2 ?_ ?_
      · (simp (maxDischargeDepth := 6) [LTB, HLt_set, ltL_take, ltL_drop, ltL_rep, ltL_set, upd, eset, hH, hHk, zlBuild51, lt_op] <;> omega)
      · simp only [wk, wk1, wk0, hf]
        simp
    | [], hm2, hat, hpl2 => simp only [List.length_nil] at hpl2; rw [← hpl2] at hl2; omega
    | a :: b :: r, hm2, hat, hpl2 => simp only [List.length_cons] at h'; omega
theorem opn_rev : ∀ st : List Fr, opn st = (st.reverse.drop 1).map fun f => f.tag.text
  | [] => rfl
  | [f] => rfl
  | f :: g :: st => by
    rw [opn_cons, opn_rev (g :: st), List.reverse_cons (a := f), List.drop_append_of_le_length (by simp), List.map_append]
    rfl
theorem bOpen (H : List Ob) (l : List Toke) (hb : (l.map szK).sum ≤ 90000000) : SCall Try.prog 25 [.slice (l.map tokV)] H (fun r H' => r = .slice ((opn (stA l)).map V.str) ∧ H' = H) := by
  have hsz := stA_sz l
  have hsl := len_st (st := stA l)
  have hst0 := List.length_pos_iff.2 (stA_ne l)
  refine SCall.of_good fun hH => ?_
  have hHk := HLt.add hH
  refine SCall.of_code Tok Try.func25 rfl Try.call25 (n := 25) rfl (by simp) (rs := [.tmp 2]) rfl ?_
  refine EWn.to ?_
  refine EWn.of_c Tok mixed (own := false) keep25 tab25 (by kernel_rfl) ?_
  (repeat (first | simp -dsimp only [zrBuild51, RB, TB, keep25, tab25, xindexAddr, xindex, xslice, xconvert, xlen, ewOp, FreeW, StabW, SameW, ChangeW, AddW, BaseW, limBytes, simprocAttr, ne_eq] | ((with_reducible refine Need.intro ?_ ?_); (first | trivial | exact ⟨_, rfl⟩ | exact ⟨[], (List.append_nil _).symm⟩ | omega | (simp; done) | (simp; omega) | exact ⟨by first | trivial | (simp; done), _, by first | rfl | (simp; rfl)⟩))))
  refine SCall.mono (bAll H l hb) ?_
  rintro _ G ⟨s, own, rfl, hG, hS, hK⟩
  obtain ⟨o, ver, ps, ho, hm, g1, g2, g3, g4⟩ := hS
  have hpl : ps.length = (stA l).length := by rw [← hm, List.length_map]
  have lo := (List.getElem?_eq_some_iff.1 g2).1
  have ls := (List.getElem?_eq_some_iff.1 g1).1
  have hO : ∀ L, (G ++ L)[o]? = some (.vec ver 6 (ps.reverse.map opV)) := fun L => get_app g2
  have hl1 : (ps.reverse.map opV).length = ps.length := by simp
  have hlen : (((ps.length : Int) - 1).toNat : Int) = (ps.length : Int) - 1 := by omega
  obtain ⟨ns, hns⟩ : ∃ ns, ns = (ps.reverse.drop 1).map fun p => p.1.tag.text := ⟨_, rfl⟩
  have hopn : opn (stA l) = ns := by
    rw [opn_rev, ← hm, ← List.map_reverse, hns, ← List.map_drop, List.map_map]
    rfl
  have hnl : ns.length = ps.length - 1 := by rw [hns]; simp
  have hHG := hK.1
  have hGk := HLt.add hG
  (repeat (first | simp -dsimp only [zrBuild51, g1, g2, hl1, RB, TB, keep25, tab25, xindexAddr, xindex, xslice, xconvert, xlen, ewOp, FreeW, StabW, SameW, ChangeW, AddW, BaseW, limBytes, simprocAttr, ne_eq] | ((with_reducible refine Need.intro ?_ ?_); (first | trivial | exact ⟨_, rfl⟩ | exact ⟨[], (List.append_nil _).symm⟩ | omega | (simp; done) | (simp; omega) | exact ⟨by first | trivial | (simp; done), _, by first | rfl | (simp; rfl)⟩))))
  refine EWn.ghost (Gho.adopt 3 1 rfl) ?_
  simp only [RB, limBytes, simprocAttr, ne_eq]
  refine EWn.loopE (ι := (Nat) × (Nat)) (fun (x_ : (Nat) × (Nat)) => match x_ with | (i, v) => i ≤ ns.length) (fun (x_ : (Nat) × (Nat)) => match x_ with | (i, v) => ns.length - i) (fun (x_ : (Nat) × (Nat)) => match x_ with | (i, v) => [(3, .vec G.length v 0 i), (13, .int .i64 i)]) (fun (x_ : (Nat) × (Nat)) => match x_ with | (i, v) => G ++ [.vec v 1 ((ns.take i).map V.str)]) (0, 1) ?_ ?_ ?_ ?_ ?_
  · first | rfl | simp [upd, eset]
  · first | rfl | (simp; done) | exact (set_same (by assumption)).symm
  · rintro ⟨i, v⟩ hok; exact ⟨by first | (simp; done) | (simp; omega), by (simp (maxDischargeDepth := 6) [LTB, HLt_set, ltL_take, ltL_drop, ltL_rep, ltL_set, upd, eset, hH, hHk, hG, hGk, zlBuild51, lt_op] <;> omega), by (simp (maxDischargeDepth := 6) [LTB, HLt_set, ltL_take, ltL_drop, ltL_rep, ltL_set, upd, eset, hH, hHk, hG, hGk, zlBuild51, lt_op] <;> omega)⟩
  · omega
  rintro ⟨i, v⟩ hi
  refine EWn.of_c Tok mixed (own := false) keep25 tab25 (by kernel_rfl) ?_
  (repeat (first | simp -dsimp only [zrBuild51, RB, TB, keep25, tab25, xindexAddr, xindex, xslice, xconvert, xlen, ewOp, FreeW, StabW, SameW, ChangeW, AddW, BaseW, limBytes, simprocAttr, ne_eq] | ((with_reducible refine Need.intro ?_ ?_); (first | trivial | exact ⟨_, rfl⟩ | exact ⟨[], (List.append_nil _).symm⟩ | omega | (simp; done) | (simp; omega) | exact ⟨by first | trivial | (simp; done), _, by first | rfl | (simp; rfl)⟩))))
  refine IfW.intro (fun h => ?_) (fun h => ?_)
  · have hlt := lt_of h
    have hr : 1 + i < ps.reverse.length := by simp; omega
    (repeat (first | simp -dsimp only [zrBuild51, h, hO, hl1, at_map opV ps.reverse (1 + i) hr, opV, RB, TB, keep25, tab25, xindexAddr, xindex, xslice, xconvert, xlen, ewOp, FreeW, StabW, SameW, ChangeW, AddW, BaseW, limBytes, simprocAttr, ne_eq] | ((with_reducible refine Need.intro ?_ ?_); (first | trivial | exact ⟨_, rfl⟩ | exact ⟨[], (List.append_nil _).symm⟩ | omega | (simp; done) | (simp; omega) | exact ⟨by first | trivial | (simp; done), _, by first | rfl | (simp; rfl)⟩))))
    rw [wrapI (by omega)]
    have hsucc : (ns.take (i + 1)).map V.str = (ns.take i).map V.str ++ [V.str ps.reverse[1 + i].1.tag.text] := by
      rw [List.take_succ_eq_append_getElem (by omega), List.map_append]
      simp only [hns, List.getElem_map, List.getElem_drop, List.map_cons, List.map_nil]
    refine UpTo.here ⟨(i + 1, v + 1), by simp only; omega, by simp only; omega, by simp [upd, eset], ⟨_, by simp only [hsucc]; simp; rfl⟩⟩
  · (repeat (first | simp -dsimp only [zrBuild51, h, RB, TB, keep25, tab25, xindexAddr, xindex, xslice, xconvert, xlen, ewOp, FreeW, StabW, SameW, ChangeW, AddW, BaseW, limBytes, simprocAttr, ne_eq] | ((with_reducible refine Need.intro ?_ ?_); (first | trivial | exact ⟨_, rfl⟩ | exact ⟨[], (List.append_nil _).symm⟩ | omega | (simp; done) | (simp; omega) | exact ⟨by first | trivial | (simp; done), _, by first | rfl | (simp; rfl)⟩))))
    have hi2 : i = ns.length := Nat.le_antisymm hi (by have := ge_of h; omega)
    subst hi2
    rw [List.take_length]
    obtain ⟨L, rfl⟩ := hK.app
    refine RetW.auto0 false _ (List.append_assoc _ _ _) ?_ ?_
    · (simp (maxDischargeDepth := 6) [LTB, HLt_set, ltL_take, ltL_drop, ltL_rep, ltL_set, upd, eset, hH, hHk, hG, hGk, zlBuild51, lt_op] <;> omega)
    · simp only [wk, wk1, wk0, RB, limBytes, simprocAttr, ne_eq]
      rw [hopn]
      simp
end Go.Proofs.Ytjplgbalpnlanaa

/- The walk of the law's own recursion: kids. -/
import Derived.Test.YtjplgbalpnlanaaBuild6
set_option linter.unusedSimpArgs false
set_option linter.unusedVariables false
set_option maxRecDepth 100000
namespace Go.Proofs.Ytjplgbalpnlanaa
open Go Go.EL
theorem zrBuild71 : type_of% (And.intro (And.intro (And.intro (And.intro (@st_run) (And.intro (@sz_run) (@st1_run))) (And.intro (@cl_run) (And.intro (@st_Str) (@sz_Str)))) (And.intro (And.intro (@st1_Str) (And.intro (@cl_Str) (@st_c))) (And.intro (@sz_c) (And.intro (@st1_c) (@cl_c))))) (And.intro (And.intro (And.intro (@st_attr) (And.intro (@sz_attr) (@st1_attr))) (And.intro (@cl_attr) (And.intro (@st_tree) (@sz_tree)))) (And.intro (And.intro (@st1_tree) (And.intro (@cl_tree) (@st_tok))) (And.intro (@sz_tok) (And.intro (@st1_tok) (@cl_tok)))))) := And.intro (And.intro (And.intro (And.intro (@st_run) (And.intro (@sz_run) (@st1_run))) (And.intro (@cl_run) (And.intro (@st_Str) (@sz_Str)))) (And.intro (And.intro (@st1_Str) (And.intro (@cl_Str) (@st_c))) (And.intro (@sz_c) (And.intro (@st1_c) (@cl_c))))) (And.intro (And.intro (And.intro (@st_attr) (And.intro (@sz_attr) (@st1_attr))) (And.intro (@cl_attr) (And.intro (@st_tree) (@sz_tree)))) (And.intro (And.intro (@st1_tree) (And.intro (@cl_tree) (@st_tok))) (And.intro (@sz_tok) (And.intro (@st1_tok) (@cl_tok)))))
theorem zlBuild71 : type_of% (And.intro (And.intro (And.intro (And.intro (@lt_vi) (@lt_str)) (And.intro (@lt_vb) (And.intro (@ltc_str) (@ltc_vi)))) (And.intro (And.intro (@lt_run) (And.intro (@lt1_run) (@ltc_run))) (And.intro (@lt_Str) (And.intro (@lt1_Str) (@ltc_Str))))) (And.intro (And.intro (And.intro (@lt_c) (And.intro (@lt1_c) (@ltc_c))) (And.intro (@lt_attr) (And.intro (@lt1_attr) (@ltc_attr)))) (And.intro (And.intro (@lt_tree) (And.intro (@lt1_tree) (@ltc_tree))) (And.intro (@lt_tok) (And.intro (@lt1_tok) (@ltc_tok)))))) := And.intro (And.intro (And.intro (And.intro (@lt_vi) (@lt_str)) (And.intro (@lt_vb) (And.intro (@ltc_str) (@ltc_vi)))) (And.intro (And.intro (@lt_run) (And.intro (@lt1_run) (@ltc_run))) (And.intro (@lt_Str) (And.intro (@lt1_Str) (@ltc_Str))))) (And.intro (And.intro (And.intro (@lt_c) (And.intro (@lt1_c) (@ltc_c))) (And.intro (@lt_attr) (And.intro (@lt1_attr) (@ltc_attr)))) (And.intro (And.intro (@lt_tree) (And.intro (@lt1_tree) (@ltc_tree))) (And.intro (@lt_tok) (And.intro (@lt1_tok) (@ltc_tok)))))
theorem szK_drop (l : List Toke) (i : Nat) : ((l.drop i).map szK).sum ≤ (l.map szK).sum := by
  conv => rhs; rw [← List.take_append_drop i l]
  rw [List.map_append, List.sum_append]; omega
set_option maxHeartbeats 4000000 in
theorem lKids : ∀ (n : Nat) (l : List Toke) (a : Nat) (op : List (List UInt8)) (out : List Tree) (r : List Toke), l.length - a ≤ n → (l.map szK).sum ≤ 90000000 → op.length + l.length - a ≤ 1000000 → a ≤ l.length → Kd op (l.drop a) [] out r →
    ∀ H : List Ob, SCall Try.prog 18 [.slice (l.map tokV), .int .i64 a, .slice (op.map V.str)] H (fun v H' => v = .tuple [.slice (out.map treeV), .int .i64 (l.length - r.length : Nat)] ∧ H' = H) := by
  intro n
  induction n with
  | zero =>
    intro l a op out r hn hb hop ha hk H
    have ha2 : a = l.length := by omega
    subst ha2
    rw [List.drop_length] at hk
    obtain ⟨rfl, rfl⟩ := hk.end
    have hd : decide ((l.length : Int) < l.length) = false := by simp
    refine SCall.of_good fun hH => ?_
    have hHk := HLt.add hH
    refine SCall.of_code Tok Try.func18 rfl Try.call18 (n := 125) rfl (by simp) (rs := [.tmp 6, .tmp 7]) rfl ?_
    refine EWn.to ?_
    refine EWn.of_c Tok mixed (own := false) keep18 tab18 (by kernel_rfl) ?_
    (repeat (first | simp -dsimp only [zrBuild71, RB, TB, keep18, tab18, xindexAddr, xindex, xslice, xconvert, xlen, ewOp, FreeW, StabW, SameW, ChangeW, AddW, BaseW, limBytes, simprocAttr, ne_eq] | ((with_reducible refine Need.intro ?_ ?_); (first | trivial | exact ⟨_, rfl⟩ | exact ⟨[], (List.append_nil _).symm⟩ | omega | (simp; done) | (simp; omega) | exact ⟨by first | trivial | (simp; done), _, by first | rfl | (simp; rfl)⟩))))
    refine EWn.rounds 1 ?_
    show EWn _ _ _ _ _ _ _
    refine EWn.of_c Tok mixed (own := false) keep18 tab18 (by kernel_rfl) ?_
    (repeat (first | simp -dsimp only [zrBuild71, hd, RB, TB, keep18, tab18, xindexAddr, xindex, xslice, xconvert, xlen, ewOp, FreeW, StabW, SameW, ChangeW, AddW, BaseW, limBytes, simprocAttr, ne_eq] | ((with_reducible refine Need.intro ?_ ?_); (first | trivial | exact ⟨_, rfl⟩ | exact ⟨[], (List.append_nil _).symm⟩ | omega | (simp; done) | (simp; omega) | exact ⟨by first | trivial | (simp; done), _, by first | rfl | (simp; rfl)⟩))))
    refine RetW.auto0 false _ (by first | rfl | exact (List.append_nil _).symm) ?_ ?_
    · (simp (maxDischargeDepth := 6) [LTB, HLt_set, ltL_take, ltL_drop, ltL_rep, ltL_set, upd, eset, hH, hHk, zlBuild71] <;> omega)
    (try simp only [wk, wk1, wk0, RB, limBytes, simprocAttr, ne_eq])
    (try (rw [List.take_of_length_le]; rotate_left 1; (· first | (simp; done) | (simp; omega) | omega)))
    simp
  | succ n ih =>
    intro l a op out r hn hb hop ha hk H
    have hll := szK_len l
    refine SCall.of_good fun hH => ?_
    have hHk := HLt.add hH
    refine SCall.of_code Tok Try.func18 rfl Try.call18 (n := 125) rfl (by simp) (rs := [.tmp 6, .tmp 7]) rfl ?_
    refine EWn.to ?_
    refine EWn.of_c Tok mixed (own := false) keep18 tab18 (by kernel_rfl) ?_
    (repeat (first | simp -dsimp only [zrBuild71, RB, TB, keep18, tab18, xindexAddr, xindex, xslice, xconvert, xlen, ewOp, FreeW, StabW, SameW, ChangeW, AddW, BaseW, limBytes, simprocAttr, ne_eq] | ((with_reducible refine Need.intro ?_ ?_); (first | trivial | exact ⟨_, rfl⟩ | exact ⟨[], (List.append_nil _).symm⟩ | omega | (simp; done) | (simp; omega) | exact ⟨by first | trivial | (simp; done), _, by first | rfl | (simp; rfl)⟩))))
    refine EWn.ghost (Gho.adopt 8 6 rfl) ?_
    simp only [RB, limBytes, simprocAttr, ne_eq]
    refine EWn.loopE (ι := (Nat) × (Nat) × (List Tree)) (fun (x_ : (Nat) × (Nat) × (List Tree)) => match x_ with | (i, v, acc) => a ≤ i ∧ i ≤ l.length ∧ Kd op (l.drop i) acc out r ∧ szTs acc + ((l.drop i).map szK).sum ≤ 90000000) (fun (x_ : (Nat) × (Nat) × (List Tree)) => match x_ with | (i, v, acc) => l.length - i) (fun (x_ : (Nat) × (Nat) × (List Tree)) => match x_ with | (i, v, acc) => [(1, .int .i64 i), (8, .vec H.length v 0 acc.length)]) (fun (x_ : (Nat) × (Nat) × (List Tree)) => match x_ with | (i, v, acc) => H ++ [.vec v 6 (acc.map treeV)]) (a, 1, []) ?_ ?_ ?_ ?_ ?_
    · first | rfl | simp [upd, eset]
    · first | rfl | (simp; done) | exact (set_same (by assumption)).symm
    · rintro ⟨i, v, acc⟩ hok; exact ⟨by first | (simp; done) | (simp; omega), by (simp (maxDischargeDepth := 6) [LTB, HLt_set, ltL_take, ltL_drop, ltL_rep, ltL_set, upd, eset, hH, hHk, zlBuild71] <;> omega), by (simp (maxDischargeDepth := 6) [LTB, HLt_set, ltL_take, ltL_drop, ltL_rep, ltL_set, upd, eset, hH, hHk, zlBuild71] <;> omega)⟩
    · exact ⟨Nat.le_refl _, ha, hk, by have := szK_drop l a; simp only [szTs]; omega⟩
    rintro ⟨i, v, acc⟩ ⟨hai, hi, hk2, hza⟩
    have hza2 := sz_len acc
    refine EWn.of_c Tok mixed (own := false) keep18 tab18 (by kernel_rfl) ?_
    (repeat (first | simp -dsimp only [zrBuild71, RB, TB, keep18, tab18, xindexAddr, xindex, xslice, xconvert, xlen, ewOp, FreeW, StabW, SameW, ChangeW, AddW, BaseW, limBytes, simprocAttr, ne_eq] | ((with_reducible refine Need.intro ?_ ?_); (first | trivial | exact ⟨_, rfl⟩ | exact ⟨[], (List.append_nil _).symm⟩ | omega | (simp; done) | (simp; omega) | exact ⟨by first | trivial | (simp; done), _, by first | rfl | (simp; rfl)⟩))))
    refine IfW.intro (fun h => ?_) (fun h => ?_)
    · have hlt := lt_of h
      rw [List.drop_eq_getElem_cons hlt] at hk2 hza
      simp only [List.map_cons, List.sum_cons] at hza
      have hsk := szK_take l hlt
      have hat := at_map tokV l i hlt
      generalize l[i] = tk at hk2 hsk hat hza
      simp only [szK] at hza
      have hst : tk.starts = (decide (tk.kind = 1) && !(tk.name.text == [])) := rfl
      have w1 : IntKind.i64.wrap ((i : Int) + 1) = ((i + 1 : Nat) : Int) := by rw [wrapI (by omega)]; omega
      (repeat (first | simp -dsimp only [zrBuild71, h, hat, tokV, RB, TB, keep18, tab18, xindexAddr, xindex, xslice, xconvert, xlen, ewOp, FreeW, StabW, SameW, ChangeW, AddW, BaseW, limBytes, simprocAttr, ne_eq] | ((with_reducible refine Need.intro ?_ ?_); (first | trivial | exact ⟨_, rfl⟩ | exact ⟨[], (List.append_nil _).symm⟩ | omega | (simp; done) | (simp; omega) | exact ⟨by first | trivial | (simp; done), _, by first | rfl | (simp; rfl)⟩))))
      refine IfW.intro (fun h1 => ?_) (fun h1 => ?_)
      · have hk : tk.kind = 1 := by simpa using h1
        (repeat (first | simp -dsimp only [zrBuild71, h1, RB, TB, keep18, tab18, xindexAddr, xindex, xslice, xconvert, xlen, ewOp, FreeW, StabW, SameW, ChangeW, AddW, BaseW, limBytes, simprocAttr, ne_eq] | ((with_reducible refine Need.intro ?_ ?_); (first | trivial | exact ⟨_, rfl⟩ | exact ⟨[], (List.append_nil _).symm⟩ | omega | (simp; done) | (simp; omega) | exact ⟨by first | trivial | (simp; done), _, by first | rfl | (simp; rfl)⟩))))
        refine IfW.intro (fun h2 => ?_) (fun h2 => ?_)
        · have hs : tk.starts = false := by simp at h2; simp [hst, h2]
          have hk3 := hk2.of_skip hs (by omega) (by omega)
          (repeat (first | simp -dsimp only [zrBuild71, h2, hk, w1, RB, TB, keep18, tab18, xindexAddr, xindex, xslice, xconvert, xlen, ewOp, FreeW, StabW, SameW, ChangeW, AddW, BaseW, limBytes, simprocAttr, ne_eq] | ((with_reducible refine Need.intro ?_ ?_); (first | trivial | exact ⟨_, rfl⟩ | exact ⟨[], (List.append_nil _).symm⟩ | omega | (simp; done) | (simp; omega) | exact ⟨by first | trivial | (simp; done), _, by first | rfl | (simp; rfl)⟩))))
          refine UpTo.here ⟨(i + 1, v, acc), ⟨by omega, hlt, hk3, by omega⟩, by simp only; omega, by simp [upd, eset], ⟨_, by simp; try rfl⟩⟩
        · have hs : tk.starts = true := by simp at h2; simp [hst, hk, h2]
          (repeat (first | simp -dsimp only [zrBuild71, h2, w1, RB, TB, keep18, tab18, xindexAddr, xindex, xslice, xconvert, xlen, ewOp, FreeW, StabW, SameW, ChangeW, AddW, BaseW, limBytes, simprocAttr, ne_eq] | ((with_reducible refine Need.intro ?_ ?_); (first | trivial | exact ⟨_, rfl⟩ | exact ⟨[], (List.append_nil _).symm⟩ | omega | (simp; done) | (simp; omega) | exact ⟨by first | trivial | (simp; done), _, by first | rfl | (simp; rfl)⟩))))
          (first | refine SCall.then (lVoid _ tk.name.text) ?_ | refine SCall.thenA (lVoid _ tk.name.text) (by repeat (first | exact trivial | exact .inl (.inl rfl) | exact .inl (.inr ⟨_, rfl, rfl⟩) | exact .inl rfl | exact .inr ⟨_, rfl, rfl⟩ | refine .inr ⟨_, _, rfl, rfl, ?_⟩ | refine ⟨?_, ?_⟩)) ?_ | refine CallE.intro _ (lVoid _ tk.name.text) ?_ | refine CallE.introA (lVoid _ tk.name.text) (by repeat (first | exact trivial | exact .inl (.inl rfl) | exact .inl (.inr ⟨_, rfl, rfl⟩) | exact .inl rfl | exact .inr ⟨_, rfl, rfl⟩ | refine .inr ⟨_, _, rfl, rfl, ?_⟩ | refine ⟨?_, ?_⟩)) ?_ | refine CallE.intro _ (fun _ => lVoid _ tk.name.text) ?_ | refine CallE.intro _ (fun _ => SCall.arg (by repeat (first | exact trivial | exact .inl (.inl rfl) | exact .inl (.inr ⟨_, rfl, rfl⟩) | exact .inl rfl | exact .inr ⟨_, rfl, rfl⟩ | refine .inr ⟨_, _, rfl, rfl, ?_⟩ | refine ⟨?_, ?_⟩)) (lVoid _ tk.name.text)) ?_ | refine CallE2.intro _ _ (lVoid _ tk.name.text) ?_ | refine CallE2.intro _ _ (SCall.arg (by repeat (first | exact trivial | exact .inl (.inl rfl) | exact .inl (.inr ⟨_, rfl, rfl⟩) | exact .inl rfl | exact .inr ⟨_, rfl, rfl⟩ | refine .inr ⟨_, _, rfl, rfl, ?_⟩ | refine ⟨?_, ?_⟩)) (lVoid _ tk.name.text)) ?_)
          (repeat (first | simp -dsimp only [zrBuild71, RB, TB, keep18, tab18, xindexAddr, xindex, xslice, xconvert, xlen, ewOp, FreeW, StabW, SameW, ChangeW, AddW, BaseW, limBytes, simprocAttr, ne_eq] | ((with_reducible refine Need.intro ?_ ?_); (first | trivial | exact ⟨_, rfl⟩ | exact ⟨[], (List.append_nil _).symm⟩ | omega | (simp; done) | (simp; omega) | exact ⟨by first | trivial | (simp; done), _, by first | rfl | (simp; rfl)⟩))))
          refine IfW.intro (fun h3 => ?_) (fun h3 => ?_)
          · have hk3 := hk2.of_void hs h3
            have hz3 := hk3.sz
            (repeat (first | simp -dsimp only [zrBuild71, h3, RB, TB, keep18, tab18, xindexAddr, xindex, xslice, xconvert, xlen, ewOp, FreeW, StabW, SameW, ChangeW, AddW, BaseW, limBytes, simprocAttr, ne_eq] | ((with_reducible refine Need.intro ?_ ?_); (first | trivial | exact ⟨_, rfl⟩ | exact ⟨[], (List.append_nil _).symm⟩ | omega | (simp; done) | (simp; omega) | exact ⟨by first | trivial | (simp; done), _, by first | rfl | (simp; rfl)⟩))))
            refine UpTo.step (Gho.weakLast (H.length) (l := acc.map treeV) (m := [.agg [.str tk.name.text, .slice (tk.name.runs.map runV), .slice (tk.attrs.map attrV), .fslice [], .str [], .fslice []]]) (m' := [.agg [.str tk.name.text, .slice (tk.name.runs.map runV), .slice (tk.attrs.map attrV), .slice [], .str [], .slice []]]) (by first | (rw [hget0]; rfl) | (rw [hget]; rfl) | rfl | (simp; done) | (simp; rfl)) (by repeat (first | exact trivial | refine ⟨.inl (.inl (.inl rfl)), ?_⟩ | refine ⟨.inr ⟨_, _, rfl, rfl, ?_⟩, ?_⟩ | refine ⟨.inl (.inl rfl), ?_⟩ | refine ⟨.inl (.inr ⟨_, rfl, rfl⟩), ?_⟩))) ?_
            (try simp only [RB, limBytes, simprocAttr, ne_eq])
            refine UpTo.here ⟨(i + 1, v + 1, acc ++ [.mk tk.name tk.attrs [] zeroS]), ⟨by omega, hlt, hk3, by rw [szTs_append]; simp only [szTs, szT]; simp only [szS', zeroS, List.length_nil, List.map_nil, List.sum_nil] at *; omega⟩, by simp only; omega, by simp [upd, eset], ⟨_, by simp [treeV_mk, zeroS]; try rfl⟩⟩
          · obtain ⟨ks, l1, hk1, hk3⟩ := hk2.of_elem hs h3
            obtain ⟨p1, hp1⟩ := hk1.suffix
            obtain ⟨hd1, hd2, hd3⟩ := drop_suffix hlt hp1
            generalize ha : l.length - l1.length = a1 at hd1 hd2
            (repeat (first | simp -dsimp only [zrBuild71, h3, RB, TB, keep18, tab18, xindexAddr, xindex, xslice, xconvert, xlen, ewOp, FreeW, StabW, SameW, ChangeW, AddW, BaseW, limBytes, simprocAttr, ne_eq] | ((with_reducible refine Need.intro ?_ ?_); (first | trivial | exact ⟨_, rfl⟩ | exact ⟨[], (List.append_nil _).symm⟩ | omega | (simp; done) | (simp; omega) | exact ⟨by first | trivial | (simp; done), _, by first | rfl | (simp; rfl)⟩))))
            refine ⟨fun i_ => match i_ with
              | 0 => .slice (l.map tokV)
              | 1 => .int .i64 (i + 1 : Nat)
              | 2 => .fslice []
              | 3 => .slice (op.map V.str)
              | 4 => .vec (H.length + 3) 1 0 op.length
              | 5 => .ref (H.length + 1) 1
              | 6 => .ref (H.length + 1) 1
              | 7 => .str tk.name.text
              | 8 => .fslice [.str tk.name.text]
              | 9 => .vec (H.length + 3) 2 0 (op.length + 1)
              | 10 => .tuple [.slice (ks.map treeV), .int .i64 a1]
              | 11 => .tuple [.slice (ks.map treeV), .int .i64 a1]
              | 12 => .slice (ks.map treeV)
              | 13 => .int .i64 a1
              | 14 => .ref (H.length + 2) 3
              | 16 => .int .i64 a1
              | _ => .dead, fun fl => H ++ (.vec v 6 (acc.map treeV) :: .var [.int .i64 tk.kind, .str tk.name.text, .slice (tk.name.runs.map runV), .slice (tk.attrs.map attrV), .bool tk.close, .str tk.text.text, .slice (tk.text.runs.map runV)] :: (if fl 15 = true then .var [.str tk.name.text, .slice (tk.name.runs.map runV), .slice (tk.attrs.map attrV), .slice (ks.map treeV), .str [], .fslice []] else .var [.str tk.name.text, .slice (tk.name.runs.map runV), .slice (tk.attrs.map attrV), .fslice [], .str [], .fslice []]) :: (if fl 4 = true then [if fl 10 = true then Ob.gone else if fl 9 = true then .vec 2 1 (op.map V.str ++ [.str tk.name.text]) else .vec 1 1 (op.map V.str)] else [])), ?_, ?_, ?_, ?_⟩
            · simp
            · intro fl fl' hfl
              simp only [hfl 4 (by simp), hfl 9 (by simp), hfl 10 (by simp), hfl 15 (by simp)]
            · intro i_ o hi fl hcl hil hed
              have q4 := hcl 4 _ rfl
              have q9 := hcl 9 _ rfl
              have q10 := hcl 10 _ rfl
              have q15 := hcl 15 _ rfl
              simp [Region.binds] at q4 q9 q10 q15
              match i_, hi, hil, hed with
              | 0, hi, hil, hed =>
                simp only [List.getElem?_cons_zero, List.getElem?_cons_succ, Option.some.injEq] at hi
                subst hi
                (repeat (first | simp -dsimp only [zrBuild71, envAt, List.take_succ_cons, List.take_zero, hil, Bool.false_eq_true, if_false, if_true, RB, TB, keep18, tab18, xindexAddr, xindex, xslice, xconvert, xlen, ewOp, FreeW, StabW, SameW, ChangeW, AddW, BaseW, limBytes, simprocAttr, ne_eq] | ((with_reducible refine Need.intro ?_ ?_); (first | trivial | exact ⟨_, rfl⟩ | exact ⟨[], (List.append_nil _).symm⟩ | omega | (simp; done) | (simp; omega) | exact ⟨by first | trivial | (simp; done), _, by first | rfl | (simp; rfl)⟩))))
              | 1, hi, hil, hed =>
                simp only [List.getElem?_cons_zero, List.getElem?_cons_succ, Option.some.injEq] at hi
                subst hi
                (repeat (first | simp -dsimp only [zrBuild71, envAt, List.take_succ_cons, List.take_zero, hil, Bool.false_eq_true, if_false, if_true, RB, TB, keep18, tab18, xindexAddr, xindex, xslice, xconvert, xlen, ewOp, FreeW, StabW, SameW, ChangeW, AddW, BaseW, limBytes, simprocAttr, ne_eq] | ((with_reducible refine Need.intro ?_ ?_); (first | trivial | exact ⟨_, rfl⟩ | exact ⟨[], (List.append_nil _).symm⟩ | omega | (simp; done) | (simp; omega) | exact ⟨by first | trivial | (simp; done), _, by first | rfl | (simp; rfl)⟩))))
              | 2, hi, hil, hed =>
                simp only [List.getElem?_cons_zero, List.getElem?_cons_succ, Option.some.injEq] at hi
                subst hi
                (repeat (first | simp -dsimp only [zrBuild71, envAt, List.take_succ_cons, List.take_zero, hil, Bool.false_eq_true, if_false, if_true, RB, TB, keep18, tab18, xindexAddr, xindex, xslice, xconvert, xlen, ewOp, FreeW, StabW, SameW, ChangeW, AddW, BaseW, limBytes, simprocAttr, ne_eq] | ((with_reducible refine Need.intro ?_ ?_); (first | trivial | exact ⟨_, rfl⟩ | exact ⟨[], (List.append_nil _).symm⟩ | omega | (simp; done) | (simp; omega) | exact ⟨by first | trivial | (simp; done), _, by first | rfl | (simp; rfl)⟩))))
              | 3, hi, hil, hed =>
                simp only [List.getElem?_cons_zero, List.getElem?_cons_succ, Option.some.injEq] at hi
                subst hi
                (repeat (first | simp -dsimp only [zrBuild71, envAt, List.take_succ_cons, List.take_zero, hil, Bool.false_eq_true, if_false, if_true, RB, TB, keep18, tab18, xindexAddr, xindex, xslice, xconvert, xlen, ewOp, FreeW, StabW, SameW, ChangeW, AddW, BaseW, limBytes, simprocAttr, ne_eq] | ((with_reducible refine Need.intro ?_ ?_); (first | trivial | exact ⟨_, rfl⟩ | exact ⟨[], (List.append_nil _).symm⟩ | omega | (simp; done) | (simp; omega) | exact ⟨by first | trivial | (simp; done), _, by first | rfl | (simp; rfl)⟩))))
              | 4, hi, hil, hed =>
                simp only [List.getElem?_cons_zero, List.getElem?_cons_succ, Option.some.injEq] at hi
                subst hi
                have f15 : fl 15 = false := Bool.eq_false_iff.2 fun h => by have := q15 h; simp [hil] at this
                have f9 : fl 9 = false := Bool.eq_false_iff.2 fun h => by have := q9 h; simp [hil] at this
                have f10 : fl 10 = false := Bool.eq_false_iff.2 fun h => by have := q10 h; simp [f9] at this
                (repeat (first | simp -dsimp only [zrBuild71, envAt, List.take_succ_cons, List.take_zero, hil, f15, f9, f10, Bool.false_eq_true, if_false, if_true, RB, TB, keep18, tab18, xindexAddr, xindex, xslice, xconvert, xlen, ewOp, FreeW, StabW, SameW, ChangeW, AddW, BaseW, limBytes, simprocAttr, ne_eq] | ((with_reducible refine Need.intro ?_ ?_); (first | trivial | exact ⟨_, rfl⟩ | exact ⟨[], (List.append_nil _).symm⟩ | omega | (simp; done) | (simp; omega) | exact ⟨by first | trivial | (simp; done), _, by first | rfl | (simp; rfl)⟩))))
              | 5, hi, hil, hed =>
                simp only [List.getElem?_cons_zero, List.getElem?_cons_succ, Option.some.injEq] at hi
                subst hi
                have f15 : fl 15 = false := Bool.eq_false_iff.2 fun h => by have := q15 h; simp [hil] at this
                (repeat (first | simp -dsimp only [zrBuild71, envAt, List.take_succ_cons, List.take_zero, hil, f15, Bool.false_eq_true, if_false, if_true, RB, TB, keep18, tab18, xindexAddr, xindex, xslice, xconvert, xlen, ewOp, FreeW, StabW, SameW, ChangeW, AddW, BaseW, limBytes, simprocAttr, ne_eq] | ((with_reducible refine Need.intro ?_ ?_); (first | trivial | exact ⟨_, rfl⟩ | exact ⟨[], (List.append_nil _).symm⟩ | omega | (simp; done) | (simp; omega) | exact ⟨by first | trivial | (simp; done), _, by first | rfl | (simp; rfl)⟩))))
              | 6, hi, hil, hed =>
                simp only [List.getElem?_cons_zero, List.getElem?_cons_succ, Option.some.injEq] at hi
                subst hi
                have f15 : fl 15 = false := Bool.eq_false_iff.2 fun h => by have := q15 h; simp [hil] at this
                (repeat (first | simp -dsimp only [zrBuild71, envAt, List.take_succ_cons, List.take_zero, hil, f15, Bool.false_eq_true, if_false, if_true, RB, TB, keep18, tab18, xindexAddr, xindex, xslice, xconvert, xlen, ewOp, FreeW, StabW, SameW, ChangeW, AddW, BaseW, limBytes, simprocAttr, ne_eq] | ((with_reducible refine Need.intro ?_ ?_); (first | trivial | exact ⟨_, rfl⟩ | exact ⟨[], (List.append_nil _).symm⟩ | omega | (simp; done) | (simp; omega) | exact ⟨by first | trivial | (simp; done), _, by first | rfl | (simp; rfl)⟩))))
              | 7, hi, hil, hed =>
                simp only [List.getElem?_cons_zero, List.getElem?_cons_succ, Option.some.injEq] at hi
                subst hi
                have f15 : fl 15 = false := Bool.eq_false_iff.2 fun h => by have := q15 h; simp [hil] at this
                (repeat (first | simp -dsimp only [zrBuild71, envAt, List.take_succ_cons, List.take_zero, hil, f15, Bool.false_eq_true, if_false, if_true, RB, TB, keep18, tab18, xindexAddr, xindex, xslice, xconvert, xlen, ewOp, FreeW, StabW, SameW, ChangeW, AddW, BaseW, limBytes, simprocAttr, ne_eq] | ((with_reducible refine Need.intro ?_ ?_); (first | trivial | exact ⟨_, rfl⟩ | exact ⟨[], (List.append_nil _).symm⟩ | omega | (simp; done) | (simp; omega) | exact ⟨by first | trivial | (simp; done), _, by first | rfl | (simp; rfl)⟩))))
              | 8, hi, hil, hed =>
                simp only [List.getElem?_cons_zero, List.getElem?_cons_succ, Option.some.injEq] at hi
                subst hi
                (repeat (first | simp -dsimp only [zrBuild71, envAt, List.take_succ_cons, List.take_zero, hil, Bool.false_eq_true, if_false, if_true, RB, TB, keep18, tab18, xindexAddr, xindex, xslice, xconvert, xlen, ewOp, FreeW, StabW, SameW, ChangeW, AddW, BaseW, limBytes, simprocAttr, ne_eq] | ((with_reducible refine Need.intro ?_ ?_); (first | trivial | exact ⟨_, rfl⟩ | exact ⟨[], (List.append_nil _).symm⟩ | omega | (simp; done) | (simp; omega) | exact ⟨by first | trivial | (simp; done), _, by first | rfl | (simp; rfl)⟩))))
              | 9, hi, hil, hed =>
                simp only [List.getElem?_cons_zero, List.getElem?_cons_succ, Option.some.injEq] at hi
                subst hi
                have p4 : fl 4 = true := hed ⟨4, .data⟩ (by simp) rfl
                have f15 : fl 15 = false := Bool.eq_false_iff.2 fun h => by have := q15 h; simp [hil] at this
                have f10 : fl 10 = false := Bool.eq_false_iff.2 fun h => by have := q10 h; simp [hil] at this
                (repeat (first | simp -dsimp only [zrBuild71, envAt, List.take_succ_cons, List.take_zero, hil, f15, p4, f10, Bool.false_eq_true, if_false, if_true, RB, TB, keep18, tab18, xindexAddr, xindex, xslice, xconvert, xlen, ewOp, FreeW, StabW, SameW, ChangeW, AddW, BaseW, limBytes, simprocAttr, ne_eq] | ((with_reducible refine Need.intro ?_ ?_); (first | trivial | exact ⟨_, rfl⟩ | exact ⟨[], (List.append_nil _).symm⟩ | omega | (simp; done) | (simp; omega) | exact ⟨by first | trivial | (simp; done), _, by first | rfl | (simp; rfl)⟩))))
              | 10, hi, hil, hed =>
                simp only [List.getElem?_cons_zero, List.getElem?_cons_succ, Option.some.injEq] at hi
                subst hi
                have p9 : fl 9 = true := hed ⟨9, .data⟩ (by simp) rfl
                have p4 : fl 4 = true := (q9 p9).1
                have f15 : fl 15 = false := Bool.eq_false_iff.2 fun h => by have := q15 h; simp [hil] at this
                (repeat (first | simp -dsimp only [zrBuild71, envAt, List.take_succ_cons, List.take_zero, hil, f15, p4, p9, Bool.false_eq_true, if_false, if_true, RB, TB, keep18, tab18, xindexAddr, xindex, xslice, xconvert, xlen, ewOp, FreeW, StabW, SameW, ChangeW, AddW, BaseW, limBytes, simprocAttr, ne_eq] | ((with_reducible refine Need.intro ?_ ?_); (first | trivial | exact ⟨_, rfl⟩ | exact ⟨[], (List.append_nil _).symm⟩ | omega | (simp; done) | (simp; omega) | exact ⟨by first | trivial | (simp; done), _, by first | rfl | (simp; rfl)⟩))))
                refine SCall.freeze 2 (l := (op ++ [tk.name.text]).map V.str) (by rfl) ⟨1, by rw [hget]; simp⟩ (by simp) ?_
                refine SCall.mono (ih l (i + 1) (op ++ [tk.name.text]) ks l1 (by omega) hb (by simp; omega) hlt hk1 _) ?_
                rintro _ _ ⟨rfl, rfl⟩
                simp [ha, f15, p4]
              | 11, hi, hil, hed =>
                simp only [List.getElem?_cons_zero, List.getElem?_cons_succ, Option.some.injEq] at hi
                subst hi
                (repeat (first | simp -dsimp only [zrBuild71, envAt, List.take_succ_cons, List.take_zero, hil, Bool.false_eq_true, if_false, if_true, RB, TB, keep18, tab18, xindexAddr, xindex, xslice, xconvert, xlen, ewOp, FreeW, StabW, SameW, ChangeW, AddW, BaseW, limBytes, simprocAttr, ne_eq] | ((with_reducible refine Need.intro ?_ ?_); (first | trivial | exact ⟨_, rfl⟩ | exact ⟨[], (List.append_nil _).symm⟩ | omega | (simp; done) | (simp; omega) | exact ⟨by first | trivial | (simp; done), _, by first | rfl | (simp; rfl)⟩))))
              | 12, hi, hil, hed =>
                simp only [List.getElem?_cons_zero, List.getElem?_cons_succ, Option.some.injEq] at hi
                subst hi
                (repeat (first | simp -dsimp only [zrBuild71, envAt, List.take_succ_cons, List.take_zero, hil, Bool.false_eq_true, if_false, if_true, RB, TB, keep18, tab18, xindexAddr, xindex, xslice, xconvert, xlen, ewOp, FreeW, StabW, SameW, ChangeW, AddW, BaseW, limBytes, simprocAttr, ne_eq] | ((with_reducible refine Need.intro ?_ ?_); (first | trivial | exact ⟨_, rfl⟩ | exact ⟨[], (List.append_nil _).symm⟩ | omega | (simp; done) | (simp; omega) | exact ⟨by first | trivial | (simp; done), _, by first | rfl | (simp; rfl)⟩))))
              | 13, hi, hil, hed =>
                simp only [List.getElem?_cons_zero, List.getElem?_cons_succ, Option.some.injEq] at hi
                subst hi
                (repeat (first | simp -dsimp only [zrBuild71, envAt, List.take_succ_cons, List.take_zero, hil, Bool.false_eq_true, if_false, if_true, RB, TB, keep18, tab18, xindexAddr, xindex, xslice, xconvert, xlen, ewOp, FreeW, StabW, SameW, ChangeW, AddW, BaseW, limBytes, simprocAttr, ne_eq] | ((with_reducible refine Need.intro ?_ ?_); (first | trivial | exact ⟨_, rfl⟩ | exact ⟨[], (List.append_nil _).symm⟩ | omega | (simp; done) | (simp; omega) | exact ⟨by first | trivial | (simp; done), _, by first | rfl | (simp; rfl)⟩))))
              | 14, hi, hil, hed =>
                simp only [List.getElem?_cons_zero, List.getElem?_cons_succ, Option.some.injEq] at hi
                subst hi
                have f15 : fl 15 = false := Bool.eq_false_iff.2 fun h => by have := q15 h; simp [hil] at this
                (repeat (first | simp -dsimp only [zrBuild71, envAt, List.take_succ_cons, List.take_zero, hil, f15, Bool.false_eq_true, if_false, if_true, RB, TB, keep18, tab18, xindexAddr, xindex, xslice, xconvert, xlen, ewOp, FreeW, StabW, SameW, ChangeW, AddW, BaseW, limBytes, simprocAttr, ne_eq] | ((with_reducible refine Need.intro ?_ ?_); (first | trivial | exact ⟨_, rfl⟩ | exact ⟨[], (List.append_nil _).symm⟩ | omega | (simp; done) | (simp; omega) | exact ⟨by first | trivial | (simp; done), _, by first | rfl | (simp; rfl)⟩))))
              | 15, hi, hil, hed =>
                simp only [List.getElem?_cons_zero, List.getElem?_cons_succ, Option.some.injEq] at hi
                subst hi
                (repeat (first | simp -dsimp only [zrBuild71, envAt, List.take_succ_cons, List.take_zero, hil, Bool.false_eq_true, if_false, if_true, RB, TB, keep18, tab18, xindexAddr, xindex, xslice, xconvert, xlen, ewOp, FreeW, StabW, SameW, ChangeW, AddW, BaseW, limBytes, simprocAttr, ne_eq] | ((with_reducible refine Need.intro ?_ ?_); (first | trivial | exact ⟨_, rfl⟩ | exact ⟨[], (List.append_nil _).symm⟩ | omega | (simp; done) | (simp; omega) | exact ⟨by first | trivial | (simp; done), _, by first | rfl | (simp; rfl)⟩))))
              | 16, hi, hil, hed =>
                simp only [List.getElem?_cons_zero, List.getElem?_cons_succ, Option.some.injEq] at hi
                subst hi
                (repeat (first | simp -dsimp only [zrBuild71, envAt, List.take_succ_cons, List.take_zero, hil, Bool.false_eq_true, if_false, if_true, RB, TB, keep18, tab18, xindexAddr, xindex, xslice, xconvert, xlen, ewOp, FreeW, StabW, SameW, ChangeW, AddW, BaseW, limBytes, simprocAttr, ne_eq] | ((with_reducible refine Need.intro ?_ ?_); (first | trivial | exact ⟨_, rfl⟩ | exact ⟨[], (List.append_nil _).symm⟩ | omega | (simp; done) | (simp; omega) | exact ⟨by first | trivial | (simp; done), _, by first | rfl | (simp; rfl)⟩))))
              | n + 17, hi, hil, hed => simp at hi
            · have hks := hk1.sz
              have hda : ((adv op tk.name.text l1).map szK).sum ≤ (l1.map szK).sum := by
                cases l1 with
                | nil => simp [adv]
                | cons e l1 => rw [adv]; split <;> simp
              simp only [szTs, Nat.zero_add] at hks
              cases l1 with
              | nil =>
                have hdf : decide ((a1 : Int) < (l.length : Int)) = false := by rw [← ha]; simp
                have hk4 : Kd op (l.drop a1) (acc ++ [.mk tk.name tk.attrs ks zeroS]) out r := by rw [hd1]; exact hk3
                (repeat (first | simp -dsimp only [zrBuild71, envAt, hdf, RB, TB, keep18, tab18, xindexAddr, xindex, xslice, xconvert, xlen, ewOp, FreeW, StabW, SameW, ChangeW, AddW, BaseW, limBytes, simprocAttr, ne_eq] | ((with_reducible refine Need.intro ?_ ?_); (first | trivial | exact ⟨_, rfl⟩ | exact ⟨[], (List.append_nil _).symm⟩ | omega | (simp; done) | (simp; omega) | exact ⟨by first | trivial | (simp; done), _, by first | rfl | (simp; rfl)⟩))))
                refine UpTo.step (Gho.weakLast (H.length) (l := acc.map treeV) (m := [.agg [.str tk.name.text, .slice (tk.name.runs.map runV), .slice (tk.attrs.map attrV), .slice (ks.map treeV), .str [], .fslice []]]) (m' := [.agg [.str tk.name.text, .slice (tk.name.runs.map runV), .slice (tk.attrs.map attrV), .slice (ks.map treeV), .str [], .slice []]]) (by first | (rw [hget0]; rfl) | (rw [hget]; rfl) | rfl | (simp; done) | (simp; rfl)) (by repeat (first | exact trivial | refine ⟨.inl (.inl (.inl rfl)), ?_⟩ | refine ⟨.inr ⟨_, _, rfl, rfl, ?_⟩, ?_⟩ | refine ⟨.inl (.inl rfl), ?_⟩ | refine ⟨.inl (.inr ⟨_, rfl, rfl⟩), ?_⟩))) ?_
                (try simp only [RB, limBytes, simprocAttr, ne_eq])
                refine UpTo.here ⟨(a1, v + 1, acc ++ [.mk tk.name tk.attrs ks zeroS]), ⟨by omega, by omega, hk4, by rw [szTs_append, hd1]; simp only [szTs, szT]; simp only [szK, szS', zeroS, List.length_nil, List.map_nil, List.sum_nil] at *; omega⟩, by simp only; omega, by simp [upd, eset], ⟨_, by simp [treeV_mk, zeroS]; try rfl⟩⟩
              | cons e l3 =>
                have hlt2 : a1 < l.length := by rw [← ha]; simp only [List.length_cons] at hd3 ⊢; omega
                have hdt : decide ((a1 : Int) < (l.length : Int)) = true := decide_eq_true (by omega)
                have hat2 := at_map tokV l a1 hlt2
                have hde := List.drop_eq_getElem_cons hlt2
                rw [hd1] at hde
                injection hde with he1 he2
                rw [← he1] at hat2
                have w2 : IntKind.i64.wrap ((a1 : Int) + 1) = ((a1 + 1 : Nat) : Int) := by rw [wrapI (by omega)]; omega
                simp only [List.map_cons, List.sum_cons] at hks hda
                (repeat (first | simp -dsimp only [zrBuild71, envAt, hdt, hat2, tokV, w2, RB, TB, keep18, tab18, xindexAddr, xindex, xslice, xconvert, xlen, ewOp, FreeW, StabW, SameW, ChangeW, AddW, BaseW, limBytes, simprocAttr, ne_eq] | ((with_reducible refine Need.intro ?_ ?_); (first | trivial | exact ⟨_, rfl⟩ | exact ⟨[], (List.append_nil _).symm⟩ | omega | (simp; done) | (simp; omega) | exact ⟨by first | trivial | (simp; done), _, by first | rfl | (simp; rfl)⟩))))
                (first | refine SCall.then (lOpen2 _ op e.name.text) ?_ | refine SCall.thenA (lOpen2 _ op e.name.text) (by repeat (first | exact trivial | exact .inl (.inl rfl) | exact .inl (.inr ⟨_, rfl, rfl⟩) | exact .inl rfl | exact .inr ⟨_, rfl, rfl⟩ | refine .inr ⟨_, _, rfl, rfl, ?_⟩ | refine ⟨?_, ?_⟩)) ?_ | refine CallE.intro _ (lOpen2 _ op e.name.text) ?_ | refine CallE.introA (lOpen2 _ op e.name.text) (by repeat (first | exact trivial | exact .inl (.inl rfl) | exact .inl (.inr ⟨_, rfl, rfl⟩) | exact .inl rfl | exact .inr ⟨_, rfl, rfl⟩ | refine .inr ⟨_, _, rfl, rfl, ?_⟩ | refine ⟨?_, ?_⟩)) ?_ | refine CallE.intro _ (fun _ => lOpen2 _ op e.name.text) ?_ | refine CallE.intro _ (fun _ => SCall.arg (by repeat (first | exact trivial | exact .inl (.inl rfl) | exact .inl (.inr ⟨_, rfl, rfl⟩) | exact .inl rfl | exact .inr ⟨_, rfl, rfl⟩ | refine .inr ⟨_, _, rfl, rfl, ?_⟩ | refine ⟨?_, ?_⟩)) (lOpen2 _ op e.name.text)) ?_ | refine CallE2.intro _ _ (lOpen2 _ op e.name.text) ?_ | refine CallE2.intro _ _ (SCall.arg (by repeat (first | exact trivial | exact .inl (.inl rfl) | exact .inl (.inr ⟨_, rfl, rfl⟩) | exact .inl rfl | exact .inr ⟨_, rfl, rfl⟩ | refine .inr ⟨_, _, rfl, rfl, ?_⟩ | refine ⟨?_, ?_⟩)) (lOpen2 _ op e.name.text)) ?_)
                (repeat (first | simp -dsimp only [zrBuild71, hdt, hat2, tokV, w2, RB, TB, keep18, tab18, xindexAddr, xindex, xslice, xconvert, xlen, ewOp, FreeW, StabW, SameW, ChangeW, AddW, BaseW, limBytes, simprocAttr, ne_eq] | ((with_reducible refine Need.intro ?_ ?_); (first | trivial | exact ⟨_, rfl⟩ | exact ⟨[], (List.append_nil _).symm⟩ | omega | (simp; done) | (simp; omega) | exact ⟨by first | trivial | (simp; done), _, by first | rfl | (simp; rfl)⟩))))
                refine IfW.intro (fun h5 => ?_) (fun h5 => ?_)
                · have hk4 : Kd op (l.drop (a1 + 1)) (acc ++ [.mk tk.name tk.attrs ks zeroS]) out r := by
                    rw [← he2]
                    rw [adv, if_pos (.inl ((openI_neg _ _).1 (of_decide_eq_true h5)))] at hk3
                    exact hk3
                  rw [he2] at hks
                  (repeat (first | simp -dsimp only [zrBuild71, h5, hdt, hat2, tokV, w2, RB, TB, keep18, tab18, xindexAddr, xindex, xslice, xconvert, xlen, ewOp, FreeW, StabW, SameW, ChangeW, AddW, BaseW, limBytes, simprocAttr, ne_eq] | ((with_reducible refine Need.intro ?_ ?_); (first | trivial | exact ⟨_, rfl⟩ | exact ⟨[], (List.append_nil _).symm⟩ | omega | (simp; done) | (simp; omega) | exact ⟨by first | trivial | (simp; done), _, by first | rfl | (simp; rfl)⟩))))
                  refine UpTo.step (Gho.weakLast (H.length) (l := acc.map treeV) (m := [.agg [.str tk.name.text, .slice (tk.name.runs.map runV), .slice (tk.attrs.map attrV), .slice (ks.map treeV), .str [], .fslice []]]) (m' := [.agg [.str tk.name.text, .slice (tk.name.runs.map runV), .slice (tk.attrs.map attrV), .slice (ks.map treeV), .str [], .slice []]]) (by first | (rw [hget0]; rfl) | (rw [hget]; rfl) | rfl | (simp; done) | (simp; rfl)) (by repeat (first | exact trivial | refine ⟨.inl (.inl (.inl rfl)), ?_⟩ | refine ⟨.inr ⟨_, _, rfl, rfl, ?_⟩, ?_⟩ | refine ⟨.inl (.inl rfl), ?_⟩ | refine ⟨.inl (.inr ⟨_, rfl, rfl⟩), ?_⟩))) ?_
                  (try simp only [RB, limBytes, simprocAttr, ne_eq])
                  refine UpTo.here ⟨(a1 + 1, v + 1, acc ++ [.mk tk.name tk.attrs ks zeroS]), ⟨by omega, by omega, hk4, by rw [szTs_append]; simp only [szTs, szT]; simp only [szK, szS', zeroS, List.length_nil, List.map_nil, List.sum_nil] at *; omega⟩, by simp only; omega, by simp [upd, eset], ⟨_, by simp [treeV_mk, zeroS]; try rfl⟩⟩
                · have h5' : ¬ e.name.text ∉ op := fun hn => of_decide_eq_false h5 ((openI_neg _ _).2 hn)
                  (repeat (first | simp -dsimp only [zrBuild71, h5, hdt, hat2, tokV, w2, RB, TB, keep18, tab18, xindexAddr, xindex, xslice, xconvert, xlen, ewOp, FreeW, StabW, SameW, ChangeW, AddW, BaseW, limBytes, simprocAttr, ne_eq] | ((with_reducible refine Need.intro ?_ ?_); (first | trivial | exact ⟨_, rfl⟩ | exact ⟨[], (List.append_nil _).symm⟩ | omega | (simp; done) | (simp; omega) | exact ⟨by first | trivial | (simp; done), _, by first | rfl | (simp; rfl)⟩))))
                  refine IfW.intro (fun h6 => ?_) (fun h6 => ?_)
                  · have hk4 : Kd op (l.drop (a1 + 1)) (acc ++ [.mk tk.name tk.attrs ks zeroS]) out r := by
                      rw [← he2]
                      rw [adv, if_pos (.inr (by simpa using h6))] at hk3
                      exact hk3
                    rw [he2] at hks
                    (repeat (first | simp -dsimp only [zrBuild71, h6, hdt, hat2, tokV, w2, RB, TB, keep18, tab18, xindexAddr, xindex, xslice, xconvert, xlen, ewOp, FreeW, StabW, SameW, ChangeW, AddW, BaseW, limBytes, simprocAttr, ne_eq] | ((with_reducible refine Need.intro ?_ ?_); (first | trivial | exact ⟨_, rfl⟩ | exact ⟨[], (List.append_nil _).symm⟩ | omega | (simp; done) | (simp; omega) | exact ⟨by first | trivial | (simp; done), _, by first | rfl | (simp; rfl)⟩))))
                    refine UpTo.step (Gho.weakLast (H.length) (l := acc.map treeV) (m := [.agg [.str tk.name.text, .slice (tk.name.runs.map runV), .slice (tk.attrs.map attrV), .slice (ks.map treeV), .str [], .fslice []]]) (m' := [.agg [.str tk.name.text, .slice (tk.name.runs.map runV), .slice (tk.attrs.map attrV), .slice (ks.map treeV), .str [], .slice []]]) (by first | (rw [hget0]; rfl) | (rw [hget]; rfl) | rfl | (simp; done) | (simp; rfl)) (by repeat (first | exact trivial | refine ⟨.inl (.inl (.inl rfl)), ?_⟩ | refine ⟨.inr ⟨_, _, rfl, rfl, ?_⟩, ?_⟩ | refine ⟨.inl (.inl rfl), ?_⟩ | refine ⟨.inl (.inr ⟨_, rfl, rfl⟩), ?_⟩))) ?_
                    (try simp only [RB, limBytes, simprocAttr, ne_eq])
                    refine UpTo.here ⟨(a1 + 1, v + 1, acc ++ [.mk tk.name tk.attrs ks zeroS]), ⟨by omega, by omega, hk4, by rw [szTs_append]; simp only [szTs, szT]; simp only [szK, szS', zeroS, List.length_nil, List.map_nil, List.sum_nil] at *; omega⟩, by simp only; omega, by simp [upd, eset], ⟨_, by simp [treeV_mk, zeroS]; try rfl⟩⟩
                  · have hk4 : Kd op (l.drop a1) (acc ++ [.mk tk.name tk.attrs ks zeroS]) out r := by
                      rw [hd1]
                      rw [adv, if_neg (by simp at h6; simp [h5', h6])] at hk3
                      exact hk3
                    (repeat (first | simp -dsimp only [zrBuild71, h6, hdt, hat2, tokV, w2, RB, TB, keep18, tab18, xindexAddr, xindex, xslice, xconvert, xlen, ewOp, FreeW, StabW, SameW, ChangeW, AddW, BaseW, limBytes, simprocAttr, ne_eq] | ((with_reducible refine Need.intro ?_ ?_); (first | trivial | exact ⟨_, rfl⟩ | exact ⟨[], (List.append_nil _).symm⟩ | omega | (simp; done) | (simp; omega) | exact ⟨by first | trivial | (simp; done), _, by first | rfl | (simp; rfl)⟩))))
                    refine UpTo.step (Gho.weakLast (H.length) (l := acc.map treeV) (m := [.agg [.str tk.name.text, .slice (tk.name.runs.map runV), .slice (tk.attrs.map attrV), .slice (ks.map treeV), .str [], .fslice []]]) (m' := [.agg [.str tk.name.text, .slice (tk.name.runs.map runV), .slice (tk.attrs.map attrV), .slice (ks.map treeV), .str [], .slice []]]) (by first | (rw [hget0]; rfl) | (rw [hget]; rfl) | rfl | (simp; done) | (simp; rfl)) (by repeat (first | exact trivial | refine ⟨.inl (.inl (.inl rfl)), ?_⟩ | refine ⟨.inr ⟨_, _, rfl, rfl, ?_⟩, ?_⟩ | refine ⟨.inl (.inl rfl), ?_⟩ | refine ⟨.inl (.inr ⟨_, rfl, rfl⟩), ?_⟩))) ?_
                    (try simp only [RB, limBytes, simprocAttr, ne_eq])
                    refine UpTo.here ⟨(a1, v + 1, acc ++ [.mk tk.name tk.attrs ks zeroS]), ⟨by omega, by omega, hk4, by rw [szTs_append, hd1]; simp only [List.map_cons, List.sum_cons]; simp only [szTs, szT]; simp only [szK, szS', zeroS, List.length_nil, List.map_nil, List.sum_nil] at *; omega⟩, by simp only; omega, by simp [upd, eset], ⟨_, by simp [treeV_mk, zeroS]; try rfl⟩⟩
      · have hk : ¬ tk.kind = 1 := by simpa using h1
        have hs : tk.starts = false := by simp [hst, hk]
        (repeat (first | simp -dsimp only [zrBuild71, h1, RB, TB, keep18, tab18, xindexAddr, xindex, xslice, xconvert, xlen, ewOp, FreeW, StabW, SameW, ChangeW, AddW, BaseW, limBytes, simprocAttr, ne_eq] | ((with_reducible refine Need.intro ?_ ?_); (first | trivial | exact ⟨_, rfl⟩ | exact ⟨[], (List.append_nil _).symm⟩ | omega | (simp; done) | (simp; omega) | exact ⟨by first | trivial | (simp; done), _, by first | rfl | (simp; rfl)⟩))))
        refine IfW.intro (fun h4 => ?_) (fun h4 => ?_)
        · have hk4 : tk.kind = 2 := by simpa using h4
          (repeat (first | simp -dsimp only [zrBuild71, h4, RB, TB, keep18, tab18, xindexAddr, xindex, xslice, xconvert, xlen, ewOp, FreeW, StabW, SameW, ChangeW, AddW, BaseW, limBytes, simprocAttr, ne_eq] | ((with_reducible refine Need.intro ?_ ?_); (first | trivial | exact ⟨_, rfl⟩ | exact ⟨[], (List.append_nil _).symm⟩ | omega | (simp; done) | (simp; omega) | exact ⟨by first | trivial | (simp; done), _, by first | rfl | (simp; rfl)⟩))))
          (first | refine SCall.then (lOpen2 _ op tk.name.text) ?_ | refine SCall.thenA (lOpen2 _ op tk.name.text) (by repeat (first | exact trivial | exact .inl (.inl rfl) | exact .inl (.inr ⟨_, rfl, rfl⟩) | exact .inl rfl | exact .inr ⟨_, rfl, rfl⟩ | refine .inr ⟨_, _, rfl, rfl, ?_⟩ | refine ⟨?_, ?_⟩)) ?_ | refine CallE.intro _ (lOpen2 _ op tk.name.text) ?_ | refine CallE.introA (lOpen2 _ op tk.name.text) (by repeat (first | exact trivial | exact .inl (.inl rfl) | exact .inl (.inr ⟨_, rfl, rfl⟩) | exact .inl rfl | exact .inr ⟨_, rfl, rfl⟩ | refine .inr ⟨_, _, rfl, rfl, ?_⟩ | refine ⟨?_, ?_⟩)) ?_ | refine CallE.intro _ (fun _ => lOpen2 _ op tk.name.text) ?_ | refine CallE.intro _ (fun _ => SCall.arg (by repeat (first | exact trivial | exact .inl (.inl rfl) | exact .inl (.inr ⟨_, rfl, rfl⟩) | exact .inl rfl | exact .inr ⟨_, rfl, rfl⟩ | refine .inr ⟨_, _, rfl, rfl, ?_⟩ | refine ⟨?_, ?_⟩)) (lOpen2 _ op tk.name.text)) ?_ | refine CallE2.intro _ _ (lOpen2 _ op tk.name.text) ?_ | refine CallE2.intro _ _ (SCall.arg (by repeat (first | exact trivial | exact .inl (.inl rfl) | exact .inl (.inr ⟨_, rfl, rfl⟩) | exact .inl rfl | exact .inr ⟨_, rfl, rfl⟩ | refine .inr ⟨_, _, rfl, rfl, ?_⟩ | refine ⟨?_, ?_⟩)) (lOpen2 _ op tk.name.text)) ?_)
          (repeat (first | simp -dsimp only [zrBuild71, RB, TB, keep18, tab18, xindexAddr, xindex, xslice, xconvert, xlen, ewOp, FreeW, StabW, SameW, ChangeW, AddW, BaseW, limBytes, simprocAttr, ne_eq] | ((with_reducible refine Need.intro ?_ ?_); (first | trivial | exact ⟨_, rfl⟩ | exact ⟨[], (List.append_nil _).symm⟩ | omega | (simp; done) | (simp; omega) | exact ⟨by first | trivial | (simp; done), _, by first | rfl | (simp; rfl)⟩))))
          refine IfW.intro (fun h5 => ?_) (fun h5 => ?_)
          · have hm : tk.name.text ∈ op := Classical.not_not.1 fun hn => by have := of_decide_eq_true h5; have := (openI_neg op tk.name.text).2 hn; omega
            obtain ⟨rfl, rfl⟩ := hk2.of_stop hs hk4 hm
            (repeat (first | simp -dsimp only [zrBuild71, h5, RB, TB, keep18, tab18, xindexAddr, xindex, xslice, xconvert, xlen, ewOp, FreeW, StabW, SameW, ChangeW, AddW, BaseW, limBytes, simprocAttr, ne_eq] | ((with_reducible refine Need.intro ?_ ?_); (first | trivial | exact ⟨_, rfl⟩ | exact ⟨[], (List.append_nil _).symm⟩ | omega | (simp; done) | (simp; omega) | exact ⟨by first | trivial | (simp; done), _, by first | rfl | (simp; rfl)⟩))))
            refine RetW.auto0 false _ (by first | rfl | exact (List.append_nil _).symm) ?_ ?_
            · (simp (maxDischargeDepth := 6) [LTB, HLt_set, ltL_take, ltL_drop, ltL_rep, ltL_set, upd, eset, hH, hHk, zlBuild71] <;> omega)
            (try simp only [wk, wk1, wk0, RB, limBytes, simprocAttr, ne_eq])
            (try (rw [List.take_of_length_le]; rotate_left 1; (· first | (simp; done) | (simp; omega) | omega)))
            simp
            omega
          · have hm : ¬ (tk.kind = 2 ∧ tk.name.text ∈ op) := fun hn => (openI_neg op tk.name.text).1 (by have := of_decide_eq_false h5; omega) hn.2
            have hk3 := hk2.of_skip hs (by omega) hm
            (repeat (first | simp -dsimp only [zrBuild71, h5, w1, hk4, RB, TB, keep18, tab18, xindexAddr, xindex, xslice, xconvert, xlen, ewOp, FreeW, StabW, SameW, ChangeW, AddW, BaseW, limBytes, simprocAttr, ne_eq] | ((with_reducible refine Need.intro ?_ ?_); (first | trivial | exact ⟨_, rfl⟩ | exact ⟨[], (List.append_nil _).symm⟩ | omega | (simp; done) | (simp; omega) | exact ⟨by first | trivial | (simp; done), _, by first | rfl | (simp; rfl)⟩))))
            refine UpTo.here ⟨(i + 1, v, acc), ⟨by omega, hlt, hk3, by omega⟩, by simp only; omega, by simp [upd, eset], ⟨_, by simp; try rfl⟩⟩
        · have hk4 : ¬ tk.kind = 2 := by simpa using h4
          (repeat (first | simp -dsimp only [zrBuild71, h4, RB, TB, keep18, tab18, xindexAddr, xindex, xslice, xconvert, xlen, ewOp, FreeW, StabW, SameW, ChangeW, AddW, BaseW, limBytes, simprocAttr, ne_eq] | ((with_reducible refine Need.intro ?_ ?_); (first | trivial | exact ⟨_, rfl⟩ | exact ⟨[], (List.append_nil _).symm⟩ | omega | (simp; done) | (simp; omega) | exact ⟨by first | trivial | (simp; done), _, by first | rfl | (simp; rfl)⟩))))
          refine IfW.intro (fun h5 => ?_) (fun h5 => ?_)
          · have hk5 : tk.kind = 3 := by simpa using h5
            have hk3 := hk2.of_data hs hk5
            (repeat (first | simp -dsimp only [zrBuild71, h5, w1, RB, TB, keep18, tab18, xindexAddr, xindex, xslice, xconvert, xlen, ewOp, FreeW, StabW, SameW, ChangeW, AddW, BaseW, limBytes, simprocAttr, ne_eq] | ((with_reducible refine Need.intro ?_ ?_); (first | trivial | exact ⟨_, rfl⟩ | exact ⟨[], (List.append_nil _).symm⟩ | omega | (simp; done) | (simp; omega) | exact ⟨by first | trivial | (simp; done), _, by first | rfl | (simp; rfl)⟩))))
            refine UpTo.step (Gho.weakLast (H.length) (l := acc.map treeV) (m := [.agg [.str [], .fslice [], .fslice [], .fslice [], .str tk.text.text, .slice (tk.text.runs.map runV)]]) (m' := [.agg [.str [], .slice [], .slice [], .slice [], .str tk.text.text, .slice (tk.text.runs.map runV)]]) (by first | (rw [hget0]; rfl) | (rw [hget]; rfl) | rfl | (simp; done) | (simp; rfl)) (by repeat (first | exact trivial | refine ⟨.inl (.inl (.inl rfl)), ?_⟩ | refine ⟨.inr ⟨_, _, rfl, rfl, ?_⟩, ?_⟩ | refine ⟨.inl (.inl rfl), ?_⟩ | refine ⟨.inl (.inr ⟨_, rfl, rfl⟩), ?_⟩))) ?_
            (try simp only [RB, limBytes, simprocAttr, ne_eq])
            refine UpTo.here ⟨(i + 1, v + 1, acc ++ [.mk zeroS [] [] tk.text]), ⟨by omega, hlt, hk3, by rw [szTs_append]; simp only [szTs, szT]; simp only [szS', zeroS, List.length_nil, List.map_nil, List.sum_nil] at *; omega⟩, by simp only; omega, by simp [upd, eset], ⟨_, by simp [treeV_mk, zeroS]; try rfl⟩⟩
          · have hk5 : ¬ tk.kind = 3 := by simpa using h5
            have hk3 := hk2.of_skip hs hk5 (fun hn => hk4 hn.1)
            (repeat (first | simp -dsimp only [zrBuild71, h5, w1, RB, TB, keep18, tab18, xindexAddr, xindex, xslice, xconvert, xlen, ewOp, FreeW, StabW, SameW, ChangeW, AddW, BaseW, limBytes, simprocAttr, ne_eq] | ((with_reducible refine Need.intro ?_ ?_); (first | trivial | exact ⟨_, rfl⟩ | exact ⟨[], (List.append_nil _).symm⟩ | omega | (simp; done) | (simp; omega) | exact ⟨by first | trivial | (simp; done), _, by first | rfl | (simp; rfl)⟩))))
            refine UpTo.here ⟨(i + 1, v, acc), ⟨by omega, hlt, hk3, by omega⟩, by simp only; omega, by simp [upd, eset], ⟨_, by simp; try rfl⟩⟩
    · (repeat (first | simp -dsimp only [zrBuild71, h, RB, TB, keep18, tab18, xindexAddr, xindex, xslice, xconvert, xlen, ewOp, FreeW, StabW, SameW, ChangeW, AddW, BaseW, limBytes, simprocAttr, ne_eq] | ((with_reducible refine Need.intro ?_ ?_); (first | trivial | exact ⟨_, rfl⟩ | exact ⟨[], (List.append_nil _).symm⟩ | omega | (simp; done) | (simp; omega) | exact ⟨by first | trivial | (simp; done), _, by first | rfl | (simp; rfl)⟩))))
      have hi2 : i = l.length := Nat.le_antisymm hi (ge_of h)
      subst hi2
      rw [List.drop_length] at hk2
      obtain ⟨rfl, rfl⟩ := hk2.end
      refine RetW.auto0 false _ (by first | rfl | exact (List.append_nil _).symm) ?_ ?_
      · (simp (maxDischargeDepth := 6) [LTB, HLt_set, ltL_take, ltL_drop, ltL_rep, ltL_set, upd, eset, hH, hHk, zlBuild71] <;> omega)
      (try simp only [wk, wk1, wk0, RB, limBytes, simprocAttr, ne_eq])
      (try (rw [List.take_of_length_le]; rotate_left 1; (· first | (simp; done) | (simp; omega) | omega)))
      simp
end Go.Proofs.Ytjplgbalpnlanaa

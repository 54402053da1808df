/- The walks of package build: void, find, put, all. -/
import Derived.Test.YtjplgbalpnlanaaBuild2
set_option linter.unusedSimpArgs false
set_option linter.unusedVariables false
set_option maxRecDepth 100000
namespace Go.Proofs.Ytjplgbalpnlanaa
open Go Go.EL
theorem zrBuild31 : type_of% (And.intro (And.intro (And.intro (And.intro (@st_run) (@sz_run)) (And.intro (@st1_run) (And.intro (@cl_run) (@st_Str)))) (And.intro (And.intro (@sz_Str) (@st1_Str)) (And.intro (@cl_Str) (And.intro (@st_c) (@sz_c))))) (And.intro (And.intro (And.intro (@st1_c) (@cl_c)) (And.intro (@st_attr) (And.intro (@sz_attr) (@st1_attr)))) (And.intro (And.intro (@cl_attr) (@st_tree)) (And.intro (@sz_tree) (And.intro (@st1_tree) (@cl_tree)))))) := And.intro (And.intro (And.intro (And.intro (@st_run) (@sz_run)) (And.intro (@st1_run) (And.intro (@cl_run) (@st_Str)))) (And.intro (And.intro (@sz_Str) (@st1_Str)) (And.intro (@cl_Str) (And.intro (@st_c) (@sz_c))))) (And.intro (And.intro (And.intro (@st1_c) (@cl_c)) (And.intro (@st_attr) (And.intro (@sz_attr) (@st1_attr)))) (And.intro (And.intro (@cl_attr) (@st_tree)) (And.intro (@sz_tree) (And.intro (@st1_tree) (@cl_tree)))))
theorem zlBuild31 : type_of% (And.intro (And.intro (And.intro (And.intro (@lt_vi) (@lt_str)) (And.intro (@lt_vb) (And.intro (@ltc_str) (@ltc_vi)))) (And.intro (And.intro (@lt_run) (@lt1_run)) (And.intro (@ltc_run) (And.intro (@lt_Str) (@lt1_Str))))) (And.intro (And.intro (And.intro (@ltc_Str) (@lt_c)) (And.intro (@lt1_c) (And.intro (@ltc_c) (@lt_attr)))) (And.intro (And.intro (@lt1_attr) (@ltc_attr)) (And.intro (@lt_tree) (And.intro (@lt1_tree) (@ltc_tree)))))) := And.intro (And.intro (And.intro (And.intro (@lt_vi) (@lt_str)) (And.intro (@lt_vb) (And.intro (@ltc_str) (@ltc_vi)))) (And.intro (And.intro (@lt_run) (@lt1_run)) (And.intro (@ltc_run) (And.intro (@lt_Str) (@lt1_Str))))) (And.intro (And.intro (And.intro (@ltc_Str) (@lt_c)) (And.intro (@lt1_c) (And.intro (@ltc_c) (@lt_attr)))) (And.intro (And.intro (@lt1_attr) (@ltc_attr)) (And.intro (@lt_tree) (And.intro (@lt1_tree) (@ltc_tree)))))
theorem index_str (H : List Ob) (l : List (List UInt8)) (v : List UInt8) : SCall Try.prog 184 [.slice (l.map V.str), .str v] H (fun r H' => r = .int .i64 (ix (fun x => v == x) l) ∧ H' = H) := by
  refine SCall.sized 0 rfl fun hl => ?_
  rw [List.length_map, maxLen_eq] at hl
  refine SCall.of_good fun hH => ?_
  have hHk := HLt.add hH
  refine SCall.of_code Tok Try.func184 rfl Try.call184 (n := 19) rfl (by simp) (rs := [.tmp 4]) rfl ?_
  refine EWn.to ?_
  refine EWn.of_c Tok mixed (own := false) keep184 tab184 (by kernel_rfl) ?_
  (repeat (first | simp -dsimp only [zrBuild31, RB, TB, keep184, tab184, xindexAddr, xindex, xslice, xconvert, xlen, ewOp, FreeW, StabW, SameW, ChangeW, AddW, BaseW, limBytes, simprocAttr, ne_eq] | ((with_reducible refine Need.intro ?_ ?_); (first | trivial | exact ⟨_, rfl⟩ | exact ⟨[], (List.append_nil _).symm⟩ | omega | (simp; done) | (simp; omega) | exact ⟨by first | trivial | (simp; done), _, by first | rfl | (simp; rfl)⟩))))
  refine EWn.loopE (ι := (Nat)) (fun (i : (Nat)) => i ≤ l.length ∧ ∀ x ∈ l.take i, (v == x) = false) (fun (i : (Nat)) => l.length - i) (fun (i : (Nat)) => [(8, .int .i64 i)]) (fun (i : (Nat)) => H) (0) ?_ ?_ ?_ ?_ ?_
  · first | rfl | simp [upd, eset]
  · first | rfl | (simp; done) | exact (set_same (by assumption)).symm
  · rintro i hok; exact ⟨by first | (simp; done) | (simp; omega), by (simp (maxDischargeDepth := 6) [LTB, HLt_set, ltL_take, ltL_drop, ltL_rep, ltL_set, upd, eset, hH, hHk, zlBuild31] <;> omega), by (simp (maxDischargeDepth := 6) [LTB, HLt_set, ltL_take, ltL_drop, ltL_rep, ltL_set, upd, eset, hH, hHk, zlBuild31] <;> omega)⟩
  · simp
  rintro i ⟨hi, hno⟩
  refine EWn.of_c Tok mixed (own := false) keep184 tab184 (by kernel_rfl) ?_
  (repeat (first | simp -dsimp only [zrBuild31, RB, TB, keep184, tab184, xindexAddr, xindex, xslice, xconvert, xlen, ewOp, FreeW, StabW, SameW, ChangeW, AddW, BaseW, limBytes, simprocAttr, ne_eq] | ((with_reducible refine Need.intro ?_ ?_); (first | trivial | exact ⟨_, rfl⟩ | exact ⟨[], (List.append_nil _).symm⟩ | omega | (simp; done) | (simp; omega) | exact ⟨by first | trivial | (simp; done), _, by first | rfl | (simp; rfl)⟩))))
  refine IfW.intro (fun h => ?_) (fun h => ?_)
  · have hlt := lt_of h
    (repeat (first | simp -dsimp only [zrBuild31, h, at_map V.str l i hlt, V.str, RB, TB, keep184, tab184, xindexAddr, xindex, xslice, xconvert, xlen, ewOp, FreeW, StabW, SameW, ChangeW, AddW, BaseW, limBytes, simprocAttr, ne_eq] | ((with_reducible refine Need.intro ?_ ?_); (first | trivial | exact ⟨_, rfl⟩ | exact ⟨[], (List.append_nil _).symm⟩ | omega | (simp; done) | (simp; omega) | exact ⟨by first | trivial | (simp; done), _, by first | rfl | (simp; rfl)⟩))))
    refine IfW.intro (fun hb => ?_) (fun hb => ?_)
    · (repeat (first | simp -dsimp only [zrBuild31, hb, RB, TB, keep184, tab184, xindexAddr, xindex, xslice, xconvert, xlen, ewOp, FreeW, StabW, SameW, ChangeW, AddW, BaseW, limBytes, simprocAttr, ne_eq] | ((with_reducible refine Need.intro ?_ ?_); (first | trivial | exact ⟨_, rfl⟩ | exact ⟨[], (List.append_nil _).symm⟩ | omega | (simp; done) | (simp; omega) | exact ⟨by first | trivial | (simp; done), _, by first | rfl | (simp; rfl)⟩))))
      refine RetW.auto0 false _ (by first | rfl | exact (List.append_nil _).symm) ?_ ?_
      · (simp (maxDischargeDepth := 6) [LTB, HLt_set, ltL_take, ltL_drop, ltL_rep, ltL_set, upd, eset, hH, hHk, zlBuild31] <;> omega)
      (try simp only [wk, wk1, wk0, RB, limBytes, simprocAttr, ne_eq])
      (try (rw [List.take_of_length_le]; rotate_left 1; (· first | (simp; done) | (simp; omega) | omega)))
      rw [ix_hit hlt hb hno]
    · (repeat (first | simp -dsimp only [zrBuild31, hb, RB, TB, keep184, tab184, xindexAddr, xindex, xslice, xconvert, xlen, ewOp, FreeW, StabW, SameW, ChangeW, AddW, BaseW, limBytes, simprocAttr, ne_eq] | ((with_reducible refine Need.intro ?_ ?_); (first | trivial | exact ⟨_, rfl⟩ | exact ⟨[], (List.append_nil _).symm⟩ | omega | (simp; done) | (simp; omega) | exact ⟨by first | trivial | (simp; done), _, by first | rfl | (simp; rfl)⟩))))
      rw [wrapI (by omega)]
      refine UpTo.here ⟨(i + 1), ?_, by first | omega | (simp only [List.length_append, List.length_cons, List.length_nil]; omega), by simp [upd, eset], ⟨_, by simp; try rfl⟩⟩
      exact ⟨hlt, take_step hlt hb hno⟩
  · (repeat (first | simp -dsimp only [zrBuild31, h, RB, TB, keep184, tab184, xindexAddr, xindex, xslice, xconvert, xlen, ewOp, FreeW, StabW, SameW, ChangeW, AddW, BaseW, limBytes, simprocAttr, ne_eq] | ((with_reducible refine Need.intro ?_ ?_); (first | trivial | exact ⟨_, rfl⟩ | exact ⟨[], (List.append_nil _).symm⟩ | omega | (simp; done) | (simp; omega) | exact ⟨by first | trivial | (simp; done), _, by first | rfl | (simp; rfl)⟩))))
    refine RetW.auto0 false _ (by first | rfl | exact (List.append_nil _).symm) ?_ ?_
    · (simp (maxDischargeDepth := 6) [LTB, HLt_set, ltL_take, ltL_drop, ltL_rep, ltL_set, upd, eset, hH, hHk, zlBuild31] <;> omega)
    (try simp only [wk, wk1, wk0, RB, limBytes, simprocAttr, ne_eq])
    (try (rw [List.take_of_length_le]; rotate_left 1; (· first | (simp; done) | (simp; omega) | omega)))
    rw [ix_none (take_all (ge_of h) hno)]
theorem contains_str (H : List Ob) (l : List (List UInt8)) (v : List UInt8) : SCall Try.prog 183 [.slice (l.map V.str), .str v] H (fun r H' => r = .bool (decide (v ∈ l)) ∧ H' = H) := by
  refine SCall.of_good fun hH => ?_
  have hHk := HLt.add hH
  refine SCall.of_code Tok Try.func183 rfl Try.call183 (n := 9) rfl (by simp) (rs := [.tmp 4]) rfl ?_
  refine EWn.to ?_
  refine EWn.of_c Tok mixed (own := false) keep183 tab183 (by kernel_rfl) ?_
  (repeat (first | simp -dsimp only [zrBuild31, RB, TB, keep183, tab183, xindexAddr, xindex, xslice, xconvert, xlen, ewOp, FreeW, StabW, SameW, ChangeW, AddW, BaseW, limBytes, simprocAttr, ne_eq] | ((with_reducible refine Need.intro ?_ ?_); (first | trivial | exact ⟨_, rfl⟩ | exact ⟨[], (List.append_nil _).symm⟩ | omega | (simp; done) | (simp; omega) | exact ⟨by first | trivial | (simp; done), _, by first | rfl | (simp; rfl)⟩))))
  (first | refine SCall.then (index_str _ l v) ?_ | refine SCall.thenA (index_str _ l v) (by repeat (first | exact trivial | exact .inl (.inl rfl) | exact .inl (.inr ⟨_, rfl, rfl⟩) | exact .inl rfl | exact .inr ⟨_, rfl, rfl⟩ | refine .inr ⟨_, _, rfl, rfl, ?_⟩ | refine ⟨?_, ?_⟩)) ?_ | refine CallE.intro _ (index_str _ l v) ?_ | refine CallE.introA (index_str _ l v) (by repeat (first | exact trivial | exact .inl (.inl rfl) | exact .inl (.inr ⟨_, rfl, rfl⟩) | exact .inl rfl | exact .inr ⟨_, rfl, rfl⟩ | refine .inr ⟨_, _, rfl, rfl, ?_⟩ | refine ⟨?_, ?_⟩)) ?_ | refine CallE.intro _ (fun _ => index_str _ l v) ?_ | refine CallE.intro _ (fun _ => SCall.arg (by repeat (first | exact trivial | exact .inl (.inl rfl) | exact .inl (.inr ⟨_, rfl, rfl⟩) | exact .inl rfl | exact .inr ⟨_, rfl, rfl⟩ | refine .inr ⟨_, _, rfl, rfl, ?_⟩ | refine ⟨?_, ?_⟩)) (index_str _ l v)) ?_ | refine CallE2.intro _ _ (index_str _ l v) ?_ | refine CallE2.intro _ _ (SCall.arg (by repeat (first | exact trivial | exact .inl (.inl rfl) | exact .inl (.inr ⟨_, rfl, rfl⟩) | exact .inl rfl | exact .inr ⟨_, rfl, rfl⟩ | refine .inr ⟨_, _, rfl, rfl, ?_⟩ | refine ⟨?_, ?_⟩)) (index_str _ l v)) ?_)
  (repeat (first | simp -dsimp only [zrBuild31, RB, TB, keep183, tab183, xindexAddr, xindex, xslice, xconvert, xlen, ewOp, FreeW, StabW, SameW, ChangeW, AddW, BaseW, limBytes, simprocAttr, ne_eq] | ((with_reducible refine Need.intro ?_ ?_); (first | trivial | exact ⟨_, rfl⟩ | exact ⟨[], (List.append_nil _).symm⟩ | omega | (simp; done) | (simp; omega) | exact ⟨by first | trivial | (simp; done), _, by first | rfl | (simp; rfl)⟩))))
  refine RetW.auto0 false _ (by first | rfl | exact (List.append_nil _).symm) ?_ ?_
  · (simp (maxDischargeDepth := 6) [LTB, HLt_set, ltL_take, ltL_drop, ltL_rep, ltL_set, upd, eset, hH, hHk, zlBuild31] <;> omega)
  (try simp only [wk, wk1, wk0, RB, limBytes, simprocAttr, ne_eq])
  (try (rw [List.take_of_length_le]; rotate_left 1; (· first | (simp; done) | (simp; omega) | omega)))
  rw [show (decide (ix (fun x => v == x) l ≥ 0)) = decide (0 ≤ ix (fun x => v == x) l) from rfl, ix_any]
  congr 1
  rw [Bool.eq_iff_iff]
  simp
theorem contains_str_vec (H : List Ob) (l : List (List UInt8)) (v : List UInt8) (o ver es n : Nat) (ho : H[o]? = some (.vec ver es (l.map V.str))) (hn : n = l.length) : SCall Try.prog 183 [.vec o ver 0 n, .str v] H (fun r H' => r = .bool (decide (v ∈ l)) ∧ H' = H) := by
  subst hn
  refine SCall.borrow (args' := [.slice (l.map V.str), .str v]) ⟨⟨es, _, ho, by simp, by rw [List.drop_zero, ← List.length_map (f := V.str), List.take_length], lt_str _ _⟩, ⟨rfl, by first | trivial | simp [V.lt, ltL]⟩, trivial⟩ ?_
  refine (contains_str [] l v).mono ?_
  rintro r H' ⟨rfl, _⟩
  exact ⟨rfl, trivial⟩

theorem containsS (H : List Ob) (l : List (List UInt8)) (v : List UInt8) : SCall Try.prog 183 [.slice (l.map V.str), .str v] H (fun r H' => r = .bool (l.any fun x => v == x) ∧ H' = H) := by
  refine SCall.of_good fun hH => ?_
  have hHk := HLt.add hH
  refine SCall.of_code Tok Try.func183 rfl Try.call183 (n := 9) rfl (by simp) (rs := [.tmp 4]) rfl ?_
  refine EWn.to ?_
  refine EWn.of_c Tok mixed (own := false) keep183 tab183 (by kernel_rfl) ?_
  (repeat (first | simp -dsimp only [zrBuild31, RB, TB, keep183, tab183, xindexAddr, xindex, xslice, xconvert, xlen, ewOp, FreeW, StabW, SameW, ChangeW, AddW, BaseW, limBytes, simprocAttr, ne_eq] | ((with_reducible refine Need.intro ?_ ?_); (first | trivial | exact ⟨_, rfl⟩ | exact ⟨[], (List.append_nil _).symm⟩ | omega | (simp; done) | (simp; omega) | exact ⟨by first | trivial | (simp; done), _, by first | rfl | (simp; rfl)⟩))))
  (first | refine SCall.then (index_str _ l v) ?_ | refine SCall.thenA (index_str _ l v) (by repeat (first | exact trivial | exact .inl (.inl rfl) | exact .inl (.inr ⟨_, rfl, rfl⟩) | exact .inl rfl | exact .inr ⟨_, rfl, rfl⟩ | refine .inr ⟨_, _, rfl, rfl, ?_⟩ | refine ⟨?_, ?_⟩)) ?_ | refine CallE.intro _ (index_str _ l v) ?_ | refine CallE.introA (index_str _ l v) (by repeat (first | exact trivial | exact .inl (.inl rfl) | exact .inl (.inr ⟨_, rfl, rfl⟩) | exact .inl rfl | exact .inr ⟨_, rfl, rfl⟩ | refine .inr ⟨_, _, rfl, rfl, ?_⟩ | refine ⟨?_, ?_⟩)) ?_ | refine CallE.intro _ (fun _ => index_str _ l v) ?_ | refine CallE.intro _ (fun _ => SCall.arg (by repeat (first | exact trivial | exact .inl (.inl rfl) | exact .inl (.inr ⟨_, rfl, rfl⟩) | exact .inl rfl | exact .inr ⟨_, rfl, rfl⟩ | refine .inr ⟨_, _, rfl, rfl, ?_⟩ | refine ⟨?_, ?_⟩)) (index_str _ l v)) ?_ | refine CallE2.intro _ _ (index_str _ l v) ?_ | refine CallE2.intro _ _ (SCall.arg (by repeat (first | exact trivial | exact .inl (.inl rfl) | exact .inl (.inr ⟨_, rfl, rfl⟩) | exact .inl rfl | exact .inr ⟨_, rfl, rfl⟩ | refine .inr ⟨_, _, rfl, rfl, ?_⟩ | refine ⟨?_, ?_⟩)) (index_str _ l v)) ?_)
  (repeat (first | simp -dsimp only [zrBuild31, RB, TB, keep183, tab183, xindexAddr, xindex, xslice, xconvert, xlen, ewOp, FreeW, StabW, SameW, ChangeW, AddW, BaseW, limBytes, simprocAttr, ne_eq] | ((with_reducible refine Need.intro ?_ ?_); (first | trivial | exact ⟨_, rfl⟩ | exact ⟨[], (List.append_nil _).symm⟩ | omega | (simp; done) | (simp; omega) | exact ⟨by first | trivial | (simp; done), _, by first | rfl | (simp; rfl)⟩))))
  refine RetW.auto0 false _ (by first | rfl | exact (List.append_nil _).symm) ?_ ?_
  · (simp (maxDischargeDepth := 6) [LTB, HLt_set, ltL_take, ltL_drop, ltL_rep, ltL_set, upd, eset, hH, hHk, zlBuild31] <;> omega)
  (try simp only [wk, wk1, wk0, RB, limBytes, simprocAttr, ne_eq])
  (try (rw [List.take_of_length_le]; rotate_left 1; (· first | (simp; done) | (simp; omega) | omega)))
  simp [← ix_any]
theorem bVoid (H : List Ob) (nm : List UInt8) : SCall Try.prog 173 [.str nm] H (fun r H' => r = .bool (isVoid nm) ∧ H' = H) := by
  have hc : [V.str [98, 114], V.str [104, 114], V.str [105, 109, 103]] = [[98, 114], [104, 114], [105, 109, 103]].map V.str := rfl
  refine SCall.of_good fun hH => ?_
  have hHk := HLt.add hH
  refine SCall.of_code Tok Try.func173 rfl Try.call173 (n := 6) rfl (by simp) (rs := [.tmp 2]) rfl ?_
  refine EWn.to ?_
  refine EWn.of_c Tok mixed (own := false) keep173 tab173 (by kernel_rfl) ?_
  (repeat (first | simp -dsimp only [zrBuild31, RB, TB, keep173, tab173, xindexAddr, xindex, xslice, xconvert, xlen, ewOp, FreeW, StabW, SameW, ChangeW, AddW, BaseW, limBytes, simprocAttr, ne_eq] | ((with_reducible refine Need.intro ?_ ?_); (first | trivial | exact ⟨_, rfl⟩ | exact ⟨[], (List.append_nil _).symm⟩ | omega | (simp; done) | (simp; omega) | exact ⟨by first | trivial | (simp; done), _, by first | rfl | (simp; rfl)⟩))))
  (first | refine SCall.then (containsS _ [[98, 114], [104, 114], [105, 109, 103]] nm) ?_ | refine SCall.thenA (containsS _ [[98, 114], [104, 114], [105, 109, 103]] nm) (by repeat (first | exact trivial | exact .inl (.inl rfl) | exact .inl (.inr ⟨_, rfl, rfl⟩) | exact .inl rfl | exact .inr ⟨_, rfl, rfl⟩ | refine .inr ⟨_, _, rfl, rfl, ?_⟩ | refine ⟨?_, ?_⟩)) ?_ | refine CallE.intro _ (containsS _ [[98, 114], [104, 114], [105, 109, 103]] nm) ?_ | refine CallE.introA (containsS _ [[98, 114], [104, 114], [105, 109, 103]] nm) (by repeat (first | exact trivial | exact .inl (.inl rfl) | exact .inl (.inr ⟨_, rfl, rfl⟩) | exact .inl rfl | exact .inr ⟨_, rfl, rfl⟩ | refine .inr ⟨_, _, rfl, rfl, ?_⟩ | refine ⟨?_, ?_⟩)) ?_ | refine CallE.intro _ (fun _ => containsS _ [[98, 114], [104, 114], [105, 109, 103]] nm) ?_ | refine CallE.intro _ (fun _ => SCall.arg (by repeat (first | exact trivial | exact .inl (.inl rfl) | exact .inl (.inr ⟨_, rfl, rfl⟩) | exact .inl rfl | exact .inr ⟨_, rfl, rfl⟩ | refine .inr ⟨_, _, rfl, rfl, ?_⟩ | refine ⟨?_, ?_⟩)) (containsS _ [[98, 114], [104, 114], [105, 109, 103]] nm)) ?_ | refine CallE2.intro _ _ (containsS _ [[98, 114], [104, 114], [105, 109, 103]] nm) ?_ | refine CallE2.intro _ _ (SCall.arg (by repeat (first | exact trivial | exact .inl (.inl rfl) | exact .inl (.inr ⟨_, rfl, rfl⟩) | exact .inl rfl | exact .inr ⟨_, rfl, rfl⟩ | refine .inr ⟨_, _, rfl, rfl, ?_⟩ | refine ⟨?_, ?_⟩)) (containsS _ [[98, 114], [104, 114], [105, 109, 103]] nm)) ?_)
  (repeat (first | simp -dsimp only [zrBuild31, RB, TB, keep173, tab173, xindexAddr, xindex, xslice, xconvert, xlen, ewOp, FreeW, StabW, SameW, ChangeW, AddW, BaseW, limBytes, simprocAttr, ne_eq] | ((with_reducible refine Need.intro ?_ ?_); (first | trivial | exact ⟨_, rfl⟩ | exact ⟨[], (List.append_nil _).symm⟩ | omega | (simp; done) | (simp; omega) | exact ⟨by first | trivial | (simp; done), _, by first | rfl | (simp; rfl)⟩))))
  refine RetW.auto0 false _ (by first | rfl | exact (List.append_nil _).symm) ?_ ?_
  · (simp (maxDischargeDepth := 6) [LTB, HLt_set, ltL_take, ltL_drop, ltL_rep, ltL_set, upd, eset, hH, hHk, zlBuild31] <;> omega)
  (try simp only [wk, wk1, wk0, RB, limBytes, simprocAttr, ne_eq])
  (try (rw [List.take_of_length_le]; rotate_left 1; (· first | (simp; done) | (simp; omega) | omega)))
  refine congrArg V.bool ?_
  rw [Bool.eq_iff_iff]; simp [isVoid, or_assoc]
def findI (st : List Fr) (nm : List UInt8) : Int := if posF st nm = 0 then -1 else posF st nm
theorem pos_drop {st : List Fr} {nm : List UInt8} {i : Nat} (hi : i < st.length) (h0 : 0 < i) : posF (st.drop (st.length - 1 - i)) nm = if (st[st.length - 1 - i]'(by omega)).tag.text = nm then i else posF (st.drop (st.length - 1 - (i - 1))) nm := by
  have h1 := List.drop_eq_getElem_cons (l := st) (i := st.length - 1 - i) (by omega)
  rw [h1, posF, if_neg (by intro e; have := congrArg List.length e; simp at this; omega)]
  rw [show st.length - 1 - (i - 1) = st.length - 1 - i + 1 from by omega, List.length_drop]
  rw [show st.length - (st.length - 1 - i + 1) = i from by omega]
theorem pos_root {st : List Fr} {nm : List UInt8} (h : st ≠ []) : posF (st.drop (st.length - 1 - 0)) nm = 0 := by
  have hl := List.length_pos_iff.2 h
  have h1 := List.drop_eq_getElem_cons (l := st) (i := st.length - 1 - 0) (by omega)
  rw [h1, posF, if_pos (by apply List.drop_eq_nil_of_le; omega)]
theorem bFind (H : List Ob) (s : Nat) (st : List Fr) (own : List Nat) (nm : List UInt8) (h : Stk H s st own) (hne : st ≠ []) (hb : st.length ≤ 100000000) :
    SCall Try.prog 174 [.ref s 0, .str nm] H (fun r H' => r = .int .i64 (findI st nm) ∧ H' = H) := by
  obtain ⟨o, ver, ps, rfl, rfl, h⟩ := h
  obtain ⟨g1, g2, -, -⟩ := h
  have ls := (List.getElem?_eq_some_iff.1 g1).1
  have lo := (List.getElem?_eq_some_iff.1 g2).1
  have hl : 0 < ps.length := by rw [← List.length_map (f := fun p : Op => p.1)]; exact List.length_pos_iff.2 hne
  rw [List.length_map] at hb
  have w : IntKind.i64.wrap ((ps.length : Int) - 1) = ((ps.length - 1 : Nat) : Int) := by rw [wrapI (by omega)]; omega
  refine SCall.of_good fun hH => ?_
  have hHk := HLt.add hH
  refine SCall.of_code Tok Try.func174 rfl Try.call174 (n := 28) rfl (by simp) (rs := [.tmp 4]) rfl ?_
  refine EWn.to ?_
  refine EWn.of_c Tok mixed (own := false) keep174 tab174 (by kernel_rfl) ?_
  (repeat (first | simp -dsimp only [zrBuild31, g1, g2, w, RB, TB, keep174, tab174, xindexAddr, xindex, xslice, xconvert, xlen, ewOp, FreeW, StabW, SameW, ChangeW, AddW, BaseW, limBytes, simprocAttr, ne_eq] | ((with_reducible refine Need.intro ?_ ?_); (first | trivial | exact ⟨_, rfl⟩ | exact ⟨[], (List.append_nil _).symm⟩ | omega | (simp; done) | (simp; omega) | exact ⟨by first | trivial | (simp; done), _, by first | rfl | (simp; rfl)⟩))))
  refine EWn.loopE (ι := (Nat)) (fun (i : (Nat)) => i < ps.length ∧ posF (ps.map fun p => p.1) nm = posF ((ps.map fun p => p.1).drop (ps.length - 1 - i)) nm) (fun (i : (Nat)) => i) (fun (i : (Nat)) => [(5, .int .i64 i)]) (fun (i : (Nat)) => H) (ps.length - 1) ?_ ?_ ?_ ?_ ?_
  · first | rfl | simp [upd, eset]
  · first | rfl | (simp; done) | exact (set_same (by assumption)).symm
  · rintro i hok; exact ⟨by first | (simp; done) | (simp; omega), by (simp (maxDischargeDepth := 6) [LTB, HLt_set, ltL_take, ltL_drop, ltL_rep, ltL_set, upd, eset, hH, hHk, zlBuild31] <;> omega), by (simp (maxDischargeDepth := 6) [LTB, HLt_set, ltL_take, ltL_drop, ltL_rep, ltL_set, upd, eset, hH, hHk, zlBuild31] <;> omega)⟩
  · exact ⟨by omega, by rw [Nat.sub_self, List.drop_zero]⟩
  rintro i ⟨hi, hp⟩
  refine EWn.of_c Tok mixed (own := false) keep174 tab174 (by kernel_rfl) ?_
  (repeat (first | simp -dsimp only [zrBuild31, RB, TB, keep174, tab174, xindexAddr, xindex, xslice, xconvert, xlen, ewOp, FreeW, StabW, SameW, ChangeW, AddW, BaseW, limBytes, simprocAttr, ne_eq] | ((with_reducible refine Need.intro ?_ ?_); (first | trivial | exact ⟨_, rfl⟩ | exact ⟨[], (List.append_nil _).symm⟩ | omega | (simp; done) | (simp; omega) | exact ⟨by first | trivial | (simp; done), _, by first | rfl | (simp; rfl)⟩))))
  refine IfW.intro (fun h => ?_) (fun h => ?_)
  · have h0 : 0 < i := by have := of_decide_eq_true h; omega
    have hir : i < ps.reverse.length := by simpa using hi
    have hpd := pos_drop (st := ps.map fun p => p.1) (nm := nm) (i := i) (by simpa using hi) h0
    simp only [List.length_map, List.getElem_map] at hpd
    have hrev : ps.reverse[i]'hir = ps[ps.length - 1 - i]'(by omega) := List.getElem_reverse hir
    (repeat (first | simp -dsimp only [zrBuild31, h, g1, g2, at_map opV ps.reverse i hir, opV, hrev, RB, TB, keep174, tab174, xindexAddr, xindex, xslice, xconvert, xlen, ewOp, FreeW, StabW, SameW, ChangeW, AddW, BaseW, limBytes, simprocAttr, ne_eq] | ((with_reducible refine Need.intro ?_ ?_); (first | trivial | exact ⟨_, rfl⟩ | exact ⟨[], (List.append_nil _).symm⟩ | omega | (simp; done) | (simp; omega) | exact ⟨by first | trivial | (simp; done), _, by first | rfl | (simp; rfl)⟩))))
    refine IfW.intro (fun h2 => ?_) (fun h2 => ?_)
    · have h3 : ps[ps.length - 1 - i].1.tag.text = nm := by simpa using h2
      rw [if_pos h3] at hpd
      (repeat (first | simp -dsimp only [zrBuild31, h2, RB, TB, keep174, tab174, xindexAddr, xindex, xslice, xconvert, xlen, ewOp, FreeW, StabW, SameW, ChangeW, AddW, BaseW, limBytes, simprocAttr, ne_eq] | ((with_reducible refine Need.intro ?_ ?_); (first | trivial | exact ⟨_, rfl⟩ | exact ⟨[], (List.append_nil _).symm⟩ | omega | (simp; done) | (simp; omega) | exact ⟨by first | trivial | (simp; done), _, by first | rfl | (simp; rfl)⟩))))
      refine RetW.auto0 false _ (by first | rfl | exact (List.append_nil _).symm) ?_ ?_
      · (simp (maxDischargeDepth := 6) [LTB, HLt_set, ltL_take, ltL_drop, ltL_rep, ltL_set, upd, eset, hH, hHk, zlBuild31] <;> omega)
      (try simp only [wk, wk1, wk0, RB, limBytes, simprocAttr, ne_eq])
      (try (rw [List.take_of_length_le]; rotate_left 1; (· first | (simp; done) | (simp; omega) | omega)))
      unfold findI
      rw [hp, hpd, if_neg (by omega)]
    · have h3 : ¬ ps[ps.length - 1 - i].1.tag.text = nm := by simpa using h2
      rw [if_neg h3] at hpd
      (repeat (first | simp -dsimp only [zrBuild31, h2, RB, TB, keep174, tab174, xindexAddr, xindex, xslice, xconvert, xlen, ewOp, FreeW, StabW, SameW, ChangeW, AddW, BaseW, limBytes, simprocAttr, ne_eq] | ((with_reducible refine Need.intro ?_ ?_); (first | trivial | exact ⟨_, rfl⟩ | exact ⟨[], (List.append_nil _).symm⟩ | omega | (simp; done) | (simp; omega) | exact ⟨by first | trivial | (simp; done), _, by first | rfl | (simp; rfl)⟩))))
      rw [wrapI (by omega), show (i : Int) - 1 = ((i - 1 : Nat) : Int) from by omega]
      refine UpTo.here ⟨i - 1, ⟨by omega, hp.trans hpd⟩, (by show i - 1 < i; omega), by simp [upd, eset], ⟨[], by simp⟩⟩
  · have h0 : i = 0 := by have := of_decide_eq_false h; omega
    subst h0
    (repeat (first | simp -dsimp only [zrBuild31, h, RB, TB, keep174, tab174, xindexAddr, xindex, xslice, xconvert, xlen, ewOp, FreeW, StabW, SameW, ChangeW, AddW, BaseW, limBytes, simprocAttr, ne_eq] | ((with_reducible refine Need.intro ?_ ?_); (first | trivial | exact ⟨_, rfl⟩ | exact ⟨[], (List.append_nil _).symm⟩ | omega | (simp; done) | (simp; omega) | exact ⟨by first | trivial | (simp; done), _, by first | rfl | (simp; rfl)⟩))))
    refine RetW.auto0 false _ (by first | rfl | exact (List.append_nil _).symm) ?_ ?_
    · (simp (maxDischargeDepth := 6) [LTB, HLt_set, ltL_take, ltL_drop, ltL_rep, ltL_set, upd, eset, hH, hHk, zlBuild31] <;> omega)
    (try simp only [wk, wk1, wk0, RB, limBytes, simprocAttr, ne_eq])
    (try (rw [List.take_of_length_le]; rotate_left 1; (· first | (simp; done) | (simp; omega) | omega)))
    unfold findI
    have := pos_root (st := ps.map fun p => p.1) (nm := nm) hne
    rw [List.length_map] at this
    rw [hp, this, if_pos rfl]
def tokV (t : Toke) : V := .agg [.int .i64 t.kind, .str t.name.text, .slice (t.name.runs.map runV), .slice (t.attrs.map attrV), .bool t.close, .str t.text.text, .slice (t.text.runs.map runV)]
theorem lt_tok (n : Nat) (l : List (Toke)) : ltL n (l.map tokV) := ltL_map (f := tokV) (fun _ => by simp [tokV, V.lt, ltL, lt_run, lt_attr]) l
theorem lt1_tok (n : Nat) (x : Toke) : V.lt n (tokV x) := by simp [tokV, V.lt, ltL, lt_run, lt_attr]
theorem ltc_tok {α : Type} (n : Nat) (g : α → Toke) (l : List α) : ltL n (l.map (tokV ∘ g)) := ltL_map (f := tokV ∘ g) (fun x => lt1_tok n (g x)) l
theorem st_tok (l : List (Toke)) : (∀ x, x ∈ l.map tokV → x.storable) = True := eq_true (storable_map (f := tokV) (fun _ => trivial) l)
theorem sz_tok (l : List (Toke)) : Sized 7 (l.map tokV) = True := eq_true (sizedMapV (f := tokV) (fun _ => rfl) l)
theorem st1_tok (x : Toke) : (tokV x).storable = True := eq_true trivial
theorem cl_tok (x : Toke) : (tokV x).cells.length = 7 := rfl

theorem popN_succ : ∀ (j : Nat) (st : List Fr), popF (popN j st) = popN (j + 1) st
  | 0, st => rfl
  | j + 1, st => popN_succ j (popF st)
/-- an add at the end of a walk -/
theorem add_end {H L : List Ob} {s : Nat} {f : Fr} {st : List Fr} {own : List Nat} {t : Tree} {args : List V} {R : V → List Ob → Prop} (h : Stk H s (f :: st) own) (hb : szSt (f :: st) ≤ 100000000) (ha : All2 WkA args [.ref s 0, treeV t])
    (hR : ∀ G, H.length ≤ G.length → HLt G.length G → After H s own (addF (f :: st) t) G → R (.tuple []) G) : SCall Try.prog 152 args (H ++ L) R := by
  refine SCall.mono (SCall.arg ha (bAdd (H ++ L) s f st own t (h.app _) hb)) ?_
  rintro _ G ⟨rfl, hA⟩
  have hl : (H ++ L).length ≤ G.length := hA.2.choose_spec.2.1
  exact hR G (by simp at hl; omega) hA.1 (After.trans (Kept.app H L own) hA)
/-- one more is open; its kids are told as a list that is empty -/
def pushRaw (H : List Ob) (s : Nat) (own : List Nat) (st : List Fr) (t : Toke) (H' : List Ob) : Prop :=
  putF st t = ⟨t.name, t.attrs, []⟩ :: st ∧ ∃ o ver ps L, own = ownOf s o ps ∧ ps.map (fun p => p.1) = st ∧ StkAt H s o ver ps ∧
    H' = (H.set o (.vec (ver + 1) 6 (ps.reverse.map opV ++ [.agg [.str t.name.text, .slice (t.name.runs.map runV), .slice (t.attrs.map attrV), .fslice [], .str [], .fslice []]]))).set s (.var [.vec o (ver + 1) 0 (ps.length + 1)]) ++ L
set_option maxHeartbeats 2000000 in
theorem bPut0 (H : List Ob) (s : Nat) (st : List Fr) (own : List Nat) (t : Toke) (h : Stk H s st own) (hne : st ≠ []) (hb : szSt st + szK t ≤ 100000000) :
    SCall Try.prog 151 [.ref s 0, tokV t] H (fun r H' => r = .tuple [] ∧ (After H s own (putF st t) H' ∨ pushRaw H s own st t H')) := by
  have ls : s < H.length := by obtain ⟨o, ver, ps, rfl, rfl, g1, -⟩ := h; exact (List.getElem?_eq_some_iff.1 g1).1
  have hlen := len_st (st := st)
  obtain ⟨f, st, rfl⟩ := List.exists_cons_of_ne_nil hne
  refine SCall.of_good fun hH => ?_
  have hHk := HLt.add hH
  refine SCall.of_code Tok Try.func151 rfl Try.call151 (n := 70) rfl (by simp) (rs := []) rfl ?_
  refine EWn.to ?_
  refine EWn.of_c Tok mixed (own := false) keep151 tab151 (by kernel_rfl) ?_
  (repeat (first | simp -dsimp only [zrBuild31, st_tok, sz_tok, st1_tok, cl_tok, tokV, RB, TB, keep151, tab151, xindexAddr, xindex, xslice, xconvert, xlen, ewOp, FreeW, StabW, SameW, ChangeW, AddW, BaseW, limBytes, simprocAttr, ne_eq] | ((with_reducible refine Need.intro ?_ ?_); (first | trivial | exact ⟨_, rfl⟩ | exact ⟨[], (List.append_nil _).symm⟩ | omega | (simp; done) | (simp; omega) | exact ⟨by first | trivial | (simp; done), _, by first | rfl | (simp; rfl)⟩))))
  refine IfW.intro (fun h1 => ?_) (fun h1 => ?_)
  · have hk : t.kind = 1 := by simpa using h1
    (repeat (first | simp -dsimp only [zrBuild31, st_tok, sz_tok, st1_tok, cl_tok, h1, RB, TB, keep151, tab151, xindexAddr, xindex, xslice, xconvert, xlen, ewOp, FreeW, StabW, SameW, ChangeW, AddW, BaseW, limBytes, simprocAttr, ne_eq] | ((with_reducible refine Need.intro ?_ ?_); (first | trivial | exact ⟨_, rfl⟩ | exact ⟨[], (List.append_nil _).symm⟩ | omega | (simp; done) | (simp; omega) | exact ⟨by first | trivial | (simp; done), _, by first | rfl | (simp; rfl)⟩))))
    refine IfW.intro (fun h2 => ?_) (fun h2 => ?_)
    · have hs : t.starts = false := by simp at h2; simp [Toke.starts, hk, h2]
      have hp : putF (f :: st) t = f :: st := by unfold putF; rw [if_neg (by simp [hs]), if_neg (by omega), if_neg (by omega)]
      (repeat (first | simp -dsimp only [zrBuild31, st_tok, sz_tok, st1_tok, cl_tok, h2, hk, RB, TB, keep151, tab151, xindexAddr, xindex, xslice, xconvert, xlen, ewOp, FreeW, StabW, SameW, ChangeW, AddW, BaseW, limBytes, simprocAttr, ne_eq] | ((with_reducible refine Need.intro ?_ ?_); (first | trivial | exact ⟨_, rfl⟩ | exact ⟨[], (List.append_nil _).symm⟩ | omega | (simp; done) | (simp; omega) | exact ⟨by first | trivial | (simp; done), _, by first | rfl | (simp; rfl)⟩))))
      refine RetW.keep false (by simp) ?_ (by simp [okW, okW1, okW0, V.lt]) ?_
      · (simp (maxDischargeDepth := 6) [LTB, HLt_set, ltL_take, ltL_drop, ltL_rep, ltL_set, upd, eset, hH, hHk, zlBuild31, lt_tok, lt1_tok, ltc_tok] <;> omega)
      · simp only [wk, wk1, wk0, hp]
        exact ⟨by simp, .inl ⟨(by (simp (maxDischargeDepth := 6) [LTB, HLt_set, ltL_take, ltL_drop, ltL_rep, ltL_set, upd, eset, hH, hHk, zlBuild31, lt_tok, lt1_tok, ltc_tok] <;> omega)), own, h.app _, Kept.app _ _ _⟩⟩
    · have hs : t.starts = true := by simp at h2; simp [Toke.starts, hk, h2]
      (repeat (first | simp -dsimp only [zrBuild31, st_tok, sz_tok, st1_tok, cl_tok, h2, RB, TB, keep151, tab151, xindexAddr, xindex, xslice, xconvert, xlen, ewOp, FreeW, StabW, SameW, ChangeW, AddW, BaseW, limBytes, simprocAttr, ne_eq] | ((with_reducible refine Need.intro ?_ ?_); (first | trivial | exact ⟨_, rfl⟩ | exact ⟨[], (List.append_nil _).symm⟩ | omega | (simp; done) | (simp; omega) | exact ⟨by first | trivial | (simp; done), _, by first | rfl | (simp; rfl)⟩))))
      (first | refine SCall.then (bVoid _ t.name.text) ?_ | refine SCall.thenA (bVoid _ t.name.text) (by repeat (first | exact trivial | exact .inl (.inl rfl) | exact .inl (.inr ⟨_, rfl, rfl⟩) | exact .inl rfl | exact .inr ⟨_, rfl, rfl⟩ | refine .inr ⟨_, _, rfl, rfl, ?_⟩ | refine ⟨?_, ?_⟩)) ?_ | refine CallE.intro _ (bVoid _ t.name.text) ?_ | refine CallE.introA (bVoid _ t.name.text) (by repeat (first | exact trivial | exact .inl (.inl rfl) | exact .inl (.inr ⟨_, rfl, rfl⟩) | exact .inl rfl | exact .inr ⟨_, rfl, rfl⟩ | refine .inr ⟨_, _, rfl, rfl, ?_⟩ | refine ⟨?_, ?_⟩)) ?_ | refine CallE.intro _ (fun _ => bVoid _ t.name.text) ?_ | refine CallE.intro _ (fun _ => SCall.arg (by repeat (first | exact trivial | exact .inl (.inl rfl) | exact .inl (.inr ⟨_, rfl, rfl⟩) | exact .inl rfl | exact .inr ⟨_, rfl, rfl⟩ | refine .inr ⟨_, _, rfl, rfl, ?_⟩ | refine ⟨?_, ?_⟩)) (bVoid _ t.name.text)) ?_ | refine CallE2.intro _ _ (bVoid _ t.name.text) ?_ | refine CallE2.intro _ _ (SCall.arg (by repeat (first | exact trivial | exact .inl (.inl rfl) | exact .inl (.inr ⟨_, rfl, rfl⟩) | exact .inl rfl | exact .inr ⟨_, rfl, rfl⟩ | refine .inr ⟨_, _, rfl, rfl, ?_⟩ | refine ⟨?_, ?_⟩)) (bVoid _ t.name.text)) ?_)
      (repeat (first | simp -dsimp only [zrBuild31, st_tok, sz_tok, st1_tok, cl_tok, RB, TB, keep151, tab151, xindexAddr, xindex, xslice, xconvert, xlen, ewOp, FreeW, StabW, SameW, ChangeW, AddW, BaseW, limBytes, simprocAttr, ne_eq] | ((with_reducible refine Need.intro ?_ ?_); (first | trivial | exact ⟨_, rfl⟩ | exact ⟨[], (List.append_nil _).symm⟩ | omega | (simp; done) | (simp; omega) | exact ⟨by first | trivial | (simp; done), _, by first | rfl | (simp; rfl)⟩))))
      refine IfW.intro (fun h3 => ?_) (fun h3 => ?_)
      · have hp : putF (f :: st) t = addF (f :: st) (.mk t.name t.attrs [] zeroS) := by unfold putF; rw [if_pos hs, if_pos h3]
        (repeat (first | simp -dsimp only [zrBuild31, st_tok, sz_tok, st1_tok, cl_tok, h3, RB, TB, keep151, tab151, xindexAddr, xindex, xslice, xconvert, xlen, ewOp, FreeW, StabW, SameW, ChangeW, AddW, BaseW, limBytes, simprocAttr, ne_eq] | ((with_reducible refine Need.intro ?_ ?_); (first | trivial | exact ⟨_, rfl⟩ | exact ⟨[], (List.append_nil _).symm⟩ | omega | (simp; done) | (simp; omega) | exact ⟨by first | trivial | (simp; done), _, by first | rfl | (simp; rfl)⟩))))
        refine add_end (t := .mk t.name t.attrs [] zeroS) h (by omega) (by rw [treeV_mk]; exact ⟨.inl (.inl rfl), .inr ⟨_, _, rfl, rfl, .inl rfl, .inl rfl, .inl rfl, .inr ⟨_, rfl, rfl⟩, .inl rfl, .inr ⟨_, rfl, rfl⟩, trivial⟩, trivial⟩) fun G hl hG hA => ?_
        (repeat (first | simp -dsimp only [zrBuild31, st_tok, sz_tok, st1_tok, cl_tok, RB, TB, keep151, tab151, xindexAddr, xindex, xslice, xconvert, xlen, ewOp, FreeW, StabW, SameW, ChangeW, AddW, BaseW, limBytes, simprocAttr, ne_eq] | ((with_reducible refine Need.intro ?_ ?_); (first | trivial | exact ⟨_, rfl⟩ | exact ⟨[], (List.append_nil _).symm⟩ | omega | (simp; done) | (simp; omega) | exact ⟨by first | trivial | (simp; done), _, by first | rfl | (simp; rfl)⟩))))
        refine RetW.keep false hl hG (by simp [okW, okW1, okW0, V.lt]) ?_
        simp only [wk, wk1, wk0, hp]
        exact ⟨by simp, .inl hA⟩
      · (repeat (first | simp -dsimp only [zrBuild31, st_tok, sz_tok, st1_tok, cl_tok, h3, RB, TB, keep151, tab151, xindexAddr, xindex, xslice, xconvert, xlen, ewOp, FreeW, StabW, SameW, ChangeW, AddW, BaseW, limBytes, simprocAttr, ne_eq] | ((with_reducible refine Need.intro ?_ ?_); (first | trivial | exact ⟨_, rfl⟩ | exact ⟨[], (List.append_nil _).symm⟩ | omega | (simp; done) | (simp; omega) | exact ⟨by first | trivial | (simp; done), _, by first | rfl | (simp; rfl)⟩))))
        obtain ⟨o, ver, ps, rfl, hm, hS⟩ := h
        obtain ⟨g1, g2, g3, g4⟩ := id hS
        have lo := (List.getElem?_eq_some_iff.1 g2).1
        have hso : s ≠ o := by unfold ownOf at g4; simp only [List.nodup_cons, List.mem_cons, not_or] at g4; exact g4.1.1
        generalize hcs : ps.reverse.map opV = cs at g2
        have hcl : cs.length = ps.length := by rw [← hcs]; simp
        have hpl : ps.length ≤ 100000000 := by have := congrArg List.length hm; simp at this hlen; omega
        rw [← hcl] at g1
        have hS0 : ∀ L, (H ++ L)[s]? = some (.var [.vec o ver 0 cs.length]) := fun L => get_app g1
        have hO0 : ∀ L, (H ++ L)[o]? = some (.vec ver 6 cs) := fun L => get_app g2
        have hsO : ∀ (L : List Ob) (x : Ob), (H ++ L).set o x = H.set o x ++ L := fun L x => List.set_append_left _ _ lo
        have hsS : ∀ (L : List Ob) (x : Ob), (H ++ L).set s x = H.set s x ++ L := fun L x => List.set_append_left _ _ ls
        have hS1 : ∀ (L : List Ob) (x : Ob), (H.set o x ++ L)[s]? = some (.var [.vec o ver 0 cs.length]) := fun L x => by rw [List.getElem?_append_left (by simpa using ls), List.getElem?_set_ne (Ne.symm hso)]; exact g1
        have hO1 : ∀ (L : List Ob) (x : Ob), (H.set o x ++ L)[o]? = some x := fun L x => by rw [List.getElem?_append_left (by simpa using lo), List.getElem?_set_self lo]
        have hO2 : ∀ (L : List Ob) (x y : Ob), ((H.set o x).set s y ++ L)[o]? = some x := fun L x y => by rw [List.getElem?_append_left (by simpa using lo), List.getElem?_set_ne hso, List.getElem?_set_self lo]
        have hsO1 : ∀ (L : List Ob) (x y : Ob), (H.set o x ++ L).set o y = H.set o y ++ L := fun L x y => by rw [List.set_append_left _ _ (by simpa using lo), List.set_set]
        have hsS1 : ∀ (L : List Ob) (x y : Ob), (H.set o x ++ L).set s y = (H.set o x).set s y ++ L := fun L x y => List.set_append_left _ _ (by simpa using ls)
        have hsO2 : ∀ (L : List Ob) (x y z : Ob), ((H.set o x).set s y ++ L).set o z = (H.set o z).set s y ++ L := fun L x y z => by rw [List.set_append_left _ _ (by simpa using lo), List.set_comm _ _ hso, List.set_set, List.set_comm _ _ (Ne.symm hso)]
        refine ⟨fun i => match i with
          | 0 => .ref s 0
          | 1 => .ref s 0
          | 2 => .ref s 0
          | 3 => .vec o ver 0 cs.length
          | 4 => .agg [.str t.name.text, .slice (t.name.runs.map runV), .slice (t.attrs.map attrV), .fslice [], .str [], .fslice []]
          | 5 => .int .i64 cs.length
          | 6 => .fslice [.agg [.str [], .fslice [], .fslice [], .fslice [], .str [], .fslice []]]
          | 7 => .vec o (ver + 1) 0 (cs.length + 1)
          | 8 => .eref o (ver + 1) cs.length 0
          | 10 => .ref s 0
          | 11 => .ref s 0
          | _ => .dead, fun fl => if fl 7 = true then (if fl 12 = true then (H.set o (.vec (ver + 1) 6 (cs ++ [if fl 9 = true then .agg [.str t.name.text, .slice (t.name.runs.map runV), .slice (t.attrs.map attrV), .fslice [], .str [], .fslice []] else .agg [.str [], .fslice [], .fslice [], .fslice [], .str [], .fslice []]]))).set s (.var [.vec o (ver + 1) 0 (cs.length + 1)]) ++ [Ob.var [.int .i64 t.kind, .str t.name.text, .slice (t.name.runs.map runV), .slice (t.attrs.map attrV), .bool t.close, .str t.text.text, .slice (t.text.runs.map runV)], Ob.var [.str t.name.text, .slice (t.name.runs.map runV), .slice (t.attrs.map attrV), .fslice [], .str [], .fslice []]]
            else H.set o (.vec (ver + 1) 6 (cs ++ [if fl 9 = true then .agg [.str t.name.text, .slice (t.name.runs.map runV), .slice (t.attrs.map attrV), .fslice [], .str [], .fslice []] else .agg [.str [], .fslice [], .fslice [], .fslice [], .str [], .fslice []]])) ++ [Ob.var [.int .i64 t.kind, .str t.name.text, .slice (t.name.runs.map runV), .slice (t.attrs.map attrV), .bool t.close, .str t.text.text, .slice (t.text.runs.map runV)], Ob.var [.str t.name.text, .slice (t.name.runs.map runV), .slice (t.attrs.map attrV), .fslice [], .str [], .fslice []]])
          else H ++ [Ob.var [.int .i64 t.kind, .str t.name.text, .slice (t.name.runs.map runV), .slice (t.attrs.map attrV), .bool t.close, .str t.text.text, .slice (t.text.runs.map runV)], Ob.var [.str t.name.text, .slice (t.name.runs.map runV), .slice (t.attrs.map attrV), .fslice [], .str [], .fslice []]], ?_, ?_, ?_, ?_⟩
        · simp
        · intro fl fl' hfl
          simp only [hfl 7 (by simp), hfl 9 (by simp), hfl 12 (by simp)]
        · intro i o hi fl hcl hil hed
          have q7 := hcl 7 _ rfl
          have q9 := hcl 9 _ rfl
          have q12 := hcl 12 _ rfl
          have q11 := hcl 11 _ rfl
          simp [Region.binds] at q7 q9 q12 q11
          match i, hi, hil, hed with
          | 0, hi, hil, hed =>
            simp only [List.getElem?_cons_zero, List.getElem?_cons_succ, Option.some.injEq] at hi
            subst hi
            have f7 : fl 7 = false := Bool.eq_false_iff.2 fun h => by have := q7 h; simp [hil] at this
            (repeat (first | simp -dsimp only [zrBuild31, st_tok, sz_tok, st1_tok, cl_tok, envAt, List.take_succ_cons, List.take_zero, hil, f7, Bool.false_eq_true, if_false, if_true, hS0, hO0, hS1, hO1, hO2, hsO, hsS, hsO1, hsS1, hsO2, at_snoc, set_snoc, len_snoc, RB, TB, keep151, tab151, xindexAddr, xindex, xslice, xconvert, xlen, ewOp, FreeW, StabW, SameW, ChangeW, AddW, BaseW, limBytes, simprocAttr, ne_eq] | ((with_reducible refine Need.intro ?_ ?_); (first | trivial | exact ⟨_, rfl⟩ | exact ⟨[], (List.append_nil _).symm⟩ | omega | (simp; done) | (simp; omega) | exact ⟨by first | trivial | (simp; done), _, by first | rfl | (simp; rfl)⟩))))
          | 1, hi, hil, hed =>
            simp only [List.getElem?_cons_zero, List.getElem?_cons_succ, Option.some.injEq] at hi
            subst hi
            have f7 : fl 7 = false := Bool.eq_false_iff.2 fun h => by have := q7 h; simp [hil] at this
            (repeat (first | simp -dsimp only [zrBuild31, st_tok, sz_tok, st1_tok, cl_tok, envAt, List.take_succ_cons, List.take_zero, hil, f7, Bool.false_eq_true, if_false, if_true, hS0, hO0, hS1, hO1, hO2, hsO, hsS, hsO1, hsS1, hsO2, at_snoc, set_snoc, len_snoc, RB, TB, keep151, tab151, xindexAddr, xindex, xslice, xconvert, xlen, ewOp, FreeW, StabW, SameW, ChangeW, AddW, BaseW, limBytes, simprocAttr, ne_eq] | ((with_reducible refine Need.intro ?_ ?_); (first | trivial | exact ⟨_, rfl⟩ | exact ⟨[], (List.append_nil _).symm⟩ | omega | (simp; done) | (simp; omega) | exact ⟨by first | trivial | (simp; done), _, by first | rfl | (simp; rfl)⟩))))
          | 2, hi, hil, hed =>
            simp only [List.getElem?_cons_zero, List.getElem?_cons_succ, Option.some.injEq] at hi
            subst hi
            have f7 : fl 7 = false := Bool.eq_false_iff.2 fun h => by have := q7 h; simp [hil] at this
            (repeat (first | simp -dsimp only [zrBuild31, st_tok, sz_tok, st1_tok, cl_tok, envAt, List.take_succ_cons, List.take_zero, hil, f7, Bool.false_eq_true, if_false, if_true, hS0, hO0, hS1, hO1, hO2, hsO, hsS, hsO1, hsS1, hsO2, at_snoc, set_snoc, len_snoc, RB, TB, keep151, tab151, xindexAddr, xindex, xslice, xconvert, xlen, ewOp, FreeW, StabW, SameW, ChangeW, AddW, BaseW, limBytes, simprocAttr, ne_eq] | ((with_reducible refine Need.intro ?_ ?_); (first | trivial | exact ⟨_, rfl⟩ | exact ⟨[], (List.append_nil _).symm⟩ | omega | (simp; done) | (simp; omega) | exact ⟨by first | trivial | (simp; done), _, by first | rfl | (simp; rfl)⟩))))
          | 3, hi, hil, hed =>
            simp only [List.getElem?_cons_zero, List.getElem?_cons_succ, Option.some.injEq] at hi
            subst hi
            have f7 : fl 7 = false := Bool.eq_false_iff.2 fun h => by have := q7 h; simp [hil] at this
            (repeat (first | simp -dsimp only [zrBuild31, st_tok, sz_tok, st1_tok, cl_tok, envAt, List.take_succ_cons, List.take_zero, hil, f7, Bool.false_eq_true, if_false, if_true, hS0, hO0, hS1, hO1, hO2, hsO, hsS, hsO1, hsS1, hsO2, at_snoc, set_snoc, len_snoc, RB, TB, keep151, tab151, xindexAddr, xindex, xslice, xconvert, xlen, ewOp, FreeW, StabW, SameW, ChangeW, AddW, BaseW, limBytes, simprocAttr, ne_eq] | ((with_reducible refine Need.intro ?_ ?_); (first | trivial | exact ⟨_, rfl⟩ | exact ⟨[], (List.append_nil _).symm⟩ | omega | (simp; done) | (simp; omega) | exact ⟨by first | trivial | (simp; done), _, by first | rfl | (simp; rfl)⟩))))
          | 4, hi, hil, hed =>
            simp only [List.getElem?_cons_zero, List.getElem?_cons_succ, Option.some.injEq] at hi
            subst hi
            have f7 : fl 7 = false := Bool.eq_false_iff.2 fun h => by have := q7 h; simp [hil] at this
            (repeat (first | simp -dsimp only [zrBuild31, st_tok, sz_tok, st1_tok, cl_tok, envAt, List.take_succ_cons, List.take_zero, hil, f7, Bool.false_eq_true, if_false, if_true, hS0, hO0, hS1, hO1, hO2, hsO, hsS, hsO1, hsS1, hsO2, at_snoc, set_snoc, len_snoc, RB, TB, keep151, tab151, xindexAddr, xindex, xslice, xconvert, xlen, ewOp, FreeW, StabW, SameW, ChangeW, AddW, BaseW, limBytes, simprocAttr, ne_eq] | ((with_reducible refine Need.intro ?_ ?_); (first | trivial | exact ⟨_, rfl⟩ | exact ⟨[], (List.append_nil _).symm⟩ | omega | (simp; done) | (simp; omega) | exact ⟨by first | trivial | (simp; done), _, by first | rfl | (simp; rfl)⟩))))
          | 5, hi, hil, hed =>
            simp only [List.getElem?_cons_zero, List.getElem?_cons_succ, Option.some.injEq] at hi
            subst hi
            have f7 : fl 7 = false := Bool.eq_false_iff.2 fun h => by have := q7 h; simp [hil] at this
            (repeat (first | simp -dsimp only [zrBuild31, st_tok, sz_tok, st1_tok, cl_tok, envAt, List.take_succ_cons, List.take_zero, hil, f7, Bool.false_eq_true, if_false, if_true, hS0, hO0, hS1, hO1, hO2, hsO, hsS, hsO1, hsS1, hsO2, at_snoc, set_snoc, len_snoc, RB, TB, keep151, tab151, xindexAddr, xindex, xslice, xconvert, xlen, ewOp, FreeW, StabW, SameW, ChangeW, AddW, BaseW, limBytes, simprocAttr, ne_eq] | ((with_reducible refine Need.intro ?_ ?_); (first | trivial | exact ⟨_, rfl⟩ | exact ⟨[], (List.append_nil _).symm⟩ | omega | (simp; done) | (simp; omega) | exact ⟨by first | trivial | (simp; done), _, by first | rfl | (simp; rfl)⟩))))
          | 6, hi, hil, hed =>
            simp only [List.getElem?_cons_zero, List.getElem?_cons_succ, Option.some.injEq] at hi
            subst hi
            have f7 : fl 7 = false := Bool.eq_false_iff.2 fun h => by have := q7 h; simp [hil] at this
            (repeat (first | simp -dsimp only [zrBuild31, st_tok, sz_tok, st1_tok, cl_tok, envAt, List.take_succ_cons, List.take_zero, hil, f7, Bool.false_eq_true, if_false, if_true, hS0, hO0, hS1, hO1, hO2, hsO, hsS, hsO1, hsS1, hsO2, at_snoc, set_snoc, len_snoc, RB, TB, keep151, tab151, xindexAddr, xindex, xslice, xconvert, xlen, ewOp, FreeW, StabW, SameW, ChangeW, AddW, BaseW, limBytes, simprocAttr, ne_eq] | ((with_reducible refine Need.intro ?_ ?_); (first | trivial | exact ⟨_, rfl⟩ | exact ⟨[], (List.append_nil _).symm⟩ | omega | (simp; done) | (simp; omega) | exact ⟨by first | trivial | (simp; done), _, by first | rfl | (simp; rfl)⟩))))
          | 7, hi, hil, hed =>
            simp only [List.getElem?_cons_zero, List.getElem?_cons_succ, Option.some.injEq] at hi
            subst hi
            have f9 : fl 9 = false := Bool.eq_false_iff.2 fun h => by have := q9 h; simp [hil] at this
            have f12 : fl 12 = false := Bool.eq_false_iff.2 fun h => by have := q12 h; simp [hil] at this
            (repeat (first | simp -dsimp only [zrBuild31, st_tok, sz_tok, st1_tok, cl_tok, envAt, List.take_succ_cons, List.take_zero, hil, f9, f12, Bool.false_eq_true, if_false, if_true, hS0, hO0, hS1, hO1, hO2, hsO, hsS, hsO1, hsS1, hsO2, at_snoc, set_snoc, len_snoc, RB, TB, keep151, tab151, xindexAddr, xindex, xslice, xconvert, xlen, ewOp, FreeW, StabW, SameW, ChangeW, AddW, BaseW, limBytes, simprocAttr, ne_eq] | ((with_reducible refine Need.intro ?_ ?_); (first | trivial | exact ⟨_, rfl⟩ | exact ⟨[], (List.append_nil _).symm⟩ | omega | (simp; done) | (simp; omega) | exact ⟨by first | trivial | (simp; done), _, by first | rfl | (simp; rfl)⟩))))
          | 8, hi, hil, hed =>
            simp only [List.getElem?_cons_zero, List.getElem?_cons_succ, Option.some.injEq] at hi
            subst hi
            have p7 : fl 7 = true := hed ⟨7, .data⟩ (by simp) rfl
            have f9 : fl 9 = false := Bool.eq_false_iff.2 fun h => by have := q9 h; simp [hil] at this
            cases h12 : fl 12
            · (repeat (first | simp -dsimp only [zrBuild31, st_tok, sz_tok, st1_tok, cl_tok, envAt, List.take_succ_cons, List.take_zero, hil, p7, f9, h12, Bool.false_eq_true, if_false, if_true, hS0, hO0, hS1, hO1, hO2, hsO, hsS, hsO1, hsS1, hsO2, at_snoc, set_snoc, len_snoc, RB, TB, keep151, tab151, xindexAddr, xindex, xslice, xconvert, xlen, ewOp, FreeW, StabW, SameW, ChangeW, AddW, BaseW, limBytes, simprocAttr, ne_eq] | ((with_reducible refine Need.intro ?_ ?_); (first | trivial | exact ⟨_, rfl⟩ | exact ⟨[], (List.append_nil _).symm⟩ | omega | (simp; done) | (simp; omega) | exact ⟨by first | trivial | (simp; done), _, by first | rfl | (simp; rfl)⟩))))
            · (repeat (first | simp -dsimp only [zrBuild31, st_tok, sz_tok, st1_tok, cl_tok, envAt, List.take_succ_cons, List.take_zero, hil, p7, f9, h12, Bool.false_eq_true, if_false, if_true, hS0, hO0, hS1, hO1, hO2, hsO, hsS, hsO1, hsS1, hsO2, at_snoc, set_snoc, len_snoc, RB, TB, keep151, tab151, xindexAddr, xindex, xslice, xconvert, xlen, ewOp, FreeW, StabW, SameW, ChangeW, AddW, BaseW, limBytes, simprocAttr, ne_eq] | ((with_reducible refine Need.intro ?_ ?_); (first | trivial | exact ⟨_, rfl⟩ | exact ⟨[], (List.append_nil _).symm⟩ | omega | (simp; done) | (simp; omega) | exact ⟨by first | trivial | (simp; done), _, by first | rfl | (simp; rfl)⟩))))
          | 9, hi, hil, hed =>
            simp only [List.getElem?_cons_zero, List.getElem?_cons_succ, Option.some.injEq] at hi
            subst hi
            have p7 : fl 7 = true := hed ⟨7, .chain⟩ (by simp) rfl
            cases h12 : fl 12
            · (repeat (first | simp -dsimp only [zrBuild31, st_tok, sz_tok, st1_tok, cl_tok, envAt, List.take_succ_cons, List.take_zero, hil, p7, h12, Bool.false_eq_true, if_false, if_true, hS0, hO0, hS1, hO1, hO2, hsO, hsS, hsO1, hsS1, hsO2, at_snoc, set_snoc, len_snoc, RB, TB, keep151, tab151, xindexAddr, xindex, xslice, xconvert, xlen, ewOp, FreeW, StabW, SameW, ChangeW, AddW, BaseW, limBytes, simprocAttr, ne_eq] | ((with_reducible refine Need.intro ?_ ?_); (first | trivial | exact ⟨_, rfl⟩ | exact ⟨[], (List.append_nil _).symm⟩ | omega | (simp; done) | (simp; omega) | exact ⟨by first | trivial | (simp; done), _, by first | rfl | (simp; rfl)⟩))))
            · (repeat (first | simp -dsimp only [zrBuild31, st_tok, sz_tok, st1_tok, cl_tok, envAt, List.take_succ_cons, List.take_zero, hil, p7, h12, Bool.false_eq_true, if_false, if_true, hS0, hO0, hS1, hO1, hO2, hsO, hsS, hsO1, hsS1, hsO2, at_snoc, set_snoc, len_snoc, RB, TB, keep151, tab151, xindexAddr, xindex, xslice, xconvert, xlen, ewOp, FreeW, StabW, SameW, ChangeW, AddW, BaseW, limBytes, simprocAttr, ne_eq] | ((with_reducible refine Need.intro ?_ ?_); (first | trivial | exact ⟨_, rfl⟩ | exact ⟨[], (List.append_nil _).symm⟩ | omega | (simp; done) | (simp; omega) | exact ⟨by first | trivial | (simp; done), _, by first | rfl | (simp; rfl)⟩))))
          | 10, hi, hil, hed =>
            simp only [List.getElem?_cons_zero, List.getElem?_cons_succ, Option.some.injEq] at hi
            subst hi
            have p7 : fl 7 = true := hed ⟨7, .phase⟩ (by simp) rfl
            have f11 : fl 11 = false := Bool.eq_false_iff.2 fun h => by have := q11 h; simp [hil] at this
            have f12 : fl 12 = false := Bool.eq_false_iff.2 fun h => by have := q12 h; simp [f11] at this
            cases h9 : fl 9
            · (repeat (first | simp -dsimp only [zrBuild31, st_tok, sz_tok, st1_tok, cl_tok, envAt, List.take_succ_cons, List.take_zero, hil, p7, f12, h9, Bool.false_eq_true, if_false, if_true, hS0, hO0, hS1, hO1, hO2, hsO, hsS, hsO1, hsS1, hsO2, at_snoc, set_snoc, len_snoc, RB, TB, keep151, tab151, xindexAddr, xindex, xslice, xconvert, xlen, ewOp, FreeW, StabW, SameW, ChangeW, AddW, BaseW, limBytes, simprocAttr, ne_eq] | ((with_reducible refine Need.intro ?_ ?_); (first | trivial | exact ⟨_, rfl⟩ | exact ⟨[], (List.append_nil _).symm⟩ | omega | (simp; done) | (simp; omega) | exact ⟨by first | trivial | (simp; done), _, by first | rfl | (simp; rfl)⟩))))
            · (repeat (first | simp -dsimp only [zrBuild31, st_tok, sz_tok, st1_tok, cl_tok, envAt, List.take_succ_cons, List.take_zero, hil, p7, f12, h9, Bool.false_eq_true, if_false, if_true, hS0, hO0, hS1, hO1, hO2, hsO, hsS, hsO1, hsS1, hsO2, at_snoc, set_snoc, len_snoc, RB, TB, keep151, tab151, xindexAddr, xindex, xslice, xconvert, xlen, ewOp, FreeW, StabW, SameW, ChangeW, AddW, BaseW, limBytes, simprocAttr, ne_eq] | ((with_reducible refine Need.intro ?_ ?_); (first | trivial | exact ⟨_, rfl⟩ | exact ⟨[], (List.append_nil _).symm⟩ | omega | (simp; done) | (simp; omega) | exact ⟨by first | trivial | (simp; done), _, by first | rfl | (simp; rfl)⟩))))
          | 11, hi, hil, hed =>
            simp only [List.getElem?_cons_zero, List.getElem?_cons_succ, Option.some.injEq] at hi
            subst hi
            have p7 : fl 7 = true := hed ⟨7, .phase⟩ (by simp) rfl
            have f12 : fl 12 = false := Bool.eq_false_iff.2 fun h => by have := q12 h; simp [hil] at this
            cases h9 : fl 9
            · (repeat (first | simp -dsimp only [zrBuild31, st_tok, sz_tok, st1_tok, cl_tok, envAt, List.take_succ_cons, List.take_zero, hil, p7, f12, h9, Bool.false_eq_true, if_false, if_true, hS0, hO0, hS1, hO1, hO2, hsO, hsS, hsO1, hsS1, hsO2, at_snoc, set_snoc, len_snoc, RB, TB, keep151, tab151, xindexAddr, xindex, xslice, xconvert, xlen, ewOp, FreeW, StabW, SameW, ChangeW, AddW, BaseW, limBytes, simprocAttr, ne_eq] | ((with_reducible refine Need.intro ?_ ?_); (first | trivial | exact ⟨_, rfl⟩ | exact ⟨[], (List.append_nil _).symm⟩ | omega | (simp; done) | (simp; omega) | exact ⟨by first | trivial | (simp; done), _, by first | rfl | (simp; rfl)⟩))))
            · (repeat (first | simp -dsimp only [zrBuild31, st_tok, sz_tok, st1_tok, cl_tok, envAt, List.take_succ_cons, List.take_zero, hil, p7, f12, h9, Bool.false_eq_true, if_false, if_true, hS0, hO0, hS1, hO1, hO2, hsO, hsS, hsO1, hsS1, hsO2, at_snoc, set_snoc, len_snoc, RB, TB, keep151, tab151, xindexAddr, xindex, xslice, xconvert, xlen, ewOp, FreeW, StabW, SameW, ChangeW, AddW, BaseW, limBytes, simprocAttr, ne_eq] | ((with_reducible refine Need.intro ?_ ?_); (first | trivial | exact ⟨_, rfl⟩ | exact ⟨[], (List.append_nil _).symm⟩ | omega | (simp; done) | (simp; omega) | exact ⟨by first | trivial | (simp; done), _, by first | rfl | (simp; rfl)⟩))))
          | 12, hi, hil, hed =>
            simp only [List.getElem?_cons_zero, List.getElem?_cons_succ, Option.some.injEq] at hi
            subst hi
            have p7 : fl 7 = true := hed ⟨7, .data⟩ (by simp) rfl
            cases h9 : fl 9
            · (repeat (first | simp -dsimp only [zrBuild31, st_tok, sz_tok, st1_tok, cl_tok, envAt, List.take_succ_cons, List.take_zero, hil, p7, h9, Bool.false_eq_true, if_false, if_true, hS0, hO0, hS1, hO1, hO2, hsO, hsS, hsO1, hsS1, hsO2, at_snoc, set_snoc, len_snoc, RB, TB, keep151, tab151, xindexAddr, xindex, xslice, xconvert, xlen, ewOp, FreeW, StabW, SameW, ChangeW, AddW, BaseW, limBytes, simprocAttr, ne_eq] | ((with_reducible refine Need.intro ?_ ?_); (first | trivial | exact ⟨_, rfl⟩ | exact ⟨[], (List.append_nil _).symm⟩ | omega | (simp; done) | (simp; omega) | exact ⟨by first | trivial | (simp; done), _, by first | rfl | (simp; rfl)⟩))))
            · (repeat (first | simp -dsimp only [zrBuild31, st_tok, sz_tok, st1_tok, cl_tok, envAt, List.take_succ_cons, List.take_zero, hil, p7, h9, Bool.false_eq_true, if_false, if_true, hS0, hO0, hS1, hO1, hO2, hsO, hsS, hsO1, hsS1, hsO2, at_snoc, set_snoc, len_snoc, RB, TB, keep151, tab151, xindexAddr, xindex, xslice, xconvert, xlen, ewOp, FreeW, StabW, SameW, ChangeW, AddW, BaseW, limBytes, simprocAttr, ne_eq] | ((with_reducible refine Need.intro ?_ ?_); (first | trivial | exact ⟨_, rfl⟩ | exact ⟨[], (List.append_nil _).symm⟩ | omega | (simp; done) | (simp; omega) | exact ⟨by first | trivial | (simp; done), _, by first | rfl | (simp; rfl)⟩))))
          | n + 13, hi, hil, hed => simp at hi
        · (repeat (first | simp -dsimp only [zrBuild31, st_tok, sz_tok, st1_tok, cl_tok, envAt, hcl, RB, TB, keep151, tab151, xindexAddr, xindex, xslice, xconvert, xlen, ewOp, FreeW, StabW, SameW, ChangeW, AddW, BaseW, limBytes, simprocAttr, ne_eq] | ((with_reducible refine Need.intro ?_ ?_); (first | trivial | exact ⟨_, rfl⟩ | exact ⟨[], (List.append_nil _).symm⟩ | omega | (simp; done) | (simp; omega) | exact ⟨by first | trivial | (simp; done), _, by first | rfl | (simp; rfl)⟩))))
          refine RetW.keep false (by simp) ?_ (by simp [okW, okW1, okW0, V.lt]) ?_
          · have hx := hH.get g2
            simp only [Ob.lt] at hx
            rw [List.length_append, List.length_set, List.length_set, HLt_append]
            refine ⟨HLt_set (HLt_set (hHk 2) ?_) ?_, ?_⟩
            · simp only [Ob.lt, ltL_append, ltL, V.lt, and_true, true_and]; exact ⟨ltL_le (by omega) _ hx, lt_run _ _, lt_attr _ _⟩
            · simp only [Ob.lt, ltL, V.lt, and_true]; exact Nat.lt_of_lt_of_le lo (Nat.le_add_right _ _)
            · (simp (maxDischargeDepth := 6) [LTB, HLt_set, ltL_take, ltL_drop, ltL_rep, ltL_set, upd, eset, hH, hHk, zlBuild31, lt_tok, lt1_tok, ltc_tok] <;> omega)
          · simp only [wk, wk1, wk0]
            have hp : putF (f :: st) t = ⟨t.name, t.attrs, []⟩ :: f :: st := by unfold putF; rw [if_pos hs, if_neg (by simp [h3])]
            exact ⟨by simp, .inr ⟨hp, o, ver, ps, _, rfl, hm, hS, by rw [← hcs]⟩⟩
  · have hk1 : ¬ t.kind = 1 := by simpa using h1
    have hs : t.starts = false := by simp [Toke.starts, hk1]
    (repeat (first | simp -dsimp only [zrBuild31, st_tok, sz_tok, st1_tok, cl_tok, h1, RB, TB, keep151, tab151, xindexAddr, xindex, xslice, xconvert, xlen, ewOp, FreeW, StabW, SameW, ChangeW, AddW, BaseW, limBytes, simprocAttr, ne_eq] | ((with_reducible refine Need.intro ?_ ?_); (first | trivial | exact ⟨_, rfl⟩ | exact ⟨[], (List.append_nil _).symm⟩ | omega | (simp; done) | (simp; omega) | exact ⟨by first | trivial | (simp; done), _, by first | rfl | (simp; rfl)⟩))))
    refine IfW.intro (fun h2 => ?_) (fun h2 => ?_)
    · have hk2 : t.kind = 2 := by simpa using h2
      have hp : putF (f :: st) t = closeF (f :: st) t.name.text := by unfold putF; rw [if_neg (by simp [hs]), if_pos hk2]
      (repeat (first | simp -dsimp only [zrBuild31, st_tok, sz_tok, st1_tok, cl_tok, h2, RB, TB, keep151, tab151, xindexAddr, xindex, xslice, xconvert, xlen, ewOp, FreeW, StabW, SameW, ChangeW, AddW, BaseW, limBytes, simprocAttr, ne_eq] | ((with_reducible refine Need.intro ?_ ?_); (first | trivial | exact ⟨_, rfl⟩ | exact ⟨[], (List.append_nil _).symm⟩ | omega | (simp; done) | (simp; omega) | exact ⟨by first | trivial | (simp; done), _, by first | rfl | (simp; rfl)⟩))))
      (first | refine SCall.then (bFind _ s (f :: st) own t.name.text (h.app _) (by simp) (by omega)) ?_ | refine SCall.thenA (bFind _ s (f :: st) own t.name.text (h.app _) (by simp) (by omega)) (by repeat (first | exact trivial | exact .inl (.inl rfl) | exact .inl (.inr ⟨_, rfl, rfl⟩) | exact .inl rfl | exact .inr ⟨_, rfl, rfl⟩ | refine .inr ⟨_, _, rfl, rfl, ?_⟩ | refine ⟨?_, ?_⟩)) ?_ | refine CallE.intro _ (bFind _ s (f :: st) own t.name.text (h.app _) (by simp) (by omega)) ?_ | refine CallE.introA (bFind _ s (f :: st) own t.name.text (h.app _) (by simp) (by omega)) (by repeat (first | exact trivial | exact .inl (.inl rfl) | exact .inl (.inr ⟨_, rfl, rfl⟩) | exact .inl rfl | exact .inr ⟨_, rfl, rfl⟩ | refine .inr ⟨_, _, rfl, rfl, ?_⟩ | refine ⟨?_, ?_⟩)) ?_ | refine CallE.intro _ (fun _ => bFind _ s (f :: st) own t.name.text (h.app _) (by simp) (by omega)) ?_ | refine CallE.intro _ (fun _ => SCall.arg (by repeat (first | exact trivial | exact .inl (.inl rfl) | exact .inl (.inr ⟨_, rfl, rfl⟩) | exact .inl rfl | exact .inr ⟨_, rfl, rfl⟩ | refine .inr ⟨_, _, rfl, rfl, ?_⟩ | refine ⟨?_, ?_⟩)) (bFind _ s (f :: st) own t.name.text (h.app _) (by simp) (by omega))) ?_ | refine CallE2.intro _ _ (bFind _ s (f :: st) own t.name.text (h.app _) (by simp) (by omega)) ?_ | refine CallE2.intro _ _ (SCall.arg (by repeat (first | exact trivial | exact .inl (.inl rfl) | exact .inl (.inr ⟨_, rfl, rfl⟩) | exact .inl rfl | exact .inr ⟨_, rfl, rfl⟩ | refine .inr ⟨_, _, rfl, rfl, ?_⟩ | refine ⟨?_, ?_⟩)) (bFind _ s (f :: st) own t.name.text (h.app _) (by simp) (by omega))) ?_)
      (repeat (first | simp -dsimp only [zrBuild31, st_tok, sz_tok, st1_tok, cl_tok, RB, TB, keep151, tab151, xindexAddr, xindex, xslice, xconvert, xlen, ewOp, FreeW, StabW, SameW, ChangeW, AddW, BaseW, limBytes, simprocAttr, ne_eq] | ((with_reducible refine Need.intro ?_ ?_); (first | trivial | exact ⟨_, rfl⟩ | exact ⟨[], (List.append_nil _).symm⟩ | omega | (simp; done) | (simp; omega) | exact ⟨by first | trivial | (simp; done), _, by first | rfl | (simp; rfl)⟩))))
      generalize hn : t.name.text = nm at *
      refine EWn.loopE (ι := (List Fr) × (List Ob) × (List Nat)) (fun (x_ : (List Fr) × (List Ob) × (List Nat)) => match x_ with | (st2, G, own2) => (∃ j, st2 = popN j (f :: st) ∧ (j = 0 ∨ (0 < posF (f :: st) nm ∧ j ≤ (f :: st).length - posF (f :: st) nm))) ∧ HLt G.length G ∧ Stk G s st2 own2 ∧ Kept H own G own2) (fun (x_ : (List Fr) × (List Ob) × (List Nat)) => match x_ with | (st2, G, own2) => st2.length) (fun (x_ : (List Fr) × (List Ob) × (List Nat)) => match x_ with | (st2, G, own2) => [(5, .int .i64 (findI (f :: st) nm))]) (fun (x_ : (List Fr) × (List Ob) × (List Nat)) => match x_ with | (st2, G, own2) => G) ((f :: st), (H ++ [Ob.var [.int .i64 t.kind, .str nm, .slice (t.name.runs.map runV), .slice (t.attrs.map attrV), .bool t.close, .str t.text.text, .slice (t.text.runs.map runV)]]), own) ?_ ?_ ?_ ?_ ?_
      · first | rfl | simp [upd, eset]
      · first | rfl | (simp; done) | exact (set_same (by assumption)).symm
      · rintro ⟨st2, G, own2⟩ ⟨_, hG, hS2, hK⟩
        have ls2 : s < G.length := Nat.lt_of_lt_of_le ls hK.1
        exact ⟨hK.1, hG, by (simp (maxDischargeDepth := 6) [LTB, HLt_set, ltL_take, ltL_drop, ltL_rep, ltL_set, upd, eset, hH, hHk, zlBuild31, lt_tok, lt1_tok, ltc_tok] <;> omega)⟩
      · exact ⟨⟨0, rfl, .inl rfl⟩, (by (simp (maxDischargeDepth := 6) [LTB, HLt_set, ltL_take, ltL_drop, ltL_rep, ltL_set, upd, eset, hH, hHk, zlBuild31, lt_tok, lt1_tok, ltc_tok] <;> omega)), h.app _, Kept.app _ _ _⟩
      rintro ⟨st2, G, own2⟩ ⟨⟨j, hst2, hj⟩, hG, hS2, hK⟩
      have hpl := posF_lt (f :: st) nm (by simp)
      have hl2 : st2.length = (f :: st).length - j := by rw [hst2, popN_len]
      have hend : st2 = closeF (f :: st) nm → RetW H.length H (fun r H' => r = V.tuple [] ∧ (After H s own (putF (f :: st) t) H' ∨ pushRaw H s own (f :: st) t H')) (.tuple []) G := fun e => by
        refine RetW.keep false hK.1 hG (by simp [okW, okW1, okW0, V.lt]) ?_
        simp only [wk, wk1, wk0, hp, ← e]
        exact ⟨by simp, .inl ⟨hG, own2, hS2, hK⟩⟩
      obtain ⟨o2, ver2, ps2, ho2, hm2, q1, q2, q3, q4⟩ := id hS2
      have hpl2 : ps2.length = st2.length := by rw [← hm2, List.length_map]
      refine EWn.of_c Tok mixed (own := false) keep151 tab151 (by kernel_rfl) ?_
      (repeat (first | simp -dsimp only [zrBuild31, st_tok, sz_tok, st1_tok, cl_tok, RB, TB, keep151, tab151, xindexAddr, xindex, xslice, xconvert, xlen, ewOp, FreeW, StabW, SameW, ChangeW, AddW, BaseW, limBytes, simprocAttr, ne_eq] | ((with_reducible refine Need.intro ?_ ?_); (first | trivial | exact ⟨_, rfl⟩ | exact ⟨[], (List.append_nil _).symm⟩ | omega | (simp; done) | (simp; omega) | exact ⟨by first | trivial | (simp; done), _, by first | rfl | (simp; rfl)⟩))))
      by_cases hP : posF (f :: st) nm = 0
      · have e : findI (f :: st) nm = -1 := by unfold findI; rw [if_pos hP]
        have hj0 : j = 0 := by omega
        (repeat (first | simp -dsimp only [zrBuild31, st_tok, sz_tok, st1_tok, cl_tok, e, show decide ((-1 : Int) > 0) = false from rfl, RB, TB, keep151, tab151, xindexAddr, xindex, xslice, xconvert, xlen, ewOp, FreeW, StabW, SameW, ChangeW, AddW, BaseW, limBytes, simprocAttr, ne_eq] | ((with_reducible refine Need.intro ?_ ?_); (first | trivial | exact ⟨_, rfl⟩ | exact ⟨[], (List.append_nil _).symm⟩ | omega | (simp; done) | (simp; omega) | exact ⟨by first | trivial | (simp; done), _, by first | rfl | (simp; rfl)⟩))))
        exact hend (by rw [hst2, hj0, closeF, if_pos hP]; rfl)
      · have e : findI (f :: st) nm = (posF (f :: st) nm : Int) := by unfold findI; rw [if_neg hP]
        have e2 : decide ((posF (f :: st) nm : Int) > 0) = true := decide_eq_true (by omega)
        (repeat (first | simp -dsimp only [zrBuild31, st_tok, sz_tok, st1_tok, cl_tok, e, e2, q1, q2, RB, TB, keep151, tab151, xindexAddr, xindex, xslice, xconvert, xlen, ewOp, FreeW, StabW, SameW, ChangeW, AddW, BaseW, limBytes, simprocAttr, ne_eq] | ((with_reducible refine Need.intro ?_ ?_); (first | trivial | exact ⟨_, rfl⟩ | exact ⟨[], (List.append_nil _).symm⟩ | omega | (simp; done) | (simp; omega) | exact ⟨by first | trivial | (simp; done), _, by first | rfl | (simp; rfl)⟩))))
        refine IfW.intro (fun h3 => ?_) (fun h3 => ?_)
        · have h3' := of_decide_eq_true h3
          (repeat (first | simp -dsimp only [zrBuild31, st_tok, sz_tok, st1_tok, cl_tok, h3, RB, TB, keep151, tab151, xindexAddr, xindex, xslice, xconvert, xlen, ewOp, FreeW, StabW, SameW, ChangeW, AddW, BaseW, limBytes, simprocAttr, ne_eq] | ((with_reducible refine Need.intro ?_ ?_); (first | trivial | exact ⟨_, rfl⟩ | exact ⟨[], (List.append_nil _).symm⟩ | omega | (simp; done) | (simp; omega) | exact ⟨by first | trivial | (simp; done), _, by first | rfl | (simp; rfl)⟩))))
          match st2, hS2, hst2, hl2, hpl2 with
          | a :: b :: rest, hS2, hst2, hl2, hpl2 =>
            have hsz := sz_popN j (f :: st)
            rw [← hst2] at hsz
            refine SCall.mono (bPop G s a b rest own2 hS2 (by omega)) ?_
            rintro _ G2 ⟨rfl, hG2, own3, hS3, hK3⟩
            (repeat (first | simp -dsimp only [zrBuild31, st_tok, sz_tok, st1_tok, cl_tok, RB, TB, keep151, tab151, xindexAddr, xindex, xslice, xconvert, xlen, ewOp, FreeW, StabW, SameW, ChangeW, AddW, BaseW, limBytes, simprocAttr, ne_eq] | ((with_reducible refine Need.intro ?_ ?_); (first | trivial | exact ⟨_, rfl⟩ | exact ⟨[], (List.append_nil _).symm⟩ | omega | (simp; done) | (simp; omega) | exact ⟨by first | trivial | (simp; done), _, by first | rfl | (simp; rfl)⟩))))
            refine UpTo.here ⟨(popF (a :: b :: rest), G2, own3), ⟨⟨j + 1, ?_, .inr ⟨by omega, by simp only [List.length_cons] at *; omega⟩⟩, hG2, hS3, hK.trans hK3⟩, by simp only [popF_len, List.length_cons]; omega, by simp [upd, eset, e], ⟨[], by simp⟩⟩
            rw [hst2]
            exact popN_succ j (f :: st)
          | [a], hS2, hst2, hl2, hpl2 => simp only [List.length_cons, List.length_nil] at hpl2; omega
          | [], hS2, hst2, hl2, hpl2 => simp only [List.length_nil] at hpl2; omega
        · have h3' := of_decide_eq_false h3
          (repeat (first | simp -dsimp only [zrBuild31, st_tok, sz_tok, st1_tok, cl_tok, h3, RB, TB, keep151, tab151, xindexAddr, xindex, xslice, xconvert, xlen, ewOp, FreeW, StabW, SameW, ChangeW, AddW, BaseW, limBytes, simprocAttr, ne_eq] | ((with_reducible refine Need.intro ?_ ?_); (first | trivial | exact ⟨_, rfl⟩ | exact ⟨[], (List.append_nil _).symm⟩ | omega | (simp; done) | (simp; omega) | exact ⟨by first | trivial | (simp; done), _, by first | rfl | (simp; rfl)⟩))))
          exact hend (by rw [hst2, closeF, if_neg hP]; congr 1; simp only [List.length_cons] at *; omega)
    · have hk2 : ¬ t.kind = 2 := by simpa using h2
      (repeat (first | simp -dsimp only [zrBuild31, st_tok, sz_tok, st1_tok, cl_tok, h2, RB, TB, keep151, tab151, xindexAddr, xindex, xslice, xconvert, xlen, ewOp, FreeW, StabW, SameW, ChangeW, AddW, BaseW, limBytes, simprocAttr, ne_eq] | ((with_reducible refine Need.intro ?_ ?_); (first | trivial | exact ⟨_, rfl⟩ | exact ⟨[], (List.append_nil _).symm⟩ | omega | (simp; done) | (simp; omega) | exact ⟨by first | trivial | (simp; done), _, by first | rfl | (simp; rfl)⟩))))
      refine IfW.intro (fun h3 => ?_) (fun h3 => ?_)
      · have hk3 : t.kind = 3 := by simpa using h3
        have hp : putF (f :: st) t = addF (f :: st) (.mk zeroS [] [] t.text) := by unfold putF; rw [if_neg (by simp [hs]), if_neg hk2, if_pos hk3]
        (repeat (first | simp -dsimp only [zrBuild31, st_tok, sz_tok, st1_tok, cl_tok, h3, RB, TB, keep151, tab151, xindexAddr, xindex, xslice, xconvert, xlen, ewOp, FreeW, StabW, SameW, ChangeW, AddW, BaseW, limBytes, simprocAttr, ne_eq] | ((with_reducible refine Need.intro ?_ ?_); (first | trivial | exact ⟨_, rfl⟩ | exact ⟨[], (List.append_nil _).symm⟩ | omega | (simp; done) | (simp; omega) | exact ⟨by first | trivial | (simp; done), _, by first | rfl | (simp; rfl)⟩))))
        refine add_end (t := .mk zeroS [] [] t.text) h (by omega) (by rw [treeV_mk]; exact ⟨.inl (.inl rfl), .inr ⟨_, _, rfl, rfl, .inl rfl, .inr ⟨_, rfl, rfl⟩, .inr ⟨_, rfl, rfl⟩, .inr ⟨_, rfl, rfl⟩, .inl rfl, .inl rfl, trivial⟩, trivial⟩) fun G hl hG hA => ?_
        (repeat (first | simp -dsimp only [zrBuild31, st_tok, sz_tok, st1_tok, cl_tok, RB, TB, keep151, tab151, xindexAddr, xindex, xslice, xconvert, xlen, ewOp, FreeW, StabW, SameW, ChangeW, AddW, BaseW, limBytes, simprocAttr, ne_eq] | ((with_reducible refine Need.intro ?_ ?_); (first | trivial | exact ⟨_, rfl⟩ | exact ⟨[], (List.append_nil _).symm⟩ | omega | (simp; done) | (simp; omega) | exact ⟨by first | trivial | (simp; done), _, by first | rfl | (simp; rfl)⟩))))
        refine RetW.keep false hl hG (by simp [okW, okW1, okW0, V.lt]) ?_
        simp only [wk, wk1, wk0, hp]
        exact ⟨by simp, .inl hA⟩
      · have hk3 : ¬ t.kind = 3 := by simpa using h3
        have hp : putF (f :: st) t = f :: st := by unfold putF; rw [if_neg (by simp [hs]), if_neg hk2, if_neg hk3]
        (repeat (first | simp -dsimp only [zrBuild31, st_tok, sz_tok, st1_tok, cl_tok, h3, RB, TB, keep151, tab151, xindexAddr, xindex, xslice, xconvert, xlen, ewOp, FreeW, StabW, SameW, ChangeW, AddW, BaseW, limBytes, simprocAttr, ne_eq] | ((with_reducible refine Need.intro ?_ ?_); (first | trivial | exact ⟨_, rfl⟩ | exact ⟨[], (List.append_nil _).symm⟩ | omega | (simp; done) | (simp; omega) | exact ⟨by first | trivial | (simp; done), _, by first | rfl | (simp; rfl)⟩))))
        refine RetW.keep false (by simp) ?_ (by simp [okW, okW1, okW0, V.lt]) ?_
        · (simp (maxDischargeDepth := 6) [LTB, HLt_set, ltL_take, ltL_drop, ltL_rep, ltL_set, upd, eset, hH, hHk, zlBuild31, lt_tok, lt1_tok, ltc_tok] <;> omega)
        · simp only [wk, wk1, wk0, hp]
          exact ⟨by simp, .inl ⟨(by (simp (maxDischargeDepth := 6) [LTB, HLt_set, ltL_take, ltL_drop, ltL_rep, ltL_set, upd, eset, hH, hHk, zlBuild31, lt_tok, lt1_tok, ltc_tok] <;> omega)), own, h.app _, Kept.app _ _ _⟩⟩
end Go.Proofs.Ytjplgbalpnlanaa

/- The walks of package attrs, and of the plain comparing. -/
import Derived.Test.YtjhjcldpcngldaaMark1
set_option maxHeartbeats 600000
set_option linter.unusedSimpArgs false
set_option linter.unusedVariables false
set_option maxRecDepth 100000
namespace Go.Proofs.Ytjhjcldpcngldaa
open Go Go.EL
theorem zrAttrs11 : type_of% (And.intro (And.intro (And.intro (And.intro (@st_run) (@sz_run)) (And.intro (@st1_run) (@cl_run))) (And.intro (And.intro (@st_Str) (@sz_Str)) (And.intro (@st1_Str) (@cl_Str)))) (And.intro (And.intro (And.intro (@st_c) (@sz_c)) (And.intro (@st1_c) (@cl_c))) (And.intro (And.intro (@st_attr) (@sz_attr)) (And.intro (@st1_attr) (@cl_attr))))) := And.intro (And.intro (And.intro (And.intro (@st_run) (@sz_run)) (And.intro (@st1_run) (@cl_run))) (And.intro (And.intro (@st_Str) (@sz_Str)) (And.intro (@st1_Str) (@cl_Str)))) (And.intro (And.intro (And.intro (@st_c) (@sz_c)) (And.intro (@st1_c) (@cl_c))) (And.intro (And.intro (@st_attr) (@sz_attr)) (And.intro (@st1_attr) (@cl_attr))))
theorem zlAttrs11 : type_of% (And.intro (And.intro (And.intro (And.intro (@lt_vi) (@lt_str)) (And.intro (@lt_vb) (@ltc_str))) (And.intro (And.intro (@ltc_vi) (@lt_run)) (And.intro (@lt1_run) (@ltc_run)))) (And.intro (And.intro (And.intro (@lt_Str) (@lt1_Str)) (And.intro (@ltc_Str) (@lt_c))) (And.intro (And.intro (@lt1_c) (@ltc_c)) (And.intro (@lt_attr) (And.intro (@lt1_attr) (@ltc_attr)))))) := And.intro (And.intro (And.intro (And.intro (@lt_vi) (@lt_str)) (And.intro (@lt_vb) (@ltc_str))) (And.intro (And.intro (@ltc_vi) (@lt_run)) (And.intro (@lt1_run) (@ltc_run)))) (And.intro (And.intro (And.intro (@lt_Str) (@lt1_Str)) (And.intro (@ltc_Str) (@lt_c))) (And.intro (And.intro (@lt1_c) (@ltc_c)) (And.intro (@lt_attr) (And.intro (@lt1_attr) (@ltc_attr)))))
theorem pStr (H : List Ob) (a b : Str) (ha : okS a) (hb : okS b) : SCall Try.prog 75 [strV a, strV b] H (fun r H' => r = .bool (decide (fixS a = fixS b)) ∧ H' = H) := by
  have e : decide (ofS a = ofS b) = decide (fixS a = fixS b) := decide_eq_decide.2 (by rw [ofS_inj, like_iff])
  obtain ⟨at_, ar⟩ := a
  obtain ⟨bt, br⟩ := b
  unfold strV
  refine SCall.of_good fun hH => ?_
  have hHk := HLt.add hH
  refine SCall.of_code Tok Try.func75 rfl Try.call75 (n := 10) rfl (by simp) (rs := [.tmp 4]) rfl ?_
  refine EWn.to ?_
  refine EWn.of_c Tok mixed (own := false) keep75 tab75 (by kernel_rfl) ?_
  (repeat (first | simp -dsimp only [zrAttrs11, RB, TB, keep75, tab75, xindexAddr, xindex, xslice, xconvert, xlen, ewOp, FreeW, StabW, SameW, ChangeW, AddW, limBytes, simprocAttr, ne_eq] | ((with_reducible refine Need.intro ?_ ?_); (first | trivial | exact ⟨_, rfl⟩ | omega | (simp; done) | (simp; omega) | exact ⟨by first | trivial | (simp; done), _, by first | rfl | (simp; rfl)⟩))))
  (first | refine SCall.then (rOf _ ⟨at_, ar⟩ ha) ?_ | refine SCall.thenA (rOf _ ⟨at_, ar⟩ ha) (by repeat (first | exact trivial | exact .inl (.inl rfl) | exact .inl (.inr ⟨_, rfl, rfl⟩) | exact .inl rfl | exact .inr ⟨_, rfl, rfl⟩ | refine .inr ⟨_, _, rfl, rfl, ?_⟩ | refine ⟨?_, ?_⟩)) ?_ | refine CallE.intro _ (rOf _ ⟨at_, ar⟩ ha) ?_ | refine CallE.introA (rOf _ ⟨at_, ar⟩ ha) (by repeat (first | exact trivial | exact .inl (.inl rfl) | exact .inl (.inr ⟨_, rfl, rfl⟩) | exact .inl rfl | exact .inr ⟨_, rfl, rfl⟩ | refine .inr ⟨_, _, rfl, rfl, ?_⟩ | refine ⟨?_, ?_⟩)) ?_ | refine CallE.intro _ (fun _ => rOf _ ⟨at_, ar⟩ ha) ?_ | refine CallE.intro _ (fun _ => SCall.arg (by repeat (first | exact trivial | exact .inl (.inl rfl) | exact .inl (.inr ⟨_, rfl, rfl⟩) | exact .inl rfl | exact .inr ⟨_, rfl, rfl⟩ | refine .inr ⟨_, _, rfl, rfl, ?_⟩ | refine ⟨?_, ?_⟩)) (rOf _ ⟨at_, ar⟩ ha)) ?_ | refine CallE2.intro _ _ (rOf _ ⟨at_, ar⟩ ha) ?_ | refine CallE2.intro _ _ (SCall.arg (by repeat (first | exact trivial | exact .inl (.inl rfl) | exact .inl (.inr ⟨_, rfl, rfl⟩) | exact .inl rfl | exact .inr ⟨_, rfl, rfl⟩ | refine .inr ⟨_, _, rfl, rfl, ?_⟩ | refine ⟨?_, ?_⟩)) (rOf _ ⟨at_, ar⟩ ha)) ?_)
  (repeat (first | simp -dsimp only [zrAttrs11, RB, TB, keep75, tab75, xindexAddr, xindex, xslice, xconvert, xlen, ewOp, FreeW, StabW, SameW, ChangeW, AddW, limBytes, simprocAttr, ne_eq] | ((with_reducible refine Need.intro ?_ ?_); (first | trivial | exact ⟨_, rfl⟩ | omega | (simp; done) | (simp; omega) | exact ⟨by first | trivial | (simp; done), _, by first | rfl | (simp; rfl)⟩))))
  (first | refine SCall.then (rOf _ ⟨bt, br⟩ hb) ?_ | refine SCall.thenA (rOf _ ⟨bt, br⟩ hb) (by repeat (first | exact trivial | exact .inl (.inl rfl) | exact .inl (.inr ⟨_, rfl, rfl⟩) | exact .inl rfl | exact .inr ⟨_, rfl, rfl⟩ | refine .inr ⟨_, _, rfl, rfl, ?_⟩ | refine ⟨?_, ?_⟩)) ?_ | refine CallE.intro _ (rOf _ ⟨bt, br⟩ hb) ?_ | refine CallE.introA (rOf _ ⟨bt, br⟩ hb) (by repeat (first | exact trivial | exact .inl (.inl rfl) | exact .inl (.inr ⟨_, rfl, rfl⟩) | exact .inl rfl | exact .inr ⟨_, rfl, rfl⟩ | refine .inr ⟨_, _, rfl, rfl, ?_⟩ | refine ⟨?_, ?_⟩)) ?_ | refine CallE.intro _ (fun _ => rOf _ ⟨bt, br⟩ hb) ?_ | refine CallE.intro _ (fun _ => SCall.arg (by repeat (first | exact trivial | exact .inl (.inl rfl) | exact .inl (.inr ⟨_, rfl, rfl⟩) | exact .inl rfl | exact .inr ⟨_, rfl, rfl⟩ | refine .inr ⟨_, _, rfl, rfl, ?_⟩ | refine ⟨?_, ?_⟩)) (rOf _ ⟨bt, br⟩ hb)) ?_ | refine CallE2.intro _ _ (rOf _ ⟨bt, br⟩ hb) ?_ | refine CallE2.intro _ _ (SCall.arg (by repeat (first | exact trivial | exact .inl (.inl rfl) | exact .inl (.inr ⟨_, rfl, rfl⟩) | exact .inl rfl | exact .inr ⟨_, rfl, rfl⟩ | refine .inr ⟨_, _, rfl, rfl, ?_⟩ | refine ⟨?_, ?_⟩)) (rOf _ ⟨bt, br⟩ hb)) ?_)
  (repeat (first | simp -dsimp only [zrAttrs11, RB, TB, keep75, tab75, xindexAddr, xindex, xslice, xconvert, xlen, ewOp, FreeW, StabW, SameW, ChangeW, AddW, limBytes, simprocAttr, ne_eq] | ((with_reducible refine Need.intro ?_ ?_); (first | trivial | exact ⟨_, rfl⟩ | omega | (simp; done) | (simp; omega) | exact ⟨by first | trivial | (simp; done), _, by first | rfl | (simp; rfl)⟩))))
  (first | refine SCall.then (rSame _ (ofS ⟨at_, ar⟩) (ofS ⟨bt, br⟩)) ?_ | refine SCall.thenA (rSame _ (ofS ⟨at_, ar⟩) (ofS ⟨bt, br⟩)) (by repeat (first | exact trivial | exact .inl (.inl rfl) | exact .inl (.inr ⟨_, rfl, rfl⟩) | exact .inl rfl | exact .inr ⟨_, rfl, rfl⟩ | refine .inr ⟨_, _, rfl, rfl, ?_⟩ | refine ⟨?_, ?_⟩)) ?_ | refine CallE.intro _ (rSame _ (ofS ⟨at_, ar⟩) (ofS ⟨bt, br⟩)) ?_ | refine CallE.introA (rSame _ (ofS ⟨at_, ar⟩) (ofS ⟨bt, br⟩)) (by repeat (first | exact trivial | exact .inl (.inl rfl) | exact .inl (.inr ⟨_, rfl, rfl⟩) | exact .inl rfl | exact .inr ⟨_, rfl, rfl⟩ | refine .inr ⟨_, _, rfl, rfl, ?_⟩ | refine ⟨?_, ?_⟩)) ?_ | refine CallE.intro _ (fun _ => rSame _ (ofS ⟨at_, ar⟩) (ofS ⟨bt, br⟩)) ?_ | refine CallE.intro _ (fun _ => SCall.arg (by repeat (first | exact trivial | exact .inl (.inl rfl) | exact .inl (.inr ⟨_, rfl, rfl⟩) | exact .inl rfl | exact .inr ⟨_, rfl, rfl⟩ | refine .inr ⟨_, _, rfl, rfl, ?_⟩ | refine ⟨?_, ?_⟩)) (rSame _ (ofS ⟨at_, ar⟩) (ofS ⟨bt, br⟩))) ?_ | refine CallE2.intro _ _ (rSame _ (ofS ⟨at_, ar⟩) (ofS ⟨bt, br⟩)) ?_ | refine CallE2.intro _ _ (SCall.arg (by repeat (first | exact trivial | exact .inl (.inl rfl) | exact .inl (.inr ⟨_, rfl, rfl⟩) | exact .inl rfl | exact .inr ⟨_, rfl, rfl⟩ | refine .inr ⟨_, _, rfl, rfl, ?_⟩ | refine ⟨?_, ?_⟩)) (rSame _ (ofS ⟨at_, ar⟩) (ofS ⟨bt, br⟩))) ?_)
  (repeat (first | simp -dsimp only [zrAttrs11, RB, TB, keep75, tab75, xindexAddr, xindex, xslice, xconvert, xlen, ewOp, FreeW, StabW, SameW, ChangeW, AddW, limBytes, simprocAttr, ne_eq] | ((with_reducible refine Need.intro ?_ ?_); (first | trivial | exact ⟨_, rfl⟩ | omega | (simp; done) | (simp; omega) | exact ⟨by first | trivial | (simp; done), _, by first | rfl | (simp; rfl)⟩))))
  refine RetW.auto0 false _ (by first | rfl | exact (List.append_nil _).symm) ?_ ?_
  · (simp (maxDischargeDepth := 6) [LTB, HLt_set, ltL_take, ltL_drop, ltL_rep, ltL_set, upd, eset, hH, hHk, zlAttrs11] <;> omega)
  (try simp only [wk, wk1, wk0, RB, limBytes, simprocAttr, ne_eq])
  (try (rw [List.take_of_length_le]; rotate_left 1; (· first | (simp; done) | (simp; omega) | omega)))
  rw [e]
theorem pAttrs (H : List Ob) (l m : List Attr) (hl : ∀ a ∈ l, okA a) (hm : ∀ a ∈ m, okA a) : SCall Try.prog 92 [.slice (l.map attrV), .slice (m.map attrV)] H (fun r H' => r = .bool (decide (l.map ownA = m.map ownA)) ∧ H' = H) := by
  refine SCall.sized 0 rfl fun hsz => ?_
  rw [List.length_map, maxLen_eq] at hsz
  refine SCall.of_good fun hH => ?_
  have hHk := HLt.add hH
  refine SCall.of_code Tok Try.func92 rfl Try.call92 (n := 43) rfl (by simp) (rs := [.tmp 4]) rfl ?_
  refine EWn.to ?_
  refine EWn.of_c Tok mixed (own := false) keep92 tab92 (by kernel_rfl) ?_
  (repeat (first | simp -dsimp only [zrAttrs11, RB, TB, keep92, tab92, xindexAddr, xindex, xslice, xconvert, xlen, ewOp, FreeW, StabW, SameW, ChangeW, AddW, limBytes, simprocAttr, ne_eq] | ((with_reducible refine Need.intro ?_ ?_); (first | trivial | exact ⟨_, rfl⟩ | omega | (simp; done) | (simp; omega) | exact ⟨by first | trivial | (simp; done), _, by first | rfl | (simp; rfl)⟩))))
  refine IfW.intro (fun h => ?_) (fun h => ?_)
  rotate_left
  · (repeat (first | simp -dsimp only [zrAttrs11, h, RB, TB, keep92, tab92, xindexAddr, xindex, xslice, xconvert, xlen, ewOp, FreeW, StabW, SameW, ChangeW, AddW, limBytes, simprocAttr, ne_eq] | ((with_reducible refine Need.intro ?_ ?_); (first | trivial | exact ⟨_, rfl⟩ | omega | (simp; done) | (simp; omega) | exact ⟨by first | trivial | (simp; done), _, by first | rfl | (simp; rfl)⟩))))
    refine RetW.auto0 false _ (by first | rfl | exact (List.append_nil _).symm) ?_ ?_
    · (simp (maxDischargeDepth := 6) [LTB, HLt_set, ltL_take, ltL_drop, ltL_rep, ltL_set, upd, eset, hH, hHk, zlAttrs11] <;> omega)
    (try simp only [wk, wk1, wk0, RB, limBytes, simprocAttr, ne_eq])
    (try (rw [List.take_of_length_le]; rotate_left 1; (· first | (simp; done) | (simp; omega) | omega)))
    have hlm : l.map ownA ≠ m.map ownA := by intro h0; have := congrArg List.length h0; simp at this h; omega
    simp [hlm]
  have hlm : l.length = m.length := by simp at h; omega
  (repeat (first | simp -dsimp only [zrAttrs11, h, RB, TB, keep92, tab92, xindexAddr, xindex, xslice, xconvert, xlen, ewOp, FreeW, StabW, SameW, ChangeW, AddW, limBytes, simprocAttr, ne_eq] | ((with_reducible refine Need.intro ?_ ?_); (first | trivial | exact ⟨_, rfl⟩ | omega | (simp; done) | (simp; omega) | exact ⟨by first | trivial | (simp; done), _, by first | rfl | (simp; rfl)⟩))))
  refine EWn.loopE (ι := (Nat)) (fun (i : (Nat)) => i ≤ l.length ∧ (l.take i).map ownA = (m.take i).map ownA) (fun (i : (Nat)) => l.length - i) (fun (i : (Nat)) => [(5, .int .i64 i)]) (fun (i : (Nat)) => H) (0) ?_ ?_ ?_ ?_ ?_
  · first | rfl | simp [upd, eset]
  · first | rfl | (simp; done) | exact (set_same (by assumption)).symm
  · rintro i hok; exact ⟨by first | (simp; done) | (simp; omega), by (simp (maxDischargeDepth := 6) [LTB, HLt_set, ltL_take, ltL_drop, ltL_rep, ltL_set, upd, eset, hH, hHk, zlAttrs11] <;> omega), by (simp (maxDischargeDepth := 6) [LTB, HLt_set, ltL_take, ltL_drop, ltL_rep, ltL_set, upd, eset, hH, hHk, zlAttrs11] <;> omega)⟩
  · simp
  rintro i ⟨hi, hno⟩
  refine EWn.of_c Tok mixed (own := false) keep92 tab92 (by kernel_rfl) ?_
  (repeat (first | simp -dsimp only [zrAttrs11, RB, TB, keep92, tab92, xindexAddr, xindex, xslice, xconvert, xlen, ewOp, FreeW, StabW, SameW, ChangeW, AddW, limBytes, simprocAttr, ne_eq] | ((with_reducible refine Need.intro ?_ ?_); (first | trivial | exact ⟨_, rfl⟩ | omega | (simp; done) | (simp; omega) | exact ⟨by first | trivial | (simp; done), _, by first | rfl | (simp; rfl)⟩))))
  refine IfW.intro (fun h1 => ?_) (fun h1 => ?_)
  · have hlt := lt_of h1
    have hlt' : i < m.length := by omega
    (repeat (first | simp -dsimp only [zrAttrs11, h1, at_map attrV l i hlt, at_map attrV m i hlt', attrV, RB, TB, keep92, tab92, xindexAddr, xindex, xslice, xconvert, xlen, ewOp, FreeW, StabW, SameW, ChangeW, AddW, limBytes, simprocAttr, ne_eq] | ((with_reducible refine Need.intro ?_ ?_); (first | trivial | exact ⟨_, rfl⟩ | omega | (simp; done) | (simp; omega) | exact ⟨by first | trivial | (simp; done), _, by first | rfl | (simp; rfl)⟩))))
    have o1 := hl l[i] (List.getElem_mem hlt)
    have o2 := hm m[i] (List.getElem_mem hlt')
    (first | refine SCall.then (pStr _ l[i].name m[i].name o1.1 o2.1) ?_ | refine SCall.thenA (pStr _ l[i].name m[i].name o1.1 o2.1) (by repeat (first | exact trivial | exact .inl (.inl rfl) | exact .inl (.inr ⟨_, rfl, rfl⟩) | exact .inl rfl | exact .inr ⟨_, rfl, rfl⟩ | refine .inr ⟨_, _, rfl, rfl, ?_⟩ | refine ⟨?_, ?_⟩)) ?_ | refine CallE.intro _ (pStr _ l[i].name m[i].name o1.1 o2.1) ?_ | refine CallE.introA (pStr _ l[i].name m[i].name o1.1 o2.1) (by repeat (first | exact trivial | exact .inl (.inl rfl) | exact .inl (.inr ⟨_, rfl, rfl⟩) | exact .inl rfl | exact .inr ⟨_, rfl, rfl⟩ | refine .inr ⟨_, _, rfl, rfl, ?_⟩ | refine ⟨?_, ?_⟩)) ?_ | refine CallE.intro _ (fun _ => pStr _ l[i].name m[i].name o1.1 o2.1) ?_ | refine CallE.intro _ (fun _ => SCall.arg (by repeat (first | exact trivial | exact .inl (.inl rfl) | exact .inl (.inr ⟨_, rfl, rfl⟩) | exact .inl rfl | exact .inr ⟨_, rfl, rfl⟩ | refine .inr ⟨_, _, rfl, rfl, ?_⟩ | refine ⟨?_, ?_⟩)) (pStr _ l[i].name m[i].name o1.1 o2.1)) ?_ | refine CallE2.intro _ _ (pStr _ l[i].name m[i].name o1.1 o2.1) ?_ | refine CallE2.intro _ _ (SCall.arg (by repeat (first | exact trivial | exact .inl (.inl rfl) | exact .inl (.inr ⟨_, rfl, rfl⟩) | exact .inl rfl | exact .inr ⟨_, rfl, rfl⟩ | refine .inr ⟨_, _, rfl, rfl, ?_⟩ | refine ⟨?_, ?_⟩)) (pStr _ l[i].name m[i].name o1.1 o2.1)) ?_)
    (repeat (first | simp -dsimp only [zrAttrs11, RB, TB, keep92, tab92, xindexAddr, xindex, xslice, xconvert, xlen, ewOp, FreeW, StabW, SameW, ChangeW, AddW, limBytes, simprocAttr, ne_eq] | ((with_reducible refine Need.intro ?_ ?_); (first | trivial | exact ⟨_, rfl⟩ | omega | (simp; done) | (simp; omega) | exact ⟨by first | trivial | (simp; done), _, by first | rfl | (simp; rfl)⟩))))
    have bad : ownA l[i] ≠ ownA m[i] → decide (l.map ownA = m.map ownA) = false := fun hne => decide_eq_false fun h0 => by
      have := congrArg (fun x => x[i]?) h0
      simp only [List.getElem?_map, List.getElem?_eq_getElem hlt, List.getElem?_eq_getElem hlt', Option.map_some] at this
      injection this with this
      exact hne this
    refine IfW.intro (fun hb => ?_) (fun hb => ?_)
    · (repeat (first | simp -dsimp only [zrAttrs11, hb, h1, at_map attrV l i hlt, at_map attrV m i hlt', attrV, RB, TB, keep92, tab92, xindexAddr, xindex, xslice, xconvert, xlen, ewOp, FreeW, StabW, SameW, ChangeW, AddW, limBytes, simprocAttr, ne_eq] | ((with_reducible refine Need.intro ?_ ?_); (first | trivial | exact ⟨_, rfl⟩ | omega | (simp; done) | (simp; omega) | exact ⟨by first | trivial | (simp; done), _, by first | rfl | (simp; rfl)⟩))))
      (first | refine SCall.then (pStr _ l[i].value m[i].value o1.2 o2.2) ?_ | refine SCall.thenA (pStr _ l[i].value m[i].value o1.2 o2.2) (by repeat (first | exact trivial | exact .inl (.inl rfl) | exact .inl (.inr ⟨_, rfl, rfl⟩) | exact .inl rfl | exact .inr ⟨_, rfl, rfl⟩ | refine .inr ⟨_, _, rfl, rfl, ?_⟩ | refine ⟨?_, ?_⟩)) ?_ | refine CallE.intro _ (pStr _ l[i].value m[i].value o1.2 o2.2) ?_ | refine CallE.introA (pStr _ l[i].value m[i].value o1.2 o2.2) (by repeat (first | exact trivial | exact .inl (.inl rfl) | exact .inl (.inr ⟨_, rfl, rfl⟩) | exact .inl rfl | exact .inr ⟨_, rfl, rfl⟩ | refine .inr ⟨_, _, rfl, rfl, ?_⟩ | refine ⟨?_, ?_⟩)) ?_ | refine CallE.intro _ (fun _ => pStr _ l[i].value m[i].value o1.2 o2.2) ?_ | refine CallE.intro _ (fun _ => SCall.arg (by repeat (first | exact trivial | exact .inl (.inl rfl) | exact .inl (.inr ⟨_, rfl, rfl⟩) | exact .inl rfl | exact .inr ⟨_, rfl, rfl⟩ | refine .inr ⟨_, _, rfl, rfl, ?_⟩ | refine ⟨?_, ?_⟩)) (pStr _ l[i].value m[i].value o1.2 o2.2)) ?_ | refine CallE2.intro _ _ (pStr _ l[i].value m[i].value o1.2 o2.2) ?_ | refine CallE2.intro _ _ (SCall.arg (by repeat (first | exact trivial | exact .inl (.inl rfl) | exact .inl (.inr ⟨_, rfl, rfl⟩) | exact .inl rfl | exact .inr ⟨_, rfl, rfl⟩ | refine .inr ⟨_, _, rfl, rfl, ?_⟩ | refine ⟨?_, ?_⟩)) (pStr _ l[i].value m[i].value o1.2 o2.2)) ?_)
      (repeat (first | simp -dsimp only [zrAttrs11, RB, TB, keep92, tab92, xindexAddr, xindex, xslice, xconvert, xlen, ewOp, FreeW, StabW, SameW, ChangeW, AddW, limBytes, simprocAttr, ne_eq] | ((with_reducible refine Need.intro ?_ ?_); (first | trivial | exact ⟨_, rfl⟩ | omega | (simp; done) | (simp; omega) | exact ⟨by first | trivial | (simp; done), _, by first | rfl | (simp; rfl)⟩))))
      refine IfW.intro (fun hc => ?_) (fun hc => ?_)
      · (repeat (first | simp -dsimp only [zrAttrs11, hb, hc, RB, TB, keep92, tab92, xindexAddr, xindex, xslice, xconvert, xlen, ewOp, FreeW, StabW, SameW, ChangeW, AddW, limBytes, simprocAttr, ne_eq] | ((with_reducible refine Need.intro ?_ ?_); (first | trivial | exact ⟨_, rfl⟩ | omega | (simp; done) | (simp; omega) | exact ⟨by first | trivial | (simp; done), _, by first | rfl | (simp; rfl)⟩))))
        rw [wrapI (by omega)]
        refine UpTo.here ⟨(i + 1), ?_, by first | omega | (simp only [List.length_append, List.length_cons, List.length_nil]; omega), by simp [upd, eset], ⟨_, by simp; try rfl⟩⟩
        have hb := of_decide_eq_true hb
        have hc := of_decide_eq_true hc
        have he : ownA l[i] = ownA m[i] := by unfold ownA; rw [hb, hc]
        exact ⟨hlt, by rw [List.take_succ_eq_append_getElem hlt, List.take_succ_eq_append_getElem hlt', List.map_append, List.map_append, hno]; simp [he]⟩
      · (repeat (first | simp -dsimp only [zrAttrs11, hb, hc, RB, TB, keep92, tab92, xindexAddr, xindex, xslice, xconvert, xlen, ewOp, FreeW, StabW, SameW, ChangeW, AddW, limBytes, simprocAttr, ne_eq] | ((with_reducible refine Need.intro ?_ ?_); (first | trivial | exact ⟨_, rfl⟩ | omega | (simp; done) | (simp; omega) | exact ⟨by first | trivial | (simp; done), _, by first | rfl | (simp; rfl)⟩))))
        refine RetW.auto0 false _ (by first | rfl | exact (List.append_nil _).symm) ?_ ?_
        · (simp (maxDischargeDepth := 6) [LTB, HLt_set, ltL_take, ltL_drop, ltL_rep, ltL_set, upd, eset, hH, hHk, zlAttrs11] <;> omega)
        (try simp only [wk, wk1, wk0, RB, limBytes, simprocAttr, ne_eq])
        (try (rw [List.take_of_length_le]; rotate_left 1; (· first | (simp; done) | (simp; omega) | omega)))
        rw [bad (fun h0 => of_decide_eq_false hc (by unfold ownA at h0; injection h0))]
    · (repeat (first | simp -dsimp only [zrAttrs11, hb, RB, TB, keep92, tab92, xindexAddr, xindex, xslice, xconvert, xlen, ewOp, FreeW, StabW, SameW, ChangeW, AddW, limBytes, simprocAttr, ne_eq] | ((with_reducible refine Need.intro ?_ ?_); (first | trivial | exact ⟨_, rfl⟩ | omega | (simp; done) | (simp; omega) | exact ⟨by first | trivial | (simp; done), _, by first | rfl | (simp; rfl)⟩))))
      refine RetW.auto0 false _ (by first | rfl | exact (List.append_nil _).symm) ?_ ?_
      · (simp (maxDischargeDepth := 6) [LTB, HLt_set, ltL_take, ltL_drop, ltL_rep, ltL_set, upd, eset, hH, hHk, zlAttrs11] <;> omega)
      (try simp only [wk, wk1, wk0, RB, limBytes, simprocAttr, ne_eq])
      (try (rw [List.take_of_length_le]; rotate_left 1; (· first | (simp; done) | (simp; omega) | omega)))
      rw [bad (fun h0 => of_decide_eq_false hb (by unfold ownA at h0; injection h0))]
  · (repeat (first | simp -dsimp only [zrAttrs11, h1, RB, TB, keep92, tab92, xindexAddr, xindex, xslice, xconvert, xlen, ewOp, FreeW, StabW, SameW, ChangeW, AddW, limBytes, simprocAttr, ne_eq] | ((with_reducible refine Need.intro ?_ ?_); (first | trivial | exact ⟨_, rfl⟩ | omega | (simp; done) | (simp; omega) | exact ⟨by first | trivial | (simp; done), _, by first | rfl | (simp; rfl)⟩))))
    have hge := ge_of h1
    rw [List.take_of_length_le hge, List.take_of_length_le (by omega)] at hno
    refine RetW.auto0 false _ (by first | rfl | exact (List.append_nil _).symm) ?_ ?_
    · (simp (maxDischargeDepth := 6) [LTB, HLt_set, ltL_take, ltL_drop, ltL_rep, ltL_set, upd, eset, hH, hHk, zlAttrs11] <;> omega)
    (try simp only [wk, wk1, wk0, RB, limBytes, simprocAttr, ne_eq])
    (try (rw [List.take_of_length_le]; rotate_left 1; (· first | (simp; done) | (simp; omega) | omega)))
    simp [hno]
theorem aOwn (H : List Ob) (a : Attr) (h : okA a) : SCall Try.prog 132 [attrV a] H (fun r H' => r = attrV (ownA a) ∧ H' = H) := by
  obtain ⟨⟨nt, nr⟩, ⟨vt, vr⟩⟩ := a
  unfold attrV
  refine SCall.of_good fun hH => ?_
  have hHk := HLt.add hH
  refine SCall.of_code Tok Try.func132 rfl Try.call132 (n := 10) rfl (by simp) (rs := [.cell 2 149]) rfl ?_
  refine EWn.to ?_
  refine EWn.of_c Tok mixed (own := false) keep132 tab132 (by kernel_rfl) ?_
  (repeat (first | simp -dsimp only [zrAttrs11, RB, TB, keep132, tab132, xindexAddr, xindex, xslice, xconvert, xlen, ewOp, FreeW, StabW, SameW, ChangeW, AddW, limBytes, simprocAttr, ne_eq] | ((with_reducible refine Need.intro ?_ ?_); (first | trivial | exact ⟨_, rfl⟩ | omega | (simp; done) | (simp; omega) | exact ⟨by first | trivial | (simp; done), _, by first | rfl | (simp; rfl)⟩))))
  (first | refine SCall.then (mFix _ ⟨nt, nr⟩ h.1) ?_ | refine SCall.thenA (mFix _ ⟨nt, nr⟩ h.1) (by repeat (first | exact trivial | exact .inl (.inl rfl) | exact .inl (.inr ⟨_, rfl, rfl⟩) | exact .inl rfl | exact .inr ⟨_, rfl, rfl⟩ | refine .inr ⟨_, _, rfl, rfl, ?_⟩ | refine ⟨?_, ?_⟩)) ?_ | refine CallE.intro _ (mFix _ ⟨nt, nr⟩ h.1) ?_ | refine CallE.introA (mFix _ ⟨nt, nr⟩ h.1) (by repeat (first | exact trivial | exact .inl (.inl rfl) | exact .inl (.inr ⟨_, rfl, rfl⟩) | exact .inl rfl | exact .inr ⟨_, rfl, rfl⟩ | refine .inr ⟨_, _, rfl, rfl, ?_⟩ | refine ⟨?_, ?_⟩)) ?_ | refine CallE.intro _ (fun _ => mFix _ ⟨nt, nr⟩ h.1) ?_ | refine CallE.intro _ (fun _ => SCall.arg (by repeat (first | exact trivial | exact .inl (.inl rfl) | exact .inl (.inr ⟨_, rfl, rfl⟩) | exact .inl rfl | exact .inr ⟨_, rfl, rfl⟩ | refine .inr ⟨_, _, rfl, rfl, ?_⟩ | refine ⟨?_, ?_⟩)) (mFix _ ⟨nt, nr⟩ h.1)) ?_ | refine CallE2.intro _ _ (mFix _ ⟨nt, nr⟩ h.1) ?_ | refine CallE2.intro _ _ (SCall.arg (by repeat (first | exact trivial | exact .inl (.inl rfl) | exact .inl (.inr ⟨_, rfl, rfl⟩) | exact .inl rfl | exact .inr ⟨_, rfl, rfl⟩ | refine .inr ⟨_, _, rfl, rfl, ?_⟩ | refine ⟨?_, ?_⟩)) (mFix _ ⟨nt, nr⟩ h.1)) ?_)
  (repeat (first | simp -dsimp only [zrAttrs11, strV, RB, TB, keep132, tab132, xindexAddr, xindex, xslice, xconvert, xlen, ewOp, FreeW, StabW, SameW, ChangeW, AddW, limBytes, simprocAttr, ne_eq] | ((with_reducible refine Need.intro ?_ ?_); (first | trivial | exact ⟨_, rfl⟩ | omega | (simp; done) | (simp; omega) | exact ⟨by first | trivial | (simp; done), _, by first | rfl | (simp; rfl)⟩))))
  (first | refine SCall.then (mFix _ ⟨vt, vr⟩ h.2) ?_ | refine SCall.thenA (mFix _ ⟨vt, vr⟩ h.2) (by repeat (first | exact trivial | exact .inl (.inl rfl) | exact .inl (.inr ⟨_, rfl, rfl⟩) | exact .inl rfl | exact .inr ⟨_, rfl, rfl⟩ | refine .inr ⟨_, _, rfl, rfl, ?_⟩ | refine ⟨?_, ?_⟩)) ?_ | refine CallE.intro _ (mFix _ ⟨vt, vr⟩ h.2) ?_ | refine CallE.introA (mFix _ ⟨vt, vr⟩ h.2) (by repeat (first | exact trivial | exact .inl (.inl rfl) | exact .inl (.inr ⟨_, rfl, rfl⟩) | exact .inl rfl | exact .inr ⟨_, rfl, rfl⟩ | refine .inr ⟨_, _, rfl, rfl, ?_⟩ | refine ⟨?_, ?_⟩)) ?_ | refine CallE.intro _ (fun _ => mFix _ ⟨vt, vr⟩ h.2) ?_ | refine CallE.intro _ (fun _ => SCall.arg (by repeat (first | exact trivial | exact .inl (.inl rfl) | exact .inl (.inr ⟨_, rfl, rfl⟩) | exact .inl rfl | exact .inr ⟨_, rfl, rfl⟩ | refine .inr ⟨_, _, rfl, rfl, ?_⟩ | refine ⟨?_, ?_⟩)) (mFix _ ⟨vt, vr⟩ h.2)) ?_ | refine CallE2.intro _ _ (mFix _ ⟨vt, vr⟩ h.2) ?_ | refine CallE2.intro _ _ (SCall.arg (by repeat (first | exact trivial | exact .inl (.inl rfl) | exact .inl (.inr ⟨_, rfl, rfl⟩) | exact .inl rfl | exact .inr ⟨_, rfl, rfl⟩ | refine .inr ⟨_, _, rfl, rfl, ?_⟩ | refine ⟨?_, ?_⟩)) (mFix _ ⟨vt, vr⟩ h.2)) ?_)
  (repeat (first | simp -dsimp only [zrAttrs11, strV, RB, TB, keep132, tab132, xindexAddr, xindex, xslice, xconvert, xlen, ewOp, FreeW, StabW, SameW, ChangeW, AddW, limBytes, simprocAttr, ne_eq] | ((with_reducible refine Need.intro ?_ ?_); (first | trivial | exact ⟨_, rfl⟩ | omega | (simp; done) | (simp; omega) | exact ⟨by first | trivial | (simp; done), _, by first | rfl | (simp; rfl)⟩))))
  refine RetW.auto0 false _ (by first | rfl | exact (List.append_nil _).symm) ?_ ?_
  · (simp (maxDischargeDepth := 6) [LTB, HLt_set, ltL_take, ltL_drop, ltL_rep, ltL_set, upd, eset, hH, hHk, zlAttrs11] <;> omega)
  (try simp only [wk, wk1, wk0, RB, limBytes, simprocAttr, ne_eq])
  (try (rw [List.take_of_length_le]; rotate_left 1; (· first | (simp; done) | (simp; omega) | omega)))
  rfl
end Go.Proofs.Ytjhjcldpcngldaa

/- The walks of package attrs: Drop, Once, alike, Changes, Same. -/
import Derived.Test.YtjplgbalpnlanaaAttrs2
set_option maxHeartbeats 600000
set_option linter.unusedSimpArgs false
set_option linter.unusedVariables false
set_option maxRecDepth 100000
namespace Go.Proofs.Ytjplgbalpnlanaa
open Go Go.EL
theorem zrAttrs31 : type_of% (And.intro (And.intro (And.intro (And.intro (@st_run) (@sz_run)) (And.intro (@st1_run) (@cl_run))) (And.intro (And.intro (@st_Str) (@sz_Str)) (And.intro (@st1_Str) (@cl_Str)))) (And.intro (And.intro (And.intro (@st_c) (@sz_c)) (And.intro (@st1_c) (@cl_c))) (And.intro (And.intro (@st_attr) (@sz_attr)) (And.intro (@st1_attr) (@cl_attr))))) := And.intro (And.intro (And.intro (And.intro (@st_run) (@sz_run)) (And.intro (@st1_run) (@cl_run))) (And.intro (And.intro (@st_Str) (@sz_Str)) (And.intro (@st1_Str) (@cl_Str)))) (And.intro (And.intro (And.intro (@st_c) (@sz_c)) (And.intro (@st1_c) (@cl_c))) (And.intro (And.intro (@st_attr) (@sz_attr)) (And.intro (@st1_attr) (@cl_attr))))
theorem zlAttrs31 : type_of% (And.intro (And.intro (And.intro (And.intro (@lt_vi) (@lt_str)) (And.intro (@lt_vb) (@ltc_str))) (And.intro (And.intro (@ltc_vi) (@lt_run)) (And.intro (@lt1_run) (@ltc_run)))) (And.intro (And.intro (And.intro (@lt_Str) (@lt1_Str)) (And.intro (@ltc_Str) (@lt_c))) (And.intro (And.intro (@lt1_c) (@ltc_c)) (And.intro (@lt_attr) (And.intro (@lt1_attr) (@ltc_attr)))))) := And.intro (And.intro (And.intro (And.intro (@lt_vi) (@lt_str)) (And.intro (@lt_vb) (@ltc_str))) (And.intro (And.intro (@ltc_vi) (@lt_run)) (And.intro (@lt1_run) (@ltc_run)))) (And.intro (And.intro (And.intro (@lt_Str) (@lt1_Str)) (And.intro (@ltc_Str) (@lt_c))) (And.intro (And.intro (@lt1_c) (@ltc_c)) (And.intro (@lt_attr) (And.intro (@lt1_attr) (@ltc_attr)))))
theorem deleteFunc_attr (H : List Ob) (l : List (Attr)) (k : FuncId) (fi ca : List V) (p : Attr → Bool) (hlf : ltL H.length fi ∧ ltL H.length ca) (o ver n : Nat) (hf : ∀ x ∈ l, ∀ (L : List (Attr)) (E : List Ob), SCall Try.prog k (fi ++ attrV x :: ca) (H.set o (.vec ver 4 (L.map attrV)) ++ E) (fun r H' => r = .bool (p x) ∧ H' = H.set o (.vec ver 4 (L.map attrV)) ++ E)) (ho : H[o]? = some (.vec ver 4 (l.map attrV))) (hn : n = l.length) (hb : l.length ≤ 1000000000) :
    SCall Try.prog 181 [.vec o ver 0 n, .fn (.func k) fi ca] H (fun r H' => r = .vec o ver 0 (l.filter fun x => !p x).length ∧ H' = H.set o (.vec ver 4 ((l.filter fun x => !p x).map attrV ++ List.replicate (l.length - (l.filter fun x => !p x).length) (.agg [.str [], .fslice [], .str [], .fslice []])))) := by
  subst hn
  have holt := lt_of_get ho
  have hlf1 := hlf.1
  have hlf2 := hlf.2
  have hll : ltL H.length (l.map attrV) := lt_attr _ _
  refine SCall.of_good fun hH => ?_
  have hHk := HLt.add hH
  refine SCall.of_code Tok Try.func181 rfl Try.call181 (n := 42) rfl (by simp) (rs := [.tmp 4]) rfl ?_
  refine EWn.to ?_
  refine EWn.of_c Tok mixed (own := false) keep181 tab181 (by kernel_rfl) ?_
  (repeat (first | simp -dsimp only [zrAttrs31, RB, TB, keep181, tab181, xindexAddr, xindex, xslice, xconvert, xlen, ewOp, FreeW, StabW, SameW, ChangeW, AddW, BaseW, limBytes, simprocAttr, ne_eq] | ((with_reducible refine Need.intro ?_ ?_); (first | trivial | exact ⟨_, rfl⟩ | exact ⟨[], (List.append_nil _).symm⟩ | omega | (simp; done) | (simp; omega) | exact ⟨by first | trivial | (simp; done), _, by first | rfl | (simp; rfl)⟩))))
  have hf0 : ∀ x ∈ l, SCall Try.prog k (fi ++ attrV x :: ca) H (fun r H' => r = .bool (p x) ∧ H' = H) := fun x hx => by have := hf x hx l []; rwa [set_same ho, List.append_nil] at this
  (first | refine SCall.then (indexFunc_attr_vec _ l k fi ca p hf0 hlf _ _ _ ho rfl (by omega)) ?_ | refine SCall.thenA (indexFunc_attr_vec _ l k fi ca p hf0 hlf _ _ _ ho rfl (by omega)) (by repeat (first | exact trivial | exact .inl (.inl rfl) | exact .inl (.inr ⟨_, rfl, rfl⟩) | exact .inl rfl | exact .inr ⟨_, rfl, rfl⟩ | refine .inr ⟨_, _, rfl, rfl, ?_⟩ | refine ⟨?_, ?_⟩)) ?_ | refine CallE.intro _ (indexFunc_attr_vec _ l k fi ca p hf0 hlf _ _ _ ho rfl (by omega)) ?_ | refine CallE.introA (indexFunc_attr_vec _ l k fi ca p hf0 hlf _ _ _ ho rfl (by omega)) (by repeat (first | exact trivial | exact .inl (.inl rfl) | exact .inl (.inr ⟨_, rfl, rfl⟩) | exact .inl rfl | exact .inr ⟨_, rfl, rfl⟩ | refine .inr ⟨_, _, rfl, rfl, ?_⟩ | refine ⟨?_, ?_⟩)) ?_ | refine CallE.intro _ (fun _ => indexFunc_attr_vec _ l k fi ca p hf0 hlf _ _ _ ho rfl (by omega)) ?_ | refine CallE.intro _ (fun _ => SCall.arg (by repeat (first | exact trivial | exact .inl (.inl rfl) | exact .inl (.inr ⟨_, rfl, rfl⟩) | exact .inl rfl | exact .inr ⟨_, rfl, rfl⟩ | refine .inr ⟨_, _, rfl, rfl, ?_⟩ | refine ⟨?_, ?_⟩)) (indexFunc_attr_vec _ l k fi ca p hf0 hlf _ _ _ ho rfl (by omega))) ?_ | refine CallE2.intro _ _ (indexFunc_attr_vec _ l k fi ca p hf0 hlf _ _ _ ho rfl (by omega)) ?_ | refine CallE2.intro _ _ (SCall.arg (by repeat (first | exact trivial | exact .inl (.inl rfl) | exact .inl (.inr ⟨_, rfl, rfl⟩) | exact .inl rfl | exact .inr ⟨_, rfl, rfl⟩ | refine .inr ⟨_, _, rfl, rfl, ?_⟩ | refine ⟨?_, ?_⟩)) (indexFunc_attr_vec _ l k fi ca p hf0 hlf _ _ _ ho rfl (by omega))) ?_)
  (repeat (first | simp -dsimp only [zrAttrs31, RB, TB, keep181, tab181, xindexAddr, xindex, xslice, xconvert, xlen, ewOp, FreeW, StabW, SameW, ChangeW, AddW, BaseW, limBytes, simprocAttr, ne_eq] | ((with_reducible refine Need.intro ?_ ?_); (first | trivial | exact ⟨_, rfl⟩ | exact ⟨[], (List.append_nil _).symm⟩ | omega | (simp; done) | (simp; omega) | exact ⟨by first | trivial | (simp; done), _, by first | rfl | (simp; rfl)⟩))))
  by_cases hany : ∃ x ∈ l, p x = true
  · obtain ⟨i0, hi0, hp0, hno⟩ : ∃ i0, ∃ h : i0 < l.length, p l[i0] = true ∧ ∀ x ∈ l.take i0, p x = false := by
      have hlt := List.findIdx_lt_length.2 hany
      refine ⟨l.findIdx p, hlt, List.findIdx_getElem, fun x hx => ?_⟩
      obtain ⟨j, hj, rfl⟩ := List.mem_take_iff_getElem.1 hx
      have := List.not_of_lt_findIdx (p := p) (xs := l) (i := j) (by omega)
      simpa using this
    have hix := ix_hit hi0 hp0 hno
    rw [hix]
    have hne : ((i0 : Int) == -1) = false := by simp
    (repeat (first | simp -dsimp only [zrAttrs31, hne, RB, TB, keep181, tab181, xindexAddr, xindex, xslice, xconvert, xlen, ewOp, FreeW, StabW, SameW, ChangeW, AddW, BaseW, limBytes, simprocAttr, ne_eq] | ((with_reducible refine Need.intro ?_ ?_); (first | trivial | exact ⟨_, rfl⟩ | exact ⟨[], (List.append_nil _).symm⟩ | omega | (simp; done) | (simp; omega) | exact ⟨by first | trivial | (simp; done), _, by first | rfl | (simp; rfl)⟩))))
    rw [wrapI (by omega)]
    refine EWn.loopE (ι := (Nat) × (Nat) × (List (Attr))) (fun (x_ : (Nat) × (Nat) × (List (Attr))) => match x_ with | (i, j, L) => i < j ∧ j ≤ l.length ∧ L.length = l.length ∧ L.take i = (l.take j).filter (fun x => !p x) ∧ L.drop j = l.drop j) (fun (x_ : (Nat) × (Nat) × (List (Attr))) => match x_ with | (i, j, L) => l.length - j) (fun (x_ : (Nat) × (Nat) × (List (Attr))) => match x_ with | (i, j, L) => [(5, .int .i64 i), (6, .int .i64 j)]) (fun (x_ : (Nat) × (Nat) × (List (Attr))) => match x_ with | (i, j, L) => H.set o (.vec ver 4 (L.map attrV))) (i0, i0 + 1, l) ?_ ?_ ?_ ?_ ?_
    · first | rfl | simp [upd, eset]
    · first | rfl | (simp; done) | exact (set_same (by assumption)).symm
    · rintro ⟨i, j, L⟩ hok; exact ⟨by first | (simp; done) | (simp; omega), by (simp (maxDischargeDepth := 6) [LTB, HLt_set, ltL_take, ltL_drop, ltL_rep, ltL_set, upd, eset, hH, hHk, hlf1, hlf2, hll, holt, zlAttrs31] <;> omega), by (simp (maxDischargeDepth := 6) [LTB, HLt_set, ltL_take, ltL_drop, ltL_rep, ltL_set, upd, eset, hH, hHk, hlf1, hlf2, hll, holt, zlAttrs31] <;> omega)⟩
    · refine ⟨by omega, by omega, rfl, ?_, rfl⟩
      rw [List.take_succ_eq_append_getElem hi0, List.filter_append, List.filter_eq_self.2 (fun x hx => by simp [hno x hx])]
      simp [hp0]
    rintro ⟨i, j, L⟩ ⟨hij, hj, hL, ht, hd⟩
    refine EWn.of_c Tok mixed (own := false) keep181 tab181 (by kernel_rfl) ?_
    (repeat (first | simp -dsimp only [zrAttrs31, List.getElem?_set_self holt, List.set_set, getset holt, setset holt, RB, TB, keep181, tab181, xindexAddr, xindex, xslice, xconvert, xlen, ewOp, FreeW, StabW, SameW, ChangeW, AddW, BaseW, limBytes, simprocAttr, ne_eq] | ((with_reducible refine Need.intro ?_ ?_); (first | trivial | exact ⟨_, rfl⟩ | exact ⟨[], (List.append_nil _).symm⟩ | omega | (simp; done) | (simp; omega) | exact ⟨by first | trivial | (simp; done), _, by first | rfl | (simp; rfl)⟩))))
    refine IfW.intro (fun h => ?_) (fun h => ?_)
    · have hlt := lt_of h
      have hLj : L[j]'(by omega) = l[j] := by
        have := congrArg (fun x => x[0]?) hd
        simp only [List.getElem?_drop, Nat.add_zero] at this
        rw [List.getElem?_eq_getElem (by omega), List.getElem?_eq_getElem hlt] at this
        injection this
      (repeat (first | simp -dsimp only [zrAttrs31, h, List.getElem?_set_self holt, List.set_set, getset holt, setset holt, at_map attrV L j (by omega), attrV, hLj, RB, TB, keep181, tab181, xindexAddr, xindex, xslice, xconvert, xlen, ewOp, FreeW, StabW, SameW, ChangeW, AddW, BaseW, limBytes, simprocAttr, ne_eq] | ((with_reducible refine Need.intro ?_ ?_); (first | trivial | exact ⟨_, rfl⟩ | exact ⟨[], (List.append_nil _).symm⟩ | omega | (simp; done) | (simp; omega) | exact ⟨by first | trivial | (simp; done), _, by first | rfl | (simp; rfl)⟩))))
      first | refine SCall.then (hf l[j] (List.getElem_mem hlt) L []) ?_ | (refine SCall.congr (H' := H.set o (.vec ver 4 (L.map attrV)) ++ []) rfl (List.append_nil _).symm ▸ ?_; refine SCall.then (hf l[j] (List.getElem_mem hlt) L []) ?_) | refine SCall.then (hf l[j] (List.getElem_mem hlt) L _) ?_
      (repeat (first | simp -dsimp only [zrAttrs31, RB, TB, keep181, tab181, xindexAddr, xindex, xslice, xconvert, xlen, ewOp, FreeW, StabW, SameW, ChangeW, AddW, BaseW, limBytes, simprocAttr, ne_eq] | ((with_reducible refine Need.intro ?_ ?_); (first | trivial | exact ⟨_, rfl⟩ | exact ⟨[], (List.append_nil _).symm⟩ | omega | (simp; done) | (simp; omega) | exact ⟨by first | trivial | (simp; done), _, by first | rfl | (simp; rfl)⟩))))
      have htk : l.take (j + 1) = l.take j ++ [l[j]] := List.take_succ_eq_append_getElem hlt
      have hdk : L.drop (j + 1) = l.drop (j + 1) := by rw [← List.drop_drop, hd, List.drop_drop]
      refine IfW.intro (fun hb => ?_) (fun hb => ?_)
      · (repeat (first | simp -dsimp only [zrAttrs31, hb, RB, TB, keep181, tab181, xindexAddr, xindex, xslice, xconvert, xlen, ewOp, FreeW, StabW, SameW, ChangeW, AddW, BaseW, limBytes, simprocAttr, ne_eq] | ((with_reducible refine Need.intro ?_ ?_); (first | trivial | exact ⟨_, rfl⟩ | exact ⟨[], (List.append_nil _).symm⟩ | omega | (simp; done) | (simp; omega) | exact ⟨by first | trivial | (simp; done), _, by first | rfl | (simp; rfl)⟩))))
        rw [wrapI (by omega)]
        refine UpTo.here ⟨(i, j + 1, L), ?_, by first | omega | (simp only [List.length_append, List.length_cons, List.length_nil]; omega), by simp [upd, eset], ⟨_, by simp; try rfl⟩⟩
        exact ⟨by omega, hlt, hL, by rw [ht, htk, List.filter_append]; simp [hb], hdk⟩
      · have hiL : i < L.length := by omega
        (repeat (first | simp -dsimp only [zrAttrs31, hb, List.getElem?_set_self holt, List.set_set, getset holt, setset holt, at_map attrV L i hiL, attrV, RB, TB, keep181, tab181, xindexAddr, xindex, xslice, xconvert, xlen, ewOp, FreeW, StabW, SameW, ChangeW, AddW, BaseW, limBytes, simprocAttr, ne_eq] | ((with_reducible refine Need.intro ?_ ?_); (first | trivial | exact ⟨_, rfl⟩ | exact ⟨[], (List.append_nil _).symm⟩ | omega | (simp; done) | (simp; omega) | exact ⟨by first | trivial | (simp; done), _, by first | rfl | (simp; rfl)⟩))))
        rw [wrapI (by omega), wrapI (by omega)]
        refine UpTo.here ⟨(i + 1, j + 1, L.set i l[j]), ?_, by first | omega | (simp only [List.length_append, List.length_cons, List.length_nil]; omega), by simp [upd, eset], ⟨_, by simp; try rfl⟩⟩
        refine ⟨by omega, hlt, by simp [hL], ?_, ?_⟩
        · rw [List.take_succ_eq_append_getElem (by simpa using hiL), htk, List.filter_append, List.getElem_set_self, List.take_set_of_le (Nat.le_refl _), ht]
          simp [hb]
        · rw [List.drop_set_of_lt (by omega), hdk]
    · (repeat (first | simp -dsimp only [zrAttrs31, h, List.getElem?_set_self holt, List.set_set, getset holt, setset holt, RB, TB, keep181, tab181, xindexAddr, xindex, xslice, xconvert, xlen, ewOp, FreeW, StabW, SameW, ChangeW, AddW, BaseW, limBytes, simprocAttr, ne_eq] | ((with_reducible refine Need.intro ?_ ?_); (first | trivial | exact ⟨_, rfl⟩ | exact ⟨[], (List.append_nil _).symm⟩ | omega | (simp; done) | (simp; omega) | exact ⟨by first | trivial | (simp; done), _, by first | rfl | (simp; rfl)⟩))))
      have hjl : j = l.length := Nat.le_antisymm hj (ge_of h)
      subst hjl
      rw [List.take_length] at ht
      have hfl : (l.filter fun x => !p x).length = i := by rw [← ht, List.length_take]; omega
      refine RetW.keep false (by simp) ?_ ?_ ?_
      · (simp (maxDischargeDepth := 6) [LTB, HLt_set, ltL_take, ltL_drop, ltL_rep, ltL_set, upd, eset, hH, hHk, hlf1, hlf2, hll, holt, zlAttrs31] <;> omega)
      · (simp (maxDischargeDepth := 6) [LTB, HLt_set, ltL_take, ltL_drop, ltL_rep, ltL_set, upd, eset, hH, hHk, hlf1, hlf2, hll, holt, zlAttrs31] <;> omega)
      rw [hfl]
      have hno2 : ¬ H.length ≤ o := by omega
      simp [wk, wk1, wk0, hno2, ← ht, List.map_take, List.drop_of_length_le (show L.length ≤ i + (l.length - i) by omega)]
  · have hix : ix p l = -1 := ix_none fun x hx => by cases h : p x with
      | false => rfl
      | true => exact absurd ⟨x, hx, h⟩ hany
    rw [hix]
    (repeat (first | simp -dsimp only [zrAttrs31, RB, TB, keep181, tab181, xindexAddr, xindex, xslice, xconvert, xlen, ewOp, FreeW, StabW, SameW, ChangeW, AddW, BaseW, limBytes, simprocAttr, ne_eq] | ((with_reducible refine Need.intro ?_ ?_); (first | trivial | exact ⟨_, rfl⟩ | exact ⟨[], (List.append_nil _).symm⟩ | omega | (simp; done) | (simp; omega) | exact ⟨by first | trivial | (simp; done), _, by first | rfl | (simp; rfl)⟩))))
    have hfe : (l.filter fun x => !p x) = l := List.filter_eq_self.2 fun x hx => by
      cases h : p x with
      | false => rfl
      | true => exact absurd ⟨x, hx, h⟩ hany
    refine RetW.keep false (Nat.le_refl _) hH ?_ ?_
    · (simp (maxDischargeDepth := 6) [LTB, HLt_set, ltL_take, ltL_drop, ltL_rep, ltL_set, upd, eset, hH, hHk, hlf1, hlf2, hll, holt, zlAttrs31] <;> omega)
    have : ¬ H.length ≤ o := by omega
    simp [wk, wk1, wk0, this, hfe, set_same ho]

theorem dropF (H : List Ob) (a : Attr) (o : Nat) (name : List UInt8) (ho : H[o]? = some (.var [.str name])) : SCall Try.prog 182 [attrV a, .ref o 0] H (fun r H' => r = .bool (a.name.text == name) ∧ H' = H) := by
  have holt := lt_of_get ho
  have hgl : ∀ L, (H ++ L)[o]? = some (.var [.str name]) := fun L => by rw [List.getElem?_append_left holt]; exact ho
  unfold attrV
  refine SCall.of_good fun hH => ?_
  have hHk := HLt.add hH
  refine SCall.of_code Tok Try.func182 rfl Try.call182 (n := 9) rfl (by simp) (rs := [.tmp 3]) rfl ?_
  refine EWn.to ?_
  refine EWn.of_c Tok mixed (own := false) keep182 tab182 (by kernel_rfl) ?_
  (repeat (first | simp -dsimp only [zrAttrs31, hgl, RB, TB, keep182, tab182, xindexAddr, xindex, xslice, xconvert, xlen, ewOp, FreeW, StabW, SameW, ChangeW, AddW, BaseW, limBytes, simprocAttr, ne_eq] | ((with_reducible refine Need.intro ?_ ?_); (first | trivial | exact ⟨_, rfl⟩ | exact ⟨[], (List.append_nil _).symm⟩ | omega | (simp; done) | (simp; omega) | exact ⟨by first | trivial | (simp; done), _, by first | rfl | (simp; rfl)⟩))))
  refine RetW.auto0 false _ (by first | rfl | exact (List.append_nil _).symm) ?_ ?_
  · (simp (maxDischargeDepth := 6) [LTB, HLt_set, ltL_take, ltL_drop, ltL_rep, ltL_set, upd, eset, hH, hHk, zlAttrs31] <;> omega)
  (try simp only [wk, wk1, wk0, RB, limBytes, simprocAttr, ne_eq])
  (try (rw [List.take_of_length_le]; rotate_left 1; (· first | (simp; done) | (simp; omega) | omega)))
def dropA (l : List Attr) (name : List UInt8) : List Attr := l.filter fun a => !(a.name.text == name)
theorem aDrop (H : List Ob) (l : List Attr) (name : List UInt8) (hl : ∀ a ∈ l, okA a) (hs : l.length ≤ 1000000000) : SCall Try.prog 172 [.slice (l.map attrV), .str name] H (fun r H' => r = .slice ((dropA (l.map ownA) name).map attrV) ∧ H' = H) := by
  refine SCall.of_good fun hH => ?_
  have hHk := HLt.add hH
  refine SCall.of_code Tok Try.func172 rfl Try.call172 (n := 9) rfl (by simp) (rs := [.tmp 4]) rfl ?_
  refine EWn.to ?_
  refine EWn.of_c Tok mixed (own := false) keep172 tab172 (by kernel_rfl) ?_
  (repeat (first | simp -dsimp only [zrAttrs31, RB, TB, keep172, tab172, xindexAddr, xindex, xslice, xconvert, xlen, ewOp, FreeW, StabW, SameW, ChangeW, AddW, BaseW, limBytes, simprocAttr, ne_eq] | ((with_reducible refine Need.intro ?_ ?_); (first | trivial | exact ⟨_, rfl⟩ | exact ⟨[], (List.append_nil _).symm⟩ | omega | (simp; done) | (simp; omega) | exact ⟨by first | trivial | (simp; done), _, by first | rfl | (simp; rfl)⟩))))
  (first | refine SCall.then (aAll _ l hl (by omega)) ?_ | refine SCall.thenA (aAll _ l hl (by omega)) (by repeat (first | exact trivial | exact .inl (.inl rfl) | exact .inl (.inr ⟨_, rfl, rfl⟩) | exact .inl rfl | exact .inr ⟨_, rfl, rfl⟩ | refine .inr ⟨_, _, rfl, rfl, ?_⟩ | refine ⟨?_, ?_⟩)) ?_ | refine CallE.intro _ (aAll _ l hl (by omega)) ?_ | refine CallE.introA (aAll _ l hl (by omega)) (by repeat (first | exact trivial | exact .inl (.inl rfl) | exact .inl (.inr ⟨_, rfl, rfl⟩) | exact .inl rfl | exact .inr ⟨_, rfl, rfl⟩ | refine .inr ⟨_, _, rfl, rfl, ?_⟩ | refine ⟨?_, ?_⟩)) ?_ | refine CallE.intro _ (fun _ => aAll _ l hl (by omega)) ?_ | refine CallE.intro _ (fun _ => SCall.arg (by repeat (first | exact trivial | exact .inl (.inl rfl) | exact .inl (.inr ⟨_, rfl, rfl⟩) | exact .inl rfl | exact .inr ⟨_, rfl, rfl⟩ | refine .inr ⟨_, _, rfl, rfl, ?_⟩ | refine ⟨?_, ?_⟩)) (aAll _ l hl (by omega))) ?_ | refine CallE2.intro _ _ (aAll _ l hl (by omega)) ?_ | refine CallE2.intro _ _ (SCall.arg (by repeat (first | exact trivial | exact .inl (.inl rfl) | exact .inl (.inr ⟨_, rfl, rfl⟩) | exact .inl rfl | exact .inr ⟨_, rfl, rfl⟩ | refine .inr ⟨_, _, rfl, rfl, ?_⟩ | refine ⟨?_, ?_⟩)) (aAll _ l hl (by omega))) ?_)
  (repeat (first | simp -dsimp only [zrAttrs31, RB, TB, keep172, tab172, xindexAddr, xindex, xslice, xconvert, xlen, ewOp, FreeW, StabW, SameW, ChangeW, AddW, BaseW, limBytes, simprocAttr, ne_eq] | ((with_reducible refine Need.intro ?_ ?_); (first | trivial | exact ⟨_, rfl⟩ | exact ⟨[], (List.append_nil _).symm⟩ | omega | (simp; done) | (simp; omega) | exact ⟨by first | trivial | (simp; done), _, by first | rfl | (simp; rfl)⟩))))
  refine SCall.then (deleteFunc_attr _ (l.map ownA) _ [] [.ref H.length 0] (fun a => a.name.text == name) ⟨trivial, by simp [ltL, V.lt]⟩ (H.length + 1) (1 + l.length) _ (fun x _ L E => dropF _ x H.length name (by simp)) (by simp) (by simp) (by simpa using hs)) ?_
  (repeat (first | simp -dsimp only [zrAttrs31, RB, TB, keep172, tab172, xindexAddr, xindex, xslice, xconvert, xlen, ewOp, FreeW, StabW, SameW, ChangeW, AddW, BaseW, limBytes, simprocAttr, ne_eq] | ((with_reducible refine Need.intro ?_ ?_); (first | trivial | exact ⟨_, rfl⟩ | exact ⟨[], (List.append_nil _).symm⟩ | omega | (simp; done) | (simp; omega) | exact ⟨by first | trivial | (simp; done), _, by first | rfl | (simp; rfl)⟩))))
  rw [show ((l.map ownA).filter fun x => !x.name.text == name) = dropA (l.map ownA) name from rfl]
  generalize dropA (l.map ownA) name = D
  refine RetW.auto0 false _ (by first | rfl | exact (List.append_nil _).symm) ?_ ?_
  · (simp (maxDischargeDepth := 6) [LTB, HLt_set, ltL_take, ltL_drop, ltL_rep, ltL_set, upd, eset, hH, hHk, zlAttrs31] <;> omega)
  (try simp only [wk, wk1, wk0, RB, limBytes, simprocAttr, ne_eq])
  (try (rw [List.take_of_length_le]; rotate_left 1; (· first | (simp; done) | (simp; omega) | omega)))
  rw [List.take_left' (by simp)]
  simp
def onceA : List Attr → List Attr → List Attr
  | [], acc => acc
  | a :: l, acc => onceA l (if placeA acc a.name.text < 0 then acc ++ [ownA a] else acc)
theorem onceA_append : ∀ (a b acc : List Attr), onceA (a ++ b) acc = onceA b (onceA a acc)
  | [], _, _ => rfl
  | x :: a, b, acc => by simp only [List.cons_append, onceA]; exact onceA_append a b _
theorem onceA_len : ∀ (l acc : List Attr), (onceA l acc).length ≤ l.length + acc.length
  | [], acc => by simp [onceA]
  | a :: l, acc => by
    simp only [onceA]
    split
    · have := onceA_len l (acc ++ [ownA a]); simp at this ⊢; omega
    · have := onceA_len l acc; simp; omega
theorem onceA_ok : ∀ (l acc : List Attr), (∀ a ∈ l, okA a) → (∀ a ∈ acc, okA a) → ∀ a ∈ onceA l acc, okA a
  | [], acc, _, h => h
  | x :: l, acc, hl, h => by
    simp only [onceA]
    split
    · refine onceA_ok l _ (fun a ha => hl a (by simp [ha])) fun a ha => ?_
      rcases List.mem_append.1 ha with ha | ha
      · exact h a ha
      · rw [List.mem_singleton.1 ha]; exact okA_own (hl x (by simp))
    · exact onceA_ok l _ (fun a ha => hl a (by simp [ha])) h
theorem aOnce (H : List Ob) (l : List Attr) (hl : ∀ a ∈ l, okA a) (hs : l.length ≤ 1000000000) : SCall Try.prog 94 [.slice (l.map attrV)] H (fun r H' => r = .slice ((onceA l []).map attrV) ∧ H' = H) := by
  refine SCall.of_good fun hH => ?_
  have hHk := HLt.add hH
  refine SCall.of_code Tok Try.func94 rfl Try.call94 (n := 25) rfl (by simp) (rs := [.tmp 2]) rfl ?_
  refine EWn.to ?_
  refine EWn.of_c Tok mixed (own := false) keep94 tab94 (by kernel_rfl) ?_
  (repeat (first | simp -dsimp only [zrAttrs31, RB, TB, keep94, tab94, xindexAddr, xindex, xslice, xconvert, xlen, ewOp, FreeW, StabW, SameW, ChangeW, AddW, BaseW, limBytes, simprocAttr, ne_eq] | ((with_reducible refine Need.intro ?_ ?_); (first | trivial | exact ⟨_, rfl⟩ | exact ⟨[], (List.append_nil _).symm⟩ | omega | (simp; done) | (simp; omega) | exact ⟨by first | trivial | (simp; done), _, by first | rfl | (simp; rfl)⟩))))
  refine EWn.ghost (Gho.adopt 3 4 rfl) ?_
  refine EWn.loopE (ι := (Nat) × (Nat)) (fun (x_ : (Nat) × (Nat)) => match x_ with | (i, ver) => i ≤ l.length) (fun (x_ : (Nat) × (Nat)) => match x_ with | (i, ver) => l.length - i) (fun (x_ : (Nat) × (Nat)) => match x_ with | (i, ver) => [(3, .vec H.length ver 0 (onceA (l.take i) []).length), (8, .int .i64 i)]) (fun (x_ : (Nat) × (Nat)) => match x_ with | (i, ver) => H ++ [.vec ver 4 ((onceA (l.take i) []).map attrV)]) (0, 1) ?_ ?_ ?_ ?_ ?_
  · first | rfl | (simp [upd, eset]; done) | (simp [upd, eset, onceA]; done)
  · simp [onceA]
  · rintro ⟨i, ver⟩ hok; exact ⟨by first | (simp; done) | (simp; omega), by (simp (maxDischargeDepth := 6) [LTB, HLt_set, ltL_take, ltL_drop, ltL_rep, ltL_set, upd, eset, hH, hHk, zlAttrs31] <;> omega), by (simp (maxDischargeDepth := 6) [LTB, HLt_set, ltL_take, ltL_drop, ltL_rep, ltL_set, upd, eset, hH, hHk, zlAttrs31] <;> omega)⟩
  · omega
  rintro ⟨i, ver⟩ hi
  have hol := onceA_len (l.take i) []
  refine EWn.of_c Tok mixed (own := false) keep94 tab94 (by kernel_rfl) ?_
  (repeat (first | simp -dsimp only [zrAttrs31, RB, TB, keep94, tab94, xindexAddr, xindex, xslice, xconvert, xlen, ewOp, FreeW, StabW, SameW, ChangeW, AddW, BaseW, limBytes, simprocAttr, ne_eq] | ((with_reducible refine Need.intro ?_ ?_); (first | trivial | exact ⟨_, rfl⟩ | exact ⟨[], (List.append_nil _).symm⟩ | omega | (simp; done) | (simp; omega) | exact ⟨by first | trivial | (simp; done), _, by first | rfl | (simp; rfl)⟩))))
  refine IfW.intro (fun h => ?_) (fun h => ?_)
  · have hlt := lt_of h
    have hsucc : onceA (l.take (i + 1)) [] = if placeA (onceA (l.take i) []) l[i].name.text < 0 then onceA (l.take i) [] ++ [ownA l[i]] else onceA (l.take i) [] := by
      rw [List.take_succ_eq_append_getElem hlt, onceA_append]; rfl
    simp only [List.length_take, List.length_nil] at hol
    generalize onceA (l.take i) [] = acc at *
    (repeat (first | simp -dsimp only [zrAttrs31, h, at_map attrV l i hlt, attrV, RB, TB, keep94, tab94, xindexAddr, xindex, xslice, xconvert, xlen, ewOp, FreeW, StabW, SameW, ChangeW, AddW, BaseW, limBytes, simprocAttr, ne_eq] | ((with_reducible refine Need.intro ?_ ?_); (first | trivial | exact ⟨_, rfl⟩ | exact ⟨[], (List.append_nil _).symm⟩ | omega | (simp; done) | (simp; omega) | exact ⟨by first | trivial | (simp; done), _, by first | rfl | (simp; rfl)⟩))))
    refine SCall.then (aPlaceB _ acc l[i].name.text _ (Bo.vec (l := acc.map attrV) (by simp; rfl) (by simp) (lt_attr 0 _))) ?_
    (repeat (first | simp -dsimp only [zrAttrs31, RB, TB, keep94, tab94, xindexAddr, xindex, xslice, xconvert, xlen, ewOp, FreeW, StabW, SameW, ChangeW, AddW, BaseW, limBytes, simprocAttr, ne_eq] | ((with_reducible refine Need.intro ?_ ?_); (first | trivial | exact ⟨_, rfl⟩ | exact ⟨[], (List.append_nil _).symm⟩ | omega | (simp; done) | (simp; omega) | exact ⟨by first | trivial | (simp; done), _, by first | rfl | (simp; rfl)⟩))))
    refine IfW.intro (fun hb => ?_) (fun hb => ?_)
    · have hb1 := of_decide_eq_true hb
      rw [if_pos hb1] at hsucc
      (repeat (first | simp -dsimp only [zrAttrs31, hb, RB, TB, keep94, tab94, xindexAddr, xindex, xslice, xconvert, xlen, ewOp, FreeW, StabW, SameW, ChangeW, AddW, BaseW, limBytes, simprocAttr, ne_eq] | ((with_reducible refine Need.intro ?_ ?_); (first | trivial | exact ⟨_, rfl⟩ | exact ⟨[], (List.append_nil _).symm⟩ | omega | (simp; done) | (simp; omega) | exact ⟨by first | trivial | (simp; done), _, by first | rfl | (simp; rfl)⟩))))
      (first | refine SCall.then (aOwn _ l[i] (hl _ (List.getElem_mem hlt))) ?_ | refine SCall.thenA (aOwn _ l[i] (hl _ (List.getElem_mem hlt))) (by repeat (first | exact trivial | exact .inl (.inl rfl) | exact .inl (.inr ⟨_, rfl, rfl⟩) | exact .inl rfl | exact .inr ⟨_, rfl, rfl⟩ | refine .inr ⟨_, _, rfl, rfl, ?_⟩ | refine ⟨?_, ?_⟩)) ?_ | refine CallE.intro _ (aOwn _ l[i] (hl _ (List.getElem_mem hlt))) ?_ | refine CallE.introA (aOwn _ l[i] (hl _ (List.getElem_mem hlt))) (by repeat (first | exact trivial | exact .inl (.inl rfl) | exact .inl (.inr ⟨_, rfl, rfl⟩) | exact .inl rfl | exact .inr ⟨_, rfl, rfl⟩ | refine .inr ⟨_, _, rfl, rfl, ?_⟩ | refine ⟨?_, ?_⟩)) ?_ | refine CallE.intro _ (fun _ => aOwn _ l[i] (hl _ (List.getElem_mem hlt))) ?_ | refine CallE.intro _ (fun _ => SCall.arg (by repeat (first | exact trivial | exact .inl (.inl rfl) | exact .inl (.inr ⟨_, rfl, rfl⟩) | exact .inl rfl | exact .inr ⟨_, rfl, rfl⟩ | refine .inr ⟨_, _, rfl, rfl, ?_⟩ | refine ⟨?_, ?_⟩)) (aOwn _ l[i] (hl _ (List.getElem_mem hlt)))) ?_ | refine CallE2.intro _ _ (aOwn _ l[i] (hl _ (List.getElem_mem hlt))) ?_ | refine CallE2.intro _ _ (SCall.arg (by repeat (first | exact trivial | exact .inl (.inl rfl) | exact .inl (.inr ⟨_, rfl, rfl⟩) | exact .inl rfl | exact .inr ⟨_, rfl, rfl⟩ | refine .inr ⟨_, _, rfl, rfl, ?_⟩ | refine ⟨?_, ?_⟩)) (aOwn _ l[i] (hl _ (List.getElem_mem hlt)))) ?_)
      (repeat (first | simp -dsimp only [zrAttrs31, RB, TB, keep94, tab94, xindexAddr, xindex, xslice, xconvert, xlen, ewOp, FreeW, StabW, SameW, ChangeW, AddW, BaseW, limBytes, simprocAttr, ne_eq] | ((with_reducible refine Need.intro ?_ ?_); (first | trivial | exact ⟨_, rfl⟩ | exact ⟨[], (List.append_nil _).symm⟩ | omega | (simp; done) | (simp; omega) | exact ⟨by first | trivial | (simp; done), _, by first | rfl | (simp; rfl)⟩))))
      rw [wrapI (by omega)]
      refine UpTo.here ⟨(i + 1, ver + 1), hlt, by simp only; omega, by simp only [hsucc]; simp [upd, eset], ⟨_, by simp only [hsucc]; simp; rfl⟩⟩
    · have hb1 := of_decide_eq_false hb
      rw [if_neg hb1] at hsucc
      (repeat (first | simp -dsimp only [zrAttrs31, hb, RB, TB, keep94, tab94, xindexAddr, xindex, xslice, xconvert, xlen, ewOp, FreeW, StabW, SameW, ChangeW, AddW, BaseW, limBytes, simprocAttr, ne_eq] | ((with_reducible refine Need.intro ?_ ?_); (first | trivial | exact ⟨_, rfl⟩ | exact ⟨[], (List.append_nil _).symm⟩ | omega | (simp; done) | (simp; omega) | exact ⟨by first | trivial | (simp; done), _, by first | rfl | (simp; rfl)⟩))))
      rw [wrapI (by omega)]
      refine UpTo.here ⟨(i + 1, ver), hlt, by simp only; omega, by simp only [hsucc]; simp [upd, eset], ⟨_, by simp only [hsucc]; simp; rfl⟩⟩
  · (repeat (first | simp -dsimp only [zrAttrs31, h, RB, TB, keep94, tab94, xindexAddr, xindex, xslice, xconvert, xlen, ewOp, FreeW, StabW, SameW, ChangeW, AddW, BaseW, limBytes, simprocAttr, ne_eq] | ((with_reducible refine Need.intro ?_ ?_); (first | trivial | exact ⟨_, rfl⟩ | exact ⟨[], (List.append_nil _).symm⟩ | omega | (simp; done) | (simp; omega) | exact ⟨by first | trivial | (simp; done), _, by first | rfl | (simp; rfl)⟩))))
    have hi2 : i = l.length := Nat.le_antisymm hi (ge_of h)
    subst hi2
    rw [List.take_length]
    refine RetW.auto0 false _ (by first | rfl | exact (List.append_nil _).symm) ?_ ?_
    · (simp (maxDischargeDepth := 6) [LTB, HLt_set, ltL_take, ltL_drop, ltL_rep, ltL_set, upd, eset, hH, hHk, zlAttrs31] <;> omega)
    (try simp only [wk, wk1, wk0, RB, limBytes, simprocAttr, ne_eq])
    (try (rw [List.take_of_length_le]; rotate_left 1; (· first | (simp; done) | (simp; omega) | omega)))
def alikeA (a b : Attr) : Bool := decide (Like a.name b.name) && decide (Like a.value b.value)
def needP (a : List Attr) (x : Attr) : Bool := match a.find? (fun y => y.name.text == x.name.text) with
  | none => true
  | some y => !alikeA y x
def changesA (a b : List Attr) : List Attr × List (List UInt8) :=
  ((onceA b []).filter (needP (onceA a [])), ((onceA a []).filter fun x => decide (placeA (onceA b []) x.name.text < 0)).map fun x => x.name.text)
end Go.Proofs.Ytjplgbalpnlanaa

/- FocusRound, where what it reads is of bulk at most 1048576: the law returns true and the arguments read as they did. -/
import Derived.Test.YtjplgbalpnlanaaG4
import Derived.Test.YtjplgbalpnlanaaG5
import Derived.Test.YtjplgbalpnlanaaRows
import Derived.ProofKit
import Derived.JoinedCond
/- The walks of package attrs: place, all, Get, Put, Drop, Once, alike, Changes, Same. -/
set_option maxHeartbeats 600000
set_option linter.unusedSimpArgs false
set_option linter.unusedVariables false
set_option maxRecDepth 100000
namespace Go.Proofs.Ytjplgbalpnlanaa
open Go Go.EL
theorem zrAttrs21 : type_of% (And.intro (And.intro (And.intro (And.intro (@st_run) (@sz_run)) (And.intro (@st1_run) (@cl_run))) (And.intro (And.intro (@st_Str) (@sz_Str)) (And.intro (@st1_Str) (@cl_Str)))) (And.intro (And.intro (And.intro (@st_c) (@sz_c)) (And.intro (@st1_c) (@cl_c))) (And.intro (And.intro (@st_attr) (@sz_attr)) (And.intro (@st1_attr) (@cl_attr))))) := And.intro (And.intro (And.intro (And.intro (@st_run) (@sz_run)) (And.intro (@st1_run) (@cl_run))) (And.intro (And.intro (@st_Str) (@sz_Str)) (And.intro (@st1_Str) (@cl_Str)))) (And.intro (And.intro (And.intro (@st_c) (@sz_c)) (And.intro (@st1_c) (@cl_c))) (And.intro (And.intro (@st_attr) (@sz_attr)) (And.intro (@st1_attr) (@cl_attr))))
theorem zlAttrs21 : type_of% (And.intro (And.intro (And.intro (And.intro (@lt_vi) (@lt_str)) (And.intro (@lt_vb) (@ltc_str))) (And.intro (And.intro (@ltc_vi) (@lt_run)) (And.intro (@lt1_run) (@ltc_run)))) (And.intro (And.intro (And.intro (@lt_Str) (@lt1_Str)) (And.intro (@ltc_Str) (@lt_c))) (And.intro (And.intro (@lt1_c) (@ltc_c)) (And.intro (@lt_attr) (And.intro (@lt1_attr) (@ltc_attr)))))) := And.intro (And.intro (And.intro (And.intro (@lt_vi) (@lt_str)) (And.intro (@lt_vb) (@ltc_str))) (And.intro (And.intro (@ltc_vi) (@lt_run)) (And.intro (@lt1_run) (@ltc_run)))) (And.intro (And.intro (And.intro (@lt_Str) (@lt1_Str)) (And.intro (@ltc_Str) (@lt_c))) (And.intro (And.intro (@lt1_c) (@ltc_c)) (And.intro (@lt_attr) (And.intro (@lt1_attr) (@ltc_attr)))))
theorem indexFunc_attr (H : List Ob) (l : List (Attr)) (k : FuncId) (fi ca : List V) (p : Attr → Bool) (hf : ∀ x ∈ l, SCall Try.prog k (fi ++ attrV x :: ca) H (fun r H' => r = .bool (p x) ∧ H' = H)) (hlf : ltL H.length fi ∧ ltL H.length ca) : SCall Try.prog 175 [.slice (l.map attrV), .fn (.func k) fi ca] H (fun r H' => r = .int .i64 (ix p l) ∧ H' = H) := by
  obtain ⟨hl1, hl2⟩ := hlf
  refine SCall.sized 0 rfl fun hl => ?_
  rw [List.length_map, maxLen_eq] at hl
  refine SCall.of_good fun hH => ?_
  have hHk := HLt.add hH
  refine SCall.of_code Tok Try.func175 rfl Try.call175 (n := 19) rfl (by simp) (rs := [.tmp 4]) rfl ?_
  refine EWn.to ?_
  refine EWn.of_c Tok mixed (own := false) keep175 tab175 (by kernel_rfl) ?_
  (repeat simp -dsimp only [zrAttrs21, RB, TB, keep175, tab175, xindexAddr, xindex, xslice, xconvert, xlen, ewOp, FreeW, StabW, SameW, ChangeW, AddW, BaseW, limBytes, simprocAttr, ne_eq])
  refine EWn.loopE (ι := (Nat)) (fun (i : (Nat)) => i ≤ l.length ∧ ∀ x ∈ l.take i, p x = false) (fun (i : (Nat)) => l.length - i) (fun (i : (Nat)) => [(8, .int .i64 i)]) (fun (i : (Nat)) => H) (0) ?_ ?_ ?_ ?_ ?_
  · first | rfl | simp [upd, eset]
  · first | rfl | (simp; done) | exact (set_same (by assumption)).symm
  · rintro i hok; exact ⟨by first | (simp; done) | (simp; omega), by (simp (maxDischargeDepth := 6) [LTB, HLt_set, ltL_take, ltL_drop, ltL_rep, ltL_set, upd, eset, hH, hHk, hl1, hl2, zlAttrs21] <;> omega), by (simp (maxDischargeDepth := 6) [LTB, HLt_set, ltL_take, ltL_drop, ltL_rep, ltL_set, upd, eset, hH, hHk, hl1, hl2, zlAttrs21] <;> omega)⟩
  · simp
  rintro i ⟨hi, hno⟩
  refine EWn.of_c Tok mixed (own := false) keep175 tab175 (by kernel_rfl) ?_
  (repeat simp -dsimp only [zrAttrs21, RB, TB, keep175, tab175, xindexAddr, xindex, xslice, xconvert, xlen, ewOp, FreeW, StabW, SameW, ChangeW, AddW, BaseW, limBytes, simprocAttr, ne_eq])
  refine IfW.intro (fun h => ?_) (fun h => ?_)
  · have hlt := lt_of h
    (repeat (first | simp -dsimp only [zrAttrs21, h, at_map attrV l i hlt, attrV, RB, TB, keep175, tab175, xindexAddr, xindex, xslice, xconvert, xlen, ewOp, FreeW, StabW, SameW, ChangeW, AddW, BaseW, limBytes, simprocAttr, ne_eq] | ((with_reducible refine Need.intro ?_ ?_); (omega))))
    refine SCall.then (hf l[i] (List.getElem_mem hlt)) ?_
    (repeat simp -dsimp only [zrAttrs21, RB, TB, keep175, tab175, xindexAddr, xindex, xslice, xconvert, xlen, ewOp, FreeW, StabW, SameW, ChangeW, AddW, BaseW, limBytes, simprocAttr, ne_eq])
    refine IfW.intro (fun hb => ?_) (fun hb => ?_)
    · (repeat simp -dsimp only [zrAttrs21, hb, RB, TB, keep175, tab175, xindexAddr, xindex, xslice, xconvert, xlen, ewOp, FreeW, StabW, SameW, ChangeW, AddW, BaseW, limBytes, simprocAttr, ne_eq])
      refine RetW.auto0 false _ (by first | rfl | exact (List.append_nil _).symm) ?_ ?_
      · (simp (maxDischargeDepth := 6) [LTB, HLt_set, ltL_take, ltL_drop, ltL_rep, ltL_set, upd, eset, hH, hHk, hl1, hl2, zlAttrs21] <;> omega)
      (try simp only [wk, wk1, wk0, RB, limBytes, simprocAttr, ne_eq])
      skip
      rw [ix_hit hlt hb hno]
    · (repeat simp -dsimp only [zrAttrs21, hb, RB, TB, keep175, tab175, xindexAddr, xindex, xslice, xconvert, xlen, ewOp, FreeW, StabW, SameW, ChangeW, AddW, BaseW, limBytes, simprocAttr, ne_eq])
      rw [wrapI (by omega)]
      refine UpTo.here ⟨(i + 1), ?_, by first | omega | (simp only [List.length_append, List.length_cons, List.length_nil]; omega), by simp [upd, eset], ⟨_, by simp; try rfl⟩⟩
      exact ⟨hlt, take_step hlt hb hno⟩
  · (repeat simp -dsimp only [zrAttrs21, h, RB, TB, keep175, tab175, xindexAddr, xindex, xslice, xconvert, xlen, ewOp, FreeW, StabW, SameW, ChangeW, AddW, BaseW, limBytes, simprocAttr, ne_eq])
    refine RetW.auto0 false _ (by first | rfl | exact (List.append_nil _).symm) ?_ ?_
    · (simp (maxDischargeDepth := 6) [LTB, HLt_set, ltL_take, ltL_drop, ltL_rep, ltL_set, upd, eset, hH, hHk, hl1, hl2, zlAttrs21] <;> omega)
    (try simp only [wk, wk1, wk0, RB, limBytes, simprocAttr, ne_eq])
    skip
    rw [ix_none (take_all (ge_of h) hno)]
theorem indexFunc_attr_vec (H : List Ob) (l : List (Attr)) (k : FuncId) (fi ca : List V) (p : Attr → Bool) (hf : ∀ x ∈ l, SCall Try.prog k (fi ++ attrV x :: ca) H (fun r H' => r = .bool (p x) ∧ H' = H)) (hlf : ltL H.length fi ∧ ltL H.length ca) (o ver n : Nat) (ho : H[o]? = some (.vec ver 4 (l.map attrV))) (hn : n = l.length) (hl : l.length ≤ 1000000000000) : SCall Try.prog 175 [.vec o ver 0 n, .fn (.func k) fi ca] H (fun r H' => r = .int .i64 (ix p l) ∧ H' = H) := by
  subst hn
  obtain ⟨hl1, hl2⟩ := hlf
  have holt := lt_of_get ho
  refine SCall.of_good fun hH => ?_
  have hHk := HLt.add hH
  refine SCall.of_code Tok Try.func175 rfl Try.call175 (n := 19) rfl (by simp) (rs := [.tmp 4]) rfl ?_
  refine EWn.to ?_
  refine EWn.of_c Tok mixed (own := false) keep175 tab175 (by kernel_rfl) ?_
  (repeat simp -dsimp only [zrAttrs21, ho, RB, TB, keep175, tab175, xindexAddr, xindex, xslice, xconvert, xlen, ewOp, FreeW, StabW, SameW, ChangeW, AddW, BaseW, limBytes, simprocAttr, ne_eq])
  refine EWn.loopE (ι := (Nat)) (fun (i : (Nat)) => i ≤ l.length ∧ ∀ x ∈ l.take i, p x = false) (fun (i : (Nat)) => l.length - i) (fun (i : (Nat)) => [(8, .int .i64 i)]) (fun (i : (Nat)) => H) (0) ?_ ?_ ?_ ?_ ?_
  · first | rfl | simp [upd, eset]
  · first | rfl | (simp; done) | exact (set_same (by assumption)).symm
  · rintro i hok; exact ⟨by first | (simp; done) | (simp; omega), by (simp (maxDischargeDepth := 6) [LTB, HLt_set, ltL_take, ltL_drop, ltL_rep, ltL_set, upd, eset, hH, hHk, hl1, hl2, holt, zlAttrs21] <;> omega), by (simp (maxDischargeDepth := 6) [LTB, HLt_set, ltL_take, ltL_drop, ltL_rep, ltL_set, upd, eset, hH, hHk, hl1, hl2, holt, zlAttrs21] <;> omega)⟩
  · simp
  rintro i ⟨hi, hno⟩
  refine EWn.of_c Tok mixed (own := false) keep175 tab175 (by kernel_rfl) ?_
  (repeat simp -dsimp only [zrAttrs21, ho, RB, TB, keep175, tab175, xindexAddr, xindex, xslice, xconvert, xlen, ewOp, FreeW, StabW, SameW, ChangeW, AddW, BaseW, limBytes, simprocAttr, ne_eq])
  refine IfW.intro (fun h => ?_) (fun h => ?_)
  · have hlt := lt_of h
    (repeat (first | simp -dsimp only [zrAttrs21, h, ho, at_map attrV l i hlt, attrV, RB, TB, keep175, tab175, xindexAddr, xindex, xslice, xconvert, xlen, ewOp, FreeW, StabW, SameW, ChangeW, AddW, BaseW, limBytes, simprocAttr, ne_eq] | ((with_reducible refine Need.intro ?_ ?_); (first | trivial | omega))))
    refine SCall.then (hf l[i] (List.getElem_mem hlt)) ?_
    (repeat simp -dsimp only [zrAttrs21, RB, TB, keep175, tab175, xindexAddr, xindex, xslice, xconvert, xlen, ewOp, FreeW, StabW, SameW, ChangeW, AddW, BaseW, limBytes, simprocAttr, ne_eq])
    refine IfW.intro (fun hb => ?_) (fun hb => ?_)
    · (repeat simp -dsimp only [zrAttrs21, hb, RB, TB, keep175, tab175, xindexAddr, xindex, xslice, xconvert, xlen, ewOp, FreeW, StabW, SameW, ChangeW, AddW, BaseW, limBytes, simprocAttr, ne_eq])
      refine RetW.auto0 false _ (by first | rfl | exact (List.append_nil _).symm) ?_ ?_
      · (simp (maxDischargeDepth := 6) [LTB, HLt_set, ltL_take, ltL_drop, ltL_rep, ltL_set, upd, eset, hH, hHk, hl1, hl2, holt, zlAttrs21] <;> omega)
      (try simp only [wk, wk1, wk0, RB, limBytes, simprocAttr, ne_eq])
      skip
      rw [ix_hit hlt hb hno]
    · (repeat simp -dsimp only [zrAttrs21, hb, RB, TB, keep175, tab175, xindexAddr, xindex, xslice, xconvert, xlen, ewOp, FreeW, StabW, SameW, ChangeW, AddW, BaseW, limBytes, simprocAttr, ne_eq])
      rw [wrapI (by omega)]
      refine UpTo.here ⟨(i + 1), ?_, by first | omega | (simp only [List.length_append, List.length_cons, List.length_nil]; omega), by simp [upd, eset], ⟨_, by simp; try rfl⟩⟩
      exact ⟨hlt, take_step hlt hb hno⟩
  · (repeat simp -dsimp only [zrAttrs21, h, RB, TB, keep175, tab175, xindexAddr, xindex, xslice, xconvert, xlen, ewOp, FreeW, StabW, SameW, ChangeW, AddW, BaseW, limBytes, simprocAttr, ne_eq])
    refine RetW.auto0 false _ (by first | rfl | exact (List.append_nil _).symm) ?_ ?_
    · (simp (maxDischargeDepth := 6) [LTB, HLt_set, ltL_take, ltL_drop, ltL_rep, ltL_set, upd, eset, hH, hHk, hl1, hl2, holt, zlAttrs21] <;> omega)
    (try simp only [wk, wk1, wk0, RB, limBytes, simprocAttr, ne_eq])
    skip
    rw [ix_none (take_all (ge_of h) hno)]

theorem placeF (H : List Ob) (a : Attr) (o : Nat) (name : List UInt8) (ho : H[o]? = some (.var [.str name])) : SCall Try.prog 176 [attrV a, .ref o 0] H (fun r H' => r = .bool (a.name.text == name) ∧ H' = H) := by
  have holt := lt_of_get ho
  have hgl : ∀ L, (H ++ L)[o]? = some (.var [.str name]) := fun L => by rw [List.getElem?_append_left holt]; exact ho
  unfold attrV
  refine SCall.of_good fun hH => ?_
  have hHk := HLt.add hH
  refine SCall.of_code Tok Try.func176 rfl Try.call176 (n := 9) rfl (by simp) (rs := [.tmp 3]) rfl ?_
  refine EWn.to ?_
  refine EWn.of_c Tok mixed (own := false) keep176 tab176 (by kernel_rfl) ?_
  (repeat simp -dsimp only [zrAttrs21, hgl, RB, TB, keep176, tab176, xindexAddr, xindex, xslice, xconvert, xlen, ewOp, FreeW, StabW, SameW, ChangeW, AddW, BaseW, limBytes, simprocAttr, ne_eq])
  refine RetW.auto0 false _ (by first | rfl | exact (List.append_nil _).symm) ?_ ?_
  · (simp (maxDischargeDepth := 6) [LTB, HLt_set, ltL_take, ltL_drop, ltL_rep, ltL_set, upd, eset, hH, hHk, zlAttrs21] <;> omega)
  (try simp only [wk, wk1, wk0, RB, limBytes, simprocAttr, ne_eq])
  skip
def placeA (l : List Attr) (name : List UInt8) : Int := ix (fun a => a.name.text == name) l
theorem aPlace (H : List Ob) (l : List Attr) (name : List UInt8) : SCall Try.prog 153 [.slice (l.map attrV), .str name] H (fun r H' => r = .int .i64 (placeA l name) ∧ H' = H) := by
  refine SCall.of_good fun hH => ?_
  have hHk := HLt.add hH
  refine SCall.of_code Tok Try.func153 rfl Try.call153 (n := 8) rfl (by simp) (rs := [.tmp 4]) rfl ?_
  refine EWn.to ?_
  refine EWn.of_c Tok mixed (own := false) keep153 tab153 (by kernel_rfl) ?_
  (repeat simp -dsimp only [zrAttrs21, RB, TB, keep153, tab153, xindexAddr, xindex, xslice, xconvert, xlen, ewOp, FreeW, StabW, SameW, ChangeW, AddW, BaseW, limBytes, simprocAttr, ne_eq])
  (refine SCall.then (indexFunc_attr _ l _ [] [.ref H.length 0] (fun a => a.name.text == name) (fun x _ => placeF _ x H.length name (by simp)) ⟨trivial, by simp [ltL, V.lt]⟩) ?_)
  (repeat simp -dsimp only [zrAttrs21, RB, TB, keep153, tab153, xindexAddr, xindex, xslice, xconvert, xlen, ewOp, FreeW, StabW, SameW, ChangeW, AddW, BaseW, limBytes, simprocAttr, ne_eq])
  refine RetW.auto0 false _ (by first | rfl | exact (List.append_nil _).symm) ?_ ?_
  · (simp (maxDischargeDepth := 6) [LTB, HLt_set, ltL_take, ltL_drop, ltL_rep, ltL_set, upd, eset, hH, hHk, zlAttrs21] <;> omega)
  (try simp only [wk, wk1, wk0, RB, limBytes, simprocAttr, ne_eq])
  skip
  rfl
theorem aPlaceB (H : List Ob) (l : List Attr) (name : List UInt8) (x : V) (hx : Bo H x (.slice (l.map attrV))) : SCall Try.prog 153 [x, .str name] H (fun r H' => r = .int .i64 (placeA l name) ∧ H' = H) := by
  refine SCall.borrow (args' := [.slice (l.map attrV), .str name]) ⟨hx, ⟨rfl, trivial⟩, trivial⟩ ?_
  refine (aPlace [] l name).mono ?_
  rintro r H' ⟨rfl, _⟩
  exact ⟨rfl, trivial⟩
theorem aAll (H : List Ob) (l : List Attr) (hl : ∀ a ∈ l, okA a) (hs : l.length ≤ 1000000000000) : SCall Try.prog 180 [.slice (l.map attrV)] H (fun r H' => r = .vec H.length (1 + l.length) 0 l.length ∧ H' = H ++ [.vec (1 + l.length) 4 ((l.map ownA).map attrV)]) := by
  refine SCall.of_good fun hH => ?_
  have hHk := HLt.add hH
  refine SCall.of_code Tok Try.func180 rfl Try.call180 (n := 19) rfl (by simp) (rs := [.tmp 2]) rfl ?_
  refine EWn.to ?_
  refine EWn.of_c Tok mixed (own := false) keep180 tab180 (by kernel_rfl) ?_
  (repeat simp -dsimp only [zrAttrs21, RB, TB, keep180, tab180, xindexAddr, xindex, xslice, xconvert, xlen, ewOp, FreeW, StabW, SameW, ChangeW, AddW, BaseW, limBytes, simprocAttr, ne_eq])
  refine EWn.ghost (Gho.adopt 3 4 rfl) ?_
  refine EWn.loopE (ι := (Nat)) (fun (i : (Nat)) => i ≤ l.length) (fun (i : (Nat)) => l.length - i) (fun (i : (Nat)) => [(3, .vec H.length (1 + i) 0 i), (8, .int .i64 i)]) (fun (i : (Nat)) => H ++ [.vec (1 + i) 4 (((l.take i).map ownA).map attrV)]) (0) ?_ ?_ ?_ ?_ ?_
  · first | rfl | simp [upd, eset]
  · first | rfl | (simp; done) | exact (set_same (by assumption)).symm
  · rintro i hok; exact ⟨by first | (simp; done) | (simp; omega), by (simp (maxDischargeDepth := 6) [LTB, HLt_set, ltL_take, ltL_drop, ltL_rep, ltL_set, upd, eset, hH, hHk, zlAttrs21] <;> omega), by (simp (maxDischargeDepth := 6) [LTB, HLt_set, ltL_take, ltL_drop, ltL_rep, ltL_set, upd, eset, hH, hHk, zlAttrs21] <;> omega)⟩
  · omega
  rintro i hi
  refine EWn.of_c Tok mixed (own := false) keep180 tab180 (by kernel_rfl) ?_
  (repeat simp -dsimp only [zrAttrs21, RB, TB, keep180, tab180, xindexAddr, xindex, xslice, xconvert, xlen, ewOp, FreeW, StabW, SameW, ChangeW, AddW, BaseW, limBytes, simprocAttr, ne_eq])
  refine IfW.intro (fun h => ?_) (fun h => ?_)
  · have hlt := lt_of h
    (repeat (first | simp -dsimp only [zrAttrs21, h, at_map attrV l i hlt, attrV, RB, TB, keep180, tab180, xindexAddr, xindex, xslice, xconvert, xlen, ewOp, FreeW, StabW, SameW, ChangeW, AddW, BaseW, limBytes, simprocAttr, ne_eq] | ((with_reducible refine Need.intro ?_ ?_); (omega))))
    (refine SCall.then (aOwn _ l[i] (hl _ (List.getElem_mem hlt))) ?_)
    (repeat (first | simp -dsimp only [zrAttrs21, attrV, RB, TB, keep180, tab180, xindexAddr, xindex, xslice, xconvert, xlen, ewOp, FreeW, StabW, SameW, ChangeW, AddW, BaseW, limBytes, simprocAttr, ne_eq] | ((with_reducible refine Need.intro ?_ ?_); (first | trivial | (simp; omega)))))
    rw [wrapI (by omega)]
    have hsucc : (l.take (i + 1)).map ownA = (l.take i).map ownA ++ [ownA l[i]] := by rw [List.take_succ_eq_append_getElem hlt, List.map_append]; rfl
    refine UpTo.here ⟨i + 1, hlt, by simp only; omega, by simp [upd, eset] <;> omega, ⟨_, by simp only [hsucc]; simp [attrV]; rfl⟩⟩
  · (repeat simp -dsimp only [zrAttrs21, h, RB, TB, keep180, tab180, xindexAddr, xindex, xslice, xconvert, xlen, ewOp, FreeW, StabW, SameW, ChangeW, AddW, BaseW, limBytes, simprocAttr, ne_eq])
    have hi2 : i = l.length := Nat.le_antisymm hi (ge_of h)
    subst hi2
    rw [List.take_length]
    refine RetW.auto false [.vec (1 + l.length) 4 ((l.map ownA).map attrV)] _ (by first | rfl | simp) ?_ ?_ ?_
    · (simp (maxDischargeDepth := 6) [LTB, HLt_set, ltL_take, ltL_drop, ltL_rep, ltL_set, upd, eset, hH, hHk, zlAttrs21] <;> omega)
    · (simp (maxDischargeDepth := 6) [LTB, HLt_set, ltL_take, ltL_drop, ltL_rep, ltL_set, upd, eset, hH, hHk, zlAttrs21] <;> omega)
    (try simp only [wk, wk1, wk0, RB, limBytes, simprocAttr, ne_eq])
    (try (rw [List.take_of_length_le]; rotate_left 1; (· first | (simp; done) | (simp; omega) | omega)))
    simp
def getA (l : List Attr) (name : List UInt8) : Str × Bool := match l.find? (fun a => a.name.text == name) with
  | some a => (fixS a.value, true)
  | none => (zeroS, false)
theorem place_find (l : List Attr) (name : List UInt8) : (placeA l name < 0 ∧ l.find? (fun a => a.name.text == name) = none) ∨ ∃ i : Nat, ∃ h : i < l.length, placeA l name = i ∧ l.find? (fun a => a.name.text == name) = some l[i] ∧ (l[i].name.text == name) = true := by
  unfold placeA
  by_cases hany : ∃ x ∈ l, (x.name.text == name) = true
  · right
    have hlt := List.findIdx_lt_length.2 hany
    refine ⟨l.findIdx (fun a => a.name.text == name), hlt, by unfold ix; rw [if_pos hlt], ?_, List.findIdx_getElem (p := fun a : Attr => a.name.text == name) (xs := l) (w := hlt)⟩
    rw [List.find?_eq_some_iff_getElem]
    refine ⟨List.findIdx_getElem (p := fun a : Attr => a.name.text == name) (xs := l) (w := hlt), _, hlt, rfl, fun j hj => ?_⟩
    have := List.not_of_lt_findIdx hj
    simpa using this
  · left
    refine ⟨by rw [ix_none (fun x hx => by cases h : x.name.text == name with | false => rfl | true => exact absurd ⟨x, hx, h⟩ hany)]; omega, ?_⟩
    rw [List.find?_eq_none]
    exact fun x hx h => hany ⟨x, hx, h⟩
def putA (l : List Attr) (a : Attr) : List Attr := if placeA l a.name.text < 0 then l ++ [a] else l.set (placeA l a.name.text).toNat a
theorem place_own (l : List Attr) (name : List UInt8) : placeA (l.map ownA) name = placeA l name := by
  unfold placeA ix
  rw [List.findIdx_map, List.length_map]
  rfl
theorem aPut (H : List Ob) (l : List Attr) (a : Attr) (hl : ∀ a ∈ l, okA a) (ha : okA a) (hs : l.length ≤ 1000000000000) : SCall Try.prog 168 [.slice (l.map attrV), attrV a] H (fun r H' => r = .slice ((putA (l.map ownA) (ownA a)).map attrV) ∧ H' = H) := by
  have hav : attrV a = .agg [.str a.name.text, .slice (a.name.runs.map runV), .str a.value.text, .slice (a.value.runs.map runV)] := rfl
  rw [hav]
  refine SCall.of_good fun hH => ?_
  have hHk := HLt.add hH
  refine SCall.of_code Tok Try.func168 rfl Try.call168 (n := 27) rfl (by simp) (rs := [.tmp 4]) rfl ?_
  refine EWn.to ?_
  refine EWn.of_c Tok mixed (own := false) keep168 tab168 (by kernel_rfl) ?_
  (repeat simp -dsimp only [zrAttrs21, RB, TB, keep168, tab168, xindexAddr, xindex, xslice, xconvert, xlen, ewOp, FreeW, StabW, SameW, ChangeW, AddW, BaseW, limBytes, simprocAttr, ne_eq])
  (refine SCall.then (aAll _ l hl hs) ?_)
  (repeat simp -dsimp only [zrAttrs21, RB, TB, keep168, tab168, xindexAddr, xindex, xslice, xconvert, xlen, ewOp, FreeW, StabW, SameW, ChangeW, AddW, BaseW, limBytes, simprocAttr, ne_eq])
  refine SCall.then (aPlaceB _ (l.map ownA) a.name.text _ (Bo.vec (l := (l.map ownA).map attrV) (by simp; rfl) (by simp) (lt_attr 0 _))) ?_
  (repeat simp -dsimp only [zrAttrs21, place_own, RB, TB, keep168, tab168, xindexAddr, xindex, xslice, xconvert, xlen, ewOp, FreeW, StabW, SameW, ChangeW, AddW, BaseW, limBytes, simprocAttr, ne_eq])
  have hpo := place_own l a.name.text
  rcases place_find l a.name.text with ⟨hp, hf⟩ | ⟨i, hi, hp, hf, _⟩
  · (repeat simp -dsimp only [zrAttrs21, show decide (placeA l a.name.text ≥ 0) = false from decide_eq_false (by omega), RB, TB, keep168, tab168, xindexAddr, xindex, xslice, xconvert, xlen, ewOp, FreeW, StabW, SameW, ChangeW, AddW, BaseW, limBytes, simprocAttr, ne_eq])
    (refine SCall.then (aOwn _ a ha) ?_)
    (repeat (first | simp -dsimp only [zrAttrs21, RB, TB, keep168, tab168, xindexAddr, xindex, xslice, xconvert, xlen, ewOp, FreeW, StabW, SameW, ChangeW, AddW, BaseW, limBytes, simprocAttr, ne_eq] | ((with_reducible refine Need.intro ?_ ?_); (first | trivial | omega))))
    refine RetW.auto0 false _ (by first | rfl | exact (List.append_nil _).symm) ?_ ?_
    · (simp (maxDischargeDepth := 6) [LTB, HLt_set, ltL_take, ltL_drop, ltL_rep, ltL_set, upd, eset, hH, hHk, zlAttrs21] <;> omega)
    (try simp only [wk, wk1, wk0, RB, limBytes, simprocAttr, ne_eq])
    (try (rw [List.take_of_length_le]; rotate_left 1; (· first | (simp; done) | (simp; omega) | omega)))
    have e : putA (l.map ownA) (ownA a) = l.map ownA ++ [ownA a] := by unfold putA; rw [show (ownA a).name.text = a.name.text from rfl, hpo, if_pos hp]
    rw [e]
    simp
  · rw [hp]
    (repeat simp -dsimp only [zrAttrs21, show decide ((i : Int) ≥ 0) = true from by simp, RB, TB, keep168, tab168, xindexAddr, xindex, xslice, xconvert, xlen, ewOp, FreeW, StabW, SameW, ChangeW, AddW, BaseW, limBytes, simprocAttr, ne_eq])
    (refine SCall.then (aOwn _ a ha) ?_)
    (repeat (first | simp -dsimp only [zrAttrs21, at_map attrV (l.map ownA) i (by simpa using hi), attrV, RB, TB, keep168, tab168, xindexAddr, xindex, xslice, xconvert, xlen, ewOp, FreeW, StabW, SameW, ChangeW, AddW, BaseW, limBytes, simprocAttr, ne_eq] | ((with_reducible refine Need.intro ?_ ?_); (first | trivial | omega))))
    refine RetW.auto0 false _ (by first | rfl | exact (List.append_nil _).symm) ?_ ?_
    · (simp (maxDischargeDepth := 6) [LTB, HLt_set, ltL_take, ltL_drop, ltL_rep, ltL_set, upd, eset, hH, hHk, zlAttrs21] <;> omega)
    (try simp only [wk, wk1, wk0, RB, limBytes, simprocAttr, ne_eq])
    (try (rw [List.take_of_length_le]; rotate_left 1; (· first | (simp; done) | (simp; omega) | omega)))
    have e : putA (l.map ownA) (ownA a) = (l.map ownA).set i (ownA a) := by unfold putA; rw [show (ownA a).name.text = a.name.text from rfl, hpo, hp, if_neg (by omega)]; rfl
    rw [e]
    simp [attrV]
end Go.Proofs.Ytjplgbalpnlanaa

/- The walks of package focus: Within, Stops, Next. -/
set_option linter.unusedSimpArgs false
set_option linter.unusedVariables false
set_option maxRecDepth 100000
namespace Go.Proofs.Ytjplgbalpnlanaa
open Go Go.EL
theorem zrFocus11 : type_of% (And.intro (And.intro (And.intro (And.intro (@st_run) (And.intro (@sz_run) (@st1_run))) (And.intro (@cl_run) (And.intro (@st_Str) (@sz_Str)))) (And.intro (And.intro (@st1_Str) (And.intro (@cl_Str) (@st_c))) (And.intro (@sz_c) (And.intro (@st1_c) (@cl_c))))) (And.intro (And.intro (And.intro (@st_attr) (And.intro (@sz_attr) (@st1_attr))) (And.intro (@cl_attr) (And.intro (@st_hook) (@sz_hook)))) (And.intro (And.intro (@st1_hook) (And.intro (@cl_hook) (@st_node))) (And.intro (@sz_node) (And.intro (@st1_node) (@cl_node)))))) := And.intro (And.intro (And.intro (And.intro (@st_run) (And.intro (@sz_run) (@st1_run))) (And.intro (@cl_run) (And.intro (@st_Str) (@sz_Str)))) (And.intro (And.intro (@st1_Str) (And.intro (@cl_Str) (@st_c))) (And.intro (@sz_c) (And.intro (@st1_c) (@cl_c))))) (And.intro (And.intro (And.intro (@st_attr) (And.intro (@sz_attr) (@st1_attr))) (And.intro (@cl_attr) (And.intro (@st_hook) (@sz_hook)))) (And.intro (And.intro (@st1_hook) (And.intro (@cl_hook) (@st_node))) (And.intro (@sz_node) (And.intro (@st1_node) (@cl_node)))))
theorem zlFocus11 : type_of% (And.intro (And.intro (And.intro (And.intro (@lt_vi) (@lt_str)) (And.intro (@lt_vb) (And.intro (@ltc_str) (@ltc_vi)))) (And.intro (And.intro (@lt_run) (And.intro (@lt1_run) (@ltc_run))) (And.intro (@lt_Str) (And.intro (@lt1_Str) (@ltc_Str))))) (And.intro (And.intro (And.intro (@lt_c) (And.intro (@lt1_c) (@ltc_c))) (And.intro (@lt_attr) (And.intro (@lt1_attr) (@ltc_attr)))) (And.intro (And.intro (@lt_hook) (And.intro (@lt1_hook) (@ltc_hook))) (And.intro (@lt_node) (And.intro (@lt1_node) (@ltc_node)))))) := And.intro (And.intro (And.intro (And.intro (@lt_vi) (@lt_str)) (And.intro (@lt_vb) (And.intro (@ltc_str) (@ltc_vi)))) (And.intro (And.intro (@lt_run) (And.intro (@lt1_run) (@ltc_run))) (And.intro (@lt_Str) (And.intro (@lt1_Str) (@ltc_Str))))) (And.intro (And.intro (And.intro (@lt_c) (And.intro (@lt1_c) (@ltc_c))) (And.intro (@lt_attr) (And.intro (@lt1_attr) (@ltc_attr)))) (And.intro (And.intro (@lt_hook) (And.intro (@lt1_hook) (@ltc_hook))) (And.intro (@lt_node) (And.intro (@lt1_node) (@ltc_node)))))
set_option maxHeartbeats 2000000 in
theorem sIdsV0 (A m : Nat) (a : Arena) (hok : ∀ p ∈ a.nodes, okN p.2.2) (k : Nat) (id : Int) (H : List Ob) (h : arenaAt H A m a) (hd : deepG a (k + 1) id) (hsz : (idsG a (k + 1) id).length ≤ 1000000) : SCall Try.prog 47 [.ref A 0, .int .i64 id] H (fun r H' => (idsG a (k + 1) id = [] ∧ r = .fslice [] ∧ H' = H) ∨ ∃ v X, r = .vec (H.length + 1) v 0 (idsG a (k + 1) id).length ∧ H' = H ++ [X, .vec v 1 ((idsG a (k + 1) id).map vi)]) := by
  have ih := sIds A m a hok k
  have lA := (List.getElem?_eq_some_iff.1 h.1).1
  cases hn : nget a.nodes id with
  | none =>
    have hn0 : idsG a (k + 1) id = [] := idsG_none hn
    rw [hn0]
    refine SCall.of_good fun hH => ?_
    have hHk := HLt.add hH
    refine SCall.of_code Tok Try.func47 rfl Try.call47 (n := 34) rfl (by simp) (rs := [.tmp 4]) rfl ?_
    refine EWn.to ?_
    refine EWn.of_c Tok mixed (own := true) keep47 tab47 (by kernel_rfl) ?_
    (repeat simp -dsimp only [zrFocus11, xnils, xnilm, xrange, xmakeMap, xslice3, RB, TB, keep47, tab47, xindexAddr, xindex, xslice, xconvert, xlen, ewOp, FreeW, StabW, SameW, ChangeW, AddW, BaseW, limBytes, simprocAttr, ne_eq])
    (refine SCall.then (aGetN _ A m a h hok id hn) ?_)
    (repeat simp -dsimp only [zrFocus11, xnils, xnilm, xrange, xmakeMap, xslice3, nodeV, RB, TB, keep47, tab47, xindexAddr, xindex, xslice, xconvert, xlen, ewOp, FreeW, StabW, SameW, ChangeW, AddW, BaseW, limBytes, simprocAttr, ne_eq])
    refine RetW.auto0 true _ (by first | rfl | exact (List.append_nil _).symm) ?_ ?_
    · (simp (maxDischargeDepth := 6) [LTB, HLt_set, ltL_take, ltL_drop, ltL_rep, ltL_set, upd, eset, hH, hHk, ltL_nodeC, zlFocus11] <;> omega)
    first | exact .inl ⟨rfl, rfl, rfl⟩ | exact .inl ⟨rfl, rfl⟩
  | some n =>
    have hdk := hd n hn
    rw [idsG_some hn] at hsz ⊢
    rw [List.length_cons] at hsz
    have hkids : (ownN n).kids = n.kids := rfl
    have hkl : n.kids.length ≤ 1000000000000 := by
      obtain ⟨p, hp, hp2⟩ := nget_mem hn
      exact hp2 ▸ (hok p hp).2.2.2.2.2
    obtain ⟨out, hout⟩ : ∃ out : Nat → List Int, ∀ i, out i = id :: (n.kids.take i).flatMap (idsG a k) := ⟨_, fun _ => rfl⟩
    have hout0 : out 0 = [id] := by rw [hout]; simp
    have houtn : id :: n.kids.flatMap (idsG a k) = out n.kids.length := by rw [hout, List.take_length]
    have houtl : ∀ i, (out i).length ≤ 1000000 := fun i => by
      have hfl := flatMap_le (idsG a k) (l := n.kids) (i := i)
      rw [hout, List.length_cons]; omega
    rw [houtn]
    refine SCall.of_good fun hH => ?_
    have hHk := HLt.add hH
    refine SCall.of_code Tok Try.func47 rfl Try.call47 (n := 34) rfl (by simp) (rs := [.tmp 4]) rfl ?_
    refine EWn.to ?_
    refine EWn.of_c Tok mixed (own := true) keep47 tab47 (by kernel_rfl) ?_
    (repeat simp -dsimp only [zrFocus11, xnils, xnilm, xrange, xmakeMap, xslice3, RB, TB, keep47, tab47, xindexAddr, xindex, xslice, xconvert, xlen, ewOp, FreeW, StabW, SameW, ChangeW, AddW, BaseW, limBytes, simprocAttr, ne_eq])
    (refine SCall.then (aGetS _ A m a h hok id n hn) ?_)
    (repeat (first | simp -dsimp only [zrFocus11, xnils, xnilm, xrange, xmakeMap, xslice3, nodeV, hkids, RB, TB, keep47, tab47, xindexAddr, xindex, xslice, xconvert, xlen, ewOp, FreeW, StabW, SameW, ChangeW, AddW, BaseW, limBytes, simprocAttr, ne_eq] | ((with_reducible refine Need.intro ?_ ?_); (trivial))))
    have ltc : ∀ (k : Nat) (x : Node), ltL k (nodeV x).cells := fun k x => by have := lt1_node k x; simp only [nodeV, V.lt] at this; exact this
    refine EWn.loopE (ι := (Nat) × (Nat)) (fun (x_ : (Nat) × (Nat)) => match x_ with | (i, v) => i ≤ n.kids.length) (fun (x_ : (Nat) × (Nat)) => match x_ with | (i, v) => n.kids.length - i) (fun (x_ : (Nat) × (Nat)) => match x_ with | (i, v) => [(7, .vec (H.length + 1) v 0 (out i).length), (23, .int .i64 i)]) (fun (x_ : (Nat) × (Nat)) => match x_ with | (i, v) => H ++ [.var (nodeV (ownN n)).cells, .vec v 1 ((out i).map vi)]) (0, 1) ?_ ?_ ?_ ?_ ?_
    · first | rfl | (simp [upd, eset]; done) | (simp [upd, eset, hout0, vi, nodeV, hkids, V.cells]; done)
    · simp [hout0, vi, nodeV, hkids, V.cells]
    · rintro ⟨i, v⟩ hi
      refine ⟨by simp, ?_, ?_⟩
      · rw [HLt_append]
        refine ⟨by rw [List.length_append]; exact hHk _, ?_⟩
        rw [HLt_cons, HLt_cons]
        exact ⟨ltc _ _, lt_vi _ _, HLt_nil⟩
      · (simp (maxDischargeDepth := 6) [LTB, HLt_set, ltL_take, ltL_drop, ltL_rep, ltL_set, upd, eset, hH, hHk, ltL_nodeC, zlFocus11] <;> omega)
    · omega
    rintro ⟨i, v⟩ hi
    have hol := houtl i
    refine EWn.of_c Tok mixed (own := false) keep47 tab47 (by kernel_rfl) ?_
    (repeat simp -dsimp only [zrFocus11, xnils, xnilm, xrange, xmakeMap, xslice3, RB, TB, keep47, tab47, xindexAddr, xindex, xslice, xconvert, xlen, ewOp, FreeW, StabW, SameW, ChangeW, AddW, BaseW, limBytes, simprocAttr, ne_eq])
    refine IfW.intro (fun hs => ?_) (fun hs => ?_)
    · have hlt := lt_of hs
      have hsucc : out (i + 1) = out i ++ idsG a k n.kids[i] := by rw [hout, hout, flatMap_succ (idsG a k) hlt]; rfl
      have hol2 := houtl (i + 1)
      rw [hsucc, List.length_append] at hol2
      have hmi := at_map vi n.kids i hlt
      simp only [vi] at hmi
      (repeat (first | simp -dsimp only [zrFocus11, xnils, xnilm, xrange, xmakeMap, xslice3, hs, hmi, RB, TB, keep47, tab47, xindexAddr, xindex, xslice, xconvert, xlen, ewOp, FreeW, StabW, SameW, ChangeW, AddW, BaseW, limBytes, simprocAttr, ne_eq] | ((with_reducible refine Need.intro ?_ ?_); (omega))))
      refine SCall.then (ih n.kids[i] _ (arena_app h _) (hdk _ (List.getElem_mem hlt)) (by omega)) ?_
      generalize idsG a k n.kids[i] = l2 at *
      (repeat (first | simp -dsimp only [zrFocus11, xnils, xnilm, xrange, xmakeMap, xslice3, hs, RB, TB, keep47, tab47, xindexAddr, xindex, xslice, xconvert, xlen, ewOp, FreeW, StabW, SameW, ChangeW, AddW, BaseW, limBytes, simprocAttr, ne_eq] | ((with_reducible refine Need.intro ?_ ?_); (omega))))
      rw [wrapI (by omega)]
      refine UpTo.here ⟨(i + 1, v + 1), hlt, by simp only; omega, by simp only [hsucc, List.length_append]; simp [upd, eset], ⟨[], by simp only [hsucc, List.map_append, List.append_nil]⟩⟩
    · (repeat simp -dsimp only [zrFocus11, xnils, xnilm, xrange, xmakeMap, xslice3, hs, RB, TB, keep47, tab47, xindexAddr, xindex, xslice, xconvert, xlen, ewOp, FreeW, StabW, SameW, ChangeW, AddW, BaseW, limBytes, simprocAttr, ne_eq])
      have hi2 : i = n.kids.length := Nat.le_antisymm hi (ge_of hs)
      subst hi2
      refine RetW.keep false (by first | exact Nat.le_refl _ | simp) ?_ ?_ ?_
      · (simp (maxDischargeDepth := 6) [LTB, HLt_set, ltL_take, ltL_drop, ltL_rep, ltL_set, upd, eset, hH, hHk, ltL_nodeC, zlFocus11] <;> omega)
      · (simp (maxDischargeDepth := 6) [LTB, HLt_set, ltL_take, ltL_drop, ltL_rep, ltL_set, upd, eset, hH, hHk, ltL_nodeC, zlFocus11] <;> omega)
      (try simp only [wk, wk1, wk0, RB, limBytes, simprocAttr, ne_eq])
      exact .inr ⟨v, _, by simp, rfl⟩
theorem sIdsV (A m : Nat) (a : Arena) (hok : ∀ p ∈ a.nodes, okN p.2.2) (k : Nat) (id : Int) (H : List Ob) (h : arenaAt H A m a) (hd : deepG a (k + 1) id) (hsz : (idsG a (k + 1) id).length ≤ 1000000) : SCall Try.prog 47 [.ref A 0, .int .i64 id] H (fun r H' => ∃ o v L, r = .vec o v 0 (idsG a (k + 1) id).length ∧ H' = H ++ L ∧ H.length ≤ o ∧ H'[o]? = some (.vec v 1 ((idsG a (k + 1) id).map vi))) := by
  refine (sIdsV0 A m a hok k id H h hd hsz).ghoE fun r H' h => ?_
  rcases h with ⟨h0, rfl, rfl⟩ | ⟨v, X, rfl, rfl⟩
  · refine ⟨_, _, Gho.adopt (n0 := H'.length) (env := [(0, .fslice [])]) 0 1 rfl, ?_⟩
    rw [h0]
    exact ⟨H'.length, 1, _, rfl, rfl, Nat.le_refl _, by simp⟩
  · exact ⟨_, _, Gho.refl _ _ _, H.length + 1, v, _, rfl, rfl, Nat.le_succ _, by simp⟩
theorem atGet (H : List Ob) (l : List Attr) (name : List UInt8) (hl : ∀ a ∈ l, okA a) : SCall Try.prog 169 [.slice (l.map attrV), .str name] H (fun r H' => r = .tuple [strV (getA l name).1, .bool (getA l name).2] ∧ H' = H) := by
  refine SCall.of_good fun hH => ?_
  have hHk := HLt.add hH
  refine SCall.of_code Tok Try.func169 rfl Try.call169 (n := 19) rfl (by simp) (rs := [.cell 4 30, .tmp 5]) rfl ?_
  refine EWn.to ?_
  refine EWn.of_c Tok mixed (own := false) keep169 tab169 (by kernel_rfl) ?_
  (repeat simp -dsimp only [zrFocus11, xnils, xnilm, xrange, xmakeMap, xslice3, RB, TB, keep169, tab169, xindexAddr, xindex, xslice, xconvert, xlen, ewOp, FreeW, StabW, SameW, ChangeW, AddW, BaseW, limBytes, simprocAttr, ne_eq])
  (refine SCall.then (aPlace _ l name) ?_)
  (repeat simp -dsimp only [zrFocus11, xnils, xnilm, xrange, xmakeMap, xslice3, RB, TB, keep169, tab169, xindexAddr, xindex, xslice, xconvert, xlen, ewOp, FreeW, StabW, SameW, ChangeW, AddW, BaseW, limBytes, simprocAttr, ne_eq])
  rcases place_find l name with ⟨hp, hf⟩ | ⟨i, hi, hp, hf, _⟩
  · (repeat simp -dsimp only [zrFocus11, xnils, xnilm, xrange, xmakeMap, xslice3, show decide (placeA l name < 0) = true from decide_eq_true hp, RB, TB, keep169, tab169, xindexAddr, xindex, xslice, xconvert, xlen, ewOp, FreeW, StabW, SameW, ChangeW, AddW, BaseW, limBytes, simprocAttr, ne_eq])
    refine RetW.auto0 false _ (by first | rfl | exact (List.append_nil _).symm) ?_ ?_
    · (simp (maxDischargeDepth := 6) [LTB, HLt_set, ltL_take, ltL_drop, ltL_rep, ltL_set, upd, eset, hH, hHk, zlFocus11] <;> omega)
    (try simp only [wk, wk1, wk0, RB, limBytes, simprocAttr, ne_eq])
    skip
    simp [getA, hf, strV, zeroS]
  · rw [hp]
    (repeat (first | simp -dsimp only [zrFocus11, xnils, xnilm, xrange, xmakeMap, xslice3, show decide ((i : Int) < 0) = false from by simp, at_map attrV l i hi, attrV, RB, TB, keep169, tab169, xindexAddr, xindex, xslice, xconvert, xlen, ewOp, FreeW, StabW, SameW, ChangeW, AddW, BaseW, limBytes, simprocAttr, ne_eq] | ((with_reducible refine Need.intro ?_ ?_); (omega))))
    (refine SCall.then (mFix _ l[i].value (hl _ (List.getElem_mem hi)).2) ?_)
    (repeat simp -dsimp only [zrFocus11, xnils, xnilm, xrange, xmakeMap, xslice3, strV, RB, TB, keep169, tab169, xindexAddr, xindex, xslice, xconvert, xlen, ewOp, FreeW, StabW, SameW, ChangeW, AddW, BaseW, limBytes, simprocAttr, ne_eq])
    refine RetW.auto0 false _ (by first | rfl | exact (List.append_nil _).symm) ?_ ?_
    · (simp (maxDischargeDepth := 6) [LTB, HLt_set, ltL_take, ltL_drop, ltL_rep, ltL_set, upd, eset, hH, hHk, zlFocus11] <;> omega)
    (try simp only [wk, wk1, wk0, RB, limBytes, simprocAttr, ne_eq])
    skip
    simp [getA, hf, strV]
theorem _root_.Go.EL.retOwnP {H0 H : List Ob} {o v n es : Nat} {l : List V} {R : V → List Ob → Prop} (hp : ∃ L, H = H0 ++ L) (ho : H[o]? = some (.vec v es l)) (hlo : H0.length ≤ o) (hlt : ltL H0.length l) (hn : n ≤ l.length) (hR : R (.slice (l.take n)) H0) : RetW H0.length H0 R (.vec o v 0 n) H := by
  obtain ⟨L, rfl⟩ := hp
  refine RetW.auto0 false L rfl ?_ ?_
  · simp only [okW, okW1, okW0, ho]
    exact fun _ => ⟨by first | rfl | trivial, by first | omega | simp, hlt⟩
  · simp only [wk, wk1, wk0, ho]
    rw [if_pos hlo, List.drop_zero]
    exact hR
/-- may it have the focus? -/
def stopN (n : Node) : Bool := (n.kind == 1) && ((getA n.attrs [104, 114, 101, 102]).2 || decide (0 < n.hooks.length))
theorem fStop (H : List Ob) (n : Node) (hn : okN n) : SCall Try.prog 140 [nodeV n] H (fun r H' => r = .bool (stopN n) ∧ H' = H) := by
  unfold nodeV
  refine SCall.of_good fun hH => ?_
  have hHk := HLt.add hH
  refine SCall.of_code Tok Try.func140 rfl Try.call140 (n := 23) rfl (by simp) (rs := [.tmp 2]) rfl ?_
  refine EWn.to ?_
  refine EWn.of_c Tok mixed (own := false) keep140 tab140 (by kernel_rfl) ?_
  (repeat simp -dsimp only [zrFocus11, xnils, xnilm, xrange, xmakeMap, xslice3, RB, TB, keep140, tab140, xindexAddr, xindex, xslice, xconvert, xlen, ewOp, FreeW, StabW, SameW, ChangeW, AddW, BaseW, limBytes, simprocAttr, ne_eq])
  (refine SCall.then (atGet _ n.attrs [104, 114, 101, 102] hn.2.2.1) ?_)
  (repeat simp -dsimp only [zrFocus11, xnils, xnilm, xrange, xmakeMap, xslice3, strV, RB, TB, keep140, tab140, xindexAddr, xindex, xslice, xconvert, xlen, ewOp, FreeW, StabW, SameW, ChangeW, AddW, BaseW, limBytes, simprocAttr, ne_eq])
  cases h1 : (n.kind == 1)
  · (repeat simp -dsimp only [zrFocus11, xnils, xnilm, xrange, xmakeMap, xslice3, h1, RB, TB, keep140, tab140, xindexAddr, xindex, xslice, xconvert, xlen, ewOp, FreeW, StabW, SameW, ChangeW, AddW, BaseW, limBytes, simprocAttr, ne_eq])
    refine RetW.auto0 false _ (by first | rfl | exact (List.append_nil _).symm) ?_ ?_
    · (simp (maxDischargeDepth := 6) [LTB, HLt_set, ltL_take, ltL_drop, ltL_rep, ltL_set, upd, eset, hH, hHk, zlFocus11] <;> omega)
    (try simp only [wk, wk1, wk0, RB, limBytes, simprocAttr, ne_eq])
    skip
    simp [stopN, h1]
  · cases h2 : (getA n.attrs [104, 114, 101, 102]).2
    · (repeat simp -dsimp only [zrFocus11, xnils, xnilm, xrange, xmakeMap, xslice3, h1, h2, RB, TB, keep140, tab140, xindexAddr, xindex, xslice, xconvert, xlen, ewOp, FreeW, StabW, SameW, ChangeW, AddW, BaseW, limBytes, simprocAttr, ne_eq])
      refine RetW.auto0 false _ (by first | rfl | exact (List.append_nil _).symm) ?_ ?_
      · (simp (maxDischargeDepth := 6) [LTB, HLt_set, ltL_take, ltL_drop, ltL_rep, ltL_set, upd, eset, hH, hHk, zlFocus11] <;> omega)
      (try simp only [wk, wk1, wk0, RB, limBytes, simprocAttr, ne_eq])
      skip
      simp [stopN, h1, h2]
    · (repeat simp -dsimp only [zrFocus11, xnils, xnilm, xrange, xmakeMap, xslice3, h1, h2, RB, TB, keep140, tab140, xindexAddr, xindex, xslice, xconvert, xlen, ewOp, FreeW, StabW, SameW, ChangeW, AddW, BaseW, limBytes, simprocAttr, ne_eq])
      refine RetW.auto0 false _ (by first | rfl | exact (List.append_nil _).symm) ?_ ?_
      · (simp (maxDischargeDepth := 6) [LTB, HLt_set, ltL_take, ltL_drop, ltL_rep, ltL_set, upd, eset, hH, hHk, zlFocus11] <;> omega)
      (try simp only [wk, wk1, wk0, RB, limBytes, simprocAttr, ne_eq])
      skip
      simp [stopN, h1, h2]
theorem okN_at {a : Arena} (hok : ∀ p ∈ a.nodes, okN p.2.2) (id : Int) : okN (nodeAt a id) := by
  unfold nodeAt
  cases hn : nget a.nodes id with
  | none => exact ⟨⟨by simp [nodeZ, zeroS], by simp [nodeZ, zeroS]⟩, ⟨by simp [nodeZ, zeroS], by simp [nodeZ, zeroS]⟩, by simp [nodeZ], by simp [nodeZ], by simp [nodeZ], by simp [nodeZ]⟩
  | some n =>
    obtain ⟨p, hp, rfl⟩ := nget_mem hn
    exact okN_own (hok p hp)
theorem fWithinF (H : List Ob) (A m : Nat) (a : Arena) (h : arenaAt H A m a) (hok : ∀ p ∈ a.nodes, okN p.2.2) (k : Int) (o : Nat) (ho : H[o]? = some (.var [.ref A 0])) : SCall Try.prog 139 [.int .i64 k, .ref o 0] H (fun r H' => r = .bool (!(stopN (nodeAt a k))) ∧ H' = H) := by
  have lo := lt_of_get ho
  have hoK := fun K => get_appD (L := K) ho
  refine SCall.of_good fun hH => ?_
  have hHk := HLt.add hH
  refine SCall.of_code Tok Try.func139 rfl Try.call139 (n := 15) rfl (by simp) (rs := [.tmp 3]) rfl ?_
  refine EWn.to ?_
  refine EWn.of_c Tok mixed (own := false) keep139 tab139 (by kernel_rfl) ?_
  (repeat simp -dsimp only [zrFocus11, xnils, xnilm, xrange, xmakeMap, xslice3, ho, hoK, RB, TB, keep139, tab139, xindexAddr, xindex, xslice, xconvert, xlen, ewOp, FreeW, StabW, SameW, ChangeW, AddW, BaseW, limBytes, simprocAttr, ne_eq])
  (refine SCall.then (aGetF _ A m a h hok k) ?_)
  (repeat simp -dsimp only [zrFocus11, xnils, xnilm, xrange, xmakeMap, xslice3, nodeV, ho, hoK, RB, TB, keep139, tab139, xindexAddr, xindex, xslice, xconvert, xlen, ewOp, FreeW, StabW, SameW, ChangeW, AddW, BaseW, limBytes, simprocAttr, ne_eq])
  have hS := fStop (H ++ [.var (nodeV (nodeAt a k)).cells]) (nodeAt a k) (okN_at hok k)
  simp only [nodeV, V.cells] at hS
  (refine SCall.then (hS) ?_)
  (repeat simp -dsimp only [zrFocus11, xnils, xnilm, xrange, xmakeMap, xslice3, RB, TB, keep139, tab139, xindexAddr, xindex, xslice, xconvert, xlen, ewOp, FreeW, StabW, SameW, ChangeW, AddW, BaseW, limBytes, simprocAttr, ne_eq])
  refine RetW.auto0 false _ (by first | rfl | exact (List.append_nil _).symm) ?_ ?_
  · (simp (maxDischargeDepth := 6) [LTB, HLt_set, ltL_take, ltL_drop, ltL_rep, ltL_set, upd, eset, hH, hHk, zlFocus11] <;> omega)
  (try simp only [wk, wk1, wk0, RB, limBytes, simprocAttr, ne_eq])
  skip
/-- those that may have the focus, of some ids -/
def stopsG (a : Arena) (l : List Int) : List Int := l.filter fun x => stopN (nodeAt a x)
theorem fWithin (H : List Ob) (A m : Nat) (a : Arena) (h : arenaAt H A m a) (hok : ∀ p ∈ a.nodes, okN p.2.2) (k : Nat) (id : Int) (hd : deepG a (k + 1) id) (hsz : (idsG a (k + 1) id).length ≤ 1000000) : SCall Try.prog 81 [.ref A 0, .int .i64 id] H (fun r H' => r = .slice ((stopsG a (idsG a (k + 1) id)).map vi) ∧ H' = H) := by
  have lA := (List.getElem?_eq_some_iff.1 h.1).1
  refine SCall.of_good fun hH => ?_
  have hHk := HLt.add hH
  refine SCall.of_code Tok Try.func81 rfl Try.call81 (n := 10) rfl (by simp) (rs := [.tmp 4]) rfl ?_
  refine EWn.to ?_
  refine EWn.of_c Tok mixed (own := false) keep81 tab81 (by kernel_rfl) ?_
  (repeat simp -dsimp only [zrFocus11, xnils, xnilm, xrange, xmakeMap, xslice3, RB, TB, keep81, tab81, xindexAddr, xindex, xslice, xconvert, xlen, ewOp, FreeW, StabW, SameW, ChangeW, AddW, BaseW, limBytes, simprocAttr, ne_eq])
  refine SCall.mono (sIdsV A m a hok k id _ (arena_app h _) hd hsz).goodA ?_
  rintro _ G ⟨⟨o, v, L, rfl, hG, hle, ho⟩, hGl⟩
  have hle : H.length + 1 ≤ o := by simpa using hle
  have lo := (List.getElem?_eq_some_iff.1 ho).1
  have hb : G[H.length]? = some (.var [.ref A 0]) := by rw [hG]; simp
  have hGL : H.length + 1 ≤ G.length := by rw [hG]; simp; try omega
  have hat : ∀ (x : Ob) (E : List Ob), arenaAt (G.set o x ++ E) A m a := fun x E => by
    refine arena_app ?_ E
    obtain ⟨g1, g2, g3, g4⟩ := h
    have lm := (List.getElem?_eq_some_iff.1 g2).1
    refine ⟨?_, ?_, g3, g4⟩
    · rw [List.getElem?_set_ne (by omega), hG, List.append_assoc, List.getElem?_append_left lA]; exact g1
    · rw [List.getElem?_set_ne (by omega), hG, List.append_assoc, List.getElem?_append_left lm]; exact g2
  have hbs : ∀ (x : Ob) (E : List Ob), (G.set o x ++ E)[H.length]? = some (.var [.ref A 0]) := fun x E => by
    rw [List.getElem?_append_left (by rw [List.length_set]; omega), List.getElem?_set_ne (by omega)]; exact hb
  generalize idsG a (k + 1) id = l at *
  (repeat simp -dsimp only [zrFocus11, xnils, xnilm, xrange, xmakeMap, xslice3, RB, TB, keep81, tab81, xindexAddr, xindex, xslice, xconvert, xlen, ewOp, FreeW, StabW, SameW, ChangeW, AddW, BaseW, limBytes, simprocAttr, ne_eq])
  refine SCall.then (deleteFunc_int G l _ [] [.ref H.length 0] (fun x => !(stopN (nodeAt a x))) ⟨trivial, by simp [ltL, V.lt]; omega⟩ o v _ (fun x _ L E => fWithinF _ A m a (hat _ E) hok x H.length (hbs _ E)) ho rfl (by omega)) ?_
  (repeat simp -dsimp only [zrFocus11, xnils, xnilm, xrange, xmakeMap, xslice3, RB, TB, keep81, tab81, xindexAddr, xindex, xslice, xconvert, xlen, ewOp, FreeW, StabW, SameW, ChangeW, AddW, BaseW, limBytes, simprocAttr, ne_eq])
  have e : (l.filter fun x => !(!(stopN (nodeAt a x)))) = stopsG a l := by unfold stopsG; simp
  rw [e]
  have hsl : (stopsG a l).length ≤ l.length := List.length_filter_le _ _
  have hso : (G.set o (.vec v 1 ((stopsG a l).map vi ++ List.replicate (l.length - (stopsG a l).length) (.int .i64 0))))[o]? = some (.vec v 1 ((stopsG a l).map vi ++ List.replicate (l.length - (stopsG a l).length) (.int .i64 0))) := by rw [List.getElem?_set_self lo]
  have hlr : ∀ n : Nat, ltL H.length (List.replicate n (V.int .i64 0)) := fun n => by
    induction n with
    | zero => simp [ltL]
    | succ n ih => rw [List.replicate_succ]; exact ⟨trivial, ih⟩
  refine retOwnP (pre_app (by rw [List.length_set]; omega) fun j hj => ?_) hso (by omega) (by rw [ltL_append]; exact ⟨lt_vi _ _, hlr _⟩) (by simp) ?_
  · rw [List.getElem?_set_ne (by omega), hG, List.append_assoc, List.getElem?_append_left hj]
  · rw [List.take_left' (by simp)]
    exact ⟨rfl, rfl⟩
theorem fStops (H : List Ob) (A m : Nat) (a : Arena) (h : arenaAt H A m a) (hok : ∀ p ∈ a.nodes, okN p.2.2) (k : Nat) (hd : deepG a (k + 1) 0) (hsz : (idsG a (k + 1) 0).length ≤ 1000000) : SCall Try.prog 80 [.ref A 0] H (fun r H' => r = .slice ((stopsG a (idsG a (k + 1) 0)).map vi) ∧ H' = H) := by
  have lA := (List.getElem?_eq_some_iff.1 h.1).1
  refine SCall.of_good fun hH => ?_
  have hHk := HLt.add hH
  refine SCall.of_code Tok Try.func80 rfl Try.call80 (n := 5) rfl (by simp) (rs := [.tmp 2]) rfl ?_
  refine EWn.to ?_
  refine EWn.of_c Tok mixed (own := false) keep80 tab80 (by kernel_rfl) ?_
  (repeat simp -dsimp only [zrFocus11, xnils, xnilm, xrange, xmakeMap, xslice3, RB, TB, keep80, tab80, xindexAddr, xindex, xslice, xconvert, xlen, ewOp, FreeW, StabW, SameW, ChangeW, AddW, BaseW, limBytes, simprocAttr, ne_eq])
  (refine SCall.then (fWithin _ A m a h hok k 0 hd hsz) ?_)
  (repeat simp -dsimp only [zrFocus11, xnils, xnilm, xrange, xmakeMap, xslice3, RB, TB, keep80, tab80, xindexAddr, xindex, xslice, xconvert, xlen, ewOp, FreeW, StabW, SameW, ChangeW, AddW, BaseW, limBytes, simprocAttr, ne_eq])
  refine RetW.auto0 false _ (by first | rfl | exact (List.append_nil _).symm) ?_ ?_
  · (simp (maxDischargeDepth := 6) [LTB, HLt_set, ltL_take, ltL_drop, ltL_rep, ltL_set, upd, eset, hH, hHk, zlFocus11] <;> omega)
  (try simp only [wk, wk1, wk0, RB, limBytes, simprocAttr, ne_eq])
  skip
theorem find_at {α : Type} {p : α → Bool} {s : List α} {i : Nat} (h : i < s.length) (hn : ∀ x ∈ s.take i, p x = false) (hp : p s[i] = true) : s.find? p = some s[i] := by
  have e : s = s.take i ++ s[i] :: s.drop (i + 1) := by simp
  conv => lhs; rw [e]
  rw [List.find?_append, List.find?_eq_none.2 (fun x hx => by rw [hn x hx]; simp), Option.none_or, List.find?_cons_of_pos hp]
theorem find_no {α : Type} {p : α → Bool} {s : List α} (hn : ∀ x ∈ s, p x = false) : s.find? p = none := List.find?_eq_none.2 (fun x hx => by rw [hn x hx]; simp)
/-- the next one behind an id: the first of those that stand behind it, or the first -/
def nextG (all s : List Int) (id : Int) : Int := if 0 ≤ ix (fun x => id == x) all then ((s.find? fun k => decide (ix (fun x => k == x) all > ix (fun x => id == x) all)).getD (s.getD 0 0)) else s.getD 0 0
theorem fNext (H : List Ob) (A m : Nat) (a : Arena) (h : arenaAt H A m a) (hok : ∀ p ∈ a.nodes, okN p.2.2) (k : Nat) (id : Int) (hd : deepG a (k + 1) 0) (hsz : (idsG a (k + 1) 0).length ≤ 1000000) : SCall Try.prog 78 [.ref A 0, .int .i64 id] H (fun r H' => r = (if stopsG a (idsG a (k + 1) 0) = [] then .tuple [.int .i64 0, .bool false] else .tuple [.int .i64 (nextG (idsG a (k + 1) 0) (stopsG a (idsG a (k + 1) 0)) id), .bool true]) ∧ H' = H) := by
  have lA := (List.getElem?_eq_some_iff.1 h.1).1
  have hS := fun K => fStops (H ++ K) A m a (arena_app h K) hok k hd hsz
  have hI := fun K => sIds A m a hok (k + 1) 0 (H ++ K) (arena_app h K) hd hsz
  have hsl : (stopsG a (idsG a (k + 1) 0)).length ≤ (idsG a (k + 1) 0).length := List.length_filter_le _ _
  have hS0 := hS []
  have hI0 := hI []
  rw [List.append_nil] at hS0 hI0
  generalize stopsG a (idsG a (k + 1) 0) = s at *
  generalize idsG a (k + 1) 0 = all at *
  refine SCall.of_good fun hH => ?_
  have hHk := HLt.add hH
  refine SCall.of_code Tok Try.func78 rfl Try.call78 (n := 41) rfl (by simp) (rs := [.tmp 4, .tmp 5]) rfl ?_
  refine EWn.to ?_
  refine EWn.of_c Tok mixed (own := false) keep78 tab78 (by kernel_rfl) ?_
  (repeat simp -dsimp only [zrFocus11, xnils, xnilm, xrange, xmakeMap, xslice3, RB, TB, keep78, tab78, xindexAddr, xindex, xslice, xconvert, xlen, ewOp, FreeW, StabW, SameW, ChangeW, AddW, BaseW, limBytes, simprocAttr, ne_eq])
  (refine SCall.then (hS0) ?_)
  (repeat simp -dsimp only [zrFocus11, xnils, xnilm, xrange, xmakeMap, xslice3, RB, TB, keep78, tab78, xindexAddr, xindex, xslice, xconvert, xlen, ewOp, FreeW, StabW, SameW, ChangeW, AddW, BaseW, limBytes, simprocAttr, ne_eq])
  cases s with
  | nil =>
    (repeat simp -dsimp only [zrFocus11, xnils, xnilm, xrange, xmakeMap, xslice3, show ((([] : List Int).length : Int) == 0) = true from rfl, RB, TB, keep78, tab78, xindexAddr, xindex, xslice, xconvert, xlen, ewOp, FreeW, StabW, SameW, ChangeW, AddW, BaseW, limBytes, simprocAttr, ne_eq])
    refine RetW.auto0 false _ (by first | rfl | exact (List.append_nil _).symm) ?_ ?_
    · (simp (maxDischargeDepth := 6) [LTB, HLt_set, ltL_take, ltL_drop, ltL_rep, ltL_set, upd, eset, hH, hHk, zlFocus11] <;> omega)
    (try simp only [wk, wk1, wk0, RB, limBytes, simprocAttr, ne_eq])
    skip
  | cons x0 s0 =>
    obtain ⟨s, hs⟩ : ∃ s, s = x0 :: s0 := ⟨_, rfl⟩
    have hne : s ≠ [] := by rw [hs]; simp
    have hlp : 0 < s.length := List.length_pos_iff.2 hne
    rw [← hs] at hsl ⊢
    rw [if_neg hne]
    have e0 : ((s.length : Int) == 0) = false := by simp; exact hne
    (repeat simp -dsimp only [zrFocus11, xnils, xnilm, xrange, xmakeMap, xslice3, e0, RB, TB, keep78, tab78, xindexAddr, xindex, xslice, xconvert, xlen, ewOp, FreeW, StabW, SameW, ChangeW, AddW, BaseW, limBytes, simprocAttr, ne_eq])
    (refine SCall.then (hI0) ?_)
    (repeat simp -dsimp only [zrFocus11, xnils, xnilm, xrange, xmakeMap, xslice3, RB, TB, keep78, tab78, xindexAddr, xindex, xslice, xconvert, xlen, ewOp, FreeW, StabW, SameW, ChangeW, AddW, BaseW, limBytes, simprocAttr, ne_eq])
    (refine SCall.then (index_int _ all id) ?_)
    (repeat simp -dsimp only [zrFocus11, xnils, xnilm, xrange, xmakeMap, xslice3, RB, TB, keep78, tab78, xindexAddr, xindex, xslice, xconvert, xlen, ewOp, FreeW, StabW, SameW, ChangeW, AddW, BaseW, limBytes, simprocAttr, ne_eq])
    generalize hat : ix (fun x => id == x) all = at_
    refine EWn.loopE (ι := (Nat)) (fun (i : (Nat)) => i ≤ s.length ∧ (0 ≤ at_ → ∀ x ∈ s.take i, ¬ ix (fun y => x == y) all > at_)) (fun (i : (Nat)) => s.length - i) (fun (i : (Nat)) => [(23, .int .i64 i)]) (fun (i : (Nat)) => H) (0) ?_ ?_ ?_ ?_ ?_
    · first | rfl | simp [upd, eset]
    · first | rfl | (simp; done) | exact (set_same (by assumption)).symm
    · rintro i hok; exact ⟨by first | (simp; done) | (simp; omega), by (simp (maxDischargeDepth := 6) [LTB, HLt_set, ltL_take, ltL_drop, ltL_rep, ltL_set, upd, eset, hH, hHk, zlFocus11] <;> omega), by (simp (maxDischargeDepth := 6) [LTB, HLt_set, ltL_take, ltL_drop, ltL_rep, ltL_set, upd, eset, hH, hHk, zlFocus11] <;> omega)⟩
    · exact ⟨by omega, fun _ x hx => by simp at hx⟩
    rintro i ⟨hi, hno⟩
    refine EWn.of_c Tok mixed (own := false) keep78 tab78 (by kernel_rfl) ?_
    (repeat simp -dsimp only [zrFocus11, xnils, xnilm, xrange, xmakeMap, xslice3, RB, TB, keep78, tab78, xindexAddr, xindex, xslice, xconvert, xlen, ewOp, FreeW, StabW, SameW, ChangeW, AddW, BaseW, limBytes, simprocAttr, ne_eq])
    refine IfW.intro (fun h1 => ?_) (fun h1 => ?_)
    · have hlt := lt_of h1
      have hmi := at_map vi s i hlt
      simp only [vi] at hmi
      (repeat (first | simp -dsimp only [zrFocus11, xnils, xnilm, xrange, xmakeMap, xslice3, h1, hmi, RB, TB, keep78, tab78, xindexAddr, xindex, xslice, xconvert, xlen, ewOp, FreeW, StabW, SameW, ChangeW, AddW, BaseW, limBytes, simprocAttr, ne_eq] | ((with_reducible refine Need.intro ?_ ?_); (omega))))
      (refine SCall.then (index_int _ all s[i]) ?_)
      (repeat simp -dsimp only [zrFocus11, xnils, xnilm, xrange, xmakeMap, xslice3, RB, TB, keep78, tab78, xindexAddr, xindex, xslice, xconvert, xlen, ewOp, FreeW, StabW, SameW, ChangeW, AddW, BaseW, limBytes, simprocAttr, ne_eq])
      have wi : IntKind.i64.wrap ((i : Int) + 1) = ((i + 1 : Nat) : Int) := by rw [wrapI (by omega)]; omega
      by_cases c1 : ix (fun x => s[i] == x) all > at_
      · by_cases c2 : 0 ≤ at_
        · (repeat simp -dsimp only [zrFocus11, xnils, xnilm, xrange, xmakeMap, xslice3, show decide (ix (fun x => s[i] == x) all > at_) = true from decide_eq_true c1, show decide (at_ ≥ 0) = true from decide_eq_true c2, RB, TB, keep78, tab78, xindexAddr, xindex, xslice, xconvert, xlen, ewOp, FreeW, StabW, SameW, ChangeW, AddW, BaseW, limBytes, simprocAttr, ne_eq])
          refine RetW.auto0 false _ (by first | rfl | exact (List.append_nil _).symm) ?_ ?_
          · (simp (maxDischargeDepth := 6) [LTB, HLt_set, ltL_take, ltL_drop, ltL_rep, ltL_set, upd, eset, hH, hHk, zlFocus11] <;> omega)
          (try simp only [wk, wk1, wk0, RB, limBytes, simprocAttr, ne_eq])
          skip
          unfold nextG
          rw [hat, if_pos c2, find_at hlt (fun x hx => decide_eq_false (hno c2 x hx)) (decide_eq_true c1)]
          rfl
        · (repeat simp -dsimp only [zrFocus11, xnils, xnilm, xrange, xmakeMap, xslice3, show decide (ix (fun x => s[i] == x) all > at_) = true from decide_eq_true c1, show decide (at_ ≥ 0) = false from decide_eq_false c2, wi, RB, TB, keep78, tab78, xindexAddr, xindex, xslice, xconvert, xlen, ewOp, FreeW, StabW, SameW, ChangeW, AddW, BaseW, limBytes, simprocAttr, ne_eq])
          refine UpTo.here ⟨i + 1, ⟨hlt, fun h0 => absurd h0 c2⟩, by simp only; omega, by simp [upd, eset], ⟨_, by simp; try rfl⟩⟩
      · (repeat simp -dsimp only [zrFocus11, xnils, xnilm, xrange, xmakeMap, xslice3, show decide (ix (fun x => s[i] == x) all > at_) = false from decide_eq_false c1, wi, RB, TB, keep78, tab78, xindexAddr, xindex, xslice, xconvert, xlen, ewOp, FreeW, StabW, SameW, ChangeW, AddW, BaseW, limBytes, simprocAttr, ne_eq])
        refine UpTo.here ⟨i + 1, ⟨hlt, fun h0 => ?_⟩, by simp only; omega, by simp [upd, eset], ⟨_, by simp; try rfl⟩⟩
        exact take_step hlt c1 (hno h0)
    · have hi2 : i = s.length := Nat.le_antisymm hi (ge_of h1)
      subst hi2
      rw [List.take_length] at hno
      have hmi := at_map vi s 0 hlp
      simp only [vi] at hmi
      have hg0 : s.getD 0 0 = s[0] := by rw [List.getD_eq_getElem?_getD, List.getElem?_eq_getElem hlp]; rfl
      (repeat (first | simp -dsimp only [zrFocus11, xnils, xnilm, xrange, xmakeMap, xslice3, h1, hmi, RB, TB, keep78, tab78, xindexAddr, xindex, xslice, xconvert, xlen, ewOp, FreeW, StabW, SameW, ChangeW, AddW, BaseW, limBytes, simprocAttr, ne_eq] | ((with_reducible refine Need.intro ?_ ?_); (omega))))
      refine RetW.auto0 false _ (by first | rfl | exact (List.append_nil _).symm) ?_ ?_
      · (simp (maxDischargeDepth := 6) [LTB, HLt_set, ltL_take, ltL_drop, ltL_rep, ltL_set, upd, eset, hH, hHk, zlFocus11] <;> omega)
      (try simp only [wk, wk1, wk0, RB, limBytes, simprocAttr, ne_eq])
      skip
      unfold nextG
      rw [hat, hg0]
      split
      · rename_i c2
        rw [find_no (fun x hx => decide_eq_false (hno c2 x hx))]; rfl
      · rfl
/-- the one before an id: the last of those that stand before it, or the last -/
def prevG (all s : List Int) (id : Int) : Int := (s.reverse.find? fun k => decide (ix (fun x => k == x) all < ix (fun x => id == x) all)).getD (s.getD (s.length - 1) 0)
end Go.Proofs.Ytjplgbalpnlanaa

/- The walk of focus.Prev: a range from the end whose round may return. -/
set_option linter.unusedSimpArgs false
set_option linter.unusedVariables false
set_option maxRecDepth 100000
namespace Go.Proofs.Ytjplgbalpnlanaa
open Go Go.EL
theorem zrFocus21 : type_of% (And.intro (And.intro (And.intro (And.intro (@st_run) (And.intro (@sz_run) (@st1_run))) (And.intro (@cl_run) (And.intro (@st_Str) (@sz_Str)))) (And.intro (And.intro (@st1_Str) (And.intro (@cl_Str) (@st_c))) (And.intro (@sz_c) (And.intro (@st1_c) (@cl_c))))) (And.intro (And.intro (And.intro (@st_attr) (And.intro (@sz_attr) (@st1_attr))) (And.intro (@cl_attr) (And.intro (@st_hook) (@sz_hook)))) (And.intro (And.intro (@st1_hook) (And.intro (@cl_hook) (@st_node))) (And.intro (@sz_node) (And.intro (@st1_node) (@cl_node)))))) := And.intro (And.intro (And.intro (And.intro (@st_run) (And.intro (@sz_run) (@st1_run))) (And.intro (@cl_run) (And.intro (@st_Str) (@sz_Str)))) (And.intro (And.intro (@st1_Str) (And.intro (@cl_Str) (@st_c))) (And.intro (@sz_c) (And.intro (@st1_c) (@cl_c))))) (And.intro (And.intro (And.intro (@st_attr) (And.intro (@sz_attr) (@st1_attr))) (And.intro (@cl_attr) (And.intro (@st_hook) (@sz_hook)))) (And.intro (And.intro (@st1_hook) (And.intro (@cl_hook) (@st_node))) (And.intro (@sz_node) (And.intro (@st1_node) (@cl_node)))))
theorem zlFocus21 : type_of% (And.intro (And.intro (And.intro (And.intro (@lt_vi) (@lt_str)) (And.intro (@lt_vb) (And.intro (@ltc_str) (@ltc_vi)))) (And.intro (And.intro (@lt_run) (And.intro (@lt1_run) (@ltc_run))) (And.intro (@lt_Str) (And.intro (@lt1_Str) (@ltc_Str))))) (And.intro (And.intro (And.intro (@lt_c) (And.intro (@lt1_c) (@ltc_c))) (And.intro (@lt_attr) (And.intro (@lt1_attr) (@ltc_attr)))) (And.intro (And.intro (@lt_hook) (And.intro (@lt1_hook) (@ltc_hook))) (And.intro (@lt_node) (And.intro (@lt1_node) (@ltc_node)))))) := And.intro (And.intro (And.intro (And.intro (@lt_vi) (@lt_str)) (And.intro (@lt_vb) (And.intro (@ltc_str) (@ltc_vi)))) (And.intro (And.intro (@lt_run) (And.intro (@lt1_run) (@ltc_run))) (And.intro (@lt_Str) (And.intro (@lt1_Str) (@ltc_Str))))) (And.intro (And.intro (And.intro (@lt_c) (And.intro (@lt1_c) (@ltc_c))) (And.intro (@lt_attr) (And.intro (@lt1_attr) (@ltc_attr)))) (And.intro (And.intro (@lt_hook) (And.intro (@lt1_hook) (@ltc_hook))) (And.intro (@lt_node) (And.intro (@lt1_node) (@ltc_node)))))
theorem visB_snd (l : List Int) : (visB l).map (·.2) = l.reverse := by
  unfold visB
  rw [List.map_map, ← List.zipIdx_map_fst 0 l]
  simp [List.map_reverse, Function.comp_def]
theorem vis_split {l : List Int} {pre post : List (Nat × Int)} {b : Nat × Int} (h : visB l = pre ++ b :: post) : l.reverse = pre.map (·.2) ++ b.2 :: post.map (·.2) := by
  rw [← visB_snd, h]; simp
set_option maxHeartbeats 2000000 in
theorem fPrev (H : List Ob) (A m : Nat) (a : Arena) (h : arenaAt H A m a) (hok : ∀ p ∈ a.nodes, okN p.2.2) (k : Nat) (id : Int) (hd : deepG a (k + 1) 0) (hsz : (idsG a (k + 1) 0).length ≤ 1000000) : SCall Try.prog 79 [.ref A 0, .int .i64 id] H (fun r H' => r = (if stopsG a (idsG a (k + 1) 0) = [] then .tuple [.int .i64 0, .bool false] else .tuple [.int .i64 (prevG (idsG a (k + 1) 0) (stopsG a (idsG a (k + 1) 0)) id), .bool true]) ∧ H' = H) := by
  have lA := (List.getElem?_eq_some_iff.1 h.1).1
  have hS := fun K => fStops (H ++ K) A m a (arena_app h K) hok k hd hsz
  have hI := fun K => sIds A m a hok (k + 1) 0 (H ++ K) (arena_app h K) hd hsz
  have hsl : (stopsG a (idsG a (k + 1) 0)).length ≤ (idsG a (k + 1) 0).length := List.length_filter_le _ _
  generalize stopsG a (idsG a (k + 1) 0) = s at *
  generalize idsG a (k + 1) 0 = all at *
  by_cases hne : s = []
  · rw [if_pos hne]
    have e0 : ((s.length : Int) == 0) = true := by rw [hne]; rfl
    refine SCall.of_good fun hH => ?_
    have hHk := HLt.add hH
    refine SCall.of_code Tok Try.func79 rfl Try.call79 (n := 37) rfl (by simp) (rs := [.cell 4 3, .cell 5 4]) rfl ?_
    refine EWn.to ?_
    refine EWn.cutE Tok mixed (own := false) (κ := (Unit)) keep79 tab79 [(), (), ()] (fun (_u : (Unit)) => False) (fun (_u : (Unit)) => [(0, .ref A 0)]) (fun (_u : (Unit)) => H) (by simp only [headC]; rfl) (by simp only [tailC]; rfl) (by kernel_rfl) (by kernel_rfl) ?_ ?_ ?_
    · rintro _u hok; exact ⟨by first | (simp; done) | (simp; omega), by (simp (maxDischargeDepth := 6) [LTB, HLt_set, ltL_take, ltL_drop, ltL_rep, ltL_set, upd, eset, hH, hHk, zlFocus21] <;> omega), by (simp (maxDischargeDepth := 6) [LTB, HLt_set, ltL_take, ltL_drop, ltL_rep, ltL_set, upd, eset, hH, hHk, zlFocus21] <;> omega)⟩
    · (repeat simp -dsimp only [zrFocus21, xnils, xnilm, xrange, xmakeMap, xslice3, RB, TB, keep79, tab79, xindexAddr, xindex, xslice, xconvert, xlen, ewOp, FreeW, StabW, SameW, ChangeW, AddW, BaseW, limBytes, simprocAttr, ne_eq])
      (refine SCall.then (hS _) ?_)
      (repeat simp -dsimp only [zrFocus21, xnils, xnilm, xrange, xmakeMap, xslice3, e0, RB, TB, keep79, tab79, xindexAddr, xindex, xslice, xconvert, xlen, ewOp, FreeW, StabW, SameW, ChangeW, AddW, BaseW, limBytes, simprocAttr, ne_eq])
      refine RetW.auto0 false _ (by first | rfl | exact (List.append_nil _).symm) ?_ ?_
      · (simp (maxDischargeDepth := 6) [LTB, HLt_set, ltL_take, ltL_drop, ltL_rep, ltL_set, upd, eset, hH, hHk, zlFocus21] <;> omega)
      (try simp only [wk, wk1, wk0, RB, limBytes, simprocAttr, ne_eq])
      skip
    · intro x hx; exact hx.elim
  · rw [if_neg hne]
    have hlp : 0 < s.length := List.length_pos_iff.2 hne
    have e0 : ((s.length : Int) == 0) = false := by simp; exact hne
    obtain ⟨at_, hat⟩ : ∃ at_, at_ = ix (fun x => id == x) all := ⟨_, rfl⟩
    refine SCall.of_good fun hH => ?_
    have hHk := HLt.add hH
    refine ofBack2 (env := [(4, .ref H.length 0), (5, .ref (H.length + 1) 0), (6, .slice (s.map vi)), (7, .ref (H.length + 2) 0), (8, .ref (H.length + 3) 0), (22, .fn (.func 164) [] [.ref (H.length + 4) 0])]) (cc := H.length + 4) Try.func79 rfl Try.call79 (n := 37) rfl (by simp) (rs := [.cell 4 3, .cell 5 4]) rfl [(), (), (), ()] (by simp only [headC]; rfl) (by simp only [tailC]; rfl) (by kernel_rfl) keep79 tab79 (by kernel_rfl) (by kernel_rfl) (s) ((by omega)) (ι := (Unit)) (κ := (Int)) (fun (_u : (Unit)) => H ++ [.var [.int .i64 0], .var [.bool false], .var [.slice (all.map vi)], .var [.int .i64 at_], .var [.slice (s.map vi)]]) (fun pre_ => fun (_u : (Unit)) => ∀ p ∈ pre_, ¬ ix (fun x => p.2 == x) all < at_) (fun (z : (Int)) => H ++ [.var [.int .i64 z], .var [.bool true], .var [.slice (all.map vi)], .var [.int .i64 at_], .var [.slice (s.map vi)]]) (fun pre_ a_ => fun (z : (Int)) => z = a_.2 ∧ ix (fun x => a_.2 == x) all < at_ ∧ ∀ p ∈ pre_, ¬ ix (fun x => p.2 == x) all < at_) (()) (fun a_ N_ => [(4, .ref H.length 0), (5, .ref (H.length + 1) 0), (7, .ref (H.length + 2) 0), (8, .ref (H.length + 3) 0), (10, .int .i64 a_.2)]) (fun a_ N_ => []) ?_ rfl (by intro x_; first | (rw [hget0]; rfl) | (rw [hget]; rfl)) ?_ (fun _ => by simp) (fun _ => by simp) ?_ rfl (by simp) (by simp) ?_ ?_ ?_ ?_
    · (repeat simp -dsimp only [zrFocus21, xnils, xnilm, xrange, xmakeMap, xslice3, RB, TB, keep79, tab79, xindexAddr, xindex, xslice, xconvert, xlen, ewOp, FreeW, StabW, SameW, ChangeW, AddW, BaseW, limBytes, simprocAttr, ne_eq])
      (refine SCall.then (hS _) ?_)
      (repeat simp -dsimp only [zrFocus21, xnils, xnilm, xrange, xmakeMap, xslice3, e0, RB, TB, keep79, tab79, xindexAddr, xindex, xslice, xconvert, xlen, ewOp, FreeW, StabW, SameW, ChangeW, AddW, BaseW, limBytes, simprocAttr, ne_eq])
      (refine SCall.then (hI _) ?_)
      (repeat simp -dsimp only [zrFocus21, xnils, xnilm, xrange, xmakeMap, xslice3, RB, TB, keep79, tab79, xindexAddr, xindex, xslice, xconvert, xlen, ewOp, FreeW, StabW, SameW, ChangeW, AddW, BaseW, limBytes, simprocAttr, ne_eq])
      (refine SCall.then (index_int _ all id) ?_)
      (repeat simp -dsimp only [zrFocus21, xnils, xnilm, xrange, xmakeMap, xslice3, ← hat, RB, TB, keep79, tab79, xindexAddr, xindex, xslice, xconvert, xlen, ewOp, FreeW, StabW, SameW, ChangeW, AddW, BaseW, limBytes, simprocAttr, ne_eq])
      (refine SCall.then (back _ s) ?_)
      (repeat simp -dsimp only [zrFocus21, xnils, xnilm, xrange, xmakeMap, xslice3, RB, TB, keep79, tab79, xindexAddr, xindex, xslice, xconvert, xlen, ewOp, FreeW, StabW, SameW, ChangeW, AddW, BaseW, limBytes, simprocAttr, ne_eq])
      exact UpTo.here ⟨by simp [restr, eget], by simp⟩
    · simp
    · rintro pre ⟨⟩ h
      (simp (maxDischargeDepth := 6) [LTB, HLt_set, ltL_take, ltL_drop, ltL_rep, ltL_set, upd, eset, hH, hHk, zlFocus21] <;> omega)
    · rintro pre a post ⟨⟩ R hv h
      rw [updP_twoB]
      simp only [eset, limBytes, simprocAttr, ne_eq]
      refine EWn.of_c Tok mixed (own := false) keep79 tab79 (by kernel_rfl) ?_
      (repeat simp -dsimp only [zrFocus21, xnils, xnilm, xrange, xmakeMap, xslice3, RB, TB, keep79, tab79, xindexAddr, xindex, xslice, xconvert, xlen, ewOp, FreeW, StabW, SameW, ChangeW, AddW, BaseW, limBytes, simprocAttr, ne_eq])
    · rintro pre a_ post ⟨⟩ R hv hq hHR
      refine EWn.of_c Tok mixed (own := false) keep79 tab79 (by kernel_rfl) ?_
      (repeat simp -dsimp only [zrFocus21, xnils, xnilm, xrange, xmakeMap, xslice3, RB, TB, keep79, tab79, xindexAddr, xindex, xslice, xconvert, xlen, ewOp, FreeW, StabW, SameW, ChangeW, AddW, BaseW, limBytes, simprocAttr, ne_eq])
      (refine CallE.intro _ (index_int _ all a_.2) ?_)
      (repeat simp -dsimp only [zrFocus21, xnils, xnilm, xrange, xmakeMap, xslice3, RB, TB, keep79, tab79, xindexAddr, xindex, xslice, xconvert, xlen, ewOp, FreeW, StabW, SameW, ChangeW, AddW, BaseW, limBytes, simprocAttr, ne_eq])
      refine IfW.intro (fun hc => ?_) (fun hc => ?_)
      · have hc' := of_decide_eq_true hc
        (repeat simp -dsimp only [zrFocus21, xnils, xnilm, xrange, xmakeMap, xslice3, hc, RB, TB, keep79, tab79, xindexAddr, xindex, xslice, xconvert, xlen, ewOp, FreeW, StabW, SameW, ChangeW, AddW, BaseW, limBytes, simprocAttr, ne_eq])
        exact UpTo.here (.inr ⟨rfl, a_.2, ⟨rfl, hc', hq⟩, by simp⟩)
      · have hc' := of_decide_eq_false hc
        (repeat simp -dsimp only [zrFocus21, xnils, xnilm, xrange, xmakeMap, xslice3, hc, RB, TB, keep79, tab79, xindexAddr, xindex, xslice, xconvert, xlen, ewOp, FreeW, StabW, SameW, ChangeW, AddW, BaseW, limBytes, simprocAttr, ne_eq])
        exact UpTo.here (.inl ⟨rfl, (), fun p hp => by
          rcases List.mem_append.1 hp with hp | hp
          · exact hq p hp
          · rw [List.mem_singleton.1 hp]; exact hc', by simp⟩)
    · rintro D l' y vs cs ⟨⟩ hq
      have hq : ∀ p ∈ visB s, ¬ ix (fun x => p.2 == x) all < at_ := hq
      have hmi := at_map vi s (s.length - 1) (by omega)
      simp only [vi] at hmi
      have w1 : IntKind.i64.wrap ((s.length : Int) - 1) = ((s.length - 1 : Nat) : Int) := by rw [wrapI (by omega)]; omega
      refine EWn.of_c Tok mixed (own := false) keep79 tab79 (by kernel_rfl) ?_
      (repeat (first | simp -dsimp only [zrFocus21, xnils, xnilm, xrange, xmakeMap, xslice3, w1, hmi, RB, TB, keep79, tab79, xindexAddr, xindex, xslice, xconvert, xlen, ewOp, FreeW, StabW, SameW, ChangeW, AddW, BaseW, limBytes, simprocAttr, ne_eq] | ((with_reducible refine Need.intro ?_ ?_); (omega))))
      refine ⟨by (first | rw [hget] | rw [hget0]); rfl, ?_⟩
      (repeat simp -dsimp only [zrFocus21, xnils, xnilm, xrange, xmakeMap, xslice3, hset, RB, TB, keep79, tab79, xindexAddr, xindex, xslice, xconvert, xlen, ewOp, FreeW, StabW, SameW, ChangeW, AddW, BaseW, limBytes, simprocAttr, ne_eq])
      refine RetW.auto0 false _ (by first | rfl | exact (List.append_nil _).symm) ?_ ?_
      · (simp (maxDischargeDepth := 6) [LTB, HLt_set, ltL_take, ltL_drop, ltL_rep, ltL_set, upd, eset, hH, hHk, zlFocus21] <;> omega)
      (try simp only [wk, wk1, wk0, RB, limBytes, simprocAttr, ne_eq])
      skip
      have hno : ∀ x ∈ s.reverse, (decide (ix (fun y => x == y) all < ix (fun y => id == y) all)) = false := fun x hx => by
        rw [← visB_snd] at hx
        obtain ⟨p, hp, rfl⟩ := List.mem_map.1 hx
        rw [← hat]
        exact decide_eq_false (hq p hp)
      unfold prevG
      rw [find_no hno, List.getD_eq_getElem?_getD, List.getElem?_eq_getElem (by omega)]
      rfl
    · rintro D l' y vs cs pre b post z hv ⟨rfl, hc, hq⟩
      refine ⟨by simp, ?_⟩
      (repeat simp -dsimp only [zrFocus21, xnils, xnilm, xrange, xmakeMap, xslice3, RetE, hset, RB, TB, keep79, tab79, xindexAddr, xindex, xslice, xconvert, xlen, ewOp, FreeW, StabW, SameW, ChangeW, AddW, BaseW, limBytes, simprocAttr, ne_eq])
      refine RetW.auto0 false _ (by first | rfl | exact (List.append_nil _).symm) ?_ ?_
      · (simp (maxDischargeDepth := 6) [LTB, HLt_set, ltL_take, ltL_drop, ltL_rep, ltL_set, upd, eset, hH, hHk, zlFocus21] <;> omega)
      (try simp only [wk, wk1, wk0, RB, limBytes, simprocAttr, ne_eq])
      skip
      have hsp := vis_split hv
      have hf : s.reverse.find? (fun x => decide (ix (fun y => x == y) all < ix (fun y => id == y) all)) = some b.2 := by
        rw [hsp, List.find?_append, find_no (fun x hx => by
          obtain ⟨p, hp, rfl⟩ := List.mem_map.1 hx
          rw [← hat]
          exact decide_eq_false (hq p hp)), Option.none_or, List.find?_cons_of_pos (by rw [← hat]; exact decide_eq_true hc)]
      unfold prevG
      rw [hf]; rfl
end Go.Proofs.Ytjplgbalpnlanaa

/- The walk of what the laws of chapter 45 build. -/
set_option linter.unusedSimpArgs false
set_option linter.unusedVariables false
set_option maxRecDepth 100000
namespace Go.Proofs.Ytjplgbalpnlanaa
open Go Go.EL
structure OpF where
  at_ : Int
  kind : Int
  href : Bool
  hook : Bool
def opfV (o : OpF) : V := .agg [.int .i64 o.at_, .int .i64 o.kind, .bool o.href, .bool o.hook]
theorem zrFocus31 : type_of% (And.intro (And.intro (And.intro (And.intro (@st_run) (And.intro (@sz_run) (@st1_run))) (And.intro (@cl_run) (And.intro (@st_Str) (@sz_Str)))) (And.intro (And.intro (@st1_Str) (And.intro (@cl_Str) (@st_c))) (And.intro (@sz_c) (And.intro (@st1_c) (@cl_c))))) (And.intro (And.intro (And.intro (@st_attr) (And.intro (@sz_attr) (@st1_attr))) (And.intro (@cl_attr) (And.intro (@st_hook) (@sz_hook)))) (And.intro (And.intro (@st1_hook) (And.intro (@cl_hook) (@st_node))) (And.intro (@sz_node) (And.intro (@st1_node) (@cl_node)))))) := And.intro (And.intro (And.intro (And.intro (@st_run) (And.intro (@sz_run) (@st1_run))) (And.intro (@cl_run) (And.intro (@st_Str) (@sz_Str)))) (And.intro (And.intro (@st1_Str) (And.intro (@cl_Str) (@st_c))) (And.intro (@sz_c) (And.intro (@st1_c) (@cl_c))))) (And.intro (And.intro (And.intro (@st_attr) (And.intro (@sz_attr) (@st1_attr))) (And.intro (@cl_attr) (And.intro (@st_hook) (@sz_hook)))) (And.intro (And.intro (@st1_hook) (And.intro (@cl_hook) (@st_node))) (And.intro (@sz_node) (And.intro (@st1_node) (@cl_node)))))
theorem zlFocus31 : type_of% (And.intro (And.intro (And.intro (And.intro (@lt_vi) (@lt_str)) (And.intro (@lt_vb) (And.intro (@ltc_str) (@ltc_vi)))) (And.intro (And.intro (@lt_run) (And.intro (@lt1_run) (@ltc_run))) (And.intro (@lt_Str) (And.intro (@lt1_Str) (@ltc_Str))))) (And.intro (And.intro (And.intro (@lt_c) (And.intro (@lt1_c) (@ltc_c))) (And.intro (@lt_attr) (And.intro (@lt1_attr) (@ltc_attr)))) (And.intro (And.intro (@lt_hook) (And.intro (@lt1_hook) (@ltc_hook))) (And.intro (@lt_node) (And.intro (@lt1_node) (@ltc_node)))))) := And.intro (And.intro (And.intro (And.intro (@lt_vi) (@lt_str)) (And.intro (@lt_vb) (And.intro (@ltc_str) (@ltc_vi)))) (And.intro (And.intro (@lt_run) (And.intro (@lt1_run) (@ltc_run))) (And.intro (@lt_Str) (And.intro (@lt1_Str) (@ltc_Str))))) (And.intro (And.intro (And.intro (@lt_c) (And.intro (@lt1_c) (@ltc_c))) (And.intro (@lt_attr) (And.intro (@lt1_attr) (@ltc_attr)))) (And.intro (And.intro (@lt_hook) (And.intro (@lt1_hook) (@ltc_hook))) (And.intro (@lt_node) (And.intro (@lt1_node) (@ltc_node)))))
theorem lt_opf (n : Nat) (l : List (OpF)) : ltL n (l.map opfV) := ltL_map (f := opfV) (fun _ => by simp [opfV, V.lt, ltL]) l
theorem lt1_opf (n : Nat) (x : OpF) : V.lt n (opfV x) := by simp [opfV, V.lt, ltL]
theorem ltc_opf {α : Type} (n : Nat) (g : α → OpF) (l : List α) : ltL n (l.map (opfV ∘ g)) := ltL_map (f := opfV ∘ g) (fun x => lt1_opf n (g x)) l
theorem st_opf (l : List (OpF)) : (∀ x, x ∈ l.map opfV → x.storable) = True := eq_true (storable_map (f := opfV) (fun _ => trivial) l)
theorem sz_opf (l : List (OpF)) : Sized 4 (l.map opfV) = True := eq_true (sizedMapV (f := opfV) (fun _ => rfl) l)
theorem st1_opf (x : OpF) : (opfV x).storable = True := eq_true trivial
theorem cl_opf (x : OpF) : (opfV x).cells.length = 4 := rfl

def attrN (n : Node) (x : Attr) : Node := { ownN n with attrs := putA ((ownN n).attrs.map ownA) (ownA x) }
theorem putA_ok {l : List Attr} {x : Attr} (hl : ∀ a ∈ l, okA a) (hx : okA x) : ∀ a ∈ putA l x, okA a := by
  intro a ha
  unfold putA at ha
  split at ha
  · rcases List.mem_append.1 ha with h | h
    · exact hl a h
    · rw [List.mem_singleton.1 h]; exact hx
  · rcases List.mem_or_eq_of_mem_set ha with h | h
    · exact hl a h
    · rw [h]; exact hx
theorem putA_len (l : List Attr) (x : Attr) : (putA l x).length ≤ l.length + 1 := by
  unfold putA
  split
  · simp
  · simp
theorem attrN_ok {n : Node} (h : okN n) {x : Attr} (hx : okA x) (hl : n.attrs.length ≤ 1000000) : okN (attrN n x) := by
  obtain ⟨o1, o2, o3, o4, o5, o6⟩ := okN_own h
  refine ⟨o1, o2, putA_ok (fun a ha => ?_) (okA_own hx), ?_, o5, o6⟩
  · obtain ⟨b, hb, rfl⟩ := List.mem_map.1 ha
    exact okA_own (o3 b hb)
  · have := putA_len ((ownN n).attrs.map ownA) (ownA x)
    have e : ((ownN n).attrs.map ownA).length = n.attrs.length := by simp [ownN]
    show (putA ((ownN n).attrs.map ownA) (ownA x)).length ≤ _
    omega
theorem dSetAttrE (G : List Ob) (A m : Nat) (a : Arena) (h : arenaAt G A m a) (hok : ∀ p ∈ a.nodes, okN p.2.2) (id : Int) (x : Attr) (he : (ofF a id 1).2 ≠ 0) : SCall Try.prog 136 [.ref A 0, .int .i64 id, attrV x] G (fun r H' => r = .int .i64 (ofF a id 1).2 ∧ H' = G) := by
  have e1 : ((ofF a id 1).2 != 0) = true := by simpa using he
  have lA := (List.getElem?_eq_some_iff.1 h.1).1
  unfold attrV
  refine SCall.of_good fun hH => ?_
  have hHk := HLt.add hH
  refine SCall.of_code Tok Try.func136 rfl Try.call136 (n := 26) rfl (by simp) (rs := [.tmp 6]) rfl ?_
  refine EWn.to ?_
  refine EWn.of_c Tok mixed (own := false) keep136 tab136 (by kernel_rfl) ?_
  (repeat simp -dsimp only [zrFocus31, st_opf, sz_opf, st1_opf, cl_opf, xnils, xnilm, xrange, xmakeMap, xslice3, RB, TB, keep136, tab136, xindexAddr, xindex, xslice, xconvert, xlen, ewOp, FreeW, StabW, SameW, ChangeW, AddW, BaseW, limBytes, simprocAttr, ne_eq])
  (refine SCall.then (dOf _ A m a (arena_app h _) hok id 1) ?_)
  (repeat simp -dsimp only [zrFocus31, st_opf, sz_opf, st1_opf, cl_opf, xnils, xnilm, xrange, xmakeMap, xslice3, nodeV, e1, RB, TB, keep136, tab136, xindexAddr, xindex, xslice, xconvert, xlen, ewOp, FreeW, StabW, SameW, ChangeW, AddW, BaseW, limBytes, simprocAttr, ne_eq])
  refine RetW.auto0 false _ (by first | rfl | exact (List.append_nil _).symm) ?_ ?_
  · (simp (maxDischargeDepth := 6) [LTB, HLt_set, ltL_take, ltL_drop, ltL_rep, ltL_set, upd, eset, hH, hHk, zlFocus31, lt_opf, lt1_opf, ltc_opf] <;> omega)
  (try simp only [wk, wk1, wk0, RB, limBytes, simprocAttr, ne_eq])
  skip
theorem dSetAttr (G : List Ob) (A m : Nat) (a : Arena) (h : arenaAt G A m a) (hok : ∀ p ∈ a.nodes, okN p.2.2) (id : Int) (x : Attr) (hx : okA x) (n : Node) (hn : nget a.nodes id = some n) (hk : n.kind = 1) (hid : n.id = id) (hl : n.attrs.length ≤ 1000000) : SCall Try.prog 136 [.ref A 0, .int .i64 id, attrV x] G (fun r H' => r = .int .i64 0 ∧ H' = G.set m (.map (encM (nset a.nodes id (setN n (attrN n x)))) a.clock)) := by
  have e : ofF a id 1 = (ownN n, 0) := by simp [ofF, hn, hk]
  obtain ⟨p, hp, hp2⟩ := nget_mem hn
  have hokn : okN n := hp2 ▸ hok p hp
  have ho := okN_own hokn
  have lA := (List.getElem?_eq_some_iff.1 h.1).1
  have lm : m < G.length := (List.getElem?_eq_some_iff.1 h.2.1).1
  have hxx : nget a.nodes (attrN n x).id = some n := by show nget a.nodes n.id = _; rw [hid]; exact hn
  have hlo : (ownN n).attrs.length = n.attrs.length := by simp [ownN]
  have hP := fun K => aPut K (ownN n).attrs x ho.2.2.1 hx (by omega)
  have hS := fun K => aSet (G ++ K) A m a (arena_app h K) (attrN n x) n hxx (attrN_ok hokn hx hl)
  unfold attrV
  simp only [attrV] at hP
  refine SCall.of_good fun hH => ?_
  have hHk := HLt.add hH
  refine SCall.of_code Tok Try.func136 rfl Try.call136 (n := 26) rfl (by simp) (rs := [.tmp 6]) rfl ?_
  refine EWn.to ?_
  refine EWn.of_c Tok mixed (own := false) keep136 tab136 (by kernel_rfl) ?_
  (repeat simp -dsimp only [zrFocus31, st_opf, sz_opf, st1_opf, cl_opf, xnils, xnilm, xrange, xmakeMap, xslice3, RB, TB, keep136, tab136, xindexAddr, xindex, xslice, xconvert, xlen, ewOp, FreeW, StabW, SameW, ChangeW, AddW, BaseW, limBytes, simprocAttr, ne_eq])
  (refine SCall.then (dOf _ A m a (arena_app h _) hok id 1) ?_)
  (repeat simp -dsimp only [zrFocus31, st_opf, sz_opf, st1_opf, cl_opf, xnils, xnilm, xrange, xmakeMap, xslice3, nodeV, e, RB, TB, keep136, tab136, xindexAddr, xindex, xslice, xconvert, xlen, ewOp, FreeW, StabW, SameW, ChangeW, AddW, BaseW, limBytes, simprocAttr, ne_eq])
  (refine SCall.then (hP _) ?_)
  (repeat simp -dsimp only [zrFocus31, st_opf, sz_opf, st1_opf, cl_opf, xnils, xnilm, xrange, xmakeMap, xslice3, RB, TB, keep136, tab136, xindexAddr, xindex, xslice, xconvert, xlen, ewOp, FreeW, StabW, SameW, ChangeW, AddW, BaseW, limBytes, simprocAttr, ne_eq])
  refine SCall.then (hS _) ?_
  (repeat simp -dsimp only [zrFocus31, st_opf, sz_opf, st1_opf, cl_opf, xnils, xnilm, xrange, xmakeMap, xslice3, RB, TB, keep136, tab136, xindexAddr, xindex, xslice, xconvert, xlen, ewOp, FreeW, StabW, SameW, ChangeW, AddW, BaseW, limBytes, simprocAttr, ne_eq])
  rw [show (attrN n x).id = id from hid]
  refine RetW.cutK false (G.set m (.map (encM (nset a.nodes id (setN n (attrN n x)))) a.clock)) _ (List.set_append_left _ _ lm) (by simp) ?_ ?_ ?_
  · rw [List.length_set]
    exact HLt_set hH (lt_encM _ _)
  · simp [okW, okW1, okW0, V.lt]
  · simp [wk, wk1, wk0]
section
variable {B i j : Nat} {a : Arena} {ids : List Int}
theorem gSetAttr (H K : List Ob) (g : Grown B i j a ids) {c : Int} {m : Node} (hm : nget a.nodes c = some m) (x : Attr) (hx : okA x) (hkd : m.kind = 1) (hl : m.attrs.length ≤ 1000000) :
    SCall Try.prog 136 [.ref (H.length + 1) 0, .int .i64 c, attrV x] (H ++ .map (encM a.nodes) a.clock :: .var (arC H.length a) :: K) (fun r H' => r = .int .i64 0 ∧
      H' = H ++ .map (encM (nset a.nodes c (setN m (attrN m x)))) a.clock :: .var (arC H.length a) :: K) := by
  refine SCall.mono (dSetAttr _ (H.length + 1) H.length a (g.at H K) g.oks c x hx m hm hkd (nget_key g.keyed hm) hl) fun r H' h => ⟨h.1, ?_⟩
  rw [h.2]
  simp
theorem gSetAttrK (H K : List Ob) (g : Grown B i j a ids) {c : Int} {m : Node} (hm : nget a.nodes c = some m) (x : Attr) (hkd : m.kind ≠ 1) :
    SCall Try.prog 136 [.ref (H.length + 1) 0, .int .i64 c, attrV x] (H ++ .map (encM a.nodes) a.clock :: .var (arC H.length a) :: K) (fun r H' => r = .int .i64 12 ∧
      H' = H ++ .map (encM a.nodes) a.clock :: .var (arC H.length a) :: K) := by
  have e : ofF a c 1 = (nodeZ, 12) := by unfold ofF; rw [hm]; simp [hkd]
  have := dSetAttrE (H ++ .map (encM a.nodes) a.clock :: .var (arC H.length a) :: K) (H.length + 1) H.length a (g.at H K) g.oks c x (by rw [e]; decide)
  rw [e] at this
  exact this
theorem attrAny (g : Grown B i j a ids) {c : Int} {m : Node} (hm : nget a.nodes c = some m) (hma : m.attrs = []) (x : Attr) (hx : okA x) : ∃ (e : Int) (a' : Arena) (m' : Node), (∀ H K, SCall Try.prog 136 [.ref (H.length + 1) 0, .int .i64 c, attrV x] (H ++ .map (encM a.nodes) a.clock :: .var (arC H.length a) :: K) (fun r H' => r = .int .i64 e ∧
      H' = H ++ .map (encM a'.nodes) a'.clock :: .var (arC H.length a') :: K)) ∧ Grown B i j a' ids ∧ nget a'.nodes c = some m' := by
  by_cases hk : m.kind = 1
  · have okm : okN m := by
      obtain ⟨t, ht, rfl⟩ := nget_mem hm
      exact g.oks t ht
    have hh : m.hooks.length ≤ B := by
      obtain ⟨t, ht, rfl⟩ := nget_mem hm
      exact g.hks t ht
    obtain ⟨g3, hm3⟩ := g.set (m := setN m (attrN m x)) hm rfl rfl rfl rfl (okN_set okm (attrN_ok okm hx (by rw [hma]; simp))) hh
    exact ⟨0, { a with nodes := nset a.nodes c (setN m (attrN m x)) }, _, fun H K => gSetAttr H K g hm x hx hk (by rw [hma]; simp), g3, hm3⟩
  · exact ⟨12, a, m, fun H K => gSetAttrK H K g hm x hk, g, hm⟩
theorem hookAny (g : Grown B i j a ids) {c : Int} {m : Node} (hm : nget a.nodes c = some m) (l : List Hook) (hl : l.length ≤ B) (hB : B ≤ 1000000000) : ∃ (e : Int) (a' : Arena) (m' : Node), (∀ H K, SCall Try.prog 39 [.ref (H.length + 1) 0, .int .i64 c, .slice (l.map hookV)] (H ++ .map (encM a.nodes) a.clock :: .var (arC H.length a) :: K) (fun r H' => r = .int .i64 e ∧
      H' = H ++ .map (encM a'.nodes) a'.clock :: .var (arC H.length a') :: K)) ∧ Grown B i j a' ids ∧ nget a'.nodes c = some m' := by
  by_cases hk : m.kind = 1
  · have okm : okN m := by
      obtain ⟨t, ht, rfl⟩ := nget_mem hm
      exact g.oks t ht
    obtain ⟨g3, hm3⟩ := g.set (m := hookN m l) hm rfl rfl rfl rfl (hookN_ok okm (by omega)) hl
    exact ⟨0, { a with nodes := nset a.nodes c (hookN m l) }, _, fun H K => gSetHooks H K g hm l (by omega) hk, g3, hm3⟩
  · exact ⟨12, a, m, fun H K => gSetHooksK H K g hm l hk, g, hm⟩
end
set_option maxHeartbeats 2000000 in
theorem built45 (H : List Ob) (l : List OpF) : SCall Try.prog 75 [.slice (l.map opfV)] H (fun r H' => ∃ a ids p q, p ≤ 20 ∧ q ≤ 20 ∧ Grown 1048576 p q a ids ∧ r = .tuple [.ref (H.length + 1) 0, .slice (ids.map vi)] ∧ H' = H ++ [.map (encM a.nodes) a.clock, .var (arC H.length a)]) := by
  refine SCall.of_good fun hH => ?_
  have hHk := HLt.add hH
  refine SCall.of_code Tok Try.func75 rfl Try.call75 (n := 80) rfl (by simp) (rs := [.tmp 2, .tmp 3]) rfl ?_
  refine EWn.to ?_
  refine EWn.of_c Tok mixed (own := true) keep75 tab75 (by kernel_rfl) ?_
  (repeat simp -dsimp only [zrFocus31, st_opf, sz_opf, st1_opf, cl_opf, xnils, xnilm, xrange, xmakeMap, xslice3, RB, TB, keep75, tab75, xindexAddr, xindex, xslice, xconvert, xlen, ewOp, FreeW, StabW, SameW, ChangeW, AddW, BaseW, limBytes, simprocAttr, ne_eq])
  (refine SCall.then (aNew _) ?_)
  (repeat (first | simp -dsimp only [zrFocus31, st_opf, sz_opf, st1_opf, cl_opf, xnils, xnilm, xrange, xmakeMap, xslice3, RB, TB, keep75, tab75, xindexAddr, xindex, xslice, xconvert, xlen, ewOp, FreeW, StabW, SameW, ChangeW, AddW, BaseW, limBytes, simprocAttr, ne_eq] | ((with_reducible refine Need.intro ?_ ?_); (trivial))))
  refine EWn.loopE (ι := (Arena) × (List Int) × (Nat) × (Nat)) (fun (x_ : (Arena) × (List Int) × (Nat) × (Nat)) => match x_ with | (a, ids, ver, i) => i ≤ l.length ∧ i ≤ 20 ∧ ∃ p q, p ≤ i ∧ q ≤ i ∧ Grown 1048576 p q a ids) (fun (x_ : (Arena) × (List Int) × (Nat) × (Nat)) => match x_ with | (a, ids, ver, i) => l.length - i) (fun (x_ : (Arena) × (List Int) × (Nat) × (Nat)) => match x_ with | (a, ids, ver, i) => [(4, .ref (H.length + 1) 0), (5, .vec (H.length + 2) ver 0 ids.length), (6, .int .i64 i)]) (fun (x_ : (Arena) × (List Int) × (Nat) × (Nat)) => match x_ with | (a, ids, ver, i) => H ++ [.map (encM a.nodes) a.clock, .var (arC H.length a), .vec ver 1 (ids.map vi)]) (newA, [0], 1, 0) ?_ ?_ ?_ ?_ ?_
  · first | rfl | (simp [upd, eset]; done) | (simp [upd, eset, vi, arC, newA]; done)
  · simp [vi, arC, newA]
  · rintro ⟨a, ids, ver, i⟩ hok; exact ⟨by first | (simp; done) | (simp; omega), by (simp (maxDischargeDepth := 6) [LTB, HLt_set, ltL_take, ltL_drop, ltL_rep, ltL_set, upd, eset, hH, hHk, lt_encM, lt_arC, zlFocus31, lt_opf, lt1_opf, ltc_opf] <;> omega), by (simp (maxDischargeDepth := 6) [LTB, HLt_set, ltL_take, ltL_drop, ltL_rep, ltL_set, upd, eset, hH, hHk, lt_encM, lt_arC, zlFocus31, lt_opf, lt1_opf, ltc_opf] <;> omega)⟩
  · exact ⟨by omega, by omega, 0, 0, by omega, by omega, Grown.new _⟩
  rintro ⟨a, ids, ver, i⟩ ⟨hi, hi2, p, q, hp, hq, g⟩
  have hidl := g.idl
  have hidp : 0 < ids.length := List.length_pos_of_mem g.root
  refine EWn.of_c Tok mixed (own := false) keep75 tab75 (by kernel_rfl) ?_
  (repeat simp -dsimp only [zrFocus31, st_opf, sz_opf, st1_opf, cl_opf, xnils, xnilm, xrange, xmakeMap, xslice3, RB, TB, keep75, tab75, xindexAddr, xindex, xslice, xconvert, xlen, ewOp, FreeW, StabW, SameW, ChangeW, AddW, BaseW, limBytes, simprocAttr, ne_eq])
  refine IfW.intro (fun h => ?_) (fun h => ?_)
  · have hlt := lt_of h
    cases h9 : decide ((i : Int) < 20)
    · (repeat simp -dsimp only [zrFocus31, st_opf, sz_opf, st1_opf, cl_opf, xnils, xnilm, xrange, xmakeMap, xslice3, h, h9, RB, TB, keep75, tab75, xindexAddr, xindex, xslice, xconvert, xlen, ewOp, FreeW, StabW, SameW, ChangeW, AddW, BaseW, limBytes, simprocAttr, ne_eq])
      refine RetW.auto false [.map (encM a.nodes) a.clock, .var (arC H.length a)] _ (by first | rfl | simp) ?_ ?_ ?_
      · (simp (maxDischargeDepth := 6) [LTB, HLt_set, ltL_take, ltL_drop, ltL_rep, ltL_set, upd, eset, hH, hHk, lt_encM, lt_arC, zlFocus31, lt_opf, lt1_opf, ltc_opf] <;> omega)
      · (simp (maxDischargeDepth := 6) [LTB, HLt_set, ltL_take, ltL_drop, ltL_rep, ltL_set, upd, eset, hH, hHk, lt_encM, lt_arC, zlFocus31, lt_opf, lt1_opf, ltc_opf] <;> omega)
      (try simp only [wk, wk1, wk0, RB, limBytes, simprocAttr, ne_eq])
      (try (rw [List.take_of_length_le]; rotate_left 1; (· first | (simp; done) | (simp; omega) | omega)))
      exact ⟨a, ids, p, q, by omega, by omega, g, rfl, rfl⟩
    · have h9' := of_decide_eq_true h9
      have hat := at_map opfV l i hlt
      generalize l[i] = o at hat
      simp only [opfV] at hat
      obtain ⟨k3, hk3, hkw3⟩ := tmod3' o.kind
      have w1 : IntKind.i64.wrap (1 + (k3 : Int)) = 1 + k3 := wrapI (by omega)
      obtain ⟨kd, hkd⟩ : ∃ kd : Int, kd = 1 + k3 := ⟨_, rfl⟩
      rw [← hkd] at w1
      obtain ⟨x, hx, hxw⟩ := tmodn o.at_ ids.length hidp (by omega)
      obtain ⟨k0, hk0⟩ : ∃ k0 : Nat, k0 = 0 := ⟨_, rfl⟩
      have hk4 : k0 < 4 := by omega
      have hmi := at_map vi ids x hx
      simp only [vi] at hmi
      obtain ⟨tg, htg⟩ : ∃ tg : Str, tg = ⟨[97], rle [near 0]⟩ := ⟨_, rfl⟩
      have okt : okS tg := by rw [htg]; exact ⟨by simp, by have := rle_len [near 0]; simp at this ⊢; omega⟩
      obtain ⟨hx2, hhx2⟩ : ∃ hx2 : Attr, hx2 = ⟨⟨[104, 114, 101, 102], rle (List.replicate 4 (near 0))⟩, zeroS⟩ := ⟨_, rfl⟩
      have okh : okA hx2 := by rw [hhx2]; exact ⟨⟨by simp, by have := rle_len (List.replicate 4 (near 0)); simp at this ⊢; omega⟩, ⟨by simp [zeroS], by simp [zeroS]⟩⟩
      have hM := fun K => gMake H K g k0 hk4 (by omega) kd (by omega) tg okt [] 1
      obtain ⟨g1, hm⟩ := g.made hk4 (by omega) okt kd [] 1
      have hcn := (g.fresh hk4 (by omega)).2.1
      obtain ⟨m, hme⟩ : ∃ m, m = madeO k0 (idO a k0) kd tg [] 1 := ⟨_, rfl⟩
      rw [← hme] at hm
      generalize makeA a k0 kd tg [] 1 = a1 at *
      generalize idO a k0 = c at *
      rw [htg] at hM
      simp only [strV] at hM
      rw [hk0, Int.natCast_zero] at hM
      (repeat (first | simp -dsimp only [zrFocus31, st_opf, sz_opf, st1_opf, cl_opf, xnils, xnilm, xrange, xmakeMap, xslice3, h, h9, hat, hkw3, w1, ← hkd, RB, TB, keep75, tab75, xindexAddr, xindex, xslice, xconvert, xlen, ewOp, FreeW, StabW, SameW, ChangeW, AddW, BaseW, limBytes, simprocAttr, ne_eq] | ((with_reducible refine Need.intro ?_ ?_); (omega))))
      (refine CallE.intro _ (mOf _ _ _) ?_)
      skip
      (refine CallE2.intro _ _ (hM _) ?_)
      (repeat (first | simp -dsimp only [zrFocus31, st_opf, sz_opf, st1_opf, cl_opf, xnils, xnilm, xrange, xmakeMap, xslice3, hxw, hmi, RB, TB, keep75, tab75, xindexAddr, xindex, xslice, xconvert, xlen, ewOp, FreeW, StabW, SameW, ChangeW, AddW, BaseW, limBytes, simprocAttr, ne_eq] | ((with_reducible refine Need.intro ?_ ?_); (first | trivial | omega))))
      have hpi : ids[x] ∈ ids := List.getElem_mem hx
      generalize ids[x] = pr at *
      obtain ⟨n, hn⟩ : ∃ n, nget a1.nodes pr = some n := Option.isSome_iff_exists.1 (g1.mem _ hpi)
      have hmp : m.parent = -1 := by rw [hme]; rfl
      have hmks : m.kids = [] := by rw [hme]; rfl
      have hmkd : m.kind = kd := by rw [hme]; rfl
      have hma : m.attrs = [] := by rw [hme]; rfl
      clear hme
      by_cases hkn : n.kind = 2
      · (refine SCall.then (gInsertK H _ g1 (by omega) hn hm hkn 0) ?_)
        (repeat simp -dsimp only [zrFocus31, st_opf, sz_opf, st1_opf, cl_opf, xnils, xnilm, xrange, xmakeMap, xslice3, RB, TB, keep75, tab75, xindexAddr, xindex, xslice, xconvert, xlen, ewOp, FreeW, StabW, SameW, ChangeW, AddW, BaseW, limBytes, simprocAttr, ne_eq])
        rw [wrapI (by omega)]
        refine UpTo.here ⟨(a1, ids, ver, i + 1), ⟨hlt, by omega, p + 1, q, by omega, by omega, g1⟩, by simp only; omega, by simp [upd, eset], ⟨_, by simp; rfl⟩⟩
      · (refine SCall.then (gInsertA H _ g1 (by omega) (by omega) hpi hcn hn hm hkn hmp 0 (by omega) 0 rfl) ?_)
        (repeat simp -dsimp only [zrFocus31, st_opf, sz_opf, st1_opf, cl_opf, xnils, xnilm, xrange, xmakeMap, xslice3, RB, TB, keep75, tab75, xindexAddr, xindex, xslice, xconvert, xlen, ewOp, FreeW, StabW, SameW, ChangeW, AddW, BaseW, limBytes, simprocAttr, ne_eq])
        obtain ⟨g2, hm2⟩ := g1.ins (q := 0) hpi hcn hn hm hmks (by omega) (by omega)
        have g2 : Grown 1048576 (p + 1) (q + 1) (insA a1 pr c 0 n m) (ids ++ [c]) := g2
        have hm2 : nget (insA a1 pr c 0 n m).nodes c = some (setN m (parN m pr)) := hm2
        have hma2 : (setN m (parN m pr)).attrs = [] := by simp [setN, parN, ownN, hma]
        generalize setN m (parN m pr) = m2 at *
        generalize insA a1 pr c 0 n m = a2 at *
        cases hh1 : o.href
        · obtain ⟨a3, ha3⟩ : ∃ a3, a3 = a2 := ⟨_, rfl⟩
          have g3 := g2
          have hm3 := hm2
          rw [← ha3] at g3 hm3
          cases hh2 : o.hook
          · obtain ⟨a4, ha4⟩ : ∃ a4, a4 = a2 := ⟨_, rfl⟩
            have g4 := g2
            rw [← ha4] at g4
            (repeat (first | simp -dsimp only [zrFocus31, st_opf, sz_opf, st1_opf, cl_opf, xnils, xnilm, xrange, xmakeMap, xslice3, hh1, hh2, RB, TB, keep75, tab75, xindexAddr, xindex, xslice, xconvert, xlen, ewOp, FreeW, StabW, SameW, ChangeW, AddW, BaseW, limBytes, simprocAttr, ne_eq] | ((with_reducible refine Need.intro ?_ ?_); (first | trivial | omega))))
            rw [← ha4]
            rw [wrapI (by omega)]
            refine UpTo.here ⟨(a4, ids ++ [c], ver + 1, i + 1), ⟨hlt, by omega, p + 1, q + 1, by omega, by omega, g4⟩, by simp only; omega, by simp [upd, eset], ⟨_, by simp [vi]; rfl⟩⟩
          · obtain ⟨e4, a4, m4, hS4, g4, hm4⟩ := hookAny g2 hm2 [⟨1, false, 0⟩] (by simp) (by omega)
            simp only [List.map_cons, List.map_nil, hookV] at hS4
            (repeat (first | simp -dsimp only [zrFocus31, st_opf, sz_opf, st1_opf, cl_opf, xnils, xnilm, xrange, xmakeMap, xslice3, hh1, hh2, RB, TB, keep75, tab75, xindexAddr, xindex, xslice, xconvert, xlen, ewOp, FreeW, StabW, SameW, ChangeW, AddW, BaseW, limBytes, simprocAttr, ne_eq] | ((with_reducible refine Need.intro ?_ ?_); (trivial))))
            (refine SCall.thenA (hS4 H _) (by repeat (first | exact trivial | exact .inl (.inl rfl) | exact .inl (.inr ⟨_, rfl, rfl⟩) | exact .inl rfl | exact .inr ⟨_, rfl, rfl⟩ | refine .inr ⟨_, _, rfl, rfl, ?_⟩ | refine ⟨?_, ?_⟩)) ?_)
            (repeat (first | simp -dsimp only [zrFocus31, st_opf, sz_opf, st1_opf, cl_opf, xnils, xnilm, xrange, xmakeMap, xslice3, RB, TB, keep75, tab75, xindexAddr, xindex, xslice, xconvert, xlen, ewOp, FreeW, StabW, SameW, ChangeW, AddW, BaseW, limBytes, simprocAttr, ne_eq] | ((with_reducible refine Need.intro ?_ ?_); (first | trivial | omega))))
            rw [wrapI (by omega)]
            refine UpTo.here ⟨(a4, ids ++ [c], ver + 1, i + 1), ⟨hlt, by omega, p + 1, q + 1, by omega, by omega, g4⟩, by simp only; omega, by simp [upd, eset], ⟨_, by simp [vi]; rfl⟩⟩
        · obtain ⟨e3, a3, m3, hS3, g3, hm3⟩ := attrAny g2 hm2 hma2 hx2 okh
          rw [hhx2] at hS3
          simp only [attrV, zeroS, List.map_nil] at hS3
          cases hh2 : o.hook
          · (repeat simp -dsimp only [zrFocus31, st_opf, sz_opf, st1_opf, cl_opf, xnils, xnilm, xrange, xmakeMap, xslice3, hh1, hh2, RB, TB, keep75, tab75, xindexAddr, xindex, xslice, xconvert, xlen, ewOp, FreeW, StabW, SameW, ChangeW, AddW, BaseW, limBytes, simprocAttr, ne_eq])
            (refine SCall.then (mOf _ _ _) ?_)
            (repeat (first | simp -dsimp only [zrFocus31, st_opf, sz_opf, st1_opf, cl_opf, xnils, xnilm, xrange, xmakeMap, xslice3, strV, RB, TB, keep75, tab75, xindexAddr, xindex, xslice, xconvert, xlen, ewOp, FreeW, StabW, SameW, ChangeW, AddW, BaseW, limBytes, simprocAttr, ne_eq] | ((with_reducible refine Need.intro ?_ ?_); (trivial))))
            (refine SCall.thenA (hS3 H _) (by repeat (first | exact trivial | exact .inl (.inl rfl) | exact .inl (.inr ⟨_, rfl, rfl⟩) | exact .inl rfl | exact .inr ⟨_, rfl, rfl⟩ | refine .inr ⟨_, _, rfl, rfl, ?_⟩ | refine ⟨?_, ?_⟩)) ?_)
            (repeat (first | simp -dsimp only [zrFocus31, st_opf, sz_opf, st1_opf, cl_opf, xnils, xnilm, xrange, xmakeMap, xslice3, hh2, RB, TB, keep75, tab75, xindexAddr, xindex, xslice, xconvert, xlen, ewOp, FreeW, StabW, SameW, ChangeW, AddW, BaseW, limBytes, simprocAttr, ne_eq] | ((with_reducible refine Need.intro ?_ ?_); (first | trivial | omega))))
            obtain ⟨a4, ha4⟩ : ∃ a4, a4 = a3 := ⟨_, rfl⟩
            have g4 := g3
            rw [← ha4] at g4 ⊢
            rw [wrapI (by omega)]
            refine UpTo.here ⟨(a4, ids ++ [c], ver + 1, i + 1), ⟨hlt, by omega, p + 1, q + 1, by omega, by omega, g4⟩, by simp only; omega, by simp [upd, eset], ⟨_, by simp [vi]; rfl⟩⟩
          · obtain ⟨e4, a4, m4, hS4, g4, hm4⟩ := hookAny g3 hm3 [⟨1, false, 0⟩] (by simp) (by omega)
            simp only [List.map_cons, List.map_nil, hookV] at hS4
            (repeat simp -dsimp only [zrFocus31, st_opf, sz_opf, st1_opf, cl_opf, xnils, xnilm, xrange, xmakeMap, xslice3, hh1, hh2, RB, TB, keep75, tab75, xindexAddr, xindex, xslice, xconvert, xlen, ewOp, FreeW, StabW, SameW, ChangeW, AddW, BaseW, limBytes, simprocAttr, ne_eq])
            (refine SCall.then (mOf _ _ _) ?_)
            (repeat (first | simp -dsimp only [zrFocus31, st_opf, sz_opf, st1_opf, cl_opf, xnils, xnilm, xrange, xmakeMap, xslice3, strV, RB, TB, keep75, tab75, xindexAddr, xindex, xslice, xconvert, xlen, ewOp, FreeW, StabW, SameW, ChangeW, AddW, BaseW, limBytes, simprocAttr, ne_eq] | ((with_reducible refine Need.intro ?_ ?_); (trivial))))
            (refine SCall.thenA (hS3 H _) (by repeat (first | exact trivial | exact .inl (.inl rfl) | exact .inl (.inr ⟨_, rfl, rfl⟩) | exact .inl rfl | exact .inr ⟨_, rfl, rfl⟩ | refine .inr ⟨_, _, rfl, rfl, ?_⟩ | refine ⟨?_, ?_⟩)) ?_)
            (repeat (first | simp -dsimp only [zrFocus31, st_opf, sz_opf, st1_opf, cl_opf, xnils, xnilm, xrange, xmakeMap, xslice3, hh2, RB, TB, keep75, tab75, xindexAddr, xindex, xslice, xconvert, xlen, ewOp, FreeW, StabW, SameW, ChangeW, AddW, BaseW, limBytes, simprocAttr, ne_eq] | ((with_reducible refine Need.intro ?_ ?_); (trivial))))
            (refine SCall.thenA (hS4 H _) (by repeat (first | exact trivial | exact .inl (.inl rfl) | exact .inl (.inr ⟨_, rfl, rfl⟩) | exact .inl rfl | exact .inr ⟨_, rfl, rfl⟩ | refine .inr ⟨_, _, rfl, rfl, ?_⟩ | refine ⟨?_, ?_⟩)) ?_)
            (repeat (first | simp -dsimp only [zrFocus31, st_opf, sz_opf, st1_opf, cl_opf, xnils, xnilm, xrange, xmakeMap, xslice3, RB, TB, keep75, tab75, xindexAddr, xindex, xslice, xconvert, xlen, ewOp, FreeW, StabW, SameW, ChangeW, AddW, BaseW, limBytes, simprocAttr, ne_eq] | ((with_reducible refine Need.intro ?_ ?_); (first | trivial | omega))))
            rw [wrapI (by omega)]
            refine UpTo.here ⟨(a4, ids ++ [c], ver + 1, i + 1), ⟨hlt, by omega, p + 1, q + 1, by omega, by omega, g4⟩, by simp only; omega, by simp [upd, eset], ⟨_, by simp [vi]; rfl⟩⟩
  · (repeat simp -dsimp only [zrFocus31, st_opf, sz_opf, st1_opf, cl_opf, xnils, xnilm, xrange, xmakeMap, xslice3, h, RB, TB, keep75, tab75, xindexAddr, xindex, xslice, xconvert, xlen, ewOp, FreeW, StabW, SameW, ChangeW, AddW, BaseW, limBytes, simprocAttr, ne_eq])
    refine RetW.auto false [.map (encM a.nodes) a.clock, .var (arC H.length a)] _ (by first | rfl | simp) ?_ ?_ ?_
    · (simp (maxDischargeDepth := 6) [LTB, HLt_set, ltL_take, ltL_drop, ltL_rep, ltL_set, upd, eset, hH, hHk, lt_encM, lt_arC, zlFocus31, lt_opf, lt1_opf, ltc_opf] <;> omega)
    · (simp (maxDischargeDepth := 6) [LTB, HLt_set, ltL_take, ltL_drop, ltL_rep, ltL_set, upd, eset, hH, hHk, lt_encM, lt_arC, zlFocus31, lt_opf, lt1_opf, ltc_opf] <;> omega)
    (try simp only [wk, wk1, wk0, RB, limBytes, simprocAttr, ne_eq])
    (try (rw [List.take_of_length_le]; rotate_left 1; (· first | (simp; done) | (simp; omega) | omega)))
    exact ⟨a, ids, p, q, by omega, by omega, g, rfl, rfl⟩
end Go.Proofs.Ytjplgbalpnlanaa

/- The walks of the reference of chapter 45: index, stops. -/
set_option linter.unusedSimpArgs false
set_option linter.unusedVariables false
set_option maxRecDepth 100000
namespace Go.Proofs.Ytjplgbalpnlanaa
open Go Go.EL
theorem zrFocus41 : type_of% (And.intro (And.intro (And.intro (And.intro (@st_run) (And.intro (@sz_run) (@st1_run))) (And.intro (And.intro (@cl_run) (@st_Str)) (And.intro (@sz_Str) (@st1_Str)))) (And.intro (And.intro (@cl_Str) (And.intro (@st_c) (@sz_c))) (And.intro (And.intro (@st1_c) (@cl_c)) (And.intro (@st_attr) (@sz_attr))))) (And.intro (And.intro (And.intro (@st1_attr) (And.intro (@cl_attr) (@st_hook))) (And.intro (And.intro (@sz_hook) (@st1_hook)) (And.intro (@cl_hook) (@st_node)))) (And.intro (And.intro (@sz_node) (And.intro (@st1_node) (@cl_node))) (And.intro (And.intro (@st_opf) (@sz_opf)) (And.intro (@st1_opf) (@cl_opf)))))) := And.intro (And.intro (And.intro (And.intro (@st_run) (And.intro (@sz_run) (@st1_run))) (And.intro (And.intro (@cl_run) (@st_Str)) (And.intro (@sz_Str) (@st1_Str)))) (And.intro (And.intro (@cl_Str) (And.intro (@st_c) (@sz_c))) (And.intro (And.intro (@st1_c) (@cl_c)) (And.intro (@st_attr) (@sz_attr))))) (And.intro (And.intro (And.intro (@st1_attr) (And.intro (@cl_attr) (@st_hook))) (And.intro (And.intro (@sz_hook) (@st1_hook)) (And.intro (@cl_hook) (@st_node)))) (And.intro (And.intro (@sz_node) (And.intro (@st1_node) (@cl_node))) (And.intro (And.intro (@st_opf) (@sz_opf)) (And.intro (@st1_opf) (@cl_opf)))))
theorem zlFocus41 : type_of% (And.intro (And.intro (And.intro (And.intro (@lt_vi) (And.intro (@lt_str) (@lt_vb))) (And.intro (@ltc_str) (And.intro (@ltc_vi) (@lt_run)))) (And.intro (And.intro (@lt1_run) (And.intro (@ltc_run) (@lt_Str))) (And.intro (And.intro (@lt1_Str) (@ltc_Str)) (And.intro (@lt_c) (@lt1_c))))) (And.intro (And.intro (And.intro (@ltc_c) (And.intro (@lt_attr) (@lt1_attr))) (And.intro (@ltc_attr) (And.intro (@lt_hook) (@lt1_hook)))) (And.intro (And.intro (@ltc_hook) (And.intro (@lt_node) (@lt1_node))) (And.intro (And.intro (@ltc_node) (@lt_opf)) (And.intro (@lt1_opf) (@ltc_opf)))))) := And.intro (And.intro (And.intro (And.intro (@lt_vi) (And.intro (@lt_str) (@lt_vb))) (And.intro (@ltc_str) (And.intro (@ltc_vi) (@lt_run)))) (And.intro (And.intro (@lt1_run) (And.intro (@ltc_run) (@lt_Str))) (And.intro (And.intro (@lt1_Str) (@ltc_Str)) (And.intro (@lt_c) (@lt1_c))))) (And.intro (And.intro (And.intro (@ltc_c) (And.intro (@lt_attr) (@lt1_attr))) (And.intro (@ltc_attr) (And.intro (@lt_hook) (@lt1_hook)))) (And.intro (And.intro (@ltc_hook) (And.intro (@lt_node) (@lt1_node))) (And.intro (And.intro (@ltc_node) (@lt_opf)) (And.intro (@lt1_opf) (@ltc_opf)))))
theorem lIndex (H : List Ob) (l : List Int) (n : Int) (hl : l.length ≤ 1000000) : SCall Try.prog 77 [.slice (l.map vi), .int .i64 n] H (fun r H' => r = .int .i64 (ix (fun x => n == x) l) ∧ H' = H) := by
  refine SCall.of_good fun hH => ?_
  have hHk := HLt.add hH
  refine SCall.of_code Tok Try.func77 rfl Try.call77 (n := 19) rfl (by simp) (rs := [.tmp 4]) rfl ?_
  refine EWn.to ?_
  refine EWn.of_c Tok mixed (own := false) keep77 tab77 (by kernel_rfl) ?_
  (repeat simp -dsimp only [zrFocus41, xnils, xnilm, xrange, xmakeMap, xslice3, RB, TB, keep77, tab77, xindexAddr, xindex, xslice, xconvert, xlen, ewOp, FreeW, StabW, SameW, ChangeW, AddW, BaseW, limBytes, simprocAttr, ne_eq])
  refine EWn.loopE (ι := (Nat)) (fun (i : (Nat)) => i ≤ l.length ∧ ∀ x ∈ l.take i, (n == x) = false) (fun (i : (Nat)) => l.length - i) (fun (i : (Nat)) => [(5, .int .i64 i)]) (fun (i : (Nat)) => H) (0) ?_ ?_ ?_ ?_ ?_
  · first | rfl | simp [upd, eset]
  · first | rfl | (simp; done) | exact (set_same (by assumption)).symm
  · rintro i hok; exact ⟨by first | (simp; done) | (simp; omega), by (simp (maxDischargeDepth := 6) [LTB, HLt_set, ltL_take, ltL_drop, ltL_rep, ltL_set, upd, eset, hH, hHk, zlFocus41] <;> omega), by (simp (maxDischargeDepth := 6) [LTB, HLt_set, ltL_take, ltL_drop, ltL_rep, ltL_set, upd, eset, hH, hHk, zlFocus41] <;> omega)⟩
  · simp
  rintro i ⟨hi, hno⟩
  refine EWn.of_c Tok mixed (own := false) keep77 tab77 (by kernel_rfl) ?_
  (repeat simp -dsimp only [zrFocus41, xnils, xnilm, xrange, xmakeMap, xslice3, RB, TB, keep77, tab77, xindexAddr, xindex, xslice, xconvert, xlen, ewOp, FreeW, StabW, SameW, ChangeW, AddW, BaseW, limBytes, simprocAttr, ne_eq])
  refine IfW.intro (fun h => ?_) (fun h => ?_)
  · have hlt := lt_of h
    have hmi := at_map vi l i hlt
    simp only [vi] at hmi
    (repeat (first | simp -dsimp only [zrFocus41, xnils, xnilm, xrange, xmakeMap, xslice3, h, hmi, RB, TB, keep77, tab77, xindexAddr, xindex, xslice, xconvert, xlen, ewOp, FreeW, StabW, SameW, ChangeW, AddW, BaseW, limBytes, simprocAttr, ne_eq] | ((with_reducible refine Need.intro ?_ ?_); (omega))))
    refine IfW.intro (fun h1 => ?_) (fun h1 => ?_)
    · (repeat simp -dsimp only [zrFocus41, xnils, xnilm, xrange, xmakeMap, xslice3, h1, RB, TB, keep77, tab77, xindexAddr, xindex, xslice, xconvert, xlen, ewOp, FreeW, StabW, SameW, ChangeW, AddW, BaseW, limBytes, simprocAttr, ne_eq])
      refine RetW.auto0 false _ (by first | rfl | exact (List.append_nil _).symm) ?_ ?_
      · (simp (maxDischargeDepth := 6) [LTB, HLt_set, ltL_take, ltL_drop, ltL_rep, ltL_set, upd, eset, hH, hHk, zlFocus41] <;> omega)
      (try simp only [wk, wk1, wk0, RB, limBytes, simprocAttr, ne_eq])
      skip
      have e : l[i] = n := by simpa using h1
      rw [ix_hit hlt (by simp [e]) hno]
    · (repeat simp -dsimp only [zrFocus41, xnils, xnilm, xrange, xmakeMap, xslice3, h1, RB, TB, keep77, tab77, xindexAddr, xindex, xslice, xconvert, xlen, ewOp, FreeW, StabW, SameW, ChangeW, AddW, BaseW, limBytes, simprocAttr, ne_eq])
      rw [wrapI (by omega)]
      refine UpTo.here ⟨i + 1, ⟨hlt, take_step hlt ?_ hno⟩, by simp only; omega, by simp [upd, eset], ⟨_, by simp; try rfl⟩⟩
      have hne : ¬ l[i] = n := by simpa using h1
      simpa using fun e : n = l[i] => hne e.symm
  · (repeat simp -dsimp only [zrFocus41, xnils, xnilm, xrange, xmakeMap, xslice3, h, RB, TB, keep77, tab77, xindexAddr, xindex, xslice, xconvert, xlen, ewOp, FreeW, StabW, SameW, ChangeW, AddW, BaseW, limBytes, simprocAttr, ne_eq])
    refine RetW.auto0 false _ (by first | rfl | exact (List.append_nil _).symm) ?_ ?_
    · (simp (maxDischargeDepth := 6) [LTB, HLt_set, ltL_take, ltL_drop, ltL_rep, ltL_set, upd, eset, hH, hHk, zlFocus41] <;> omega)
    (try simp only [wk, wk1, wk0, RB, limBytes, simprocAttr, ne_eq])
    skip
    rw [ix_none (take_all (ge_of h) hno)]
theorem getA_any (l : List Attr) (name : List UInt8) : (getA l name).2 = l.any fun a => a.name.text == name := by
  unfold getA
  cases h : l.find? (fun a => a.name.text == name) with
  | none =>
    rw [List.find?_eq_none] at h
    symm
    rw [List.any_eq_false]
    exact fun x hx => h x hx
  | some a =>
    symm
    rw [List.any_eq_true]
    exact ⟨a, List.mem_of_find?_eq_some h, by simpa using List.find?_some h⟩
set_option maxHeartbeats 2000000 in
theorem lStops (H : List Ob) (A m : Nat) (a : Arena) (h : arenaAt H A m a) (hok : ∀ p ∈ a.nodes, okN p.2.2) (l : List Int) (hl : l.length ≤ 1000000) : SCall Try.prog 76 [.ref A 0, .slice (l.map vi)] H (fun r H' => r = .slice ((stopsG a l).map vi) ∧ H' = H) := by
  have lA := (List.getElem?_eq_some_iff.1 h.1).1
  have s0 : stopsG a (l.take 0) = [] := rfl
  have ss : ∀ i, (hi : i < l.length) → stopsG a (l.take (i + 1)) = stopsG a (l.take i) ++ (if stopN (nodeAt a l[i]) = true then [l[i]] else []) := fun i hi => by
    unfold stopsG
    rw [List.take_succ_eq_append_getElem hi, List.filter_append]
    congr 1
    rw [List.filter_cons]
    rfl
  have sl : ∀ i, (stopsG a (l.take i)).length ≤ 1000000 := fun i => Nat.le_trans (List.length_filter_le _ _) (by rw [List.length_take]; omega)
  have sn : stopsG a l = stopsG a (l.take l.length) := by rw [List.take_length]
  rw [sn]
  refine SCall.of_good fun hH => ?_
  have hHk := HLt.add hH
  refine SCall.of_code Tok Try.func76 rfl Try.call76 (n := 62) rfl (by simp) (rs := [.tmp 4]) rfl ?_
  refine EWn.to ?_
  refine EWn.of_c Tok mixed (own := false) keep76 tab76 (by kernel_rfl) ?_
  (repeat simp -dsimp only [zrFocus41, xnils, xnilm, xrange, xmakeMap, xslice3, RB, TB, keep76, tab76, xindexAddr, xindex, xslice, xconvert, xlen, ewOp, FreeW, StabW, SameW, ChangeW, AddW, BaseW, limBytes, simprocAttr, ne_eq])
  refine EWn.ghost (Gho.adopt 5 1 rfl) ?_
  simp only [RB, limBytes, simprocAttr, ne_eq]
  refine EWn.loopE (ι := (Nat) × (Nat)) (fun (x_ : (Nat) × (Nat)) => match x_ with | (i, v) => i ≤ l.length) (fun (x_ : (Nat) × (Nat)) => match x_ with | (i, v) => l.length - i) (fun (x_ : (Nat) × (Nat)) => match x_ with | (i, v) => [(5, .vec H.length v 0 (stopsG a (l.take i)).length), (6, .int .i64 i)]) (fun (x_ : (Nat) × (Nat)) => match x_ with | (i, v) => H ++ [.vec v 1 ((stopsG a (l.take i)).map vi)]) (0, 1) ?_ ?_ ?_ ?_ ?_
  · first | rfl | (simp [upd, eset]; done) | (simp [upd, eset, stopsG]; done)
  · simp [stopsG]
  · rintro ⟨i, v⟩ hok; exact ⟨by first | (simp; done) | (simp; omega), by (simp (maxDischargeDepth := 6) [LTB, HLt_set, ltL_take, ltL_drop, ltL_rep, ltL_set, upd, eset, hH, hHk, ltL_nodeC, zlFocus41] <;> omega), by (simp (maxDischargeDepth := 6) [LTB, HLt_set, ltL_take, ltL_drop, ltL_rep, ltL_set, upd, eset, hH, hHk, ltL_nodeC, zlFocus41] <;> omega)⟩
  · omega
  rintro ⟨i, v⟩ hi
  refine EWn.of_c Tok mixed (own := false) keep76 tab76 (by kernel_rfl) ?_
  (repeat simp -dsimp only [zrFocus41, xnils, xnilm, xrange, xmakeMap, xslice3, RB, TB, keep76, tab76, xindexAddr, xindex, xslice, xconvert, xlen, ewOp, FreeW, StabW, SameW, ChangeW, AddW, BaseW, limBytes, simprocAttr, ne_eq])
  refine IfW.intro (fun h0 => ?_) (fun h0 => ?_)
  · have hlt := lt_of h0
    have hmi := at_map vi l i hlt
    simp only [vi] at hmi
    have hs := ss i hlt
    have hsl := sl i
    have okn := okN_at hok l[i]
    (repeat (first | simp -dsimp only [zrFocus41, xnils, xnilm, xrange, xmakeMap, xslice3, h0, hmi, RB, TB, keep76, tab76, xindexAddr, xindex, xslice, xconvert, xlen, ewOp, FreeW, StabW, SameW, ChangeW, AddW, BaseW, limBytes, simprocAttr, ne_eq] | ((with_reducible refine Need.intro ?_ ?_); (omega))))
    (refine SCall.then (aGetF _ A m a (arena_app h _) hok l[i]) ?_)
    (repeat simp -dsimp only [zrFocus41, xnils, xnilm, xrange, xmakeMap, xslice3, nodeV, RB, TB, keep76, tab76, xindexAddr, xindex, xslice, xconvert, xlen, ewOp, FreeW, StabW, SameW, ChangeW, AddW, BaseW, limBytes, simprocAttr, ne_eq])
    generalize nodeAt a l[i] = n at *
    generalize l[i] = x at *
    have hal : n.attrs.length ≤ 1000000000000 := okn.2.2.2.1
    obtain ⟨q, hq⟩ : ∃ q : Nat → Bool, ∀ k, q k = (decide (0 < n.hooks.length) || (n.attrs.take k).any fun a => a.name.text == [104, 114, 101, 102]) := ⟨_, fun _ => rfl⟩
    have q0 : decide ((n.hooks.length : Int) > 0) = q 0 := by rw [hq]; simp
    have qs : ∀ k, (hk : k < n.attrs.length) → q (k + 1) = (q k || (n.attrs[k].name.text == [104, 114, 101, 102])) := fun k hk => by
      rw [hq, hq, List.take_succ_eq_append_getElem hk, List.any_append]
      simp [Bool.or_assoc]
    have qn : stopN n = ((n.kind == 1) && q n.attrs.length) := by
      unfold stopN
      rw [hq, List.take_length, getA_any, Bool.or_comm]
    (repeat simp -dsimp only [zrFocus41, xnils, xnilm, xrange, xmakeMap, xslice3, q0, RB, TB, keep76, tab76, xindexAddr, xindex, xslice, xconvert, xlen, ewOp, FreeW, StabW, SameW, ChangeW, AddW, BaseW, limBytes, simprocAttr, ne_eq])
    refine EWn.loopE (ι := (Nat)) (fun (k : (Nat)) => k ≤ n.attrs.length) (fun (k : (Nat)) => n.attrs.length - k) (fun (k : (Nat)) => [(9, .bool (q k)), (10, .int .i64 k)]) (fun (k : (Nat)) => H ++ [.vec v 1 ((stopsG a (l.take i)).map vi), .var (nodeV n).cells]) (0) ?_ ?_ ?_ ?_ ?_
    · first | rfl | (simp [upd, eset]; done) | (simp [upd, eset, nodeV, V.cells, ← q0]; done)
    · simp [nodeV, V.cells, ← q0]
    · rintro k hok; exact ⟨by first | (simp; done) | (simp; omega), by (simp (maxDischargeDepth := 6) [LTB, HLt_set, ltL_take, ltL_drop, ltL_rep, ltL_set, upd, eset, hH, hHk, ltL_nodeC, zlFocus41] <;> omega), by (simp (maxDischargeDepth := 6) [LTB, HLt_set, ltL_take, ltL_drop, ltL_rep, ltL_set, upd, eset, hH, hHk, ltL_nodeC, zlFocus41] <;> omega)⟩
    · omega
    rintro k hk
    refine EWn.of_c Tok mixed (own := false) keep76 tab76 (by kernel_rfl) ?_
    (repeat simp -dsimp only [zrFocus41, xnils, xnilm, xrange, xmakeMap, xslice3, nodeV, RB, TB, keep76, tab76, xindexAddr, xindex, xslice, xconvert, xlen, ewOp, FreeW, StabW, SameW, ChangeW, AddW, BaseW, limBytes, simprocAttr, ne_eq])
    refine IfW.intro (fun h1 => ?_) (fun h1 => ?_)
    · have hlt2 := lt_of h1
      have hat2 := at_map attrV n.attrs k hlt2
      have qk := qs k hlt2
      generalize n.attrs[k] = y at hat2 qk
      simp only [attrV] at hat2
      have wk : IntKind.i64.wrap ((k : Int) + 1) = ((k + 1 : Nat) : Int) := by rw [wrapI (by omega)]; omega
      cases h2 : q k
      · rw [h2, Bool.false_or] at qk
        (repeat (first | simp -dsimp only [zrFocus41, xnils, xnilm, xrange, xmakeMap, xslice3, h1, h2, hat2, wk, RB, TB, keep76, tab76, xindexAddr, xindex, xslice, xconvert, xlen, ewOp, FreeW, StabW, SameW, ChangeW, AddW, BaseW, limBytes, simprocAttr, ne_eq] | ((with_reducible refine Need.intro ?_ ?_); (omega))))
        refine UpTo.here ⟨k + 1, hlt2, by simp only; omega, by simp [upd, eset, qk], ⟨_, by simp [nodeV, V.cells]; try rfl⟩⟩
      · rw [h2, Bool.true_or] at qk
        (repeat simp -dsimp only [zrFocus41, xnils, xnilm, xrange, xmakeMap, xslice3, h1, h2, hat2, wk, RB, TB, keep76, tab76, xindexAddr, xindex, xslice, xconvert, xlen, ewOp, FreeW, StabW, SameW, ChangeW, AddW, BaseW, limBytes, simprocAttr, ne_eq])
        refine UpTo.here ⟨k + 1, hlt2, by simp only; omega, by simp [upd, eset, qk], ⟨_, by simp [nodeV, V.cells]; try rfl⟩⟩
    · have hk2 : k = n.attrs.length := Nat.le_antisymm hk (ge_of h1)
      subst hk2
      have wi : IntKind.i64.wrap ((i : Int) + 1) = ((i + 1 : Nat) : Int) := by rw [wrapI (by omega)]; omega
      cases h2 : q n.attrs.length
      · rw [qn, h2, Bool.and_false, if_neg (by simp), List.append_nil] at hs
        (repeat simp -dsimp only [zrFocus41, xnils, xnilm, xrange, xmakeMap, xslice3, h1, h2, wi, RB, TB, keep76, tab76, xindexAddr, xindex, xslice, xconvert, xlen, ewOp, FreeW, StabW, SameW, ChangeW, AddW, BaseW, limBytes, simprocAttr, ne_eq])
        refine UpTo.here ⟨(i + 1, v), hlt, by simp only; omega, by simp [upd, eset, hs], ⟨_, by simp [hs]; rfl⟩⟩
      · cases h3 : (n.kind == 1)
        · rw [qn, h3, Bool.false_and, if_neg (by simp), List.append_nil] at hs
          (repeat simp -dsimp only [zrFocus41, xnils, xnilm, xrange, xmakeMap, xslice3, h1, h2, h3, wi, RB, TB, keep76, tab76, xindexAddr, xindex, xslice, xconvert, xlen, ewOp, FreeW, StabW, SameW, ChangeW, AddW, BaseW, limBytes, simprocAttr, ne_eq])
          refine UpTo.here ⟨(i + 1, v), hlt, by simp only; omega, by simp [upd, eset, hs], ⟨_, by simp [hs]; rfl⟩⟩
        · rw [qn, h3, h2, Bool.true_and, if_pos rfl] at hs
          (repeat (first | simp -dsimp only [zrFocus41, xnils, xnilm, xrange, xmakeMap, xslice3, h1, h2, h3, wi, hmi, RB, TB, keep76, tab76, xindexAddr, xindex, xslice, xconvert, xlen, ewOp, FreeW, StabW, SameW, ChangeW, AddW, BaseW, limBytes, simprocAttr, ne_eq] | ((with_reducible refine Need.intro ?_ ?_); (first | trivial | omega))))
          refine UpTo.here ⟨(i + 1, v + 1), hlt, by simp only; omega, by simp [upd, eset, hs], ⟨_, by simp [hs, vi]; rfl⟩⟩
  · have hi2 : i = l.length := Nat.le_antisymm hi (ge_of h0)
    subst hi2
    (repeat simp -dsimp only [zrFocus41, xnils, xnilm, xrange, xmakeMap, xslice3, h0, RB, TB, keep76, tab76, xindexAddr, xindex, xslice, xconvert, xlen, ewOp, FreeW, StabW, SameW, ChangeW, AddW, BaseW, limBytes, simprocAttr, ne_eq])
    refine RetW.auto0 false _ (by first | rfl | exact (List.append_nil _).symm) ?_ ?_
    · (simp (maxDischargeDepth := 6) [LTB, HLt_set, ltL_take, ltL_drop, ltL_rep, ltL_set, upd, eset, hH, hHk, ltL_nodeC, zlFocus41] <;> omega)
    (try simp only [wk, wk1, wk0, RB, limBytes, simprocAttr, ne_eq])
    (try (rw [List.take_of_length_le]; rotate_left 1; (· first | (simp; done) | (simp; omega) | omega)))
end Go.Proofs.Ytjplgbalpnlanaa

/- The example of chapter 45. -/
set_option linter.unusedSimpArgs false
set_option linter.unusedVariables false
set_option maxRecDepth 100000
namespace Go.Proofs.Ytjplgbalpnlanaa
open Go Go.EL
theorem zrFocus51 : type_of% (And.intro (And.intro (And.intro (And.intro (@st_run) (And.intro (@sz_run) (@st1_run))) (And.intro (And.intro (@cl_run) (@st_Str)) (And.intro (@sz_Str) (@st1_Str)))) (And.intro (And.intro (@cl_Str) (And.intro (@st_c) (@sz_c))) (And.intro (And.intro (@st1_c) (@cl_c)) (And.intro (@st_attr) (@sz_attr))))) (And.intro (And.intro (And.intro (@st1_attr) (And.intro (@cl_attr) (@st_hook))) (And.intro (And.intro (@sz_hook) (@st1_hook)) (And.intro (@cl_hook) (@st_node)))) (And.intro (And.intro (@sz_node) (And.intro (@st1_node) (@cl_node))) (And.intro (And.intro (@st_opf) (@sz_opf)) (And.intro (@st1_opf) (@cl_opf)))))) := And.intro (And.intro (And.intro (And.intro (@st_run) (And.intro (@sz_run) (@st1_run))) (And.intro (And.intro (@cl_run) (@st_Str)) (And.intro (@sz_Str) (@st1_Str)))) (And.intro (And.intro (@cl_Str) (And.intro (@st_c) (@sz_c))) (And.intro (And.intro (@st1_c) (@cl_c)) (And.intro (@st_attr) (@sz_attr))))) (And.intro (And.intro (And.intro (@st1_attr) (And.intro (@cl_attr) (@st_hook))) (And.intro (And.intro (@sz_hook) (@st1_hook)) (And.intro (@cl_hook) (@st_node)))) (And.intro (And.intro (@sz_node) (And.intro (@st1_node) (@cl_node))) (And.intro (And.intro (@st_opf) (@sz_opf)) (And.intro (@st1_opf) (@cl_opf)))))
theorem zlFocus51 : type_of% (And.intro (And.intro (And.intro (And.intro (@lt_vi) (And.intro (@lt_str) (@lt_vb))) (And.intro (@ltc_str) (And.intro (@ltc_vi) (@lt_run)))) (And.intro (And.intro (@lt1_run) (And.intro (@ltc_run) (@lt_Str))) (And.intro (And.intro (@lt1_Str) (@ltc_Str)) (And.intro (@lt_c) (@lt1_c))))) (And.intro (And.intro (And.intro (@ltc_c) (And.intro (@lt_attr) (@lt1_attr))) (And.intro (@ltc_attr) (And.intro (@lt_hook) (@lt1_hook)))) (And.intro (And.intro (@ltc_hook) (And.intro (@lt_node) (@lt1_node))) (And.intro (And.intro (@ltc_node) (@lt_opf)) (And.intro (@lt1_opf) (@ltc_opf)))))) := And.intro (And.intro (And.intro (And.intro (@lt_vi) (And.intro (@lt_str) (@lt_vb))) (And.intro (@ltc_str) (And.intro (@ltc_vi) (@lt_run)))) (And.intro (And.intro (@lt1_run) (And.intro (@ltc_run) (@lt_Str))) (And.intro (And.intro (@lt1_Str) (@ltc_Str)) (And.intro (@lt_c) (@lt1_c))))) (And.intro (And.intro (And.intro (@ltc_c) (And.intro (@lt_attr) (@lt1_attr))) (And.intro (@ltc_attr) (And.intro (@lt_hook) (@lt1_hook)))) (And.intro (And.intro (@ltc_hook) (And.intro (@lt_node) (@lt1_node))) (And.intro (And.intro (@ltc_node) (@lt_opf)) (And.intro (@lt1_opf) (@ltc_opf)))))
set_option maxHeartbeats 2000000 in
theorem built45a (H : List Ob) : SCall Try.prog 75 [.slice (([⟨0, 0, true, false⟩] : List OpF).map opfV)] H (fun r H' => ∃ a, Grown 10 1 1 a ([0] ++ [1]) ∧ idsG a 2 0 = [0, 1] ∧ stopN (nodeAt a 0) = false ∧ stopN (nodeAt a 1) = true ∧ r = .tuple [.ref (H.length + 1) 0, .slice (([0] ++ [1] : List Int).map vi)] ∧ H' = H ++ [.map (encM a.nodes) a.clock, .var (arC H.length a)]) := by
  have w1 : IntKind.i64.wrap 1 = 1 := rfl
  have w3 : IntKind.i64.wrap 3 = 3 := rfl
  obtain ⟨tg, htg⟩ : ∃ tg : Str, tg = ⟨[97], rle [near 0]⟩ := ⟨_, rfl⟩
  have okt : okS tg := by rw [htg]; exact ⟨by simp, by have := rle_len [near 0]; simp at this ⊢; omega⟩
  obtain ⟨hx2, hhx2⟩ : ∃ hx2 : Attr, hx2 = ⟨⟨[104, 114, 101, 102], rle (List.replicate 4 (near 0))⟩, zeroS⟩ := ⟨_, rfl⟩
  have okh : okA hx2 := by rw [hhx2]; exact ⟨⟨by simp, by have := rle_len (List.replicate 4 (near 0)); simp at this ⊢; omega⟩, ⟨by simp [zeroS], by simp [zeroS]⟩⟩
  have g0 := Grown.new 10
  obtain ⟨k0, hk0⟩ : ∃ k0 : Nat, k0 = 0 := ⟨_, rfl⟩
  have hk4 : k0 < 4 := by omega
  have hM := fun K => gMake H K g0 k0 hk4 (by omega) 1 (by omega) tg okt [] 1
  obtain ⟨g1, hm⟩ := g0.made hk4 (by omega) okt 1 [] 1
  have hq1 := fun x => nget_made (a := newA) (k := k0) (kind := 1) (tag := tg) (key := []) (slot := 1) (g0.fresh hk4 (by omega)).1 x
  have hid : idO newA k0 = 1 := by rw [hk0]; rfl
  rw [hid] at hM hm
  simp only [hid] at hq1
  obtain ⟨m, hme⟩ : ∃ m, m = madeO k0 1 1 tg [] 1 := ⟨_, rfl⟩
  rw [← hme] at hm
  simp only [← hme] at hq1
  generalize makeA newA k0 1 tg [] 1 = a1 at *
  have hr0 : nget a1.nodes 0 = some rootN := by rw [hq1, if_neg (by omega)]; rfl
  have hI := fun K => gInsertA H K g1 (by omega) (by omega) (p := 0) (c := 1) (by simp) (by simp) hr0 hm (by simp [rootN]) (by rw [hme]; rfl) 0 (by omega) 0 rfl
  obtain ⟨g2, hm2⟩ := g1.ins (q := 0) (p := 0) (c := 1) (by simp) (by simp) hr0 hm (by rw [hme]; rfl) (by omega) (by omega)
  have hq2 : ∀ x, nget (insA a1 0 1 0 rootN m).nodes x = _ := fun x => nget_ins (q := 0) hr0 hm (by omega) x
  have g2 : Grown 10 (0 + 1) (0 + 1) (insA a1 0 1 0 rootN m) ([0] ++ [1]) := g2
  have hm2 : nget (insA a1 0 1 0 rootN m).nodes 1 = some (setN m (parN m 0)) := hm2
  have hma2 : (setN m (parN m 0)).attrs = [] := by rw [hme]; simp [setN, parN, ownN, madeO]
  have hmk2 : (setN m (parN m 0)).kind = 1 := by rw [hme]; rfl
  have hmks2 : (setN m (parN m 0)).kids = [] := by rw [hme]; rfl
  have hmh2 : (setN m (parN m 0)).hooks = [] := by rw [hme]; rfl
  generalize setN m (parN m 0) = m2 at *
  have hr2 : nget (insA a1 0 1 0 rootN m).nodes 0 = some (setN rootN (kidAt rootN 0 1)) := by rw [hq2, if_neg (by omega), if_pos rfl]
  generalize insA a1 0 1 0 rootN m = a2 at *
  have okm2 : okN m2 := by
    obtain ⟨t, ht, rfl⟩ := nget_mem hm2
    exact g2.oks t ht
  have hS := fun K => gSetAttr H K g2 hm2 hx2 okh hmk2 (by rw [hma2]; simp)
  obtain ⟨g3, hm3⟩ := g2.set (m := setN m2 (attrN m2 hx2)) hm2 rfl rfl rfl rfl (okN_set okm2 (attrN_ok okm2 okh (by rw [hma2]; simp))) (by show m2.hooks.length ≤ _; rw [hmh2]; simp)
  obtain ⟨a3, ha3⟩ : ∃ a3 : Arena, a3 = { a2 with nodes := nset a2.nodes 1 (setN m2 (attrN m2 hx2)) } := ⟨_, rfl⟩
  rw [← ha3] at g3
  have e1 : nset a2.nodes 1 (setN m2 (attrN m2 hx2)) = a3.nodes := by rw [ha3]
  have e2 : a2.clock = a3.clock := by rw [ha3]
  have e3 : arC H.length a2 = arC H.length a3 := by rw [ha3]; rfl
  rw [e1] at hm3
  have hr3 : nget a3.nodes 0 = some (setN rootN (kidAt rootN 0 1)) := by
    rw [← e1, nget_nset, if_neg (by omega)]; exact hr2
  have hids : idsG a3 2 0 = [0, 1] := by
    rw [idsG_some hr3]
    show 0 :: ([1] : List Int).flatMap (idsG a3 1) = _
    simp only [List.flatMap_cons, List.flatMap_nil, List.append_nil]
    rw [idsG_some hm3]
    show [0, 1] ++ (m2.kids.flatMap (idsG a3 0)) = _
    rw [hmks2]; rfl
  have hs0 : stopN (nodeAt a3 0) = false := by rw [nodeAt_some hr3]; rfl
  have hs1 : stopN (nodeAt a3 1) = true := by
    rw [nodeAt_some hm3]
    unfold stopN
    have h1 : (ownN (setN m2 (attrN m2 hx2))).kind = 1 := hmk2
    have h2 : (getA (ownN (setN m2 (attrN m2 hx2))).attrs [104, 114, 101, 102]).2 = true := by
      rw [getA_any]
      show (((putA ((ownN m2).attrs.map ownA) (ownA hx2)).map ownA).map ownA).any _ = true
      have : ((ownN m2).attrs.map ownA) = [] := by simp [ownN, hma2]
      rw [this, hhx2]
      rfl
    rw [h1, h2]; rfl
  rw [htg] at hM
  simp only [strV] at hM
  rw [hk0, Int.natCast_zero] at hM
  have hS2 : ∀ K, SCall Try.prog 136 [.ref (H.length + 1) 0, .int .i64 1, attrV hx2] (H ++ .map (encM a2.nodes) a2.clock :: .var (arC H.length a2) :: K) (fun r H' => r = .int .i64 0 ∧ H' = H ++ .map (encM a3.nodes) a3.clock :: .var (arC H.length a3) :: K) := fun K => SCall.mono (hS K) fun r H' h => ⟨h.1, by rw [h.2, e1, e2, e3]⟩
  rw [hhx2] at hS2
  simp only [attrV, zeroS, List.map_nil] at hS2
  refine SCall.of_good fun hH => ?_
  have hHk := HLt.add hH
  refine SCall.of_code Tok Try.func75 rfl Try.call75 (n := 80) rfl (by simp) (rs := [.tmp 2, .tmp 3]) rfl ?_
  refine EWn.to ?_
  refine EWn.of_c Tok mixed (own := true) keep75 tab75 (by kernel_rfl) ?_
  (repeat simp -dsimp only [zrFocus51, xnils, xnilm, xrange, xmakeMap, xslice3, RB, TB, keep75, tab75, xindexAddr, xindex, xslice, xconvert, xlen, ewOp, FreeW, StabW, SameW, ChangeW, AddW, BaseW, limBytes, simprocAttr, ne_eq])
  (refine SCall.then (aNew _) ?_)
  (repeat (first | simp -dsimp only [zrFocus51, xnils, xnilm, xrange, xmakeMap, xslice3, RB, TB, keep75, tab75, xindexAddr, xindex, xslice, xconvert, xlen, ewOp, FreeW, StabW, SameW, ChangeW, AddW, BaseW, limBytes, simprocAttr, ne_eq] | ((with_reducible refine Need.intro ?_ ?_); (trivial))))
  refine EWn.rounds 2 ?_
  show EWn _ _ _ _ _ _ _
  refine EWn.of_c Tok mixed (own := false) keep75 tab75 (by kernel_rfl) ?_
  (repeat simp -dsimp only [zrFocus51, xnils, xnilm, xrange, xmakeMap, xslice3, opfV, w1, w3, RB, TB, keep75, tab75, xindexAddr, xindex, xslice, xconvert, xlen, ewOp, FreeW, StabW, SameW, ChangeW, AddW, BaseW, limBytes, simprocAttr, ne_eq])
  (refine CallE.intro _ (mOf _ _ _) ?_)
  skip
  (refine CallE2.intro _ _ (hM _) ?_)
  (repeat simp -dsimp only [zrFocus51, xnils, xnilm, xrange, xmakeMap, xslice3, w1, w3, vi, RB, TB, keep75, tab75, xindexAddr, xindex, xslice, xconvert, xlen, ewOp, FreeW, StabW, SameW, ChangeW, AddW, BaseW, limBytes, simprocAttr, ne_eq])
  (refine SCall.then (hI _) ?_)
  (repeat simp -dsimp only [zrFocus51, xnils, xnilm, xrange, xmakeMap, xslice3, w1, w3, vi, RB, TB, keep75, tab75, xindexAddr, xindex, xslice, xconvert, xlen, ewOp, FreeW, StabW, SameW, ChangeW, AddW, BaseW, limBytes, simprocAttr, ne_eq])
  (refine SCall.then (mOf _ _ _) ?_)
  (repeat (first | simp -dsimp only [zrFocus51, xnils, xnilm, xrange, xmakeMap, xslice3, strV, RB, TB, keep75, tab75, xindexAddr, xindex, xslice, xconvert, xlen, ewOp, FreeW, StabW, SameW, ChangeW, AddW, BaseW, limBytes, simprocAttr, ne_eq] | ((with_reducible refine Need.intro ?_ ?_); (trivial))))
  (refine SCall.thenA (hS2 _) (by repeat (first | exact trivial | exact .inl (.inl rfl) | exact .inl (.inr ⟨_, rfl, rfl⟩) | exact .inl rfl | exact .inr ⟨_, rfl, rfl⟩ | refine .inr ⟨_, _, rfl, rfl, ?_⟩ | refine ⟨?_, ?_⟩)) ?_)
  (repeat (first | simp -dsimp only [zrFocus51, xnils, xnilm, xrange, xmakeMap, xslice3, w1, RB, TB, keep75, tab75, xindexAddr, xindex, xslice, xconvert, xlen, ewOp, FreeW, StabW, SameW, ChangeW, AddW, BaseW, limBytes, simprocAttr, ne_eq] | ((with_reducible refine Need.intro ?_ ?_); (trivial))))
  show EWn _ _ _ _ _ _ _
  refine EWn.of_c Tok mixed (own := false) keep75 tab75 (by kernel_rfl) ?_
  (repeat simp -dsimp only [zrFocus51, xnils, xnilm, xrange, xmakeMap, xslice3, opfV, RB, TB, keep75, tab75, xindexAddr, xindex, xslice, xconvert, xlen, ewOp, FreeW, StabW, SameW, ChangeW, AddW, BaseW, limBytes, simprocAttr, ne_eq])
  refine RetW.auto false [.map (encM a3.nodes) a3.clock, .var (arC H.length a3)] _ (by first | rfl | simp) ?_ ?_ ?_
  · (simp (maxDischargeDepth := 6) [LTB, HLt_set, ltL_take, ltL_drop, ltL_rep, ltL_set, upd, eset, hH, hHk, lt_encM, lt_arC, zlFocus51] <;> omega)
  · (simp (maxDischargeDepth := 6) [LTB, HLt_set, ltL_take, ltL_drop, ltL_rep, ltL_set, upd, eset, hH, hHk, lt_encM, lt_arC, zlFocus51] <;> omega)
  (try simp only [wk, wk1, wk0, RB, limBytes, simprocAttr, ne_eq])
  skip
  exact ⟨a3, g3, hids, hs0, hs1, by simp [vi], rfl⟩
theorem alive45 (H : List Ob) : SCall Try.prog 74 [] H (fun r H' => r = .bool true ∧ H' = H) := by
  have gn := Grown.new 0
  have hsn : stopsG newA (idsG newA 1 0) = [] := rfl
  refine SCall.of_good fun hH => ?_
  have hHk := HLt.add hH
  refine SCall.of_code Tok Try.func74 rfl Try.call74 (n := 32) rfl (by simp) (rs := [.tmp 0]) rfl ?_
  refine EWn.to ?_
  refine EWn.of_c Tok mixed (own := false) keep74 tab74 (by kernel_rfl) ?_
  (repeat (first | simp -dsimp only [zrFocus51, xnils, xnilm, xrange, xmakeMap, xslice3, RB, TB, keep74, tab74, xindexAddr, xindex, xslice, xconvert, xlen, ewOp, FreeW, StabW, SameW, ChangeW, AddW, BaseW, limBytes, simprocAttr, ne_eq] | ((with_reducible refine Need.intro ?_ ?_); (trivial))))
  refine SCall.arg (args' := [.slice (([⟨0, 0, true, false⟩] : List OpF).map opfV)]) ⟨.inl (.inr ⟨_, rfl, rfl⟩), trivial⟩ ?_
  refine SCall.mono (built45a _) ?_
  rintro _ _ ⟨a, g, hids, hs0, hs1, rfl, rfl⟩
  have hst : stopsG a (idsG a (1 + 1) 0) = [1] := by
    rw [hids]
    unfold stopsG
    simp [List.filter_cons, hs0, hs1]
  have hN := fun K => fNext _ (H.length + 1) H.length a (g.at H K) g.oks 1 0 (g.deep 0) (by rw [hids]; simp)
  rw [hst, if_neg (by simp), hids] at hN
  have hnx : nextG [0, 1] [1] 0 = 1 := rfl
  rw [hnx] at hN
  (repeat simp -dsimp only [zrFocus51, xnils, xnilm, xrange, xmakeMap, xslice3, RB, TB, keep74, tab74, xindexAddr, xindex, xslice, xconvert, xlen, ewOp, FreeW, StabW, SameW, ChangeW, AddW, BaseW, limBytes, simprocAttr, ne_eq])
  (refine SCall.then (hN _) ?_)
  (repeat simp -dsimp only [zrFocus51, xnils, xnilm, xrange, xmakeMap, xslice3, RB, TB, keep74, tab74, xindexAddr, xindex, xslice, xconvert, xlen, ewOp, FreeW, StabW, SameW, ChangeW, AddW, BaseW, limBytes, simprocAttr, ne_eq])
  (refine SCall.then (aNew _) ?_)
  (repeat simp -dsimp only [zrFocus51, xnils, xnilm, xrange, xmakeMap, xslice3, RB, TB, keep74, tab74, xindexAddr, xindex, xslice, xconvert, xlen, ewOp, FreeW, StabW, SameW, ChangeW, AddW, BaseW, limBytes, simprocAttr, ne_eq])
  have hS := fun K => fStops (H ++ .map (encM a.nodes) a.clock :: .var (arC H.length a) :: .map (encM newA.nodes) 1 :: .var (arC (H.length + 2) newA) :: K) (H.length + 3) (H.length + 2) newA ⟨by simp [arC], by simp; rfl, rfl, rfl⟩ gn.oks 0 (gn.deep 0) (by show (idsG newA 1 0).length ≤ _; decide)
  rw [show stopsG newA (idsG newA (0 + 1) 0) = [] from rfl] at hS
  (refine SCall.then (hS _) ?_)
  (repeat simp -dsimp only [zrFocus51, xnils, xnilm, xrange, xmakeMap, xslice3, RB, TB, keep74, tab74, xindexAddr, xindex, xslice, xconvert, xlen, ewOp, FreeW, StabW, SameW, ChangeW, AddW, BaseW, limBytes, simprocAttr, ne_eq])
  refine RetW.auto0 false _ (by first | rfl | exact (List.append_nil _).symm) ?_ ?_
  · (simp (maxDischargeDepth := 6) [LTB, HLt_set, ltL_take, ltL_drop, ltL_rep, ltL_set, upd, eset, hH, hHk, zlFocus51] <;> omega)
  (try simp only [wk, wk1, wk0, RB, limBytes, simprocAttr, ne_eq])
  skip
end Go.Proofs.Ytjplgbalpnlanaa

/- The walk of the law FocusTells. -/
set_option linter.unusedSimpArgs false
set_option linter.unusedVariables false
set_option maxRecDepth 100000
namespace Go.Proofs.Ytjplgbalpnlanaa
open Go Go.EL
theorem zrFocus61 : type_of% (And.intro (And.intro (And.intro (And.intro (@st_run) (And.intro (@sz_run) (@st1_run))) (And.intro (And.intro (@cl_run) (@st_Str)) (And.intro (@sz_Str) (@st1_Str)))) (And.intro (And.intro (@cl_Str) (And.intro (@st_c) (@sz_c))) (And.intro (And.intro (@st1_c) (@cl_c)) (And.intro (@st_attr) (@sz_attr))))) (And.intro (And.intro (And.intro (@st1_attr) (And.intro (@cl_attr) (@st_hook))) (And.intro (And.intro (@sz_hook) (@st1_hook)) (And.intro (@cl_hook) (@st_node)))) (And.intro (And.intro (@sz_node) (And.intro (@st1_node) (@cl_node))) (And.intro (And.intro (@st_opf) (@sz_opf)) (And.intro (@st1_opf) (@cl_opf)))))) := And.intro (And.intro (And.intro (And.intro (@st_run) (And.intro (@sz_run) (@st1_run))) (And.intro (And.intro (@cl_run) (@st_Str)) (And.intro (@sz_Str) (@st1_Str)))) (And.intro (And.intro (@cl_Str) (And.intro (@st_c) (@sz_c))) (And.intro (And.intro (@st1_c) (@cl_c)) (And.intro (@st_attr) (@sz_attr))))) (And.intro (And.intro (And.intro (@st1_attr) (And.intro (@cl_attr) (@st_hook))) (And.intro (And.intro (@sz_hook) (@st1_hook)) (And.intro (@cl_hook) (@st_node)))) (And.intro (And.intro (@sz_node) (And.intro (@st1_node) (@cl_node))) (And.intro (And.intro (@st_opf) (@sz_opf)) (And.intro (@st1_opf) (@cl_opf)))))
theorem zlFocus61 : type_of% (And.intro (And.intro (And.intro (And.intro (@lt_vi) (And.intro (@lt_str) (@lt_vb))) (And.intro (@ltc_str) (And.intro (@ltc_vi) (@lt_run)))) (And.intro (And.intro (@lt1_run) (And.intro (@ltc_run) (@lt_Str))) (And.intro (And.intro (@lt1_Str) (@ltc_Str)) (And.intro (@lt_c) (@lt1_c))))) (And.intro (And.intro (And.intro (@ltc_c) (And.intro (@lt_attr) (@lt1_attr))) (And.intro (@ltc_attr) (And.intro (@lt_hook) (@lt1_hook)))) (And.intro (And.intro (@ltc_hook) (And.intro (@lt_node) (@lt1_node))) (And.intro (And.intro (@ltc_node) (@lt_opf)) (And.intro (@lt1_opf) (@ltc_opf)))))) := And.intro (And.intro (And.intro (And.intro (@lt_vi) (And.intro (@lt_str) (@lt_vb))) (And.intro (@ltc_str) (And.intro (@ltc_vi) (@lt_run)))) (And.intro (And.intro (@lt1_run) (And.intro (@ltc_run) (@lt_Str))) (And.intro (And.intro (@lt1_Str) (@ltc_Str)) (And.intro (@lt_c) (@lt1_c))))) (And.intro (And.intro (And.intro (@ltc_c) (And.intro (@lt_attr) (@lt1_attr))) (And.intro (@ltc_attr) (And.intro (@lt_hook) (@lt1_hook)))) (And.intro (And.intro (@ltc_hook) (And.intro (@lt_node) (@lt1_node))) (And.intro (And.intro (@ltc_node) (@lt_opf)) (And.intro (@lt1_opf) (@ltc_opf)))))
theorem pInts (H : List Ob) (l m : List (Int)) : SCall Try.prog 46 [.slice (l.map vi), .slice (m.map vi)] H (fun r H' => r = .bool (decide (l = m)) ∧ H' = H) := by
  refine SCall.sized 0 rfl fun hl => ?_
  rw [List.length_map, maxLen_eq] at hl
  refine SCall.of_good fun hH => ?_
  have hHk := HLt.add hH
  refine SCall.of_code Tok Try.func46 rfl Try.call46 (n := 26) rfl (by simp) (rs := [.tmp 4]) rfl ?_
  refine EWn.to ?_
  refine EWn.of_c Tok mixed (own := false) keep46 tab46 (by kernel_rfl) ?_
  (repeat simp -dsimp only [zrFocus61, xnils, xnilm, xrange, xmakeMap, xslice3, RB, TB, keep46, tab46, xindexAddr, xindex, xslice, xconvert, xlen, ewOp, FreeW, StabW, SameW, ChangeW, AddW, BaseW, limBytes, simprocAttr, ne_eq])
  refine IfW.intro (fun h => ?_) (fun h => ?_)
  rotate_left
  · (repeat simp -dsimp only [zrFocus61, xnils, xnilm, xrange, xmakeMap, xslice3, h, RB, TB, keep46, tab46, xindexAddr, xindex, xslice, xconvert, xlen, ewOp, FreeW, StabW, SameW, ChangeW, AddW, BaseW, limBytes, simprocAttr, ne_eq])
    refine RetW.auto0 false _ (by first | rfl | exact (List.append_nil _).symm) ?_ ?_
    · (simp (maxDischargeDepth := 6) [LTB, HLt_set, ltL_take, ltL_drop, ltL_rep, ltL_set, upd, eset, hH, hHk, zlFocus61] <;> omega)
    (try simp only [wk, wk1, wk0, RB, limBytes, simprocAttr, ne_eq])
    skip
    have hlm : l ≠ m := by rintro rfl; simp at h
    simp [hlm]
  have hlm : l.length = m.length := by simp at h; omega
  (repeat simp -dsimp only [zrFocus61, xnils, xnilm, xrange, xmakeMap, xslice3, h, RB, TB, keep46, tab46, xindexAddr, xindex, xslice, xconvert, xlen, ewOp, FreeW, StabW, SameW, ChangeW, AddW, BaseW, limBytes, simprocAttr, ne_eq])
  refine EWn.loopE (ι := (Nat)) (fun (i : (Nat)) => i ≤ l.length ∧ l.take i = m.take i) (fun (i : (Nat)) => l.length - i) (fun (i : (Nat)) => [(5, .int .i64 i)]) (fun (i : (Nat)) => H) (0) ?_ ?_ ?_ ?_ ?_
  · first | rfl | simp [upd, eset]
  · first | rfl | (simp; done) | exact (set_same (by assumption)).symm
  · rintro i hok; exact ⟨by first | (simp; done) | (simp; omega), by (simp (maxDischargeDepth := 6) [LTB, HLt_set, ltL_take, ltL_drop, ltL_rep, ltL_set, upd, eset, hH, hHk, zlFocus61] <;> omega), by (simp (maxDischargeDepth := 6) [LTB, HLt_set, ltL_take, ltL_drop, ltL_rep, ltL_set, upd, eset, hH, hHk, zlFocus61] <;> omega)⟩
  · simp
  rintro i ⟨hi, hno⟩
  refine EWn.of_c Tok mixed (own := false) keep46 tab46 (by kernel_rfl) ?_
  (repeat simp -dsimp only [zrFocus61, xnils, xnilm, xrange, xmakeMap, xslice3, RB, TB, keep46, tab46, xindexAddr, xindex, xslice, xconvert, xlen, ewOp, FreeW, StabW, SameW, ChangeW, AddW, BaseW, limBytes, simprocAttr, ne_eq])
  refine IfW.intro (fun h1 => ?_) (fun h1 => ?_)
  · have hlt := lt_of h1
    have hlt' : i < m.length := by omega
    (repeat (first | simp -dsimp only [zrFocus61, xnils, xnilm, xrange, xmakeMap, xslice3, h1, at_map vi l i hlt, at_map vi m i hlt', vi, RB, TB, keep46, tab46, xindexAddr, xindex, xslice, xconvert, xlen, ewOp, FreeW, StabW, SameW, ChangeW, AddW, BaseW, limBytes, simprocAttr, ne_eq] | ((with_reducible refine Need.intro ?_ ?_); (omega))))
    refine IfW.intro (fun hb => ?_) (fun hb => ?_)
    · (repeat simp -dsimp only [zrFocus61, xnils, xnilm, xrange, xmakeMap, xslice3, hb, RB, TB, keep46, tab46, xindexAddr, xindex, xslice, xconvert, xlen, ewOp, FreeW, StabW, SameW, ChangeW, AddW, BaseW, limBytes, simprocAttr, ne_eq])
      rw [wrapI (by omega)]
      have hb : l[i] = m[i] := by simpa using hb
      refine UpTo.here ⟨(i + 1), ?_, by first | omega | (simp only [List.length_append, List.length_cons, List.length_nil]; omega), by simp [upd, eset], ⟨_, by simp; try rfl⟩⟩
      exact ⟨hlt, by rw [List.take_succ_eq_append_getElem hlt, List.take_succ_eq_append_getElem hlt', hno, hb]⟩
    · (repeat simp -dsimp only [zrFocus61, xnils, xnilm, xrange, xmakeMap, xslice3, hb, RB, TB, keep46, tab46, xindexAddr, xindex, xslice, xconvert, xlen, ewOp, FreeW, StabW, SameW, ChangeW, AddW, BaseW, limBytes, simprocAttr, ne_eq])
      refine RetW.auto0 false _ (by first | rfl | exact (List.append_nil _).symm) ?_ ?_
      · (simp (maxDischargeDepth := 6) [LTB, HLt_set, ltL_take, ltL_drop, ltL_rep, ltL_set, upd, eset, hH, hHk, zlFocus61] <;> omega)
      (try simp only [wk, wk1, wk0, RB, limBytes, simprocAttr, ne_eq])
      skip
      have hlm : l ≠ m := by rintro rfl; simp at hb
      simp [hlm]
  · (repeat simp -dsimp only [zrFocus61, xnils, xnilm, xrange, xmakeMap, xslice3, h1, RB, TB, keep46, tab46, xindexAddr, xindex, xslice, xconvert, xlen, ewOp, FreeW, StabW, SameW, ChangeW, AddW, BaseW, limBytes, simprocAttr, ne_eq])
    have hge := ge_of h1
    rw [List.take_of_length_le hge, List.take_of_length_le (by omega)] at hno
    refine RetW.auto0 false _ (by first | rfl | exact (List.append_nil _).symm) ?_ ?_
    · (simp (maxDischargeDepth := 6) [LTB, HLt_set, ltL_take, ltL_drop, ltL_rep, ltL_set, upd, eset, hH, hHk, zlFocus61] <;> omega)
    (try simp only [wk, wk1, wk0, RB, limBytes, simprocAttr, ne_eq])
    skip
    simp [hno]

theorem ids_mem_deep {a : Arena} : ∀ {k : Nat} {x y : Int}, deepG a k x → y ∈ idsG a k x → deepG a k y
  | 0, _, _, h, _ => h.elim
  | k + 1, x, y, h, hy => by
    cases hn : nget a.nodes x with
    | none => rw [idsG_none hn] at hy; cases hy
    | some n =>
      rw [idsG_some hn] at hy
      rcases List.mem_cons.1 hy with rfl | hy
      · exact h
      · obtain ⟨c, hc, hy⟩ := List.mem_flatMap.1 hy
        exact deep_mono (ids_mem_deep (h n hn c hc) hy)
theorem ids_mem_len {a : Arena} : ∀ {k : Nat} {x y : Int}, deepG a k x → y ∈ idsG a k x → (idsG a k y).length ≤ (idsG a k x).length
  | 0, _, _, h, _ => h.elim
  | k + 1, x, y, h, hy => by
    cases hn : nget a.nodes x with
    | none => rw [idsG_none hn] at hy; cases hy
    | some n =>
      rw [idsG_some hn] at hy
      rcases List.mem_cons.1 hy with rfl | hy
      · exact Nat.le_refl _
      · obtain ⟨c, hc, hy⟩ := List.mem_flatMap.1 hy
        have h1 := ids_mem_len (h n hn c hc) hy
        have h2 := flatMap_mem_le (idsG a k) hc
        rw [ids_fuel (ids_mem_deep (h n hn c hc) hy), idsG_some hn, List.length_cons]
        omega
theorem Grown.sub_len {B i j : Nat} {a : Arena} {ids : List Int} (g : Grown B i j a ids) {x : Int} (hx : x ∈ ids ∨ nget a.nodes x = none) : (idsG a (j + 1) x).length ≤ ids.length := by
  rcases hx with hx | hx
  · rw [← g.ids_len]
    exact ids_mem_len (g.deep 0) (g.ids_mem.2 hx)
  · rw [idsG_none hx]; simp
theorem Grown.none99 {B i j : Nat} {a : Arena} {ids : List Int} (g : Grown B i j a ids) (hi : i ≤ 50) : nget a.nodes 99 = none := by
  cases h : nget a.nodes 99 with
  | none => rfl
  | some n =>
    rcases g.key 99 (by rw [h]; rfl) with e | ⟨k, hk, h1, h2⟩
    · omega
    · have := g.used k hk; omega
theorem ix_ge {α : Type} (p : α → Bool) (l : List α) : -1 ≤ ix p l := by unfold ix; split <;> omega
set_option maxHeartbeats 4000000 in
theorem focusTells (H : List Ob) (l : List OpF) (at_ : Int) : SCall Try.prog 12 [.slice (l.map opfV), .int .i64 at_] H (fun r H' => r = .bool true) := by
  refine SCall.of_good fun hH => ?_
  have hHk := HLt.add hH
  refine SCall.of_code Tok Try.func12 rfl Try.call12 (n := 149) rfl (by simp) (rs := [.tmp 4]) rfl ?_
  refine EWn.to ?_
  refine EWn.cutE Tok mixed (own := false) (κ := (Arena) × (List Int) × (Nat) × (Nat) × (Int)) keep12 tab12 [(), (), (), (), (), (), (), ()] (fun (x_ : (Arena) × (List Int) × (Nat) × (Nat) × (Int)) => match x_ with | (a, ids, p, q, id) => p ≤ 20 ∧ q ≤ 20 ∧ Grown 1048576 p q a ids ∧ (id ∈ ids ∨ nget a.nodes id = none)) (fun (x_ : (Arena) × (List Int) × (Nat) × (Nat) × (Int)) => match x_ with | (a, ids, p, q, id) => [(5, .ref (H.length + 1) 0), (7, .slice ((idsG a (q + 1) 0).map vi)), (8, .slice ((stopsG a (idsG a (q + 1) 0)).map vi)), (9, .int .i64 id), (10, .int .i64 ((stopsG a (idsG a (q + 1) 0)).getD 0 0)), (11, .int .i64 ((stopsG a (idsG a (q + 1) 0)).getD ((stopsG a (idsG a (q + 1) 0)).length - 1) 0))]) (fun (x_ : (Arena) × (List Int) × (Nat) × (Nat) × (Int)) => match x_ with | (a, ids, p, q, id) => H ++ [.map (encM a.nodes) a.clock, .var (arC H.length a)]) (by simp only [headC]; rfl) (by simp only [tailC]; rfl) (by kernel_rfl) (by kernel_rfl) ?_ ?_ ?_
  · rintro ⟨a, ids, p, q, id⟩ hok; exact ⟨by first | (simp; done) | (simp; omega), by (simp (maxDischargeDepth := 6) [LTB, HLt_set, ltL_take, ltL_drop, ltL_rep, ltL_set, upd, eset, hH, hHk, lt_encM, lt_arC, zlFocus61] <;> omega), by (simp (maxDischargeDepth := 6) [LTB, HLt_set, ltL_take, ltL_drop, ltL_rep, ltL_set, upd, eset, hH, hHk, lt_encM, lt_arC, zlFocus61] <;> omega)⟩
  · (repeat simp -dsimp only [zrFocus61, xnils, xnilm, xrange, xmakeMap, xslice3, RB, TB, keep12, tab12, xindexAddr, xindex, xslice, xconvert, xlen, ewOp, FreeW, StabW, SameW, ChangeW, AddW, BaseW, limBytes, simprocAttr, ne_eq])
    (refine SCall.then (alive45 _) ?_)
    (repeat simp -dsimp only [zrFocus61, xnils, xnilm, xrange, xmakeMap, xslice3, RB, TB, keep12, tab12, xindexAddr, xindex, xslice, xconvert, xlen, ewOp, FreeW, StabW, SameW, ChangeW, AddW, BaseW, limBytes, simprocAttr, ne_eq])
    refine SCall.mono (built45 _ l) ?_
    rintro _ _ ⟨a, ids, p, q, hp, hq, g, rfl, rfl⟩
    have hidl := g.idl
    have hidp : 0 < ids.length := List.length_pos_of_mem g.root
    have hg : ∀ K, arenaAt (H ++ .map (encM a.nodes) a.clock :: .var (arC H.length a) :: K) (H.length + 1) H.length a := g.at H
    have hsz : (idsG a (q + 1) 0).length ≤ 1000000 := by rw [g.ids_len]; omega
    have hI := fun K => sIds (H.length + 1) H.length a g.oks (q + 1) 0 _ (hg K) (g.deep 0) hsz
    have hS := fun K => lStops _ (H.length + 1) H.length a (hg K) g.oks (idsG a (q + 1) 0) hsz
    have hsl : (stopsG a (idsG a (q + 1) 0)).length ≤ 1000000 := Nat.le_trans (List.length_filter_le _ _) hsz
    obtain ⟨S, hSd⟩ : ∃ S, S = stopsG a (idsG a (q + 1) 0) := ⟨_, rfl⟩
    rw [← hSd] at hS hsl
    (repeat simp -dsimp only [zrFocus61, xnils, xnilm, xrange, xmakeMap, xslice3, RB, TB, keep12, tab12, xindexAddr, xindex, xslice, xconvert, xlen, ewOp, FreeW, StabW, SameW, ChangeW, AddW, BaseW, limBytes, simprocAttr, ne_eq])
    (refine SCall.then (hI _) ?_)
    (repeat simp -dsimp only [zrFocus61, xnils, xnilm, xrange, xmakeMap, xslice3, RB, TB, keep12, tab12, xindexAddr, xindex, xslice, xconvert, xlen, ewOp, FreeW, StabW, SameW, ChangeW, AddW, BaseW, limBytes, simprocAttr, ne_eq])
    (refine SCall.then (hS _) ?_)
    (repeat simp -dsimp only [zrFocus61, xnils, xnilm, xrange, xmakeMap, xslice3, RB, TB, keep12, tab12, xindexAddr, xindex, xslice, xconvert, xlen, ewOp, FreeW, StabW, SameW, ChangeW, AddW, BaseW, limBytes, simprocAttr, ne_eq])
    have fin : ∀ (id : Int) (env : Env), (id ∈ ids ∨ nget a.nodes id = none) → env = [(5, .ref (H.length + 1) 0), (7, .slice ((idsG a (q + 1) 0).map vi)), (8, .slice (S.map vi)), (9, .int .i64 id), (10, .int .i64 (S.getD 0 0)), (11, .int .i64 (S.getD (S.length - 1) 0))] →
        UpTo H.length (MidE (fun (x_ : Arena × List Int × Nat × Nat × Int) => match x_ with | (a, ids, p, q, id) => p ≤ 20 ∧ q ≤ 20 ∧ Grown 1048576 p q a ids ∧ (id ∈ ids ∨ nget a.nodes id = none)) (fun x_ => match x_ with | (a, ids, p, q, id) => [(5, .ref (H.length + 1) 0), (7, .slice ((idsG a (q + 1) 0).map vi)), (8, .slice ((stopsG a (idsG a (q + 1) 0)).map vi)), (9, .int .i64 id), (10, .int .i64 ((stopsG a (idsG a (q + 1) 0)).getD 0 0)), (11, .int .i64 ((stopsG a (idsG a (q + 1) 0)).getD ((stopsG a (idsG a (q + 1) 0)).length - 1) 0))]) (fun x_ => match x_ with | (a, ids, p, q, id) => H ++ [.map (encM a.nodes) a.clock, .var (arC H.length a)])) env (H ++ [.map (encM a.nodes) a.clock, .var (arC H.length a)]) := by
      rintro id env hid rfl
      exact UpTo.here ⟨(a, ids, p, q, id), ⟨hp, hq, g, hid⟩, by simp only [hSd], [], by simp⟩
    refine IfW.intro (fun h => ?_) (fun h => ?_)
    · have h0 : 0 ≤ at_ := by have := of_decide_eq_true h; omega
      obtain ⟨k, hk, hkw⟩ : ∃ k : Nat, k < ids.length ∧ at_.tmod ids.length = (k : Int) := by
        have h2 := Int.tmod_lt_of_pos at_ (show (0 : Int) < ids.length by omega)
        have h3 := Int.tmod_nonneg (ids.length : Int) h0
        exact ⟨(at_.tmod ids.length).toNat, by omega, by omega⟩
      have hmi := at_map vi ids k hk
      simp only [vi] at hmi
      have hid : ids[k] ∈ ids ∨ nget a.nodes ids[k] = none := .inl (List.getElem_mem hk)
      by_cases hS0 : S = []
      · have e0 : decide ((S.length : Int) > 0) = false := by rw [hS0]; rfl
        (repeat (first | simp -dsimp only [zrFocus61, xnils, xnilm, xrange, xmakeMap, xslice3, h, hkw, hmi, e0, RB, TB, keep12, tab12, xindexAddr, xindex, xslice, xconvert, xlen, ewOp, FreeW, StabW, SameW, ChangeW, AddW, BaseW, limBytes, simprocAttr, ne_eq] | ((with_reducible refine Need.intro ?_ ?_); (omega))))
        refine UpTo.step (Gho.restr [5, 7, 8, 9, 10, 11]) (fin _ _ hid ?_)
        simp [restr, eget, hS0]
      · have hlp : 0 < S.length := List.length_pos_iff.2 hS0
        have e0 : decide ((S.length : Int) > 0) = true := decide_eq_true (by omega)
        have hm0 := at_map vi S 0 hlp
        have hm1 := at_map vi S (S.length - 1) (by omega)
        simp only [vi] at hm0 hm1
        have w1 : IntKind.i64.wrap ((S.length : Int) - 1) = ((S.length - 1 : Nat) : Int) := by rw [wrapI (by omega)]; omega
        have g0 : S.getD 0 0 = S[0] := by rw [List.getD_eq_getElem?_getD, List.getElem?_eq_getElem hlp]; rfl
        have g1 : S.getD (S.length - 1) 0 = S[S.length - 1] := by rw [List.getD_eq_getElem?_getD, List.getElem?_eq_getElem (by omega)]; rfl
        (repeat (first | simp -dsimp only [zrFocus61, xnils, xnilm, xrange, xmakeMap, xslice3, h, hkw, hmi, e0, hm0, hm1, w1, RB, TB, keep12, tab12, xindexAddr, xindex, xslice, xconvert, xlen, ewOp, FreeW, StabW, SameW, ChangeW, AddW, BaseW, limBytes, simprocAttr, ne_eq] | ((with_reducible refine Need.intro ?_ ?_); (omega))))
        refine fin _ _ hid ?_
        rw [g0, g1]
    · have hid : (99 : Int) ∈ ids ∨ nget a.nodes 99 = none := .inr (g.none99 (by omega))
      by_cases hS0 : S = []
      · have e0 : decide ((S.length : Int) > 0) = false := by rw [hS0]; rfl
        (repeat simp -dsimp only [zrFocus61, xnils, xnilm, xrange, xmakeMap, xslice3, h, e0, RB, TB, keep12, tab12, xindexAddr, xindex, xslice, xconvert, xlen, ewOp, FreeW, StabW, SameW, ChangeW, AddW, BaseW, limBytes, simprocAttr, ne_eq])
        refine UpTo.step (Gho.restr [5, 7, 8, 9, 10, 11]) (fin _ _ hid ?_)
        simp [restr, eget, hS0]
      · have hlp : 0 < S.length := List.length_pos_iff.2 hS0
        have e0 : decide ((S.length : Int) > 0) = true := decide_eq_true (by omega)
        have hm0 := at_map vi S 0 hlp
        have hm1 := at_map vi S (S.length - 1) (by omega)
        simp only [vi] at hm0 hm1
        have w1 : IntKind.i64.wrap ((S.length : Int) - 1) = ((S.length - 1 : Nat) : Int) := by rw [wrapI (by omega)]; omega
        have g0 : S.getD 0 0 = S[0] := by rw [List.getD_eq_getElem?_getD, List.getElem?_eq_getElem hlp]; rfl
        have g1 : S.getD (S.length - 1) 0 = S[S.length - 1] := by rw [List.getD_eq_getElem?_getD, List.getElem?_eq_getElem (by omega)]; rfl
        (repeat (first | simp -dsimp only [zrFocus61, xnils, xnilm, xrange, xmakeMap, xslice3, h, e0, hm0, hm1, w1, RB, TB, keep12, tab12, xindexAddr, xindex, xslice, xconvert, xlen, ewOp, FreeW, StabW, SameW, ChangeW, AddW, BaseW, limBytes, simprocAttr, ne_eq] | ((with_reducible refine Need.intro ?_ ?_); (omega))))
        refine fin _ _ hid ?_
        rw [g0, g1]
  rintro ⟨a, ids, p, q, id⟩ ⟨hp, hq, g, hid⟩
  (try dsimp only)
  have hidl := g.idl
  have hg : ∀ K, arenaAt (H ++ .map (encM a.nodes) a.clock :: .var (arC H.length a) :: K) (H.length + 1) H.length a := g.at H
  have hsz : (idsG a (q + 1) 0).length ≤ 1000000 := by rw [g.ids_len]; omega
  have hszi : (idsG a (q + 1) id).length ≤ 1000000 := by have := g.sub_len hid; omega
  have hN := fun K => fNext _ (H.length + 1) H.length a (hg K) g.oks q id (g.deep 0) hsz
  have hP := fun K => fPrev _ (H.length + 1) H.length a (hg K) g.oks q id (g.deep 0) hsz
  have hT := fun K => fStops _ (H.length + 1) H.length a (hg K) g.oks q (g.deep 0) hsz
  have hW := fun K => fWithin _ (H.length + 1) H.length a (hg K) g.oks q id (g.deep id) hszi
  have hI := fun K => sIds (H.length + 1) H.length a g.oks (q + 1) id _ (hg K) (g.deep id) hszi
  have hL := fun K => lStops _ (H.length + 1) H.length a (hg K) g.oks (idsG a (q + 1) id) hszi
  have hsl : (stopsG a (idsG a (q + 1) 0)).length ≤ 1000000 := Nat.le_trans (List.length_filter_le _ _) hsz
  generalize stopsG a (idsG a (q + 1) 0) = S at *
  generalize idsG a (q + 1) 0 = all at *
  generalize idsG a (q + 1) id = sub at *
  have hSn : (if S = [] then V.tuple [.int .i64 0, .bool false] else .tuple [.int .i64 (nextG all S id), .bool true]) = .tuple [.int .i64 (nextG all S id), .bool (decide ((S.length : Int) > 0))] := by
    by_cases h0 : S = []
    · rw [if_pos h0, h0]; unfold nextG; simp
    · rw [if_neg h0]
      have : 0 < S.length := List.length_pos_iff.2 h0
      rw [decide_eq_true (show (S.length : Int) > 0 by omega)]
  have hSp : (if S = [] then V.tuple [.int .i64 0, .bool false] else .tuple [.int .i64 (prevG all S id), .bool true]) = .tuple [.int .i64 (prevG all S id), .bool (decide ((S.length : Int) > 0))] := by
    by_cases h0 : S = []
    · rw [if_pos h0, h0]; unfold prevG; simp
    · rw [if_neg h0]
      have : 0 < S.length := List.length_pos_iff.2 h0
      rw [decide_eq_true (show (S.length : Int) > 0 by omega)]
  rw [hSn] at hN
  rw [hSp] at hP
  obtain ⟨hr, hhr⟩ : ∃ hr, hr = ix (fun x => id == x) all := ⟨_, rfl⟩
  have hr1 : -1 ≤ hr := by rw [hhr]; exact ix_ge _ _
  obtain ⟨nx, hnx⟩ : ∃ nx : Nat → Int, ∀ j, nx j = ((S.drop j).find? fun k => decide (ix (fun x => k == x) all > hr)).getD (S.getD 0 0) := ⟨_, fun _ => rfl⟩
  obtain ⟨pv, hpv⟩ : ∃ pv : Nat → Int, ∀ i, pv i = ((S.take i).reverse.find? fun k => decide (ix (fun x => k == x) all < hr)).getD (S.getD (S.length - 1) 0) := ⟨_, fun _ => rfl⟩
  have nx0 : nx S.length = S.getD 0 0 := by rw [hnx, List.drop_length]; rfl
  have pv0 : pv 0 = S.getD (S.length - 1) 0 := by rw [hpv]; rfl
  have nxs : ∀ j, (hj : j < S.length) → nx j = if ix (fun x => S[j] == x) all > hr then S[j] else nx (j + 1) := fun j hj => by
    rw [hnx, hnx, List.drop_eq_getElem_cons hj, List.find?_cons]
    by_cases c : ix (fun x => S[j] == x) all > hr
    · rw [decide_eq_true c, if_pos c]; rfl
    · rw [decide_eq_false c, if_neg c]
  have pvs : ∀ j, (hj : j < S.length) → pv (j + 1) = if ix (fun x => S[j] == x) all < hr then S[j] else pv j := fun j hj => by
    rw [hpv, hpv, List.take_succ_eq_append_getElem hj, List.reverse_append, List.reverse_singleton, List.singleton_append, List.find?_cons]
    by_cases c : ix (fun x => S[j] == x) all < hr
    · rw [decide_eq_true c, if_pos c]; rfl
    · rw [decide_eq_false c, if_neg c]
  have hnf : nextG all S id = if 0 ≤ hr then nx 0 else nx S.length := by unfold nextG; rw [nx0, hnx, ← hhr, List.drop_zero]
  have hpf : prevG all S id = if 0 ≤ hr then pv S.length else pv 0 := by
    unfold prevG
    rw [← hhr, pv0, hpv, List.take_length]
    split
    · rfl
    · rename_i hc
      rw [find_no (fun x hx => decide_eq_false (by have := ix_ge (fun y => x == y) all; omega))]; rfl
  rw [← nx0, ← pv0]
  clear hnx hpv hSn hSp nx0 pv0
  refine EWn.of_c Tok mixed (own := false) keep12 tab12 (by kernel_rfl) ?_
  (repeat simp -dsimp only [zrFocus61, xnils, xnilm, xrange, xmakeMap, xslice3, RB, TB, keep12, tab12, xindexAddr, xindex, xslice, xconvert, xlen, ewOp, FreeW, StabW, SameW, ChangeW, AddW, BaseW, limBytes, simprocAttr, ne_eq])
  (refine SCall.then (lIndex _ all id hsz) ?_)
  (repeat simp -dsimp only [zrFocus61, xnils, xnilm, xrange, xmakeMap, xslice3, ← hhr, RB, TB, keep12, tab12, xindexAddr, xindex, xslice, xconvert, xlen, ewOp, FreeW, StabW, SameW, ChangeW, AddW, BaseW, limBytes, simprocAttr, ne_eq])
  have w1 : IntKind.i64.wrap ((S.length : Int) - 1) = (S.length : Int) - 1 := wrapI (by omega)
  (repeat simp -dsimp only [zrFocus61, xnils, xnilm, xrange, xmakeMap, xslice3, w1, RB, TB, keep12, tab12, xindexAddr, xindex, xslice, xconvert, xlen, ewOp, FreeW, StabW, SameW, ChangeW, AddW, BaseW, limBytes, simprocAttr, ne_eq])
  refine EWn.loopF (ι := (Nat)) (κ := (Unit)) (fun (j : (Nat)) => j ≤ S.length ∧ (hr < 0 → j = S.length)) (fun (j : (Nat)) => j) (fun (j : (Nat)) => [(10, .int .i64 (nx j)), (13, .int .i64 ((j : Int) - 1))]) (fun (j : (Nat)) => H ++ [.map (encM a.nodes) a.clock, .var (arC H.length a)]) (S.length) (fun (_u : (Unit)) => True) (fun (_u : (Unit)) => [(5, .ref (H.length + 1) 0), (7, .slice (all.map vi)), (8, .slice (S.map vi)), (9, .int .i64 id), (10, .int .i64 (nextG all S id)), (11, .int .i64 (pv 0)), (12, .int .i64 hr)]) (fun (_u : (Unit)) => H ++ [.map (encM a.nodes) a.clock, .var (arC H.length a)]) ?_ ?_ ?_ ?_ ?_ ?_ ?_
  · first | rfl | simp [upd, eset]
  · first | rfl | (simp; done) | exact (set_same (by assumption)).symm
  · rintro j hok; exact ⟨by first | (simp; done) | (simp; omega), by (simp (maxDischargeDepth := 6) [LTB, HLt_set, ltL_take, ltL_drop, ltL_rep, ltL_set, upd, eset, hH, hHk, lt_encM, lt_arC, zlFocus61] <;> omega), by (simp (maxDischargeDepth := 6) [LTB, HLt_set, ltL_take, ltL_drop, ltL_rep, ltL_set, upd, eset, hH, hHk, lt_encM, lt_arC, zlFocus61] <;> omega)⟩
  · rintro _u hok; exact ⟨by first | (simp; done) | (simp; omega), by (simp (maxDischargeDepth := 6) [LTB, HLt_set, ltL_take, ltL_drop, ltL_rep, ltL_set, upd, eset, hH, hHk, lt_encM, lt_arC, zlFocus61] <;> omega), by (simp (maxDischargeDepth := 6) [LTB, HLt_set, ltL_take, ltL_drop, ltL_rep, ltL_set, upd, eset, hH, hHk, lt_encM, lt_arC, zlFocus61] <;> omega)⟩
  · exact ⟨Nat.le_refl _, fun _ => rfl⟩
  · rintro j ⟨hj, hjr⟩
    refine EWn.of_c Tok mixed (own := false) keep12 tab12 (by kernel_rfl) ?_
    (repeat simp -dsimp only [zrFocus61, xnils, xnilm, xrange, xmakeMap, xslice3, RB, TB, keep12, tab12, xindexAddr, xindex, xslice, xconvert, xlen, ewOp, FreeW, StabW, SameW, ChangeW, AddW, BaseW, limBytes, simprocAttr, ne_eq])
    have hcond : decide ((j : Int) - 1 ≥ 0) = decide (1 ≤ j) := by by_cases h : 1 ≤ j; rw [decide_eq_true h]; exact decide_eq_true (by omega); rw [decide_eq_false h]; exact decide_eq_false (by omega)
    rw [hcond]
    by_cases h1 : 1 ≤ j
    · by_cases h2 : 0 ≤ hr
      · obtain ⟨i, rfl⟩ : ∃ i, j = i + 1 := ⟨j - 1, by omega⟩
        have hlt : i < S.length := by omega
        have hmi := at_map vi S i hlt
        simp only [vi] at hmi
        have hns := nxs i hlt
        have w2 : ((i + 1 : Nat) : Int) - 1 = (i : Int) := by omega
        rw [decide_eq_true h1]
        (repeat (first | simp -dsimp only [zrFocus61, xnils, xnilm, xrange, xmakeMap, xslice3, show decide (hr ≥ 0) = true from decide_eq_true h2, hmi, w2, RB, TB, keep12, tab12, xindexAddr, xindex, xslice, xconvert, xlen, ewOp, FreeW, StabW, SameW, ChangeW, AddW, BaseW, limBytes, simprocAttr, ne_eq] | ((with_reducible refine Need.intro ?_ ?_); (omega))))
        (refine SCall.then (lIndex _ all S[i] hsz) ?_)
        (repeat simp -dsimp only [zrFocus61, xnils, xnilm, xrange, xmakeMap, xslice3, RB, TB, keep12, tab12, xindexAddr, xindex, xslice, xconvert, xlen, ewOp, FreeW, StabW, SameW, ChangeW, AddW, BaseW, limBytes, simprocAttr, ne_eq])
        have w3 : IntKind.i64.wrap ((i : Int) - 1) = (i : Int) - 1 := wrapI (by omega)
        by_cases c : ix (fun x => S[i] == x) all > hr
        · rw [if_pos c] at hns
          (repeat (first | simp -dsimp only [zrFocus61, xnils, xnilm, xrange, xmakeMap, xslice3, show decide (ix (fun x => S[i] == x) all > hr) = true from decide_eq_true c, hmi, w2, w3, RB, TB, keep12, tab12, xindexAddr, xindex, xslice, xconvert, xlen, ewOp, FreeW, StabW, SameW, ChangeW, AddW, BaseW, limBytes, simprocAttr, ne_eq] | ((with_reducible refine Need.intro ?_ ?_); (omega))))
          refine UpTo.here ⟨i, ⟨by omega, fun e => by omega⟩, by simp only; omega, by simp [upd, eset, hns], ⟨_, by simp; try rfl⟩⟩
        · rw [if_neg c] at hns
          (repeat simp -dsimp only [zrFocus61, xnils, xnilm, xrange, xmakeMap, xslice3, show decide (ix (fun x => S[i] == x) all > hr) = false from decide_eq_false c, w2, w3, RB, TB, keep12, tab12, xindexAddr, xindex, xslice, xconvert, xlen, ewOp, FreeW, StabW, SameW, ChangeW, AddW, BaseW, limBytes, simprocAttr, ne_eq])
          refine UpTo.here ⟨i, ⟨by omega, fun e => by omega⟩, by simp only; omega, by simp [upd, eset, hns], ⟨_, by simp; try rfl⟩⟩
      · have hj3 : nx j = nextG all S id := by rw [hnf, if_neg h2, hjr (by omega)]
        rw [decide_eq_true h1]
        (repeat simp -dsimp only [zrFocus61, xnils, xnilm, xrange, xmakeMap, xslice3, show decide (hr ≥ 0) = false from decide_eq_false h2, RB, TB, keep12, tab12, xindexAddr, xindex, xslice, xconvert, xlen, ewOp, FreeW, StabW, SameW, ChangeW, AddW, BaseW, limBytes, simprocAttr, ne_eq])
        refine UpTo.step (Gho.restr [5, 7, 8, 9, 10, 11, 12]) (UpTo.here ⟨(), trivial, by simp [restr, eget, hj3], ⟨[], by simp⟩⟩)
    · have hj0 : j = 0 := by omega
      have h2 : 0 ≤ hr ∨ ¬ 0 ≤ hr := Classical.em _
      have hj3 : nx j = nextG all S id := by
        rw [hnf]
        rcases h2 with h2 | h2
        · rw [if_pos h2, hj0]
        · rw [if_neg h2, hjr (by omega)]
      rw [decide_eq_false h1]
      (repeat simp -dsimp only [zrFocus61, xnils, xnilm, xrange, xmakeMap, xslice3, RB, TB, keep12, tab12, xindexAddr, xindex, xslice, xconvert, xlen, ewOp, FreeW, StabW, SameW, ChangeW, AddW, BaseW, limBytes, simprocAttr, ne_eq])
      refine UpTo.step (Gho.restr [5, 7, 8, 9, 10, 11, 12]) (UpTo.here ⟨(), trivial, by simp [restr, eget, hj3], ⟨[], by simp⟩⟩)
  rintro ⟨⟩ _
  (try refine UpTo.here ?_)
  (try dsimp only)
  (repeat simp -dsimp only [zrFocus61, xnils, xnilm, xrange, xmakeMap, xslice3, RB, TB, keep12, tab12, xindexAddr, xindex, xslice, xconvert, xlen, ewOp, FreeW, StabW, SameW, ChangeW, AddW, BaseW, limBytes, simprocAttr, ne_eq])
  refine EWn.loopF (ι := (Nat)) (κ := (Unit)) (fun (i : (Nat)) => i ≤ S.length ∧ (hr < 0 → i = 0)) (fun (i : (Nat)) => S.length - i) (fun (i : (Nat)) => [(11, .int .i64 (pv i)), (14, .int .i64 i)]) (fun (i : (Nat)) => H ++ [.map (encM a.nodes) a.clock, .var (arC H.length a)]) (0) (fun (_u : (Unit)) => True) (fun (_u : (Unit)) => [(5, .ref (H.length + 1) 0), (8, .slice (S.map vi)), (9, .int .i64 id), (10, .int .i64 (nextG all S id)), (11, .int .i64 (prevG all S id))]) (fun (_u : (Unit)) => H ++ [.map (encM a.nodes) a.clock, .var (arC H.length a)]) ?_ ?_ ?_ ?_ ?_ ?_ ?_
  · first | rfl | simp [upd, eset]
  · first | rfl | (simp; done) | exact (set_same (by assumption)).symm
  · rintro i hok; exact ⟨by first | (simp; done) | (simp; omega), by (simp (maxDischargeDepth := 6) [LTB, HLt_set, ltL_take, ltL_drop, ltL_rep, ltL_set, upd, eset, hH, hHk, lt_encM, lt_arC, zlFocus61] <;> omega), by (simp (maxDischargeDepth := 6) [LTB, HLt_set, ltL_take, ltL_drop, ltL_rep, ltL_set, upd, eset, hH, hHk, lt_encM, lt_arC, zlFocus61] <;> omega)⟩
  · rintro _u hok; exact ⟨by first | (simp; done) | (simp; omega), by (simp (maxDischargeDepth := 6) [LTB, HLt_set, ltL_take, ltL_drop, ltL_rep, ltL_set, upd, eset, hH, hHk, lt_encM, lt_arC, zlFocus61] <;> omega), by (simp (maxDischargeDepth := 6) [LTB, HLt_set, ltL_take, ltL_drop, ltL_rep, ltL_set, upd, eset, hH, hHk, lt_encM, lt_arC, zlFocus61] <;> omega)⟩
  · exact ⟨by omega, fun _ => rfl⟩
  · rintro i ⟨hi, hir⟩
    refine EWn.of_c Tok mixed (own := false) keep12 tab12 (by kernel_rfl) ?_
    (repeat simp -dsimp only [zrFocus61, xnils, xnilm, xrange, xmakeMap, xslice3, RB, TB, keep12, tab12, xindexAddr, xindex, xslice, xconvert, xlen, ewOp, FreeW, StabW, SameW, ChangeW, AddW, BaseW, limBytes, simprocAttr, ne_eq])
    refine IfW.intro (fun h1 => ?_) (fun h1 => ?_)
    · have hlt := lt_of h1
      by_cases h2 : 0 ≤ hr
      · have hmi := at_map vi S i hlt
        simp only [vi] at hmi
        have hps := pvs i hlt
        (repeat (first | simp -dsimp only [zrFocus61, xnils, xnilm, xrange, xmakeMap, xslice3, h1, show decide (hr ≥ 0) = true from decide_eq_true h2, hmi, RB, TB, keep12, tab12, xindexAddr, xindex, xslice, xconvert, xlen, ewOp, FreeW, StabW, SameW, ChangeW, AddW, BaseW, limBytes, simprocAttr, ne_eq] | ((with_reducible refine Need.intro ?_ ?_); (omega))))
        (refine SCall.then (lIndex _ all S[i] hsz) ?_)
        (repeat simp -dsimp only [zrFocus61, xnils, xnilm, xrange, xmakeMap, xslice3, RB, TB, keep12, tab12, xindexAddr, xindex, xslice, xconvert, xlen, ewOp, FreeW, StabW, SameW, ChangeW, AddW, BaseW, limBytes, simprocAttr, ne_eq])
        have w3 : IntKind.i64.wrap ((i : Int) + 1) = ((i + 1 : Nat) : Int) := by rw [wrapI (by omega)]; omega
        by_cases c : ix (fun x => S[i] == x) all < hr
        · rw [if_pos c] at hps
          (repeat (first | simp -dsimp only [zrFocus61, xnils, xnilm, xrange, xmakeMap, xslice3, show decide (ix (fun x => S[i] == x) all < hr) = true from decide_eq_true c, hmi, w3, RB, TB, keep12, tab12, xindexAddr, xindex, xslice, xconvert, xlen, ewOp, FreeW, StabW, SameW, ChangeW, AddW, BaseW, limBytes, simprocAttr, ne_eq] | ((with_reducible refine Need.intro ?_ ?_); (omega))))
          refine UpTo.here ⟨i + 1, ⟨hlt, fun e => by omega⟩, by simp only; omega, by simp [upd, eset, hps], ⟨_, by simp; try rfl⟩⟩
        · rw [if_neg c] at hps
          (repeat simp -dsimp only [zrFocus61, xnils, xnilm, xrange, xmakeMap, xslice3, show decide (ix (fun x => S[i] == x) all < hr) = false from decide_eq_false c, w3, RB, TB, keep12, tab12, xindexAddr, xindex, xslice, xconvert, xlen, ewOp, FreeW, StabW, SameW, ChangeW, AddW, BaseW, limBytes, simprocAttr, ne_eq])
          refine UpTo.here ⟨i + 1, ⟨hlt, fun e => by omega⟩, by simp only; omega, by simp [upd, eset, hps], ⟨_, by simp; try rfl⟩⟩
      · have hj3 : pv i = prevG all S id := by rw [hpf, if_neg h2, hir (by omega)]
        (repeat simp -dsimp only [zrFocus61, xnils, xnilm, xrange, xmakeMap, xslice3, h1, show decide (hr ≥ 0) = false from decide_eq_false h2, RB, TB, keep12, tab12, xindexAddr, xindex, xslice, xconvert, xlen, ewOp, FreeW, StabW, SameW, ChangeW, AddW, BaseW, limBytes, simprocAttr, ne_eq])
        refine UpTo.step (Gho.restr [5, 8, 9, 10, 11]) (UpTo.here ⟨(), trivial, by simp [restr, eget, hj3], ⟨[], by simp⟩⟩)
    · have hi2 : i = S.length := Nat.le_antisymm hi (ge_of h1)
      have hj3 : pv i = prevG all S id := by
        rw [hpf]
        split
        · rw [hi2]
        · rename_i h2
          rw [hir (by omega)]
      (repeat simp -dsimp only [zrFocus61, xnils, xnilm, xrange, xmakeMap, xslice3, h1, RB, TB, keep12, tab12, xindexAddr, xindex, xslice, xconvert, xlen, ewOp, FreeW, StabW, SameW, ChangeW, AddW, BaseW, limBytes, simprocAttr, ne_eq])
      refine UpTo.step (Gho.restr [5, 8, 9, 10, 11]) (UpTo.here ⟨(), trivial, by simp [restr, eget, hj3], ⟨[], by simp⟩⟩)
  rintro ⟨⟩ _
  (try refine UpTo.here ?_)
  (try dsimp only)
  (repeat simp -dsimp only [zrFocus61, xnils, xnilm, xrange, xmakeMap, xslice3, RB, TB, keep12, tab12, xindexAddr, xindex, xslice, xconvert, xlen, ewOp, FreeW, StabW, SameW, ChangeW, AddW, BaseW, limBytes, simprocAttr, ne_eq])
  (refine SCall.then (hN _) ?_)
  (repeat simp -dsimp only [zrFocus61, xnils, xnilm, xrange, xmakeMap, xslice3, RB, TB, keep12, tab12, xindexAddr, xindex, xslice, xconvert, xlen, ewOp, FreeW, StabW, SameW, ChangeW, AddW, BaseW, limBytes, simprocAttr, ne_eq])
  (refine SCall.then (hP _) ?_)
  (repeat simp -dsimp only [zrFocus61, xnils, xnilm, xrange, xmakeMap, xslice3, RB, TB, keep12, tab12, xindexAddr, xindex, xslice, xconvert, xlen, ewOp, FreeW, StabW, SameW, ChangeW, AddW, BaseW, limBytes, simprocAttr, ne_eq])
  (refine SCall.then (hT _) ?_)
  (repeat simp -dsimp only [zrFocus61, xnils, xnilm, xrange, xmakeMap, xslice3, RB, TB, keep12, tab12, xindexAddr, xindex, xslice, xconvert, xlen, ewOp, FreeW, StabW, SameW, ChangeW, AddW, BaseW, limBytes, simprocAttr, ne_eq])
  (refine SCall.then (pInts _ _ _) ?_)
  (repeat simp -dsimp only [zrFocus61, xnils, xnilm, xrange, xmakeMap, xslice3, RB, TB, keep12, tab12, xindexAddr, xindex, xslice, xconvert, xlen, ewOp, FreeW, StabW, SameW, ChangeW, AddW, BaseW, limBytes, simprocAttr, ne_eq])
  (refine SCall.then (hW _) ?_)
  (repeat simp -dsimp only [zrFocus61, xnils, xnilm, xrange, xmakeMap, xslice3, RB, TB, keep12, tab12, xindexAddr, xindex, xslice, xconvert, xlen, ewOp, FreeW, StabW, SameW, ChangeW, AddW, BaseW, limBytes, simprocAttr, ne_eq])
  (refine SCall.then (hI _) ?_)
  (repeat simp -dsimp only [zrFocus61, xnils, xnilm, xrange, xmakeMap, xslice3, RB, TB, keep12, tab12, xindexAddr, xindex, xslice, xconvert, xlen, ewOp, FreeW, StabW, SameW, ChangeW, AddW, BaseW, limBytes, simprocAttr, ne_eq])
  (refine SCall.then (hL _) ?_)
  (repeat simp -dsimp only [zrFocus61, xnils, xnilm, xrange, xmakeMap, xslice3, RB, TB, keep12, tab12, xindexAddr, xindex, xslice, xconvert, xlen, ewOp, FreeW, StabW, SameW, ChangeW, AddW, BaseW, limBytes, simprocAttr, ne_eq])
  (refine SCall.then (pInts _ _ _) ?_)
  (repeat simp -dsimp only [zrFocus61, xnils, xnilm, xrange, xmakeMap, xslice3, RB, TB, keep12, tab12, xindexAddr, xindex, xslice, xconvert, xlen, ewOp, FreeW, StabW, SameW, ChangeW, AddW, BaseW, limBytes, simprocAttr, ne_eq])
  refine RetW.auto0 false _ (by first | rfl | exact (List.append_nil _).symm) ?_ ?_
  · (simp (maxDischargeDepth := 6) [LTB, HLt_set, ltL_take, ltL_drop, ltL_rep, ltL_set, upd, eset, hH, hHk, lt_encM, lt_arC, zlFocus61] <;> omega)
  (try simp only [wk, wk1, wk0, RB, limBytes, simprocAttr, ne_eq])
  skip
end Go.Proofs.Ytjplgbalpnlanaa

/- The walk of the law FocusRound. -/
set_option linter.unusedSimpArgs false
set_option linter.unusedVariables false
set_option maxRecDepth 100000
namespace Go.Proofs.Ytjplgbalpnlanaa
open Go Go.EL
theorem zrFocus71 : type_of% (And.intro (And.intro (And.intro (And.intro (@st_run) (And.intro (@sz_run) (@st1_run))) (And.intro (And.intro (@cl_run) (@st_Str)) (And.intro (@sz_Str) (@st1_Str)))) (And.intro (And.intro (@cl_Str) (And.intro (@st_c) (@sz_c))) (And.intro (And.intro (@st1_c) (@cl_c)) (And.intro (@st_attr) (@sz_attr))))) (And.intro (And.intro (And.intro (@st1_attr) (And.intro (@cl_attr) (@st_hook))) (And.intro (And.intro (@sz_hook) (@st1_hook)) (And.intro (@cl_hook) (@st_node)))) (And.intro (And.intro (@sz_node) (And.intro (@st1_node) (@cl_node))) (And.intro (And.intro (@st_opf) (@sz_opf)) (And.intro (@st1_opf) (@cl_opf)))))) := And.intro (And.intro (And.intro (And.intro (@st_run) (And.intro (@sz_run) (@st1_run))) (And.intro (And.intro (@cl_run) (@st_Str)) (And.intro (@sz_Str) (@st1_Str)))) (And.intro (And.intro (@cl_Str) (And.intro (@st_c) (@sz_c))) (And.intro (And.intro (@st1_c) (@cl_c)) (And.intro (@st_attr) (@sz_attr))))) (And.intro (And.intro (And.intro (@st1_attr) (And.intro (@cl_attr) (@st_hook))) (And.intro (And.intro (@sz_hook) (@st1_hook)) (And.intro (@cl_hook) (@st_node)))) (And.intro (And.intro (@sz_node) (And.intro (@st1_node) (@cl_node))) (And.intro (And.intro (@st_opf) (@sz_opf)) (And.intro (@st1_opf) (@cl_opf)))))
theorem zlFocus71 : type_of% (And.intro (And.intro (And.intro (And.intro (@lt_vi) (And.intro (@lt_str) (@lt_vb))) (And.intro (@ltc_str) (And.intro (@ltc_vi) (@lt_run)))) (And.intro (And.intro (@lt1_run) (And.intro (@ltc_run) (@lt_Str))) (And.intro (And.intro (@lt1_Str) (@ltc_Str)) (And.intro (@lt_c) (@lt1_c))))) (And.intro (And.intro (And.intro (@ltc_c) (And.intro (@lt_attr) (@lt1_attr))) (And.intro (@ltc_attr) (And.intro (@lt_hook) (@lt1_hook)))) (And.intro (And.intro (@ltc_hook) (And.intro (@lt_node) (@lt1_node))) (And.intro (And.intro (@ltc_node) (@lt_opf)) (And.intro (@lt1_opf) (@ltc_opf)))))) := And.intro (And.intro (And.intro (And.intro (@lt_vi) (And.intro (@lt_str) (@lt_vb))) (And.intro (@ltc_str) (And.intro (@ltc_vi) (@lt_run)))) (And.intro (And.intro (@lt1_run) (And.intro (@ltc_run) (@lt_Str))) (And.intro (And.intro (@lt1_Str) (@ltc_Str)) (And.intro (@lt_c) (@lt1_c))))) (And.intro (And.intro (And.intro (@ltc_c) (And.intro (@lt_attr) (@lt1_attr))) (And.intro (@ltc_attr) (And.intro (@lt_hook) (@lt1_hook)))) (And.intro (And.intro (@ltc_hook) (And.intro (@lt_node) (@lt1_node))) (And.intro (And.intro (@ltc_node) (@lt_opf)) (And.intro (@lt1_opf) (@ltc_opf)))))
theorem ix_eq {l : List Int} (hn : l.Nodup) {i : Nat} (h : i < l.length) : ix (fun x => l[i] == x) l = i := by
  refine ix_hit h (by simp) fun x hx => ?_
  obtain ⟨j, hj, rfl⟩ := List.mem_take_iff_getElem.1 hx
  have : j < i := by omega
  simp only [beq_eq_false_iff_ne]
  exact fun e => by have := (List.getElem_inj hn).1 e; omega
/-- stops stand one behind the other -/
theorem ix_lt_sub {l s : List Int} (hn : l.Nodup) (hs : s.Sublist l) : s.Pairwise fun x y => ix (fun z => x == z) l < ix (fun z => y == z) l := by
  have key : l.Pairwise fun x y => ix (fun z => x == z) l < ix (fun z => y == z) l := by
    rw [List.pairwise_iff_getElem]
    intro i j hi hj hij
    rw [ix_eq hn hi, ix_eq hn hj]
    omega
  exact key.sublist hs
section
variable {l s : List Int}
theorem ixs_lt (hn : l.Nodup) (hs : s.Sublist l) {i j : Nat} (hi : i < s.length) (hj : j < s.length) : ix (fun z => s[i] == z) l < ix (fun z => s[j] == z) l ↔ i < j := by
  have hp := List.pairwise_iff_getElem.1 (ix_lt_sub hn hs)
  constructor
  · intro h
    rcases Nat.lt_trichotomy i j with h1 | h1 | h1
    · exact h1
    · subst h1; omega
    · have := hp j i hj hi h1; omega
  · exact fun h => hp i j hi hj h
theorem ixs_nn (hs : s.Sublist l) {i : Nat} (hi : i < s.length) : 0 ≤ ix (fun z => s[i] == z) l := by
  rw [ix_nonneg]
  exact ⟨s[i], hs.subset (List.getElem_mem hi), by simp⟩
theorem next_at (hn : l.Nodup) (hs : s.Sublist l) {i : Nat} (hi : i < s.length) : nextG l s s[i] = s[(i + 1) % s.length]'(Nat.mod_lt _ (by omega)) := by
  unfold nextG
  rw [if_pos (ixs_nn hs hi)]
  by_cases h : i + 1 < s.length
  · have hf : s.find? (fun k => decide (ix (fun x => k == x) l > ix (fun x => s[i] == x) l)) = some s[i + 1] := by
      refine find_at h (fun x hx => ?_) (decide_eq_true ?_)
      · obtain ⟨j, hj, rfl⟩ := List.mem_take_iff_getElem.1 hx
        refine decide_eq_false fun hgt => ?_
        have := (ixs_lt hn hs hi (show j < s.length by omega)).1 hgt
        omega
      · exact (ixs_lt hn hs hi h).2 (by omega)
    rw [hf]
    simp only [Option.getD_some]
    have e : (i + 1) % s.length = i + 1 := Nat.mod_eq_of_lt h
    simp only [e]
  · have hf : s.find? (fun k => decide (ix (fun x => k == x) l > ix (fun x => s[i] == x) l)) = none := by
      refine find_no fun x hx => ?_
      obtain ⟨j, hj, rfl⟩ := List.mem_iff_getElem.1 hx
      refine decide_eq_false fun hgt => ?_
      have := (ixs_lt hn hs hi hj).1 hgt
      omega
    rw [hf]
    have e : (i + 1) % s.length = 0 := by
      have : i + 1 = s.length := by omega
      rw [this, Nat.mod_self]
    simp only [e, Option.getD_none]
    rw [List.getD_eq_getElem?_getD, List.getElem?_eq_getElem (by omega)]; rfl
theorem prev_at (hn : l.Nodup) (hs : s.Sublist l) {i : Nat} (hi : i < s.length) : prevG l s s[i] = s[(i + s.length - 1) % s.length]'(Nat.mod_lt _ (by omega)) := by
  unfold prevG
  cases i with
  | succ i =>
    have hf : s.reverse.find? (fun k => decide (ix (fun x => k == x) l < ix (fun x => s[i + 1] == x) l)) = some s[i] := by
      have hr : s.length - 1 - i < s.reverse.length := by simp; omega
      have he : s.reverse[s.length - 1 - i] = s[i] := by
        rw [List.getElem_reverse]
        congr 1
        omega
      rw [← he]
      refine find_at hr (fun x hx => ?_) (decide_eq_true ?_)
      · obtain ⟨j, hj, rfl⟩ := List.mem_take_iff_getElem.1 hx
        refine decide_eq_false fun hgt => ?_
        rw [List.getElem_reverse] at hgt
        have := (ixs_lt hn hs (show s.length - 1 - j < s.length by omega) hi).1 hgt
        omega
      · rw [he]
        exact (ixs_lt hn hs (show i < s.length by omega) hi).2 (by omega)
    rw [hf]
    simp only [Option.getD_some]
    have e : (i + 1 + s.length - 1) % s.length = i := by
      rw [show i + 1 + s.length - 1 = i + s.length by omega, Nat.add_mod_right, Nat.mod_eq_of_lt (by omega)]
    simp only [e]
  | zero =>
    have hf : s.reverse.find? (fun k => decide (ix (fun x => k == x) l < ix (fun x => s[0] == x) l)) = none := by
      refine find_no fun x hx => ?_
      obtain ⟨j, hj, rfl⟩ := List.mem_iff_getElem.1 (List.mem_reverse.1 hx)
      refine decide_eq_false fun hgt => ?_
      have := (ixs_lt hn hs hj hi).1 hgt
      omega
    rw [hf]
    have e : (0 + s.length - 1) % s.length = s.length - 1 := by
      rw [Nat.zero_add, Nat.mod_eq_of_lt (by omega)]
    simp only [e, Option.getD_none]
    rw [List.getD_eq_getElem?_getD, List.getElem?_eq_getElem (by omega)]; rfl
end
theorem mod_next (j k m : Nat) : ((j + k) % m + 1) % m = (j + (k + 1)) % m := by rw [Nat.mod_add_mod, Nat.add_assoc]
theorem mod_prev (j k m : Nat) (hm : 0 < m) : ((j + (k + 1)) % m + m - 1) % m = (j + k) % m := by
  have hr := Nat.mod_lt (j + k) hm
  rw [← mod_next]
  generalize (j + k) % m = r at *
  by_cases h : r + 1 < m
  · rw [Nat.mod_eq_of_lt h, show r + 1 + m - 1 = r + m by omega, Nat.add_mod_right, Nat.mod_eq_of_lt hr]
  · have e : r + 1 = m := by omega
    rw [e, Nat.mod_self, Nat.zero_add, Nat.mod_eq_of_lt (by omega)]
    omega
set_option maxHeartbeats 4000000 in
theorem focusRound (H : List Ob) (l : List OpF) (at_ : Int) : SCall Try.prog 13 [.slice (l.map opfV), .int .i64 at_] H (fun r H' => r = .bool true) := by
  refine SCall.of_good fun hH => ?_
  have hHk := HLt.add hH
  refine SCall.of_code Tok Try.func13 rfl Try.call13 (n := 113) rfl (by simp) (rs := [.tmp 4]) rfl ?_
  refine EWn.to ?_
  refine EWn.of_c Tok mixed (own := false) keep13 tab13 (by kernel_rfl) ?_
  (repeat simp -dsimp only [zrFocus71, xnils, xnilm, xrange, xmakeMap, xslice3, RB, TB, keep13, tab13, xindexAddr, xindex, xslice, xconvert, xlen, ewOp, FreeW, StabW, SameW, ChangeW, AddW, BaseW, limBytes, simprocAttr, ne_eq])
  (refine SCall.then (alive45 _) ?_)
  (repeat simp -dsimp only [zrFocus71, xnils, xnilm, xrange, xmakeMap, xslice3, RB, TB, keep13, tab13, xindexAddr, xindex, xslice, xconvert, xlen, ewOp, FreeW, StabW, SameW, ChangeW, AddW, BaseW, limBytes, simprocAttr, ne_eq])
  refine SCall.mono (built45 _ l) ?_
  rintro _ _ ⟨a, ids, p, q, hp, hq, g, rfl, rfl⟩
  have hg : ∀ K, arenaAt (H ++ .map (encM a.nodes) a.clock :: .var (arC H.length a) :: K) (H.length + 1) H.length a := g.at H
  have hsz : (idsG a (q + 1) 0).length ≤ 1000000 := by rw [g.ids_len]; have := g.idl; omega
  have hN := fun K x => fNext _ (H.length + 1) H.length a (hg K) g.oks q x (g.deep 0) hsz
  have hP := fun K x => fPrev _ (H.length + 1) H.length a (hg K) g.oks q x (g.deep 0) hsz
  have hT := fun K => fStops _ (H.length + 1) H.length a (hg K) g.oks q (g.deep 0) hsz
  have hnd := g.ids_nodup
  have hsub : (stopsG a (idsG a (q + 1) 0)).Sublist (idsG a (q + 1) 0) := List.filter_sublist
  have hsl : (stopsG a (idsG a (q + 1) 0)).length ≤ 1000000 := Nat.le_trans hsub.length_le hsz
  generalize stopsG a (idsG a (q + 1) 0) = S at *
  generalize idsG a (q + 1) 0 = all at *
  (repeat simp -dsimp only [zrFocus71, xnils, xnilm, xrange, xmakeMap, xslice3, RB, TB, keep13, tab13, xindexAddr, xindex, xslice, xconvert, xlen, ewOp, FreeW, StabW, SameW, ChangeW, AddW, BaseW, limBytes, simprocAttr, ne_eq])
  (refine SCall.then (hT _) ?_)
  (repeat simp -dsimp only [zrFocus71, xnils, xnilm, xrange, xmakeMap, xslice3, RB, TB, keep13, tab13, xindexAddr, xindex, xslice, xconvert, xlen, ewOp, FreeW, StabW, SameW, ChangeW, AddW, BaseW, limBytes, simprocAttr, ne_eq])
  by_cases hS0 : S = []
  · have e0 : ((S.length : Int) == 0) = true := by rw [hS0]; rfl
    (repeat simp -dsimp only [zrFocus71, xnils, xnilm, xrange, xmakeMap, xslice3, e0, RB, TB, keep13, tab13, xindexAddr, xindex, xslice, xconvert, xlen, ewOp, FreeW, StabW, SameW, ChangeW, AddW, BaseW, limBytes, simprocAttr, ne_eq])
    refine RetW.auto0 false _ (by first | rfl | exact (List.append_nil _).symm) ?_ ?_
    · (simp (maxDischargeDepth := 6) [LTB, HLt_set, ltL_take, ltL_drop, ltL_rep, ltL_set, upd, eset, hH, hHk, lt_encM, lt_arC, zlFocus71] <;> omega)
    (try simp only [wk, wk1, wk0, RB, limBytes, simprocAttr, ne_eq])
    skip
  · have hlp : 0 < S.length := List.length_pos_iff.2 hS0
    have e0 : ((S.length : Int) == 0) = false := by simp; exact hS0
    have hN : ∀ K x, SCall Try.prog 78 [.ref (H.length + 1) 0, .int .i64 x] (H ++ .map (encM a.nodes) a.clock :: .var (arC H.length a) :: K) (fun r H' => r = .tuple [.int .i64 (nextG all S x), .bool true] ∧ H' = H ++ .map (encM a.nodes) a.clock :: .var (arC H.length a) :: K) := fun K x => by
      have h := hN K x
      rw [if_neg hS0] at h
      exact h
    have hP : ∀ K x, SCall Try.prog 79 [.ref (H.length + 1) 0, .int .i64 x] (H ++ .map (encM a.nodes) a.clock :: .var (arC H.length a) :: K) (fun r H' => r = .tuple [.int .i64 (prevG all S x), .bool true] ∧ H' = H ++ .map (encM a.nodes) a.clock :: .var (arC H.length a) :: K) := fun K x => by
      have h := hP K x
      rw [if_neg hS0] at h
      exact h
    obtain ⟨j, hj, hjw⟩ := tmodn at_ S.length hlp hsl
    have hmi := at_map vi S j hj
    simp only [vi] at hmi
    obtain ⟨F, hF⟩ : ∃ F : Nat → Int, ∀ k, F k = S[(j + k) % S.length]'(Nat.mod_lt _ hlp) := ⟨fun k => S[(j + k) % S.length]'(Nat.mod_lt _ hlp), fun _ => rfl⟩
    have F0 : S[j] = F 0 := by rw [hF]; congr 1; rw [Nat.add_zero, Nat.mod_eq_of_lt hj]
    have Fn : ∀ k, nextG all S (F k) = F (k + 1) := fun k => by
      rw [hF, next_at hnd hsub (Nat.mod_lt _ hlp), hF]
      congr 1
      exact mod_next j k S.length
    have Fp : ∀ k, prevG all S (F (k + 1)) = F k := fun k => by
      rw [hF, prev_at hnd hsub (Nat.mod_lt _ hlp), hF]
      congr 1
      exact mod_prev j k S.length hlp
    have Fm : F S.length = F 0 := by
      rw [hF, hF]
      congr 1
      rw [Nat.add_mod_right, Nat.add_zero]
    obtain ⟨m1, hm1⟩ : ∃ m1, S.length = m1 + 1 := ⟨S.length - 1, by omega⟩
    have Fp0 : prevG all S (F 0) = F m1 := by rw [← Fm, hm1, Fp]
    have Fm1 : F (m1 + 1) = F 0 := by rw [← hm1]; exact Fm
    have hall : ∀ i, (hi : i < S.length) → ∃ k, k < S.length ∧ F k = S[i] := fun i hi => by
      refine ⟨(i + S.length - j) % S.length, Nat.mod_lt _ hlp, ?_⟩
      rw [hF]
      congr 1
      rw [Nat.add_mod_mod, show j + (i + S.length - j) = i + S.length by omega, Nat.add_mod_right, Nat.mod_eq_of_lt hi]
    rw [F0] at hmi
    clear hF
    (repeat (first | simp -dsimp only [zrFocus71, xnils, xnilm, xrange, xmakeMap, xslice3, e0, hjw, hmi, RB, TB, keep13, tab13, xindexAddr, xindex, xslice, xconvert, xlen, ewOp, FreeW, StabW, SameW, ChangeW, AddW, BaseW, limBytes, simprocAttr, ne_eq] | ((with_reducible refine Need.intro ?_ ?_); (omega))))
    (refine SCall.then (hN _ (F 0)) ?_)
    (repeat simp -dsimp only [zrFocus71, xnils, xnilm, xrange, xmakeMap, xslice3, Fn, RB, TB, keep13, tab13, xindexAddr, xindex, xslice, xconvert, xlen, ewOp, FreeW, StabW, SameW, ChangeW, AddW, BaseW, limBytes, simprocAttr, ne_eq])
    (refine SCall.then (hP _ (F 1)) ?_)
    (repeat simp -dsimp only [zrFocus71, xnils, xnilm, xrange, xmakeMap, xslice3, Fp, RB, TB, keep13, tab13, xindexAddr, xindex, xslice, xconvert, xlen, ewOp, FreeW, StabW, SameW, ChangeW, AddW, BaseW, limBytes, simprocAttr, ne_eq])
    (refine SCall.then (hP _ (F 0)) ?_)
    (repeat simp -dsimp only [zrFocus71, xnils, xnilm, xrange, xmakeMap, xslice3, Fp0, RB, TB, keep13, tab13, xindexAddr, xindex, xslice, xconvert, xlen, ewOp, FreeW, StabW, SameW, ChangeW, AddW, BaseW, limBytes, simprocAttr, ne_eq])
    (refine SCall.then (hN _ (F m1)) ?_)
    (repeat simp -dsimp only [zrFocus71, xnils, xnilm, xrange, xmakeMap, xslice3, Fn, Fm1, RB, TB, keep13, tab13, xindexAddr, xindex, xslice, xconvert, xlen, ewOp, FreeW, StabW, SameW, ChangeW, AddW, BaseW, limBytes, simprocAttr, ne_eq])
    refine EWn.ghost (Gho.adopt 18 1 rfl) ?_
    simp only [RB, limBytes, simprocAttr, ne_eq]
    refine EWn.loopE (ι := (Nat) × (Nat)) (fun (x_ : (Nat) × (Nat)) => match x_ with | (i, v) => i ≤ S.length) (fun (x_ : (Nat) × (Nat)) => match x_ with | (i, v) => S.length - i) (fun (x_ : (Nat) × (Nat)) => match x_ with | (i, v) => [(17, .int .i64 (F i)), (18, .vec (H.length + 2) v 0 ((List.range i).map F).length), (19, .int .i64 i)]) (fun (x_ : (Nat) × (Nat)) => match x_ with | (i, v) => H ++ [.map (encM a.nodes) a.clock, .var (arC H.length a), .vec v 1 (((List.range i).map F).map vi)]) (0, 1) ?_ ?_ ?_ ?_ ?_
    · first | rfl | simp [upd, eset]
    · first | rfl | (simp; done) | exact (set_same (by assumption)).symm
    · rintro ⟨i, v⟩ hok; exact ⟨by first | (simp; done) | (simp; omega), by (simp (maxDischargeDepth := 6) [LTB, HLt_set, ltL_take, ltL_drop, ltL_rep, ltL_set, upd, eset, hH, hHk, lt_encM, lt_arC, zlFocus71] <;> omega), by (simp (maxDischargeDepth := 6) [LTB, HLt_set, ltL_take, ltL_drop, ltL_rep, ltL_set, upd, eset, hH, hHk, lt_encM, lt_arC, zlFocus71] <;> omega)⟩
    · omega
    rintro ⟨i, v⟩ hi
    refine EWn.of_c Tok mixed (own := false) keep13 tab13 (by kernel_rfl) ?_
    (repeat simp -dsimp only [zrFocus71, xnils, xnilm, xrange, xmakeMap, xslice3, RB, TB, keep13, tab13, xindexAddr, xindex, xslice, xconvert, xlen, ewOp, FreeW, StabW, SameW, ChangeW, AddW, BaseW, limBytes, simprocAttr, ne_eq])
    refine IfW.intro (fun h1 => ?_) (fun h1 => ?_)
    · have hlt := lt_of h1
      have hrs : (List.range (i + 1)).map F = (List.range i).map F ++ [F i] := by rw [List.range_succ, List.map_append]; rfl
      (repeat (first | simp -dsimp only [zrFocus71, xnils, xnilm, xrange, xmakeMap, xslice3, h1, RB, TB, keep13, tab13, xindexAddr, xindex, xslice, xconvert, xlen, ewOp, FreeW, StabW, SameW, ChangeW, AddW, BaseW, limBytes, simprocAttr, ne_eq] | ((with_reducible refine Need.intro ?_ ?_); (first | trivial | (simp; omega)))))
      (refine SCall.then (hN _ (F i)) ?_)
      (repeat simp -dsimp only [zrFocus71, xnils, xnilm, xrange, xmakeMap, xslice3, Fn, RB, TB, keep13, tab13, xindexAddr, xindex, xslice, xconvert, xlen, ewOp, FreeW, StabW, SameW, ChangeW, AddW, BaseW, limBytes, simprocAttr, ne_eq])
      rw [wrapI (by omega)]
      refine UpTo.here ⟨(i + 1, v + 1), hlt, by simp only; omega, by simp [upd, eset], ⟨_, by simp only [hrs]; simp [vi]; try rfl⟩⟩
    · have hi2 : i = S.length := Nat.le_antisymm hi (ge_of h1)
      subst hi2
      obtain ⟨M, hM⟩ : ∃ M, M = (List.range S.length).map F := ⟨_, rfl⟩
      have hMl : M.length = S.length := by rw [hM]; simp
      have hMn : ∀ i, (hi : i < S.length) → 0 ≤ ix (fun x => S[i] == x) M := fun i hi => by
        obtain ⟨k, hk, e⟩ := hall i hi
        rw [ix_nonneg]
        exact ⟨F k, by rw [hM]; exact List.mem_map.2 ⟨k, by simpa using hk, rfl⟩, by simp [e]⟩
      have hlI : ∀ n : Int, ∀ K, SCall Try.prog 77 [.vec (H.length + 2) v 0 S.length, .int .i64 n] (H ++ .map (encM a.nodes) a.clock :: .var (arC H.length a) :: .vec v 1 (M.map vi) :: K) (fun r H' => r = .int .i64 (ix (fun x => n == x) M) ∧ H' = H ++ .map (encM a.nodes) a.clock :: .var (arC H.length a) :: .vec v 1 (M.map vi) :: K) := fun n K => by
        refine SCall.borrow (args' := [.slice (M.map vi), .int .i64 n]) ⟨Bo.vec (ver := v) (es := 1) (l := M.map vi) (by simp) (by simp [hMl]) (lt_vi _ _), ⟨rfl, trivial⟩, trivial⟩ ?_
        refine (lIndex [] M n (by omega)).mono ?_
        rintro r H' ⟨rfl, _⟩
        exact ⟨rfl, trivial⟩
      rw [← hM]
      (repeat simp -dsimp only [zrFocus71, xnils, xnilm, xrange, xmakeMap, xslice3, h1, Fm, List.length_range, RB, TB, keep13, tab13, xindexAddr, xindex, xslice, xconvert, xlen, ewOp, FreeW, StabW, SameW, ChangeW, AddW, BaseW, limBytes, simprocAttr, ne_eq])
      refine EWn.loopE (ι := (Nat)) (fun (i : (Nat)) => i ≤ S.length) (fun (i : (Nat)) => S.length - i) (fun (i : (Nat)) => [(20, .int .i64 i)]) (fun (i : (Nat)) => H ++ [.map (encM a.nodes) a.clock, .var (arC H.length a), .vec v 1 (M.map vi)]) (0) ?_ ?_ ?_ ?_ ?_
      · first | rfl | simp [upd, eset]
      · first | rfl | (simp; done) | exact (set_same (by assumption)).symm
      · rintro i hok; exact ⟨by first | (simp; done) | (simp; omega), by (simp (maxDischargeDepth := 6) [LTB, HLt_set, ltL_take, ltL_drop, ltL_rep, ltL_set, upd, eset, hH, hHk, lt_encM, lt_arC, zlFocus71] <;> omega), by (simp (maxDischargeDepth := 6) [LTB, HLt_set, ltL_take, ltL_drop, ltL_rep, ltL_set, upd, eset, hH, hHk, lt_encM, lt_arC, zlFocus71] <;> omega)⟩
      · omega
      rintro i hi
      refine EWn.of_c Tok mixed (own := false) keep13 tab13 (by kernel_rfl) ?_
      (repeat simp -dsimp only [zrFocus71, xnils, xnilm, xrange, xmakeMap, xslice3, RB, TB, keep13, tab13, xindexAddr, xindex, xslice, xconvert, xlen, ewOp, FreeW, StabW, SameW, ChangeW, AddW, BaseW, limBytes, simprocAttr, ne_eq])
      refine IfW.intro (fun h2 => ?_) (fun h2 => ?_)
      · have hlt := lt_of h2
        have hm2 := at_map vi S i hlt
        simp only [vi] at hm2
        have hnn := hMn i hlt
        (repeat (first | simp -dsimp only [zrFocus71, xnils, xnilm, xrange, xmakeMap, xslice3, h2, hm2, List.length_range, RB, TB, keep13, tab13, xindexAddr, xindex, xslice, xconvert, xlen, ewOp, FreeW, StabW, SameW, ChangeW, AddW, BaseW, limBytes, simprocAttr, ne_eq] | ((with_reducible refine Need.intro ?_ ?_); (omega))))
        (refine SCall.then (hlI _ _) ?_)
        (repeat simp -dsimp only [zrFocus71, xnils, xnilm, xrange, xmakeMap, xslice3, show decide (ix (fun x => S[i] == x) M < 0) = false from decide_eq_false (by omega), RB, TB, keep13, tab13, xindexAddr, xindex, xslice, xconvert, xlen, ewOp, FreeW, StabW, SameW, ChangeW, AddW, BaseW, limBytes, simprocAttr, ne_eq])
        rw [wrapI (by omega)]
        refine UpTo.here ⟨i + 1, hlt, by simp only; omega, by simp [upd, eset], ⟨_, by simp; try rfl⟩⟩
      · (repeat simp -dsimp only [zrFocus71, xnils, xnilm, xrange, xmakeMap, xslice3, h2, RB, TB, keep13, tab13, xindexAddr, xindex, xslice, xconvert, xlen, ewOp, FreeW, StabW, SameW, ChangeW, AddW, BaseW, limBytes, simprocAttr, ne_eq])
        refine RetW.auto0 false _ (by first | rfl | exact (List.append_nil _).symm) ?_ ?_
        · (simp (maxDischargeDepth := 6) [LTB, HLt_set, ltL_take, ltL_drop, ltL_rep, ltL_set, upd, eset, hH, hHk, lt_encM, lt_arC, zlFocus71] <;> omega)
        (try simp only [wk, wk1, wk0, RB, limBytes, simprocAttr, ne_eq])
        skip
end Go.Proofs.Ytjplgbalpnlanaa

/- FocusRound, where what it reads is of bulk at most 1048576: the law returns true and the arguments read as they did. -/
set_option linter.unusedSimpArgs false
set_option linter.unusedVariables false
set_option maxRecDepth 100000
set_option maxHeartbeats 1000000
namespace Go.Proofs.Ytjplgbalpnlanaa
open Go Go.EL

mutual
theorem bulk_eq {H : Type} : ∀ d : DataW H, bulk d = Rows.uptoBulk d
  | .lit l => by cases l <;> simp [bulk, Rows.uptoBulk]
  | .nil => by simp [bulk, Rows.uptoBulk]
  | .ptr d => by simp only [bulk, Rows.uptoBulk, bulk_eq d]
  | .slice a b => by simp only [bulk, Rows.uptoBulk, bulkAll_eq a, bulkAll_eq b]
  | .agg ps => by simp only [bulk, Rows.uptoBulk, bulkAll_eq ps]
  | .iface t d => by simp only [bulk, Rows.uptoBulk, bulk_eq d]
  | .map es => by simp only [bulk, Rows.uptoBulk, bulkEntries_eq es]
  | .held _ => by simp [bulk, Rows.uptoBulk]
theorem bulkAll_eq {H : Type} : ∀ l : List (DataW H), bulkAll l = Rows.uptoBulkAll l
  | [] => by simp [bulkAll, Rows.uptoBulkAll]
  | d :: r => by simp only [bulkAll, Rows.uptoBulkAll, bulk_eq d, bulkAll_eq r]
theorem bulkEntries_eq {H : Type} : ∀ l : List (Lit × DataW H), bulkEntries l = Rows.uptoBulkEntries l
  | [] => by simp [bulkEntries, Rows.uptoBulkEntries]
  | d :: r => by simp only [bulkEntries, Rows.uptoBulkEntries, bulkEntry_eq d, bulkEntries_eq r]
theorem bulkEntry_eq {H : Type} : ∀ x : Lit × DataW H, bulkEntry x = Rows.uptoBulkEntry x
  | (k, d) => by cases k <;> simp [bulkEntry, Rows.uptoBulkEntry, bulk_eq d]
end
theorem le_sum {α : Type} (g : α → Nat) : ∀ {l : List α} {x : α}, x ∈ l → g x ≤ (l.map g).sum
  | y :: l, x, h => by
    simp only [List.map_cons, List.sum_cons]
    rcases List.mem_cons.1 h with rfl | h
    · omega
    · have := le_sum g h; omega
theorem len_sum {α : Type} (g : α → Nat) (hg : ∀ x, 1 ≤ g x) : ∀ (l : List α), l.length ≤ (l.map g).sum
  | [] => by simp
  | y :: l => by
    have := len_sum g hg l
    have := hg y
    simp only [List.map_cons, List.sum_cons, List.length_cons]
    omega
theorem own_none : ownKnob Try.prog.godebug = none := by kernel_rfl
theorem laid_out : laidOutB Try.prog = true := by kernel_rfl

theorem dec_opf : Dec Try.prog 200 opfV (fun _ => True) (fun _ => 1) := by
  refine Dec.of (Dec.struct Try.underlying200 (DecFs.cons rfl (next := 1) (by kernel_rfl) (Dec.int Try.underlying3) (DecFs.cons rfl (next := 2) (by kernel_rfl) (Dec.int Try.underlying3) (DecFs.cons rfl (next := 3) (by kernel_rfl) (Dec.bool Try.underlying4) (DecFs.cons rfl (next := 4) (by kernel_rfl) (Dec.bool Try.underlying4) DecFs.nil))))) (fun x => ⟨x.1, x.2.1, x.2.2.1, x.2.2.2.1⟩) (fun x _ => ⟨rfl, trivial, by first | omega | (simp only; omega)⟩)
theorem dec_opfs : Dec Try.prog 107 (fun l : List OpF => V.slice (l.map opfV)) (fun _ => True) (fun l => l.length) :=
  Dec.of (Dec.slice Try.underlying107 (of_decide_eq_true (by kernel_rfl)) dec_opf) id (fun x _ => ⟨rfl, trivial, by have := len_sum (fun x : OpF => 1) (fun x => by omega) x; simp only [id]; omega⟩)
open Go.ChangeShapes Go.WideShapes Go.ChangeAt Go.RowKit in
theorem focusRound_lifted (os : Os) (started : os.Started) (H : Type) (enc : TypeId × Value → H) (F : Stop.Interp) :
    ReturnsInHanded {} Try.checked os 13 .any ((Rows.OpenSpec.upto Rows.focusRoundSpec).pre6 enc Try.prog Try.f13 Rows.focusRoundUptoRow.domain false) (((Rows.OpenSpec.upto Rows.focusRoundSpec).at F).post enc Try.prog Try.f13 false true false false) := by
  refine returnsInHanded_of_cond (C := Try.checked) (s := Rows.OpenSpec.upto Rows.focusRoundSpec) (k := Rows.uptoSmall) rfl own_none started (by kernel_rfl) Try.func13
    (OpenSpec.witness (enc := enc) (C := Try.checked) (s := Rows.OpenSpec.upto Rows.focusRoundSpec) (k := Rows.uptoSmall) rfl false ⟨#[], #[.slice none 0 0, .int .i64 0], []⟩ 8 (by kernel_rfl) (by kernel_rfl) (by kernel_rfl)
      (x := ([.nil, .lit (.int .i64 0)], [], [])) (by kernel_rfl) rfl (by kernel_rfl)) ?_
  intro W base args ds gs before hval0 hW _ hk _
  have hval : ∀ (j : Nat) t v, Try.f13.params[j]? = some t → args[j]? = some v → Value.okWide Try.prog W .any base t v := hval0
  obtain ⟨p0_, q0_, hA, _⟩ := id hW
  have hA0 : DataW.TrodAll enc Try.prog W 0 (fun _ => true) true Try.f13.params.toList args.toList ds p0_ := hA
  rw [Try.params13] at hA0 hval
  obtain ⟨v0, v1, d0, d1, p0, p1, rfl, rfl, rfl, h0, h1⟩ := trodAll_two hA0
  obtain ⟨l, hp_l, hz_l, hv_l⟩ := dec_opfs.value h0 (fun _ => okAgg_leaf (by simp) (ok_slice Try.underlying107 (hval 0 107 v0 rfl rfl)))
  obtain ⟨at_, hp_at_, hz_at_, hv_at_⟩ := (Dec.int Try.underlying3).value h1 (fun _ => okAgg_leaf (by simp) (ok_int Try.underlying3 (hval 1 3 v1 rfl rfl)))
  have hb : Rows.uptoBulkAll ([d0, d1] ++ gs) ≤ 1048576 := of_decide_eq_true hk
  rw [← bulkAll_eq] at hb
  simp only [List.cons_append, bulkAll] at hb
  exact row_contract (P := Try.prog) (s := Rows.focusRoundSpec) (vs := [.slice (l.map opfV), .int .i64 at_]) laid_out (by kernel_rfl) rfl Try.call13 rfl Try.underlying4 hW ⟨rfl, rfl, rfl⟩ ⟨hv_l, hv_at_, trivial⟩ (focusRound [] l at_)
theorem focusRound_upto : Rows.FocusRoundUptoSaid :=
  OpenClaim.holds_of_cond 13 Try.f13 rfl rfl rfl rfl rfl rfl rfl ⟨rfl, rfl, rfl, rfl, rfl⟩ rfl rfl rfl rfl rfl (by kernel_rfl) Try.func13 (by kernel_rfl)
    (of_decide_eq_true (by kernel_rfl)) (by unfold Func.isWrapper; first | (rw [if_neg (by decide +kernel)]; exact ⟨rfl, rfl⟩) | (rw [if_pos (by decide +kernel)]; kernel_rfl))
    (fun os started H enc _ F => focusRound_lifted os started H enc F)
end Go.Proofs.Ytjplgbalpnlanaa

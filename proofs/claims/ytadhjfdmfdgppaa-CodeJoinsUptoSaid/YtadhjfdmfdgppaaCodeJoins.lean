/- CodeJoins, where what it reads is of bulk at most 1048576: the law returns true and the arguments read as they did. -/
import Derived.Test.YtadhjfdmfdgppaaCode1
import Derived.Test.YtadhjfdmfdgppaaRows
import Derived.ProofKit
import Derived.JoinedCond
set_option linter.unusedSimpArgs false
set_option linter.unusedVariables false
set_option maxRecDepth 100000
set_option maxHeartbeats 1000000
namespace Go.Proofs.Ytadhjfdmfdgppaa
open Go Go.EL
mutual
theorem bulk_eq {H : Type} : ∀ d : DataW H, bulk d = Rows.uptoBulk d
  | .lit l => by cases l <;> simp [bulk, Rows.uptoBulk]
  | .nil => by simp [bulk, Rows.uptoBulk]
  | .ptr d => by simp only [bulk, Rows.uptoBulk, bulk_eq d]
  | .slice a b => by simp only [bulk, Rows.uptoBulk, bulkAll_eq a, bulkAll_eq b]
  | .agg ps => by simp only [bulk, Rows.uptoBulk, bulkAll_eq ps]
  | .iface t d => by simp only [bulk, Rows.uptoBulk, bulk_eq d]
  | .map es => by simp only [bulk, Rows.uptoBulk, bulkEntries_eq es]
  | .held _ => by simp [bulk, Rows.uptoBulk]
theorem bulkAll_eq {H : Type} : ∀ l : List (DataW H), bulkAll l = Rows.uptoBulkAll l
  | [] => by simp [bulkAll, Rows.uptoBulkAll]
  | d :: r => by simp only [bulkAll, Rows.uptoBulkAll, bulk_eq d, bulkAll_eq r]
theorem bulkEntries_eq {H : Type} : ∀ l : List (Lit × DataW H), bulkEntries l = Rows.uptoBulkEntries l
  | [] => by simp [bulkEntries, Rows.uptoBulkEntries]
  | d :: r => by simp only [bulkEntries, Rows.uptoBulkEntries, bulkEntry_eq d, bulkEntries_eq r]
theorem bulkEntry_eq {H : Type} : ∀ x : Lit × DataW H, bulkEntry x = Rows.uptoBulkEntry x
  | (k, d) => by cases k <;> simp [bulkEntry, Rows.uptoBulkEntry, bulk_eq d]
end
theorem le_sum {α : Type} (g : α → Nat) : ∀ {l : List α} {x : α}, x ∈ l → g x ≤ (l.map g).sum
  | y :: l, x, h => by
    simp only [List.map_cons, List.sum_cons]
    rcases List.mem_cons.1 h with rfl | h
    · omega
    · have := le_sum g h; omega
theorem len_sum {α : Type} (g : α → Nat) (hg : ∀ x, 1 ≤ g x) : ∀ (l : List α), l.length ≤ (l.map g).sum
  | [] => by simp
  | y :: l => by
    have := len_sum g hg l
    have := hg y
    simp only [List.map_cons, List.sum_cons, List.length_cons]
    omega
theorem own_none : ownKnob Try.prog.godebug = none := by kernel_rfl
theorem laid_out : laidOutB Try.prog = true := by kernel_rfl

theorem bad_app (a b : List Cmd) (h : (putC a).2 ≠ 0 ∨ (putC b).2 ≠ 0 ∨ a.length + b.length > 256) : (putC (a ++ b)).2 ≠ 0 ∧ (putC (a ++ b)).1 = [] := by
  by_cases hl : (a ++ b).length > 256
  · simp only [putC, if_pos hl]; decide
  · have hl' : a.length + b.length ≤ 256 := by simpa using hl
    have key : ∃ c ∈ a ++ b, checkC c ≠ 0 := by
      refine Classical.byContradiction fun hn => ?_
      have hn : ∀ c ∈ a ++ b, checkC c = 0 := fun c hc => Classical.byContradiction fun h0 => hn ⟨c, hc, h0⟩
      have h1 := putC_good (l := a) (by omega) (fun c hc => hn c (by simp [hc]))
      have h2 := putC_good (l := b) (by omega) (fun c hc => hn c (by simp [hc]))
      rw [h1, h2] at h
      simp only at h
      omega
    unfold putC
    rw [if_neg hl]
    cases hf : (a ++ b).find? (fun c => checkC c != 0) with
    | none =>
      obtain ⟨c, hc, h0⟩ := key
      have := List.find?_eq_none.1 hf c hc
      simp [h0] at this
    | some c =>
      have := List.find?_some hf
      exact ⟨by simpa using this, rfl⟩
theorem zero_all {l : List Cmd} (h : (putC l).2 = 0) : ∀ c ∈ l, checkC c = 0 := by
  intro c hc
  unfold putC at h
  split at h
  · simp at h
  · split at h
    · rename_i x hx
      have := List.find?_some hx
      simp only at h
      simp [h] at this
    · rename_i hx
      have := List.find?_eq_none.1 hx c hc
      simpa using this
theorem zero_len {l : List Cmd} (h : (putC l).2 = 0) : l.length ≤ 256 := by
  unfold putC at h
  split at h
  · simp at h
  · omega
theorem codeJoins (H : List Ob) (a b : List Cmd) (ha : a.length + b.length ≤ 1048576) : SCall Try.prog 7 [.slice (a.map cmdV), .slice (b.map cmdV)] H (fun r H' => r = .bool true) := by
  refine SCall.of_good fun hH => ?_
  have hHk := HLt.add hH
  refine SCall.of_code Tok Try.func7 rfl Try.call7 (n := 65) rfl (by simp) (rs := [.tmp 4]) rfl ?_
  refine EW.of_c Tok mixed (own := false) keep7 tab7 (by kernel_rfl) ?_
  (repeat (first | simp -dsimp only [st_cmd, sz_cmd, RB, TB, keep7, tab7, ewOp, xop, xindexAddr, xindex, xslice, xconvert, xlen, drawStep, FreeW, SameW, ChangeW, limBytes, Nat.reduceAdd, Nat.reduceEqDiff, Nat.reduceLT, Nat.reduceLeDiff, Nat.reduceMul, Nat.reduceSub, Int.reduceBEq, Int.reduceBNe, Int.reduceToNat, Int.reduceLT, Int.reduceLE, Int.reduceGT, Int.reduceGE, Int.reduceAdd, Int.reduceSub, Int.reduceNeg, Int.reduceEq, Int.toNat_zero, Int.toNat_one, reduceIte, reduceCtorEq, ne_eq, decide_true, decide_false] | ((with_reducible refine Need.intro ?_ ?_); (first | trivial | omega))))
  refine SCall.mono (alive27 _) ?_
  rintro r_ H_ ⟨rfl, rfl⟩
  (repeat (first | simp -dsimp only [st_cmd, sz_cmd, RB, TB, keep7, tab7, ewOp, xop, xindexAddr, xindex, xslice, xconvert, xlen, drawStep, FreeW, SameW, ChangeW, limBytes, Nat.reduceAdd, Nat.reduceEqDiff, Nat.reduceLT, Nat.reduceLeDiff, Nat.reduceMul, Nat.reduceSub, Int.reduceBEq, Int.reduceBNe, Int.reduceToNat, Int.reduceLT, Int.reduceLE, Int.reduceGT, Int.reduceGE, Int.reduceAdd, Int.reduceSub, Int.reduceNeg, Int.reduceEq, Int.toNat_zero, Int.toNat_one, reduceIte, reduceCtorEq, ne_eq, decide_true, decide_false] | ((with_reducible refine Need.intro ?_ ?_); (first | trivial | omega))))
  refine SCall.mono (put _ a) ?_
  rintro r_ H_ ⟨rfl, rfl⟩
  (repeat (first | simp -dsimp only [st_cmd, sz_cmd, RB, TB, keep7, tab7, ewOp, xop, xindexAddr, xindex, xslice, xconvert, xlen, drawStep, FreeW, SameW, ChangeW, limBytes, Nat.reduceAdd, Nat.reduceEqDiff, Nat.reduceLT, Nat.reduceLeDiff, Nat.reduceMul, Nat.reduceSub, Int.reduceBEq, Int.reduceBNe, Int.reduceToNat, Int.reduceLT, Int.reduceLE, Int.reduceGT, Int.reduceGE, Int.reduceAdd, Int.reduceSub, Int.reduceNeg, Int.reduceEq, Int.toNat_zero, Int.toNat_one, reduceIte, reduceCtorEq, ne_eq, decide_true, decide_false] | ((with_reducible refine Need.intro ?_ ?_); (first | trivial | omega))))
  refine SCall.mono (put _ b) ?_
  rintro r_ H_ ⟨rfl, rfl⟩
  (repeat (first | simp -dsimp only [st_cmd, sz_cmd, RB, TB, keep7, tab7, ewOp, xop, xindexAddr, xindex, xslice, xconvert, xlen, drawStep, FreeW, SameW, ChangeW, limBytes, Nat.reduceAdd, Nat.reduceEqDiff, Nat.reduceLT, Nat.reduceLeDiff, Nat.reduceMul, Nat.reduceSub, Int.reduceBEq, Int.reduceBNe, Int.reduceToNat, Int.reduceLT, Int.reduceLE, Int.reduceGT, Int.reduceGE, Int.reduceAdd, Int.reduceSub, Int.reduceNeg, Int.reduceEq, Int.toNat_zero, Int.toNat_one, reduceIte, reduceCtorEq, ne_eq, decide_true, decide_false] | ((with_reducible refine Need.intro ?_ ?_); (first | trivial | omega))))
  refine SCall.freeze 0 (l := (a ++ b).map cmdV) (by rfl) ?_ ?_ ?_
  · apply Exists.intro; (try simp only [RB, List.map_append, List.map_cons, List.map_nil, limBytes, Nat.reduceAdd, Nat.reduceEqDiff, Nat.reduceLT, Nat.reduceLeDiff, Nat.reduceMul, Nat.reduceSub, Int.reduceBEq, Int.reduceBNe, Int.reduceToNat, Int.reduceLT, Int.reduceLE, Int.reduceGT, Int.reduceGE, Int.reduceAdd, Int.reduceSub, Int.reduceNeg, Int.reduceEq, Int.toNat_zero, Int.toNat_one, reduceIte, reduceCtorEq, ne_eq, decide_true, decide_false]); first | rfl | (simp; done) | (simp; rfl)
  · first | rfl | (simp; done) | (simp; omega)
  (try simp only [RB, limBytes, Nat.reduceAdd, Nat.reduceEqDiff, Nat.reduceLT, Nat.reduceLeDiff, Nat.reduceMul, Nat.reduceSub, Int.reduceBEq, Int.reduceBNe, Int.reduceToNat, Int.reduceLT, Int.reduceLE, Int.reduceGT, Int.reduceGE, Int.reduceAdd, Int.reduceSub, Int.reduceNeg, Int.reduceEq, Int.toNat_zero, Int.toNat_one, reduceIte, reduceCtorEq, ne_eq, decide_true, decide_false])
  refine SCall.mono (put _ (a ++ b)) ?_
  rintro r_ H_ ⟨rfl, rfl⟩
  (repeat (first | simp -dsimp only [st_cmd, sz_cmd, RB, TB, keep7, tab7, ewOp, xop, xindexAddr, xindex, xslice, xconvert, xlen, drawStep, FreeW, SameW, ChangeW, limBytes, Nat.reduceAdd, Nat.reduceEqDiff, Nat.reduceLT, Nat.reduceLeDiff, Nat.reduceMul, Nat.reduceSub, Int.reduceBEq, Int.reduceBNe, Int.reduceToNat, Int.reduceLT, Int.reduceLE, Int.reduceGT, Int.reduceGE, Int.reduceAdd, Int.reduceSub, Int.reduceNeg, Int.reduceEq, Int.toNat_zero, Int.toNat_one, reduceIte, reduceCtorEq, ne_eq, decide_true, decide_false] | ((with_reducible refine Need.intro ?_ ?_); (first | trivial | omega))))
  have hw : IntKind.i64.wrap ((a.length : Int) + b.length) = (a.length : Int) + b.length := wrapI (by omega)
  by_cases hbad : (putC a).2 ≠ 0 ∨ (putC b).2 ≠ 0 ∨ a.length + b.length > 256
  · obtain ⟨h1, h2⟩ := bad_app a b hbad
    have h1' : ((putC (a ++ b)).2 == 0) = false := by simpa using h1
    repeat' (first | simp -dsimp only [st_cmd, sz_cmd, *, RB, TB, keep7, tab7, ewOp, xop, xindexAddr, xindex, xslice, xconvert, xlen, drawStep, FreeW, SameW, ChangeW, limBytes, Nat.reduceAdd, Nat.reduceEqDiff, Nat.reduceLT, Nat.reduceLeDiff, Nat.reduceMul, Nat.reduceSub, Int.reduceBEq, Int.reduceBNe, Int.reduceToNat, Int.reduceLT, Int.reduceLE, Int.reduceGT, Int.reduceGE, Int.reduceAdd, Int.reduceSub, Int.reduceNeg, Int.reduceEq, Int.toNat_zero, Int.toNat_one, reduceIte, reduceCtorEq, ne_eq, decide_true, decide_false] | ((with_reducible refine Need.intro ?_ ?_); (first | trivial | omega)) | (with_reducible refine IfW.intro (fun h_ => ?_) (fun h_ => ?_)) | ((with_reducible refine RetW.auto0 false _ (by first | rfl | exact (List.append_nil _).symm) (by (simp [LTB, upd, eset, *, lt_vi, lt_str, lt_vb, lt_cmd, lt1_cmd] <;> omega)) ?_); (try simp only [wk, wk1, wk0, RB, limBytes, Nat.reduceAdd, Nat.reduceEqDiff, Nat.reduceLT, Nat.reduceLeDiff, Nat.reduceMul, Nat.reduceSub, Int.reduceBEq, Int.reduceBNe, Int.reduceToNat, Int.reduceLT, Int.reduceLE, Int.reduceGT, Int.reduceGE, Int.reduceAdd, Int.reduceSub, Int.reduceNeg, Int.reduceEq, Int.toNat_zero, Int.toNat_one, reduceIte, reduceCtorEq, ne_eq, decide_true, decide_false]); (try (rw [List.take_of_length_le]; rotate_left 1; (· first | (simp; done) | (simp; omega) | omega))); (try (simp_all <;> omega)); done))
  · have ha0 : (putC a).2 = 0 := Classical.byContradiction fun h => hbad (.inl h)
    have hb0 : (putC b).2 = 0 := Classical.byContradiction fun h => hbad (.inr (.inl h))
    have hl : a.length + b.length ≤ 256 := Nat.le_of_not_lt fun h => hbad (.inr (.inr h))
    have za := zero_all ha0
    have zb := zero_all hb0
    have ea := putC_good (l := a) (by omega) za
    have eb := putC_good (l := b) (by omega) zb
    have eab := putC_good (l := a ++ b) (by simpa using hl) (fun c hc => (List.mem_append.1 hc).elim (za c) (zb c))
    have fa := flat_len za
    have fb := flat_len zb
    rw [List.flatMap_append] at eab
    rw [ea, eb, eab]
    have fl : (a.flatMap octetsC ++ b.flatMap octetsC).length ≤ 9223372036854775807 := by rw [List.length_append]; omega
    have fl1 : (a.flatMap octetsC).length ≤ 9223372036854775807 := by omega
    have fl2 : (b.flatMap octetsC).length ≤ 9223372036854775807 := by omega
    repeat' (first | simp -dsimp only [st_cmd, sz_cmd, *, RB, TB, keep7, tab7, ewOp, xop, xindexAddr, xindex, xslice, xconvert, xlen, drawStep, FreeW, SameW, ChangeW, limBytes, Nat.reduceAdd, Nat.reduceEqDiff, Nat.reduceLT, Nat.reduceLeDiff, Nat.reduceMul, Nat.reduceSub, Int.reduceBEq, Int.reduceBNe, Int.reduceToNat, Int.reduceLT, Int.reduceLE, Int.reduceGT, Int.reduceGE, Int.reduceAdd, Int.reduceSub, Int.reduceNeg, Int.reduceEq, Int.toNat_zero, Int.toNat_one, reduceIte, reduceCtorEq, ne_eq, decide_true, decide_false] | ((with_reducible refine Need.intro ?_ ?_); (first | trivial | omega)) | (with_reducible refine IfW.intro (fun h_ => ?_) (fun h_ => ?_)) | ((with_reducible refine RetW.auto0 false _ (by first | rfl | exact (List.append_nil _).symm) (by (simp [LTB, upd, eset, *, lt_vi, lt_str, lt_vb, lt_cmd, lt1_cmd] <;> omega)) ?_); (try simp only [wk, wk1, wk0, RB, limBytes, Nat.reduceAdd, Nat.reduceEqDiff, Nat.reduceLT, Nat.reduceLeDiff, Nat.reduceMul, Nat.reduceSub, Int.reduceBEq, Int.reduceBNe, Int.reduceToNat, Int.reduceLT, Int.reduceLE, Int.reduceGT, Int.reduceGE, Int.reduceAdd, Int.reduceSub, Int.reduceNeg, Int.reduceEq, Int.toNat_zero, Int.toNat_one, reduceIte, reduceCtorEq, ne_eq, decide_true, decide_false]); (try (rw [List.take_of_length_le]; rotate_left 1; (· first | (simp; done) | (simp; omega) | omega))); (try (simp_all <;> omega)); done))
theorem dec_cmds : Dec Try.prog 37 (fun l : List Cmd => V.slice (l.map cmdV)) (fun _ => True) (fun l => l.length) := by
  have h2 : Dec Try.prog 58 cmdV (fun _ => True) (fun _ => 1) := by
    refine Dec.of (Dec.struct Try.underlying58 (DecFs.cons rfl (next := 1) (by kernel_rfl) (Dec.int Try.underlying3) (DecFs.cons rfl (next := 2) (by kernel_rfl) (Dec.int Try.underlying3) (DecFs.cons rfl (next := 3) (by kernel_rfl) (Dec.int Try.underlying3)
      (DecFs.cons rfl (next := 4) (by kernel_rfl) (Dec.int Try.underlying3) (DecFs.cons rfl (next := 5) (by kernel_rfl) (Dec.str Try.underlying9) DecFs.nil)))))) (fun x => ⟨x.1, x.2.1, x.2.2.1, x.2.2.2.1, x.2.2.2.2.1⟩) (fun x _ => ⟨rfl, trivial, by omega⟩)
  exact Dec.of (Dec.slice Try.underlying37 (of_decide_eq_true (by kernel_rfl)) h2) id (fun x _ => ⟨rfl, trivial, by have := len_sum (fun _ : Cmd => 1) (fun _ => Nat.le_refl _) x; simp only [id]; omega⟩)
open Go.ChangeShapes Go.WideShapes Go.ChangeAt Go.RowKit in
theorem codeJoins_lifted (os : Os) (started : os.Started) (H : Type) (enc : TypeId × Value → H) (F : Stop.Interp) :
    ReturnsInHanded {} Try.checked os 7 .any ((Rows.OpenSpec.upto Rows.codeJoinsSpec).pre6 enc Try.prog Try.f7 Rows.codeJoinsUptoRow.domain false) (((Rows.OpenSpec.upto Rows.codeJoinsSpec).at F).post enc Try.prog Try.f7 false true false false) := by
  refine returnsInHanded_of_cond (C := Try.checked) (s := Rows.OpenSpec.upto Rows.codeJoinsSpec) (k := Rows.uptoSmall) rfl own_none started (by kernel_rfl) Try.func7
    (OpenSpec.witness (enc := enc) (C := Try.checked) (s := Rows.OpenSpec.upto Rows.codeJoinsSpec) (k := Rows.uptoSmall) rfl false ⟨#[], #[.slice none 0 0, .slice none 0 0], []⟩ 8 (by kernel_rfl) (by kernel_rfl) (by kernel_rfl)
      (x := ([.nil, .nil], [], [])) (by kernel_rfl) rfl (by kernel_rfl)) ?_
  intro W base args ds gs before hval0 hW _ hk _
  have hval : ∀ (j : Nat) t v, Try.f7.params[j]? = some t → args[j]? = some v → Value.okWide Try.prog W .any base t v := hval0
  obtain ⟨p0_, q0_, hA, _⟩ := id hW
  have hA0 : DataW.TrodAll enc Try.prog W 0 (fun _ => true) true Try.f7.params.toList args.toList ds p0_ := hA
  rw [Try.params7] at hA0 hval
  obtain ⟨v0, v1, d0, d1, p0, p1, rfl, rfl, rfl, h0, h1⟩ := trodAll_two hA0
  obtain ⟨a, hp_a, hz_a, hv_a⟩ := dec_cmds.value h0 (fun _ => okAgg_leaf (by simp) (ok_slice Try.underlying37 (hval 0 37 v0 rfl rfl)))
  obtain ⟨b, hp_b, hz_b, hv_b⟩ := dec_cmds.value h1 (fun _ => okAgg_leaf (by simp) (ok_slice Try.underlying37 (hval 1 37 v1 rfl rfl)))
  have hb : Rows.uptoBulkAll ([d0, d1] ++ gs) ≤ 1048576 := of_decide_eq_true hk
  rw [← bulkAll_eq] at hb
  simp only [List.cons_append, bulkAll] at hb
  exact row_contract (P := Try.prog) (s := Rows.codeJoinsSpec) (vs := [.slice (a.map cmdV), .slice (b.map cmdV)]) laid_out (by kernel_rfl) rfl Try.call7 rfl Try.underlying4 hW ⟨rfl, rfl, rfl⟩ ⟨hv_a, hv_b, trivial⟩ (codeJoins [] a b (by omega))
theorem codeJoins_upto : Rows.CodeJoinsUptoSaid :=
  OpenClaim.holds_of_cond 7 Try.f7 rfl rfl rfl rfl rfl rfl rfl ⟨rfl, rfl, rfl, rfl, rfl⟩ rfl rfl rfl rfl rfl (by kernel_rfl) Try.func7 (by kernel_rfl)
    (of_decide_eq_true (by kernel_rfl)) (by unfold Func.isWrapper; first | (rw [if_neg (by decide +kernel)]; exact ⟨rfl, rfl⟩) | (rw [if_pos (by decide +kernel)]; kernel_rfl))
    (fun os started H enc _ F => codeJoins_lifted os started H enc F)
end Go.Proofs.Ytadhjfdmfdgppaa

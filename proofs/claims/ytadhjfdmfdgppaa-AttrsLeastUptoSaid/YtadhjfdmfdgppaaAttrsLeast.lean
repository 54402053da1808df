/- AttrsLeast, where what it reads is of bulk at most 1048576: the law returns true and the arguments read as they did. -/
import Derived.Test.YtadhjfdmfdgppaaAttrsLaw
import Derived.Test.YtadhjfdmfdgppaaRows
import Derived.ProofKit
import Derived.JoinedCond
set_option linter.unusedSimpArgs false
set_option linter.unusedVariables false
set_option maxRecDepth 100000
set_option maxHeartbeats 1000000
namespace Go.Proofs.Ytadhjfdmfdgppaa
open Go Go.EL

mutual
theorem bulk_eq {H : Type} : ∀ d : DataW H, bulk d = Rows.uptoBulk d
  | .lit l => by cases l <;> simp [bulk, Rows.uptoBulk]
  | .nil => by simp [bulk, Rows.uptoBulk]
  | .ptr d => by simp only [bulk, Rows.uptoBulk, bulk_eq d]
  | .slice a b => by simp only [bulk, Rows.uptoBulk, bulkAll_eq a, bulkAll_eq b]
  | .agg ps => by simp only [bulk, Rows.uptoBulk, bulkAll_eq ps]
  | .iface t d => by simp only [bulk, Rows.uptoBulk, bulk_eq d]
  | .map es => by simp only [bulk, Rows.uptoBulk, bulkEntries_eq es]
  | .held _ => by simp [bulk, Rows.uptoBulk]
theorem bulkAll_eq {H : Type} : ∀ l : List (DataW H), bulkAll l = Rows.uptoBulkAll l
  | [] => by simp [bulkAll, Rows.uptoBulkAll]
  | d :: r => by simp only [bulkAll, Rows.uptoBulkAll, bulk_eq d, bulkAll_eq r]
theorem bulkEntries_eq {H : Type} : ∀ l : List (Lit × DataW H), bulkEntries l = Rows.uptoBulkEntries l
  | [] => by simp [bulkEntries, Rows.uptoBulkEntries]
  | d :: r => by simp only [bulkEntries, Rows.uptoBulkEntries, bulkEntry_eq d, bulkEntries_eq r]
theorem bulkEntry_eq {H : Type} : ∀ x : Lit × DataW H, bulkEntry x = Rows.uptoBulkEntry x
  | (k, d) => by cases k <;> simp [bulkEntry, Rows.uptoBulkEntry, bulk_eq d]
end
theorem le_sum {α : Type} (g : α → Nat) : ∀ {l : List α} {x : α}, x ∈ l → g x ≤ (l.map g).sum
  | y :: l, x, h => by
    simp only [List.map_cons, List.sum_cons]
    rcases List.mem_cons.1 h with rfl | h
    · omega
    · have := le_sum g h; omega
theorem len_sum {α : Type} (g : α → Nat) (hg : ∀ x, 1 ≤ g x) : ∀ (l : List α), l.length ≤ (l.map g).sum
  | [] => by simp
  | y :: l => by
    have := len_sum g hg l
    have := hg y
    simp only [List.map_cons, List.sum_cons, List.length_cons]
    omega
theorem own_none : ownKnob Try.prog.godebug = none := by kernel_rfl
theorem laid_out : laidOutB Try.prog = true := by kernel_rfl

theorem dec_run : Dec Try.prog 129 runV (fun _ => True) (fun _ => 1) := by
  refine Dec.of (Dec.struct Try.underlying129 (DecFs.cons rfl (next := 1) (by kernel_rfl) (Dec.int Try.underlying3) (DecFs.cons rfl (next := 2) (by kernel_rfl) (Dec.int Try.underlying3) DecFs.nil))) (fun x => (x.1, x.2.1)) (fun x _ => ⟨rfl, trivial, by first | omega | (simp only; omega)⟩)
theorem dec_runs : Dec Try.prog 65 (fun l : List (Int × Int) => V.slice (l.map runV)) (fun _ => True) (fun l => l.length) :=
  Dec.of (Dec.slice Try.underlying65 (of_decide_eq_true (by kernel_rfl)) dec_run) id (fun x _ => ⟨rfl, trivial, by have := len_sum (fun x : Int × Int => 1) (fun x => by omega) x; simp only [id]; omega⟩)
def szS (s : Str) : Nat := s.text.length + s.runs.length + 1
theorem dec_str : Dec Try.prog 67 strV (fun _ => True) szS := by
  refine Dec.of (Dec.struct Try.underlying67 (DecFs.cons rfl (next := 1) (by kernel_rfl) (Dec.str Try.underlying9) (DecFs.cons rfl (next := 2) (by kernel_rfl) dec_runs DecFs.nil))) (fun x => ⟨x.1, x.2.1⟩) (fun x _ => ⟨rfl, trivial, by simp only [szS]; omega⟩)
theorem okS_sz {s : Str} (h : szS s ≤ 1048576) : okS s := by unfold szS at h; exact ⟨by omega, by omega⟩
def szA (a : Attr) : Nat := szS a.name + szS a.value + 1
theorem dec_attr : Dec Try.prog 69 attrV (fun _ => True) szA := by
  refine Dec.of (Dec.struct Try.underlying69 (DecFs.cons rfl (next := 2) (by kernel_rfl) dec_str (DecFs.cons rfl (next := 4) (by kernel_rfl) dec_str DecFs.nil))) (fun x => ⟨x.1, x.2.1⟩) (fun x _ => ⟨rfl, trivial, by simp only [szA]; omega⟩)
theorem okA_sz {a : Attr} (h : szA a ≤ 1048576) : okA a := by unfold szA at h; exact ⟨okS_sz (by omega), okS_sz (by omega)⟩
def szAs (l : List Attr) : Nat := (l.map szA).sum + 1
theorem dec_attrs : Dec Try.prog 61 (fun l : List Attr => V.slice (l.map attrV)) (fun _ => True) szAs :=
  Dec.of (Dec.slice Try.underlying61 (of_decide_eq_true (by kernel_rfl)) dec_attr) id (fun x _ => ⟨rfl, trivial, by simp only [id, szAs]; omega⟩)
theorem okA_szs {l : List Attr} (h : szAs l ≤ 1048576) : (∀ a ∈ l, okA a) ∧ l.length ≤ 1048576 := by
  unfold szAs at h
  refine ⟨fun a ha => okA_sz (by have := le_sum szA ha; omega), ?_⟩
  have := len_sum szA (fun x => by simp [szA]) l
  omega

/-- what has to be put -/
theorem put_facts {a b : List Attr} {x : Attr} (hx : x ∈ (changesA a b).1) : ∃ k : Nat, ∃ hk : k < b.length, placeA b x.name.text = k ∧ x = ownA b[k] ∧
    (placeA a x.name.text < 0 ∨ ∃ n : Nat, ∃ hn : n < a.length, placeA a x.name.text = n ∧ ¬ (fixS a[n].name = fixS b[k].name ∧ fixS a[n].value = fixS b[k].value)) := by
  unfold changesA at hx
  obtain ⟨h1, h2⟩ := List.mem_filter.1 hx
  obtain ⟨y, h3, h4⟩ := once_first h1
  rcases place_find b x.name.text with ⟨_, hf⟩ | ⟨k, hk, hp, hf, _⟩
  · rw [hf] at h3; cases h3
  rw [hf] at h3
  injection h3 with h3
  subst h3
  refine ⟨k, hk, hp, h4, ?_⟩
  rcases place_find a x.name.text with ⟨hn, _⟩ | ⟨n, hn, hpa, hfa, _⟩
  · exact .inl hn
  · right
    refine ⟨n, hn, hpa, fun ⟨e1, e2⟩ => ?_⟩
    have hfo := find_once x.name.text a []
    rw [hfa] at hfo
    simp only [List.find?_nil, Option.none_or, Option.map_some] at hfo
    simp only [needP, hfo] at h2
    have : alikeA (ownA a[n]) x = true := by
      rw [h4]
      unfold alikeA
      simp [like_iff, ownA, fix_fix, e1, e2]
    rw [this] at h2
    cases h2
theorem drop_facts {a b : List Attr} {s : List UInt8} (hs : s ∈ (changesA a b).2) : ¬ placeA a s < 0 ∧ placeA b s < 0 := by
  unfold changesA at hs
  obtain ⟨x, hx, rfl⟩ := List.mem_map.1 hs
  obtain ⟨h1, h2⟩ := List.mem_filter.1 hx
  obtain ⟨y, h3, _⟩ := once_first h1
  refine ⟨fun h => ?_, (place_once _ _).1 (of_decide_eq_true h2)⟩
  rcases place_find a x.name.text with ⟨_, hf⟩ | ⟨n, hn, hpa, _⟩
  · rw [hf] at h3; cases h3
  · omega
theorem attrsLeast (H : List Ob) (a b : List Attr) (ha : ∀ x ∈ a, okA x) (hb : ∀ x ∈ b, okA x) (hsa : a.length ≤ 1048576) (hsb : b.length ≤ 1048576) : SCall Try.prog 13 [.slice (a.map attrV), .slice (b.map attrV)] H (fun r H' => r = .bool true) := by
  refine SCall.of_good fun hH => ?_
  have hHk := HLt.add hH
  refine SCall.of_code Tok Try.func13 rfl Try.call13 (n := 109) rfl (by simp) (rs := [.tmp 4]) rfl ?_
  refine EWn.to ?_
  refine EWn.of_c Tok mixed (own := false) keep13 tab13 (by kernel_rfl) ?_
  (repeat (first | simp -dsimp only [st_run, sz_run, st1_run, cl_run, st_Str, sz_Str, st1_Str, cl_Str, st_c, sz_c, st1_c, cl_c, st_attr, sz_attr, st1_attr, cl_attr, RB, TB, keep13, tab13, ewOp, xop, xindexAddr, xindex, xslice, xconvert, xlen, drawStep, FreeW, SameW, ChangeW, limBytes, Nat.reduceBEq, Nat.reduceAdd, Nat.reduceEqDiff, Nat.reduceLT, Nat.reduceLeDiff, Nat.reduceMul, Nat.reduceSub, Int.reduceBEq, Int.reduceBNe, Int.reduceToNat, Int.reduceLT, Int.reduceLE, Int.reduceGT, Int.reduceGE, Int.reduceAdd, Int.reduceSub, Int.reduceNeg, Int.reduceEq, Int.toNat_zero, Int.toNat_one, reduceIte, reduceCtorEq, ne_eq, decide_true, decide_false] | ((with_reducible refine Need.intro ?_ ?_); (first | trivial | omega | (simp; done) | (simp; omega)))))
  (first | refine SCall.then (alive10 _) ?_ | refine SCall.thenA (alive10 _) (by repeat (first | exact trivial | exact .inl rfl | exact .inr ⟨_, rfl, rfl⟩ | refine ⟨?_, ?_⟩)) ?_ | refine CallE.intro _ (alive10 _) ?_ | refine CallE.introA (alive10 _) (by repeat (first | exact trivial | exact .inl rfl | exact .inr ⟨_, rfl, rfl⟩ | refine ⟨?_, ?_⟩)) ?_ | refine CallE.intro _ (fun _ => alive10 _) ?_ | refine CallE.intro _ (fun _ => SCall.arg (by repeat (first | exact trivial | exact .inl rfl | exact .inr ⟨_, rfl, rfl⟩ | refine ⟨?_, ?_⟩)) (alive10 _)) ?_ | refine CallE2.intro _ _ (alive10 _) ?_ | refine CallE2.intro _ _ (SCall.arg (by repeat (first | exact trivial | exact .inl rfl | exact .inr ⟨_, rfl, rfl⟩ | refine ⟨?_, ?_⟩)) (alive10 _)) ?_)
  (repeat (first | simp -dsimp only [st_run, sz_run, st1_run, cl_run, st_Str, sz_Str, st1_Str, cl_Str, st_c, sz_c, st1_c, cl_c, st_attr, sz_attr, st1_attr, cl_attr, RB, TB, keep13, tab13, ewOp, xop, xindexAddr, xindex, xslice, xconvert, xlen, drawStep, FreeW, SameW, ChangeW, limBytes, Nat.reduceBEq, Nat.reduceAdd, Nat.reduceEqDiff, Nat.reduceLT, Nat.reduceLeDiff, Nat.reduceMul, Nat.reduceSub, Int.reduceBEq, Int.reduceBNe, Int.reduceToNat, Int.reduceLT, Int.reduceLE, Int.reduceGT, Int.reduceGE, Int.reduceAdd, Int.reduceSub, Int.reduceNeg, Int.reduceEq, Int.toNat_zero, Int.toNat_one, reduceIte, reduceCtorEq, ne_eq, decide_true, decide_false] | ((with_reducible refine Need.intro ?_ ?_); (first | trivial | omega | (simp; done) | (simp; omega)))))
  (first | refine SCall.then (aChanges _ a b ha hb (by omega) (by omega)) ?_ | refine SCall.thenA (aChanges _ a b ha hb (by omega) (by omega)) (by repeat (first | exact trivial | exact .inl rfl | exact .inr ⟨_, rfl, rfl⟩ | refine ⟨?_, ?_⟩)) ?_ | refine CallE.intro _ (aChanges _ a b ha hb (by omega) (by omega)) ?_ | refine CallE.introA (aChanges _ a b ha hb (by omega) (by omega)) (by repeat (first | exact trivial | exact .inl rfl | exact .inr ⟨_, rfl, rfl⟩ | refine ⟨?_, ?_⟩)) ?_ | refine CallE.intro _ (fun _ => aChanges _ a b ha hb (by omega) (by omega)) ?_ | refine CallE.intro _ (fun _ => SCall.arg (by repeat (first | exact trivial | exact .inl rfl | exact .inr ⟨_, rfl, rfl⟩ | refine ⟨?_, ?_⟩)) (aChanges _ a b ha hb (by omega) (by omega))) ?_ | refine CallE2.intro _ _ (aChanges _ a b ha hb (by omega) (by omega)) ?_ | refine CallE2.intro _ _ (SCall.arg (by repeat (first | exact trivial | exact .inl rfl | exact .inr ⟨_, rfl, rfl⟩ | refine ⟨?_, ?_⟩)) (aChanges _ a b ha hb (by omega) (by omega))) ?_)
  (repeat (first | simp -dsimp only [st_run, sz_run, st1_run, cl_run, st_Str, sz_Str, st1_Str, cl_Str, st_c, sz_c, st1_c, cl_c, st_attr, sz_attr, st1_attr, cl_attr, RB, TB, keep13, tab13, ewOp, xop, xindexAddr, xindex, xslice, xconvert, xlen, drawStep, FreeW, SameW, ChangeW, limBytes, Nat.reduceBEq, Nat.reduceAdd, Nat.reduceEqDiff, Nat.reduceLT, Nat.reduceLeDiff, Nat.reduceMul, Nat.reduceSub, Int.reduceBEq, Int.reduceBNe, Int.reduceToNat, Int.reduceLT, Int.reduceLE, Int.reduceGT, Int.reduceGE, Int.reduceAdd, Int.reduceSub, Int.reduceNeg, Int.reduceEq, Int.toNat_zero, Int.toNat_one, reduceIte, reduceCtorEq, ne_eq, decide_true, decide_false] | ((with_reducible refine Need.intro ?_ ?_); (first | trivial | omega | (simp; done) | (simp; omega)))))
  have hput : ∀ x ∈ (changesA a b).1, _ := fun x hx => put_facts hx
  have hdrop : ∀ s ∈ (changesA a b).2, _ := fun s hs => drop_facts hs
  have hpl : (changesA a b).1.length ≤ 1048576 := by
    refine Nat.le_trans (List.length_filter_le _ _) ?_
    have := onceA_len b []; simp at this; omega
  have hdl : (changesA a b).2.length ≤ 1048576 := by
    unfold changesA; simp only [List.length_map]
    refine Nat.le_trans (List.length_filter_le _ _) ?_
    have := onceA_len a []; simp at this; omega
  generalize (changesA a b).1 = PU at *
  generalize (changesA a b).2 = DR at *
  refine EWn.loopE (ι := (Nat)) (fun (i : (Nat)) => i ≤ PU.length) (fun (i : (Nat)) => PU.length - i) (fun (i : (Nat)) => [(7, .int .i64 i)]) (fun (i : (Nat)) => H) (0) ?_ ?_ ?_ ?_ ?_
  · first | rfl | simp [upd, eset]
  · first | rfl | (simp; done) | exact (set_same (by assumption)).symm
  · rintro i hok; exact ⟨by first | (simp; done) | (simp; omega), by (simp (maxDischargeDepth := 6) [LTB, HLt_set, ltL_take, ltL_drop, ltL_rep, ltL_set, upd, eset, hH, hHk, lt_vi, lt_str, lt_vb, ltc_str, ltc_vi, lt_run, lt1_run, ltc_run, lt_Str, lt1_Str, ltc_Str, lt_c, lt1_c, ltc_c, lt_attr, lt1_attr, ltc_attr] <;> omega), by (simp (maxDischargeDepth := 6) [LTB, HLt_set, ltL_take, ltL_drop, ltL_rep, ltL_set, upd, eset, hH, hHk, lt_vi, lt_str, lt_vb, ltc_str, ltc_vi, lt_run, lt1_run, ltc_run, lt_Str, lt1_Str, ltc_Str, lt_c, lt1_c, ltc_c, lt_attr, lt1_attr, ltc_attr] <;> omega)⟩
  · omega
  rintro i hi
  refine EWn.of_c Tok mixed (own := false) keep13 tab13 (by kernel_rfl) ?_
  (repeat (first | simp -dsimp only [st_run, sz_run, st1_run, cl_run, st_Str, sz_Str, st1_Str, cl_Str, st_c, sz_c, st1_c, cl_c, st_attr, sz_attr, st1_attr, cl_attr, RB, TB, keep13, tab13, ewOp, xop, xindexAddr, xindex, xslice, xconvert, xlen, drawStep, FreeW, SameW, ChangeW, limBytes, Nat.reduceBEq, Nat.reduceAdd, Nat.reduceEqDiff, Nat.reduceLT, Nat.reduceLeDiff, Nat.reduceMul, Nat.reduceSub, Int.reduceBEq, Int.reduceBNe, Int.reduceToNat, Int.reduceLT, Int.reduceLE, Int.reduceGT, Int.reduceGE, Int.reduceAdd, Int.reduceSub, Int.reduceNeg, Int.reduceEq, Int.toNat_zero, Int.toNat_one, reduceIte, reduceCtorEq, ne_eq, decide_true, decide_false] | ((with_reducible refine Need.intro ?_ ?_); (first | trivial | omega | (simp; done) | (simp; omega)))))
  refine IfW.intro (fun h => ?_) (fun h => ?_)
  · have hlt := lt_of h
    obtain ⟨k, hk, hpk, hxk, hn⟩ := hput PU[i] (List.getElem_mem hlt)
    have hval : fixS PU[i].value = fixS b[k].value := by rw [hxk]; simp [ownA, fix_fix]
    have hok : okA PU[i] := by rw [hxk]; exact okA_own (hb _ (List.getElem_mem hk))
    (repeat (first | simp -dsimp only [st_run, sz_run, st1_run, cl_run, st_Str, sz_Str, st1_Str, cl_Str, st_c, sz_c, st1_c, cl_c, st_attr, sz_attr, st1_attr, cl_attr, h, at_map attrV PU i hlt, attrV, RB, TB, keep13, tab13, ewOp, xop, xindexAddr, xindex, xslice, xconvert, xlen, drawStep, FreeW, SameW, ChangeW, limBytes, Nat.reduceBEq, Nat.reduceAdd, Nat.reduceEqDiff, Nat.reduceLT, Nat.reduceLeDiff, Nat.reduceMul, Nat.reduceSub, Int.reduceBEq, Int.reduceBNe, Int.reduceToNat, Int.reduceLT, Int.reduceLE, Int.reduceGT, Int.reduceGE, Int.reduceAdd, Int.reduceSub, Int.reduceNeg, Int.reduceEq, Int.toNat_zero, Int.toNat_one, reduceIte, reduceCtorEq, ne_eq, decide_true, decide_false] | ((with_reducible refine Need.intro ?_ ?_); (first | trivial | omega | (simp; done) | (simp; omega)))))
    (first | refine SCall.then (place10 _ b PU[i].name.text) ?_ | refine SCall.thenA (place10 _ b PU[i].name.text) (by repeat (first | exact trivial | exact .inl rfl | exact .inr ⟨_, rfl, rfl⟩ | refine ⟨?_, ?_⟩)) ?_ | refine CallE.intro _ (place10 _ b PU[i].name.text) ?_ | refine CallE.introA (place10 _ b PU[i].name.text) (by repeat (first | exact trivial | exact .inl rfl | exact .inr ⟨_, rfl, rfl⟩ | refine ⟨?_, ?_⟩)) ?_ | refine CallE.intro _ (fun _ => place10 _ b PU[i].name.text) ?_ | refine CallE.intro _ (fun _ => SCall.arg (by repeat (first | exact trivial | exact .inl rfl | exact .inr ⟨_, rfl, rfl⟩ | refine ⟨?_, ?_⟩)) (place10 _ b PU[i].name.text)) ?_ | refine CallE2.intro _ _ (place10 _ b PU[i].name.text) ?_ | refine CallE2.intro _ _ (SCall.arg (by repeat (first | exact trivial | exact .inl rfl | exact .inr ⟨_, rfl, rfl⟩ | refine ⟨?_, ?_⟩)) (place10 _ b PU[i].name.text)) ?_)
    (repeat (first | simp -dsimp only [st_run, sz_run, st1_run, cl_run, st_Str, sz_Str, st1_Str, cl_Str, st_c, sz_c, st1_c, cl_c, st_attr, sz_attr, st1_attr, cl_attr, hpk, at_map attrV PU i hlt, attrV, RB, TB, keep13, tab13, ewOp, xop, xindexAddr, xindex, xslice, xconvert, xlen, drawStep, FreeW, SameW, ChangeW, limBytes, Nat.reduceBEq, Nat.reduceAdd, Nat.reduceEqDiff, Nat.reduceLT, Nat.reduceLeDiff, Nat.reduceMul, Nat.reduceSub, Int.reduceBEq, Int.reduceBNe, Int.reduceToNat, Int.reduceLT, Int.reduceLE, Int.reduceGT, Int.reduceGE, Int.reduceAdd, Int.reduceSub, Int.reduceNeg, Int.reduceEq, Int.toNat_zero, Int.toNat_one, reduceIte, reduceCtorEq, ne_eq, decide_true, decide_false] | ((with_reducible refine Need.intro ?_ ?_); (first | trivial | omega | (simp; done) | (simp; omega)))))
    (first | refine SCall.then (place10 _ a PU[i].name.text) ?_ | refine SCall.thenA (place10 _ a PU[i].name.text) (by repeat (first | exact trivial | exact .inl rfl | exact .inr ⟨_, rfl, rfl⟩ | refine ⟨?_, ?_⟩)) ?_ | refine CallE.intro _ (place10 _ a PU[i].name.text) ?_ | refine CallE.introA (place10 _ a PU[i].name.text) (by repeat (first | exact trivial | exact .inl rfl | exact .inr ⟨_, rfl, rfl⟩ | refine ⟨?_, ?_⟩)) ?_ | refine CallE.intro _ (fun _ => place10 _ a PU[i].name.text) ?_ | refine CallE.intro _ (fun _ => SCall.arg (by repeat (first | exact trivial | exact .inl rfl | exact .inr ⟨_, rfl, rfl⟩ | refine ⟨?_, ?_⟩)) (place10 _ a PU[i].name.text)) ?_ | refine CallE2.intro _ _ (place10 _ a PU[i].name.text) ?_ | refine CallE2.intro _ _ (SCall.arg (by repeat (first | exact trivial | exact .inl rfl | exact .inr ⟨_, rfl, rfl⟩ | refine ⟨?_, ?_⟩)) (place10 _ a PU[i].name.text)) ?_)
    (repeat (first | simp -dsimp only [st_run, sz_run, st1_run, cl_run, st_Str, sz_Str, st1_Str, cl_Str, st_c, sz_c, st1_c, cl_c, st_attr, sz_attr, st1_attr, cl_attr, RB, TB, keep13, tab13, ewOp, xop, xindexAddr, xindex, xslice, xconvert, xlen, drawStep, FreeW, SameW, ChangeW, limBytes, Nat.reduceBEq, Nat.reduceAdd, Nat.reduceEqDiff, Nat.reduceLT, Nat.reduceLeDiff, Nat.reduceMul, Nat.reduceSub, Int.reduceBEq, Int.reduceBNe, Int.reduceToNat, Int.reduceLT, Int.reduceLE, Int.reduceGT, Int.reduceGE, Int.reduceAdd, Int.reduceSub, Int.reduceNeg, Int.reduceEq, Int.toNat_zero, Int.toNat_one, reduceIte, reduceCtorEq, ne_eq, decide_true, decide_false] | ((with_reducible refine Need.intro ?_ ?_); (first | trivial | omega | (simp; done) | (simp; omega)))))
    (repeat (first | simp -dsimp only [st_run, sz_run, st1_run, cl_run, st_Str, sz_Str, st1_Str, cl_Str, st_c, sz_c, st1_c, cl_c, st_attr, sz_attr, st1_attr, cl_attr, show decide ((k : Int) < 0) = false from by simp, at_map attrV b k hk, at_map attrV PU i hlt, attrV, RB, TB, keep13, tab13, ewOp, xop, xindexAddr, xindex, xslice, xconvert, xlen, drawStep, FreeW, SameW, ChangeW, limBytes, Nat.reduceBEq, Nat.reduceAdd, Nat.reduceEqDiff, Nat.reduceLT, Nat.reduceLeDiff, Nat.reduceMul, Nat.reduceSub, Int.reduceBEq, Int.reduceBNe, Int.reduceToNat, Int.reduceLT, Int.reduceLE, Int.reduceGT, Int.reduceGE, Int.reduceAdd, Int.reduceSub, Int.reduceNeg, Int.reduceEq, Int.toNat_zero, Int.toNat_one, reduceIte, reduceCtorEq, ne_eq, decide_true, decide_false] | ((with_reducible refine Need.intro ?_ ?_); (first | trivial | omega | (simp; done) | (simp; omega)))))
    (first | refine SCall.then (pStr _ b[k].value PU[i].value (hb _ (List.getElem_mem hk)).2 hok.2) ?_ | refine SCall.thenA (pStr _ b[k].value PU[i].value (hb _ (List.getElem_mem hk)).2 hok.2) (by repeat (first | exact trivial | exact .inl rfl | exact .inr ⟨_, rfl, rfl⟩ | refine ⟨?_, ?_⟩)) ?_ | refine CallE.intro _ (pStr _ b[k].value PU[i].value (hb _ (List.getElem_mem hk)).2 hok.2) ?_ | refine CallE.introA (pStr _ b[k].value PU[i].value (hb _ (List.getElem_mem hk)).2 hok.2) (by repeat (first | exact trivial | exact .inl rfl | exact .inr ⟨_, rfl, rfl⟩ | refine ⟨?_, ?_⟩)) ?_ | refine CallE.intro _ (fun _ => pStr _ b[k].value PU[i].value (hb _ (List.getElem_mem hk)).2 hok.2) ?_ | refine CallE.intro _ (fun _ => SCall.arg (by repeat (first | exact trivial | exact .inl rfl | exact .inr ⟨_, rfl, rfl⟩ | refine ⟨?_, ?_⟩)) (pStr _ b[k].value PU[i].value (hb _ (List.getElem_mem hk)).2 hok.2)) ?_ | refine CallE2.intro _ _ (pStr _ b[k].value PU[i].value (hb _ (List.getElem_mem hk)).2 hok.2) ?_ | refine CallE2.intro _ _ (SCall.arg (by repeat (first | exact trivial | exact .inl rfl | exact .inr ⟨_, rfl, rfl⟩ | refine ⟨?_, ?_⟩)) (pStr _ b[k].value PU[i].value (hb _ (List.getElem_mem hk)).2 hok.2)) ?_)
    (repeat (first | simp -dsimp only [st_run, sz_run, st1_run, cl_run, st_Str, sz_Str, st1_Str, cl_Str, st_c, sz_c, st1_c, cl_c, st_attr, sz_attr, st1_attr, cl_attr, hval, show decide (fixS b[k].value = fixS b[k].value) = true from decide_eq_true rfl, RB, TB, keep13, tab13, ewOp, xop, xindexAddr, xindex, xslice, xconvert, xlen, drawStep, FreeW, SameW, ChangeW, limBytes, Nat.reduceBEq, Nat.reduceAdd, Nat.reduceEqDiff, Nat.reduceLT, Nat.reduceLeDiff, Nat.reduceMul, Nat.reduceSub, Int.reduceBEq, Int.reduceBNe, Int.reduceToNat, Int.reduceLT, Int.reduceLE, Int.reduceGT, Int.reduceGE, Int.reduceAdd, Int.reduceSub, Int.reduceNeg, Int.reduceEq, Int.toNat_zero, Int.toNat_one, reduceIte, reduceCtorEq, ne_eq, decide_true, decide_false] | ((with_reducible refine Need.intro ?_ ?_); (first | trivial | omega | (simp; done) | (simp; omega)))))
    rcases hn with hn | ⟨n, hn, hpn, hne⟩
    · (repeat (first | simp -dsimp only [st_run, sz_run, st1_run, cl_run, st_Str, sz_Str, st1_Str, cl_Str, st_c, sz_c, st1_c, cl_c, st_attr, sz_attr, st1_attr, cl_attr, show decide (placeA a PU[i].name.text ≥ 0) = false from decide_eq_false (by omega), RB, TB, keep13, tab13, ewOp, xop, xindexAddr, xindex, xslice, xconvert, xlen, drawStep, FreeW, SameW, ChangeW, limBytes, Nat.reduceBEq, Nat.reduceAdd, Nat.reduceEqDiff, Nat.reduceLT, Nat.reduceLeDiff, Nat.reduceMul, Nat.reduceSub, Int.reduceBEq, Int.reduceBNe, Int.reduceToNat, Int.reduceLT, Int.reduceLE, Int.reduceGT, Int.reduceGE, Int.reduceAdd, Int.reduceSub, Int.reduceNeg, Int.reduceEq, Int.toNat_zero, Int.toNat_one, reduceIte, reduceCtorEq, ne_eq, decide_true, decide_false] | ((with_reducible refine Need.intro ?_ ?_); (first | trivial | omega | (simp; done) | (simp; omega)))))
      rw [wrapI (by omega)]
      refine UpTo.here ⟨(i + 1), ?_, by first | omega | (simp only [List.length_append, List.length_cons, List.length_nil]; omega), by simp [upd, eset], ⟨_, by simp; try rfl⟩⟩
      exact hlt
    · rw [hpn]
      (repeat (first | simp -dsimp only [st_run, sz_run, st1_run, cl_run, st_Str, sz_Str, st1_Str, cl_Str, st_c, sz_c, st1_c, cl_c, st_attr, sz_attr, st1_attr, cl_attr, show decide ((n : Int) ≥ 0) = true from by simp, at_map attrV a n hn, at_map attrV b k hk, attrV, RB, TB, keep13, tab13, ewOp, xop, xindexAddr, xindex, xslice, xconvert, xlen, drawStep, FreeW, SameW, ChangeW, limBytes, Nat.reduceBEq, Nat.reduceAdd, Nat.reduceEqDiff, Nat.reduceLT, Nat.reduceLeDiff, Nat.reduceMul, Nat.reduceSub, Int.reduceBEq, Int.reduceBNe, Int.reduceToNat, Int.reduceLT, Int.reduceLE, Int.reduceGT, Int.reduceGE, Int.reduceAdd, Int.reduceSub, Int.reduceNeg, Int.reduceEq, Int.toNat_zero, Int.toNat_one, reduceIte, reduceCtorEq, ne_eq, decide_true, decide_false] | ((with_reducible refine Need.intro ?_ ?_); (first | trivial | omega | (simp; done) | (simp; omega)))))
      (first | refine SCall.then (pStr _ a[n].name b[k].name (ha _ (List.getElem_mem hn)).1 (hb _ (List.getElem_mem hk)).1) ?_ | refine SCall.thenA (pStr _ a[n].name b[k].name (ha _ (List.getElem_mem hn)).1 (hb _ (List.getElem_mem hk)).1) (by repeat (first | exact trivial | exact .inl rfl | exact .inr ⟨_, rfl, rfl⟩ | refine ⟨?_, ?_⟩)) ?_ | refine CallE.intro _ (pStr _ a[n].name b[k].name (ha _ (List.getElem_mem hn)).1 (hb _ (List.getElem_mem hk)).1) ?_ | refine CallE.introA (pStr _ a[n].name b[k].name (ha _ (List.getElem_mem hn)).1 (hb _ (List.getElem_mem hk)).1) (by repeat (first | exact trivial | exact .inl rfl | exact .inr ⟨_, rfl, rfl⟩ | refine ⟨?_, ?_⟩)) ?_ | refine CallE.intro _ (fun _ => pStr _ a[n].name b[k].name (ha _ (List.getElem_mem hn)).1 (hb _ (List.getElem_mem hk)).1) ?_ | refine CallE.intro _ (fun _ => SCall.arg (by repeat (first | exact trivial | exact .inl rfl | exact .inr ⟨_, rfl, rfl⟩ | refine ⟨?_, ?_⟩)) (pStr _ a[n].name b[k].name (ha _ (List.getElem_mem hn)).1 (hb _ (List.getElem_mem hk)).1)) ?_ | refine CallE2.intro _ _ (pStr _ a[n].name b[k].name (ha _ (List.getElem_mem hn)).1 (hb _ (List.getElem_mem hk)).1) ?_ | refine CallE2.intro _ _ (SCall.arg (by repeat (first | exact trivial | exact .inl rfl | exact .inr ⟨_, rfl, rfl⟩ | refine ⟨?_, ?_⟩)) (pStr _ a[n].name b[k].name (ha _ (List.getElem_mem hn)).1 (hb _ (List.getElem_mem hk)).1)) ?_)
      (repeat (first | simp -dsimp only [st_run, sz_run, st1_run, cl_run, st_Str, sz_Str, st1_Str, cl_Str, st_c, sz_c, st1_c, cl_c, st_attr, sz_attr, st1_attr, cl_attr, RB, TB, keep13, tab13, ewOp, xop, xindexAddr, xindex, xslice, xconvert, xlen, drawStep, FreeW, SameW, ChangeW, limBytes, Nat.reduceBEq, Nat.reduceAdd, Nat.reduceEqDiff, Nat.reduceLT, Nat.reduceLeDiff, Nat.reduceMul, Nat.reduceSub, Int.reduceBEq, Int.reduceBNe, Int.reduceToNat, Int.reduceLT, Int.reduceLE, Int.reduceGT, Int.reduceGE, Int.reduceAdd, Int.reduceSub, Int.reduceNeg, Int.reduceEq, Int.toNat_zero, Int.toNat_one, reduceIte, reduceCtorEq, ne_eq, decide_true, decide_false] | ((with_reducible refine Need.intro ?_ ?_); (first | trivial | omega | (simp; done) | (simp; omega)))))
      refine IfW.intro (fun hc => ?_) (fun hc => ?_)
      · have hc1 := of_decide_eq_true hc
        (repeat (first | simp -dsimp only [st_run, sz_run, st1_run, cl_run, st_Str, sz_Str, st1_Str, cl_Str, st_c, sz_c, st1_c, cl_c, st_attr, sz_attr, st1_attr, cl_attr, hc, at_map attrV a n hn, at_map attrV b k hk, attrV, RB, TB, keep13, tab13, ewOp, xop, xindexAddr, xindex, xslice, xconvert, xlen, drawStep, FreeW, SameW, ChangeW, limBytes, Nat.reduceBEq, Nat.reduceAdd, Nat.reduceEqDiff, Nat.reduceLT, Nat.reduceLeDiff, Nat.reduceMul, Nat.reduceSub, Int.reduceBEq, Int.reduceBNe, Int.reduceToNat, Int.reduceLT, Int.reduceLE, Int.reduceGT, Int.reduceGE, Int.reduceAdd, Int.reduceSub, Int.reduceNeg, Int.reduceEq, Int.toNat_zero, Int.toNat_one, reduceIte, reduceCtorEq, ne_eq, decide_true, decide_false] | ((with_reducible refine Need.intro ?_ ?_); (first | trivial | omega | (simp; done) | (simp; omega)))))
        have hv : decide (fixS a[n].value = fixS b[k].value) = false := decide_eq_false fun e => hne ⟨hc1, e⟩
        (first | refine SCall.then (pStr _ a[n].value b[k].value (ha _ (List.getElem_mem hn)).2 (hb _ (List.getElem_mem hk)).2) ?_ | refine SCall.thenA (pStr _ a[n].value b[k].value (ha _ (List.getElem_mem hn)).2 (hb _ (List.getElem_mem hk)).2) (by repeat (first | exact trivial | exact .inl rfl | exact .inr ⟨_, rfl, rfl⟩ | refine ⟨?_, ?_⟩)) ?_ | refine CallE.intro _ (pStr _ a[n].value b[k].value (ha _ (List.getElem_mem hn)).2 (hb _ (List.getElem_mem hk)).2) ?_ | refine CallE.introA (pStr _ a[n].value b[k].value (ha _ (List.getElem_mem hn)).2 (hb _ (List.getElem_mem hk)).2) (by repeat (first | exact trivial | exact .inl rfl | exact .inr ⟨_, rfl, rfl⟩ | refine ⟨?_, ?_⟩)) ?_ | refine CallE.intro _ (fun _ => pStr _ a[n].value b[k].value (ha _ (List.getElem_mem hn)).2 (hb _ (List.getElem_mem hk)).2) ?_ | refine CallE.intro _ (fun _ => SCall.arg (by repeat (first | exact trivial | exact .inl rfl | exact .inr ⟨_, rfl, rfl⟩ | refine ⟨?_, ?_⟩)) (pStr _ a[n].value b[k].value (ha _ (List.getElem_mem hn)).2 (hb _ (List.getElem_mem hk)).2)) ?_ | refine CallE2.intro _ _ (pStr _ a[n].value b[k].value (ha _ (List.getElem_mem hn)).2 (hb _ (List.getElem_mem hk)).2) ?_ | refine CallE2.intro _ _ (SCall.arg (by repeat (first | exact trivial | exact .inl rfl | exact .inr ⟨_, rfl, rfl⟩ | refine ⟨?_, ?_⟩)) (pStr _ a[n].value b[k].value (ha _ (List.getElem_mem hn)).2 (hb _ (List.getElem_mem hk)).2)) ?_)
        (repeat (first | simp -dsimp only [st_run, sz_run, st1_run, cl_run, st_Str, sz_Str, st1_Str, cl_Str, st_c, sz_c, st1_c, cl_c, st_attr, sz_attr, st1_attr, cl_attr, hv, RB, TB, keep13, tab13, ewOp, xop, xindexAddr, xindex, xslice, xconvert, xlen, drawStep, FreeW, SameW, ChangeW, limBytes, Nat.reduceBEq, Nat.reduceAdd, Nat.reduceEqDiff, Nat.reduceLT, Nat.reduceLeDiff, Nat.reduceMul, Nat.reduceSub, Int.reduceBEq, Int.reduceBNe, Int.reduceToNat, Int.reduceLT, Int.reduceLE, Int.reduceGT, Int.reduceGE, Int.reduceAdd, Int.reduceSub, Int.reduceNeg, Int.reduceEq, Int.toNat_zero, Int.toNat_one, reduceIte, reduceCtorEq, ne_eq, decide_true, decide_false] | ((with_reducible refine Need.intro ?_ ?_); (first | trivial | omega | (simp; done) | (simp; omega)))))
        rw [wrapI (by omega)]
        refine UpTo.here ⟨(i + 1), ?_, by first | omega | (simp only [List.length_append, List.length_cons, List.length_nil]; omega), by simp [upd, eset], ⟨_, by simp; try rfl⟩⟩
        exact hlt
      · (repeat (first | simp -dsimp only [st_run, sz_run, st1_run, cl_run, st_Str, sz_Str, st1_Str, cl_Str, st_c, sz_c, st1_c, cl_c, st_attr, sz_attr, st1_attr, cl_attr, hc, RB, TB, keep13, tab13, ewOp, xop, xindexAddr, xindex, xslice, xconvert, xlen, drawStep, FreeW, SameW, ChangeW, limBytes, Nat.reduceBEq, Nat.reduceAdd, Nat.reduceEqDiff, Nat.reduceLT, Nat.reduceLeDiff, Nat.reduceMul, Nat.reduceSub, Int.reduceBEq, Int.reduceBNe, Int.reduceToNat, Int.reduceLT, Int.reduceLE, Int.reduceGT, Int.reduceGE, Int.reduceAdd, Int.reduceSub, Int.reduceNeg, Int.reduceEq, Int.toNat_zero, Int.toNat_one, reduceIte, reduceCtorEq, ne_eq, decide_true, decide_false] | ((with_reducible refine Need.intro ?_ ?_); (first | trivial | omega | (simp; done) | (simp; omega)))))
        rw [wrapI (by omega)]
        refine UpTo.here ⟨(i + 1), ?_, by first | omega | (simp only [List.length_append, List.length_cons, List.length_nil]; omega), by simp [upd, eset], ⟨_, by simp; try rfl⟩⟩
        exact hlt
  (repeat (first | simp -dsimp only [st_run, sz_run, st1_run, cl_run, st_Str, sz_Str, st1_Str, cl_Str, st_c, sz_c, st1_c, cl_c, st_attr, sz_attr, st1_attr, cl_attr, h, RB, TB, keep13, tab13, ewOp, xop, xindexAddr, xindex, xslice, xconvert, xlen, drawStep, FreeW, SameW, ChangeW, limBytes, Nat.reduceBEq, Nat.reduceAdd, Nat.reduceEqDiff, Nat.reduceLT, Nat.reduceLeDiff, Nat.reduceMul, Nat.reduceSub, Int.reduceBEq, Int.reduceBNe, Int.reduceToNat, Int.reduceLT, Int.reduceLE, Int.reduceGT, Int.reduceGE, Int.reduceAdd, Int.reduceSub, Int.reduceNeg, Int.reduceEq, Int.toNat_zero, Int.toNat_one, reduceIte, reduceCtorEq, ne_eq, decide_true, decide_false] | ((with_reducible refine Need.intro ?_ ?_); (first | trivial | omega | (simp; done) | (simp; omega)))))
  refine EWn.ghost (Gho.restr [0, 1, 6, 10]) ?_
  simp only [RB, limBytes, Nat.reduceBEq, Nat.reduceAdd, Nat.reduceEqDiff, Nat.reduceLT, Nat.reduceLeDiff, Nat.reduceMul, Nat.reduceSub, Int.reduceBEq, Int.reduceBNe, Int.reduceToNat, Int.reduceLT, Int.reduceLE, Int.reduceGT, Int.reduceGE, Int.reduceAdd, Int.reduceSub, Int.reduceNeg, Int.reduceEq, Int.toNat_zero, Int.toNat_one, reduceIte, reduceCtorEq, ne_eq, decide_true, decide_false]
  refine EWn.loopE (ι := (Nat)) (fun (i : (Nat)) => i ≤ DR.length) (fun (i : (Nat)) => DR.length - i) (fun (i : (Nat)) => [(10, .int .i64 i)]) (fun (i : (Nat)) => H) (0) ?_ ?_ ?_ ?_ ?_
  · first | rfl | simp [upd, eset]
  · first | rfl | (simp; done) | exact (set_same (by assumption)).symm
  · rintro i hok; exact ⟨by first | (simp; done) | (simp; omega), by (simp (maxDischargeDepth := 6) [LTB, HLt_set, ltL_take, ltL_drop, ltL_rep, ltL_set, upd, eset, hH, hHk, lt_vi, lt_str, lt_vb, ltc_str, ltc_vi, lt_run, lt1_run, ltc_run, lt_Str, lt1_Str, ltc_Str, lt_c, lt1_c, ltc_c, lt_attr, lt1_attr, ltc_attr] <;> omega), by (simp (maxDischargeDepth := 6) [LTB, HLt_set, ltL_take, ltL_drop, ltL_rep, ltL_set, upd, eset, hH, hHk, lt_vi, lt_str, lt_vb, ltc_str, ltc_vi, lt_run, lt1_run, ltc_run, lt_Str, lt1_Str, ltc_Str, lt_c, lt1_c, ltc_c, lt_attr, lt1_attr, ltc_attr] <;> omega)⟩
  · omega
  rintro i hi
  refine EWn.of_c Tok mixed (own := false) keep13 tab13 (by kernel_rfl) ?_
  (repeat (first | simp -dsimp only [st_run, sz_run, st1_run, cl_run, st_Str, sz_Str, st1_Str, cl_Str, st_c, sz_c, st1_c, cl_c, st_attr, sz_attr, st1_attr, cl_attr, RB, TB, keep13, tab13, ewOp, xop, xindexAddr, xindex, xslice, xconvert, xlen, drawStep, FreeW, SameW, ChangeW, limBytes, Nat.reduceBEq, Nat.reduceAdd, Nat.reduceEqDiff, Nat.reduceLT, Nat.reduceLeDiff, Nat.reduceMul, Nat.reduceSub, Int.reduceBEq, Int.reduceBNe, Int.reduceToNat, Int.reduceLT, Int.reduceLE, Int.reduceGT, Int.reduceGE, Int.reduceAdd, Int.reduceSub, Int.reduceNeg, Int.reduceEq, Int.toNat_zero, Int.toNat_one, reduceIte, reduceCtorEq, ne_eq, decide_true, decide_false] | ((with_reducible refine Need.intro ?_ ?_); (first | trivial | omega | (simp; done) | (simp; omega)))))
  refine IfW.intro (fun h2 => ?_) (fun h2 => ?_)
  · have hlt := lt_of h2
    obtain ⟨h3, h4⟩ := hdrop DR[i] (List.getElem_mem hlt)
    (repeat (first | simp -dsimp only [st_run, sz_run, st1_run, cl_run, st_Str, sz_Str, st1_Str, cl_Str, st_c, sz_c, st1_c, cl_c, st_attr, sz_attr, st1_attr, cl_attr, h2, at_map V.str DR i hlt, RB, TB, keep13, tab13, ewOp, xop, xindexAddr, xindex, xslice, xconvert, xlen, drawStep, FreeW, SameW, ChangeW, limBytes, Nat.reduceBEq, Nat.reduceAdd, Nat.reduceEqDiff, Nat.reduceLT, Nat.reduceLeDiff, Nat.reduceMul, Nat.reduceSub, Int.reduceBEq, Int.reduceBNe, Int.reduceToNat, Int.reduceLT, Int.reduceLE, Int.reduceGT, Int.reduceGE, Int.reduceAdd, Int.reduceSub, Int.reduceNeg, Int.reduceEq, Int.toNat_zero, Int.toNat_one, reduceIte, reduceCtorEq, ne_eq, decide_true, decide_false] | ((with_reducible refine Need.intro ?_ ?_); (first | trivial | omega | (simp; done) | (simp; omega)))))
    (first | refine SCall.then (place10 _ a DR[i]) ?_ | refine SCall.thenA (place10 _ a DR[i]) (by repeat (first | exact trivial | exact .inl rfl | exact .inr ⟨_, rfl, rfl⟩ | refine ⟨?_, ?_⟩)) ?_ | refine CallE.intro _ (place10 _ a DR[i]) ?_ | refine CallE.introA (place10 _ a DR[i]) (by repeat (first | exact trivial | exact .inl rfl | exact .inr ⟨_, rfl, rfl⟩ | refine ⟨?_, ?_⟩)) ?_ | refine CallE.intro _ (fun _ => place10 _ a DR[i]) ?_ | refine CallE.intro _ (fun _ => SCall.arg (by repeat (first | exact trivial | exact .inl rfl | exact .inr ⟨_, rfl, rfl⟩ | refine ⟨?_, ?_⟩)) (place10 _ a DR[i])) ?_ | refine CallE2.intro _ _ (place10 _ a DR[i]) ?_ | refine CallE2.intro _ _ (SCall.arg (by repeat (first | exact trivial | exact .inl rfl | exact .inr ⟨_, rfl, rfl⟩ | refine ⟨?_, ?_⟩)) (place10 _ a DR[i])) ?_)
    (repeat (first | simp -dsimp only [st_run, sz_run, st1_run, cl_run, st_Str, sz_Str, st1_Str, cl_Str, st_c, sz_c, st1_c, cl_c, st_attr, sz_attr, st1_attr, cl_attr, show decide (placeA a DR[i] < 0) = false from decide_eq_false h3, at_map V.str DR i hlt, RB, TB, keep13, tab13, ewOp, xop, xindexAddr, xindex, xslice, xconvert, xlen, drawStep, FreeW, SameW, ChangeW, limBytes, Nat.reduceBEq, Nat.reduceAdd, Nat.reduceEqDiff, Nat.reduceLT, Nat.reduceLeDiff, Nat.reduceMul, Nat.reduceSub, Int.reduceBEq, Int.reduceBNe, Int.reduceToNat, Int.reduceLT, Int.reduceLE, Int.reduceGT, Int.reduceGE, Int.reduceAdd, Int.reduceSub, Int.reduceNeg, Int.reduceEq, Int.toNat_zero, Int.toNat_one, reduceIte, reduceCtorEq, ne_eq, decide_true, decide_false] | ((with_reducible refine Need.intro ?_ ?_); (first | trivial | omega | (simp; done) | (simp; omega)))))
    (first | refine SCall.then (place10 _ b DR[i]) ?_ | refine SCall.thenA (place10 _ b DR[i]) (by repeat (first | exact trivial | exact .inl rfl | exact .inr ⟨_, rfl, rfl⟩ | refine ⟨?_, ?_⟩)) ?_ | refine CallE.intro _ (place10 _ b DR[i]) ?_ | refine CallE.introA (place10 _ b DR[i]) (by repeat (first | exact trivial | exact .inl rfl | exact .inr ⟨_, rfl, rfl⟩ | refine ⟨?_, ?_⟩)) ?_ | refine CallE.intro _ (fun _ => place10 _ b DR[i]) ?_ | refine CallE.intro _ (fun _ => SCall.arg (by repeat (first | exact trivial | exact .inl rfl | exact .inr ⟨_, rfl, rfl⟩ | refine ⟨?_, ?_⟩)) (place10 _ b DR[i])) ?_ | refine CallE2.intro _ _ (place10 _ b DR[i]) ?_ | refine CallE2.intro _ _ (SCall.arg (by repeat (first | exact trivial | exact .inl rfl | exact .inr ⟨_, rfl, rfl⟩ | refine ⟨?_, ?_⟩)) (place10 _ b DR[i])) ?_)
    (repeat (first | simp -dsimp only [st_run, sz_run, st1_run, cl_run, st_Str, sz_Str, st1_Str, cl_Str, st_c, sz_c, st1_c, cl_c, st_attr, sz_attr, st1_attr, cl_attr, show decide (placeA b DR[i] ≥ 0) = false from decide_eq_false (by omega), RB, TB, keep13, tab13, ewOp, xop, xindexAddr, xindex, xslice, xconvert, xlen, drawStep, FreeW, SameW, ChangeW, limBytes, Nat.reduceBEq, Nat.reduceAdd, Nat.reduceEqDiff, Nat.reduceLT, Nat.reduceLeDiff, Nat.reduceMul, Nat.reduceSub, Int.reduceBEq, Int.reduceBNe, Int.reduceToNat, Int.reduceLT, Int.reduceLE, Int.reduceGT, Int.reduceGE, Int.reduceAdd, Int.reduceSub, Int.reduceNeg, Int.reduceEq, Int.toNat_zero, Int.toNat_one, reduceIte, reduceCtorEq, ne_eq, decide_true, decide_false] | ((with_reducible refine Need.intro ?_ ?_); (first | trivial | omega | (simp; done) | (simp; omega)))))
    rw [wrapI (by omega)]
    refine UpTo.here ⟨(i + 1), ?_, by first | omega | (simp only [List.length_append, List.length_cons, List.length_nil]; omega), by simp [upd, eset], ⟨_, by simp; try rfl⟩⟩
    exact hlt
  · (repeat (first | simp -dsimp only [st_run, sz_run, st1_run, cl_run, st_Str, sz_Str, st1_Str, cl_Str, st_c, sz_c, st1_c, cl_c, st_attr, sz_attr, st1_attr, cl_attr, h2, RB, TB, keep13, tab13, ewOp, xop, xindexAddr, xindex, xslice, xconvert, xlen, drawStep, FreeW, SameW, ChangeW, limBytes, Nat.reduceBEq, Nat.reduceAdd, Nat.reduceEqDiff, Nat.reduceLT, Nat.reduceLeDiff, Nat.reduceMul, Nat.reduceSub, Int.reduceBEq, Int.reduceBNe, Int.reduceToNat, Int.reduceLT, Int.reduceLE, Int.reduceGT, Int.reduceGE, Int.reduceAdd, Int.reduceSub, Int.reduceNeg, Int.reduceEq, Int.toNat_zero, Int.toNat_one, reduceIte, reduceCtorEq, ne_eq, decide_true, decide_false] | ((with_reducible refine Need.intro ?_ ?_); (first | trivial | omega | (simp; done) | (simp; omega)))))
    refine RetW.auto0 false _ (by first | rfl | exact (List.append_nil _).symm) ?_ ?_
    · (simp (maxDischargeDepth := 6) [LTB, HLt_set, ltL_take, ltL_drop, ltL_rep, ltL_set, upd, eset, hH, hHk, lt_vi, lt_str, lt_vb, ltc_str, ltc_vi, lt_run, lt1_run, ltc_run, lt_Str, lt1_Str, ltc_Str, lt_c, lt1_c, ltc_c, lt_attr, lt1_attr, ltc_attr] <;> omega)
    (try simp only [wk, wk1, wk0, RB, limBytes, Nat.reduceBEq, Nat.reduceAdd, Nat.reduceEqDiff, Nat.reduceLT, Nat.reduceLeDiff, Nat.reduceMul, Nat.reduceSub, Int.reduceBEq, Int.reduceBNe, Int.reduceToNat, Int.reduceLT, Int.reduceLE, Int.reduceGT, Int.reduceGE, Int.reduceAdd, Int.reduceSub, Int.reduceNeg, Int.reduceEq, Int.toNat_zero, Int.toNat_one, reduceIte, reduceCtorEq, ne_eq, decide_true, decide_false])
    (try (rw [List.take_of_length_le]; rotate_left 1; (· first | (simp; done) | (simp; omega) | omega)))
open Go.ChangeShapes Go.WideShapes Go.ChangeAt Go.RowKit in
theorem attrsLeast_lifted (os : Os) (started : os.Started) (H : Type) (enc : TypeId × Value → H) (F : Stop.Interp) :
    ReturnsInHanded {} Try.checked os 13 .any ((Rows.OpenSpec.upto Rows.attrsLeastSpec).pre6 enc Try.prog Try.f13 Rows.attrsLeastUptoRow.domain false) (((Rows.OpenSpec.upto Rows.attrsLeastSpec).at F).post enc Try.prog Try.f13 false true false false) := by
  refine returnsInHanded_of_cond (C := Try.checked) (s := Rows.OpenSpec.upto Rows.attrsLeastSpec) (k := Rows.uptoSmall) rfl own_none started (by kernel_rfl) Try.func13
    (OpenSpec.witness (enc := enc) (C := Try.checked) (s := Rows.OpenSpec.upto Rows.attrsLeastSpec) (k := Rows.uptoSmall) rfl false ⟨#[], #[.slice none 0 0, .slice none 0 0], []⟩ 8 (by kernel_rfl) (by kernel_rfl) (by kernel_rfl)
      (x := ([.nil, .nil], [], [])) (by kernel_rfl) rfl (by kernel_rfl)) ?_
  intro W base args ds gs before hval0 hW _ hk _
  have hval : ∀ (j : Nat) t v, Try.f13.params[j]? = some t → args[j]? = some v → Value.okWide Try.prog W .any base t v := hval0
  obtain ⟨p0_, q0_, hA, _⟩ := id hW
  have hA0 : DataW.TrodAll enc Try.prog W 0 (fun _ => true) true Try.f13.params.toList args.toList ds p0_ := hA
  rw [Try.params13] at hA0 hval
  obtain ⟨v0, v1, d0, d1, p0, p1, rfl, rfl, rfl, h0, h1⟩ := trodAll_two hA0
  obtain ⟨a, hp_a, hz_a, hv_a⟩ := dec_attrs.value h0 (fun _ => okAgg_leaf (by simp) (ok_slice Try.underlying61 (hval 0 61 v0 rfl rfl)))
  obtain ⟨b, hp_b, hz_b, hv_b⟩ := dec_attrs.value h1 (fun _ => okAgg_leaf (by simp) (ok_slice Try.underlying61 (hval 1 61 v1 rfl rfl)))
  have hb : Rows.uptoBulkAll ([d0, d1] ++ gs) ≤ 1048576 := of_decide_eq_true hk
  rw [← bulkAll_eq] at hb
  simp only [List.cons_append, bulkAll] at hb
  exact row_contract (P := Try.prog) (s := Rows.attrsLeastSpec) (vs := [.slice (a.map attrV), .slice (b.map attrV)]) laid_out (by kernel_rfl) rfl Try.call13 rfl Try.underlying4 hW ⟨rfl, rfl, rfl⟩ ⟨hv_a, hv_b, trivial⟩ (attrsLeast [] a b (okA_szs (by omega)).1 (okA_szs (by omega)).1 (okA_szs (by omega)).2 (okA_szs (by omega)).2)
theorem attrsLeast_upto : Rows.AttrsLeastUptoSaid :=
  OpenClaim.holds_of_cond 13 Try.f13 rfl rfl rfl rfl rfl rfl rfl ⟨rfl, rfl, rfl, rfl, rfl⟩ rfl rfl rfl rfl rfl (by kernel_rfl) Try.func13 (by kernel_rfl)
    (of_decide_eq_true (by kernel_rfl)) (by unfold Func.isWrapper; first | (rw [if_neg (by decide +kernel)]; exact ⟨rfl, rfl⟩) | (rw [if_pos (by decide +kernel)]; kernel_rfl))
    (fun os started H enc _ F => attrsLeast_lifted os started H enc F)
end Go.Proofs.Ytadhjfdmfdgppaa

/- Law 10's own functions, and what Once keeps. -/
import Derived.Test.YtadhjfdmfdgppabAttrs3
set_option linter.unusedSimpArgs false
set_option linter.unusedVariables false
set_option maxRecDepth 100000
namespace Go.Proofs.Ytadhjfdmfdgppab
open Go Go.EL
theorem alive_once : onceA [⟨⟨[97], [(1, 0)]⟩, ⟨[49], [(1, 0)]⟩⟩, ⟨⟨[97], [(1, 0)]⟩, ⟨[50], [(1, 0)]⟩⟩] [] = [⟨⟨[97], [(1, 0)]⟩, ⟨[49], [(1, 0)]⟩⟩] := by decide +kernel
theorem alive10 (H : List Ob) : SCall Try.prog 19 [] H (fun r H' => r = .bool true ∧ H' = H) := by
  refine SCall.of_good fun hH => ?_
  have hHk := HLt.add hH
  refine SCall.of_code Tok Try.func19 rfl Try.call19 (n := 25) rfl (by simp) (rs := [.tmp 0]) rfl ?_
  refine EWn.to ?_
  refine EWn.of_c Tok mixed (own := false) keep19 tab19 (by kernel_rfl) ?_
  (repeat (first | simp -dsimp only [st_run, sz_run, st1_run, cl_run, st_Str, sz_Str, st1_Str, cl_Str, st_c, sz_c, st1_c, cl_c, st_attr, sz_attr, st1_attr, cl_attr, RB, TB, keep19, tab19, ewOp, xop, xindexAddr, xindex, xslice, xconvert, xlen, drawStep, FreeW, SameW, ChangeW, limBytes, Nat.reduceBEq, Nat.reduceAdd, Nat.reduceEqDiff, Nat.reduceLT, Nat.reduceLeDiff, Nat.reduceMul, Nat.reduceSub, Int.reduceBEq, Int.reduceBNe, Int.reduceToNat, Int.reduceLT, Int.reduceLE, Int.reduceGT, Int.reduceGE, Int.reduceAdd, Int.reduceSub, Int.reduceNeg, Int.reduceEq, Int.toNat_zero, Int.toNat_one, reduceIte, reduceCtorEq, ne_eq, decide_true, decide_false] | ((with_reducible refine Need.intro ?_ ?_); (first | trivial | omega | (simp; done) | (simp; omega)))))
  (first | refine SCall.then (mOf _ [97] 0) ?_ | refine SCall.thenA (mOf _ [97] 0) (by repeat (first | exact trivial | exact .inl (.inl rfl) | exact .inl (.inr ⟨_, rfl, rfl⟩) | exact .inl rfl | exact .inr ⟨_, rfl, rfl⟩ | refine .inr ⟨_, _, rfl, rfl, ?_⟩ | refine ⟨?_, ?_⟩)) ?_ | refine CallE.intro _ (mOf _ [97] 0) ?_ | refine CallE.introA (mOf _ [97] 0) (by repeat (first | exact trivial | exact .inl (.inl rfl) | exact .inl (.inr ⟨_, rfl, rfl⟩) | exact .inl rfl | exact .inr ⟨_, rfl, rfl⟩ | refine .inr ⟨_, _, rfl, rfl, ?_⟩ | refine ⟨?_, ?_⟩)) ?_ | refine CallE.intro _ (fun _ => mOf _ [97] 0) ?_ | refine CallE.intro _ (fun _ => SCall.arg (by repeat (first | exact trivial | exact .inl (.inl rfl) | exact .inl (.inr ⟨_, rfl, rfl⟩) | exact .inl rfl | exact .inr ⟨_, rfl, rfl⟩ | refine .inr ⟨_, _, rfl, rfl, ?_⟩ | refine ⟨?_, ?_⟩)) (mOf _ [97] 0)) ?_ | refine CallE2.intro _ _ (mOf _ [97] 0) ?_ | refine CallE2.intro _ _ (SCall.arg (by repeat (first | exact trivial | exact .inl (.inl rfl) | exact .inl (.inr ⟨_, rfl, rfl⟩) | exact .inl rfl | exact .inr ⟨_, rfl, rfl⟩ | refine .inr ⟨_, _, rfl, rfl, ?_⟩ | refine ⟨?_, ?_⟩)) (mOf _ [97] 0)) ?_)
  (repeat (first | simp -dsimp only [st_run, sz_run, st1_run, cl_run, st_Str, sz_Str, st1_Str, cl_Str, st_c, sz_c, st1_c, cl_c, st_attr, sz_attr, st1_attr, cl_attr, strV, show rle (List.replicate (List.length [97]) (near 0)) = [(1, 0)] from by decide, RB, TB, keep19, tab19, ewOp, xop, xindexAddr, xindex, xslice, xconvert, xlen, drawStep, FreeW, SameW, ChangeW, limBytes, Nat.reduceBEq, Nat.reduceAdd, Nat.reduceEqDiff, Nat.reduceLT, Nat.reduceLeDiff, Nat.reduceMul, Nat.reduceSub, Int.reduceBEq, Int.reduceBNe, Int.reduceToNat, Int.reduceLT, Int.reduceLE, Int.reduceGT, Int.reduceGE, Int.reduceAdd, Int.reduceSub, Int.reduceNeg, Int.reduceEq, Int.toNat_zero, Int.toNat_one, reduceIte, reduceCtorEq, ne_eq, decide_true, decide_false] | ((with_reducible refine Need.intro ?_ ?_); (first | trivial | omega | (simp; done) | (simp; omega)))))
  (first | refine SCall.then (mOf _ [49] 0) ?_ | refine SCall.thenA (mOf _ [49] 0) (by repeat (first | exact trivial | exact .inl (.inl rfl) | exact .inl (.inr ⟨_, rfl, rfl⟩) | exact .inl rfl | exact .inr ⟨_, rfl, rfl⟩ | refine .inr ⟨_, _, rfl, rfl, ?_⟩ | refine ⟨?_, ?_⟩)) ?_ | refine CallE.intro _ (mOf _ [49] 0) ?_ | refine CallE.introA (mOf _ [49] 0) (by repeat (first | exact trivial | exact .inl (.inl rfl) | exact .inl (.inr ⟨_, rfl, rfl⟩) | exact .inl rfl | exact .inr ⟨_, rfl, rfl⟩ | refine .inr ⟨_, _, rfl, rfl, ?_⟩ | refine ⟨?_, ?_⟩)) ?_ | refine CallE.intro _ (fun _ => mOf _ [49] 0) ?_ | refine CallE.intro _ (fun _ => SCall.arg (by repeat (first | exact trivial | exact .inl (.inl rfl) | exact .inl (.inr ⟨_, rfl, rfl⟩) | exact .inl rfl | exact .inr ⟨_, rfl, rfl⟩ | refine .inr ⟨_, _, rfl, rfl, ?_⟩ | refine ⟨?_, ?_⟩)) (mOf _ [49] 0)) ?_ | refine CallE2.intro _ _ (mOf _ [49] 0) ?_ | refine CallE2.intro _ _ (SCall.arg (by repeat (first | exact trivial | exact .inl (.inl rfl) | exact .inl (.inr ⟨_, rfl, rfl⟩) | exact .inl rfl | exact .inr ⟨_, rfl, rfl⟩ | refine .inr ⟨_, _, rfl, rfl, ?_⟩ | refine ⟨?_, ?_⟩)) (mOf _ [49] 0)) ?_)
  (repeat (first | simp -dsimp only [st_run, sz_run, st1_run, cl_run, st_Str, sz_Str, st1_Str, cl_Str, st_c, sz_c, st1_c, cl_c, st_attr, sz_attr, st1_attr, cl_attr, strV, show rle (List.replicate (List.length [49]) (near 0)) = [(1, 0)] from by decide, RB, TB, keep19, tab19, ewOp, xop, xindexAddr, xindex, xslice, xconvert, xlen, drawStep, FreeW, SameW, ChangeW, limBytes, Nat.reduceBEq, Nat.reduceAdd, Nat.reduceEqDiff, Nat.reduceLT, Nat.reduceLeDiff, Nat.reduceMul, Nat.reduceSub, Int.reduceBEq, Int.reduceBNe, Int.reduceToNat, Int.reduceLT, Int.reduceLE, Int.reduceGT, Int.reduceGE, Int.reduceAdd, Int.reduceSub, Int.reduceNeg, Int.reduceEq, Int.toNat_zero, Int.toNat_one, reduceIte, reduceCtorEq, ne_eq, decide_true, decide_false] | ((with_reducible refine Need.intro ?_ ?_); (first | trivial | omega | (simp; done) | (simp; omega)))))
  (first | refine SCall.then (mOf _ [97] 0) ?_ | refine SCall.thenA (mOf _ [97] 0) (by repeat (first | exact trivial | exact .inl (.inl rfl) | exact .inl (.inr ⟨_, rfl, rfl⟩) | exact .inl rfl | exact .inr ⟨_, rfl, rfl⟩ | refine .inr ⟨_, _, rfl, rfl, ?_⟩ | refine ⟨?_, ?_⟩)) ?_ | refine CallE.intro _ (mOf _ [97] 0) ?_ | refine CallE.introA (mOf _ [97] 0) (by repeat (first | exact trivial | exact .inl (.inl rfl) | exact .inl (.inr ⟨_, rfl, rfl⟩) | exact .inl rfl | exact .inr ⟨_, rfl, rfl⟩ | refine .inr ⟨_, _, rfl, rfl, ?_⟩ | refine ⟨?_, ?_⟩)) ?_ | refine CallE.intro _ (fun _ => mOf _ [97] 0) ?_ | refine CallE.intro _ (fun _ => SCall.arg (by repeat (first | exact trivial | exact .inl (.inl rfl) | exact .inl (.inr ⟨_, rfl, rfl⟩) | exact .inl rfl | exact .inr ⟨_, rfl, rfl⟩ | refine .inr ⟨_, _, rfl, rfl, ?_⟩ | refine ⟨?_, ?_⟩)) (mOf _ [97] 0)) ?_ | refine CallE2.intro _ _ (mOf _ [97] 0) ?_ | refine CallE2.intro _ _ (SCall.arg (by repeat (first | exact trivial | exact .inl (.inl rfl) | exact .inl (.inr ⟨_, rfl, rfl⟩) | exact .inl rfl | exact .inr ⟨_, rfl, rfl⟩ | refine .inr ⟨_, _, rfl, rfl, ?_⟩ | refine ⟨?_, ?_⟩)) (mOf _ [97] 0)) ?_)
  (repeat (first | simp -dsimp only [st_run, sz_run, st1_run, cl_run, st_Str, sz_Str, st1_Str, cl_Str, st_c, sz_c, st1_c, cl_c, st_attr, sz_attr, st1_attr, cl_attr, strV, show rle (List.replicate (List.length [97]) (near 0)) = [(1, 0)] from by decide, RB, TB, keep19, tab19, ewOp, xop, xindexAddr, xindex, xslice, xconvert, xlen, drawStep, FreeW, SameW, ChangeW, limBytes, Nat.reduceBEq, Nat.reduceAdd, Nat.reduceEqDiff, Nat.reduceLT, Nat.reduceLeDiff, Nat.reduceMul, Nat.reduceSub, Int.reduceBEq, Int.reduceBNe, Int.reduceToNat, Int.reduceLT, Int.reduceLE, Int.reduceGT, Int.reduceGE, Int.reduceAdd, Int.reduceSub, Int.reduceNeg, Int.reduceEq, Int.toNat_zero, Int.toNat_one, reduceIte, reduceCtorEq, ne_eq, decide_true, decide_false] | ((with_reducible refine Need.intro ?_ ?_); (first | trivial | omega | (simp; done) | (simp; omega)))))
  (first | refine SCall.then (mOf _ [50] 0) ?_ | refine SCall.thenA (mOf _ [50] 0) (by repeat (first | exact trivial | exact .inl (.inl rfl) | exact .inl (.inr ⟨_, rfl, rfl⟩) | exact .inl rfl | exact .inr ⟨_, rfl, rfl⟩ | refine .inr ⟨_, _, rfl, rfl, ?_⟩ | refine ⟨?_, ?_⟩)) ?_ | refine CallE.intro _ (mOf _ [50] 0) ?_ | refine CallE.introA (mOf _ [50] 0) (by repeat (first | exact trivial | exact .inl (.inl rfl) | exact .inl (.inr ⟨_, rfl, rfl⟩) | exact .inl rfl | exact .inr ⟨_, rfl, rfl⟩ | refine .inr ⟨_, _, rfl, rfl, ?_⟩ | refine ⟨?_, ?_⟩)) ?_ | refine CallE.intro _ (fun _ => mOf _ [50] 0) ?_ | refine CallE.intro _ (fun _ => SCall.arg (by repeat (first | exact trivial | exact .inl (.inl rfl) | exact .inl (.inr ⟨_, rfl, rfl⟩) | exact .inl rfl | exact .inr ⟨_, rfl, rfl⟩ | refine .inr ⟨_, _, rfl, rfl, ?_⟩ | refine ⟨?_, ?_⟩)) (mOf _ [50] 0)) ?_ | refine CallE2.intro _ _ (mOf _ [50] 0) ?_ | refine CallE2.intro _ _ (SCall.arg (by repeat (first | exact trivial | exact .inl (.inl rfl) | exact .inl (.inr ⟨_, rfl, rfl⟩) | exact .inl rfl | exact .inr ⟨_, rfl, rfl⟩ | refine .inr ⟨_, _, rfl, rfl, ?_⟩ | refine ⟨?_, ?_⟩)) (mOf _ [50] 0)) ?_)
  (repeat (first | simp -dsimp only [st_run, sz_run, st1_run, cl_run, st_Str, sz_Str, st1_Str, cl_Str, st_c, sz_c, st1_c, cl_c, st_attr, sz_attr, st1_attr, cl_attr, strV, show rle (List.replicate (List.length [50]) (near 0)) = [(1, 0)] from by decide, RB, TB, keep19, tab19, ewOp, xop, xindexAddr, xindex, xslice, xconvert, xlen, drawStep, FreeW, SameW, ChangeW, limBytes, Nat.reduceBEq, Nat.reduceAdd, Nat.reduceEqDiff, Nat.reduceLT, Nat.reduceLeDiff, Nat.reduceMul, Nat.reduceSub, Int.reduceBEq, Int.reduceBNe, Int.reduceToNat, Int.reduceLT, Int.reduceLE, Int.reduceGT, Int.reduceGE, Int.reduceAdd, Int.reduceSub, Int.reduceNeg, Int.reduceEq, Int.toNat_zero, Int.toNat_one, reduceIte, reduceCtorEq, ne_eq, decide_true, decide_false] | ((with_reducible refine Need.intro ?_ ?_); (first | trivial | omega | (simp; done) | (simp; omega)))))
  (first | refine SCall.then (aOnce _ [⟨⟨[97], [(1, 0)]⟩, ⟨[49], [(1, 0)]⟩⟩, ⟨⟨[97], [(1, 0)]⟩, ⟨[50], [(1, 0)]⟩⟩] (by simp [okA, okS]) (by simp)) ?_ | refine SCall.thenA (aOnce _ [⟨⟨[97], [(1, 0)]⟩, ⟨[49], [(1, 0)]⟩⟩, ⟨⟨[97], [(1, 0)]⟩, ⟨[50], [(1, 0)]⟩⟩] (by simp [okA, okS]) (by simp)) (by repeat (first | exact trivial | exact .inl (.inl rfl) | exact .inl (.inr ⟨_, rfl, rfl⟩) | exact .inl rfl | exact .inr ⟨_, rfl, rfl⟩ | refine .inr ⟨_, _, rfl, rfl, ?_⟩ | refine ⟨?_, ?_⟩)) ?_ | refine CallE.intro _ (aOnce _ [⟨⟨[97], [(1, 0)]⟩, ⟨[49], [(1, 0)]⟩⟩, ⟨⟨[97], [(1, 0)]⟩, ⟨[50], [(1, 0)]⟩⟩] (by simp [okA, okS]) (by simp)) ?_ | refine CallE.introA (aOnce _ [⟨⟨[97], [(1, 0)]⟩, ⟨[49], [(1, 0)]⟩⟩, ⟨⟨[97], [(1, 0)]⟩, ⟨[50], [(1, 0)]⟩⟩] (by simp [okA, okS]) (by simp)) (by repeat (first | exact trivial | exact .inl (.inl rfl) | exact .inl (.inr ⟨_, rfl, rfl⟩) | exact .inl rfl | exact .inr ⟨_, rfl, rfl⟩ | refine .inr ⟨_, _, rfl, rfl, ?_⟩ | refine ⟨?_, ?_⟩)) ?_ | refine CallE.intro _ (fun _ => aOnce _ [⟨⟨[97], [(1, 0)]⟩, ⟨[49], [(1, 0)]⟩⟩, ⟨⟨[97], [(1, 0)]⟩, ⟨[50], [(1, 0)]⟩⟩] (by simp [okA, okS]) (by simp)) ?_ | refine CallE.intro _ (fun _ => SCall.arg (by repeat (first | exact trivial | exact .inl (.inl rfl) | exact .inl (.inr ⟨_, rfl, rfl⟩) | exact .inl rfl | exact .inr ⟨_, rfl, rfl⟩ | refine .inr ⟨_, _, rfl, rfl, ?_⟩ | refine ⟨?_, ?_⟩)) (aOnce _ [⟨⟨[97], [(1, 0)]⟩, ⟨[49], [(1, 0)]⟩⟩, ⟨⟨[97], [(1, 0)]⟩, ⟨[50], [(1, 0)]⟩⟩] (by simp [okA, okS]) (by simp))) ?_ | refine CallE2.intro _ _ (aOnce _ [⟨⟨[97], [(1, 0)]⟩, ⟨[49], [(1, 0)]⟩⟩, ⟨⟨[97], [(1, 0)]⟩, ⟨[50], [(1, 0)]⟩⟩] (by simp [okA, okS]) (by simp)) ?_ | refine CallE2.intro _ _ (SCall.arg (by repeat (first | exact trivial | exact .inl (.inl rfl) | exact .inl (.inr ⟨_, rfl, rfl⟩) | exact .inl rfl | exact .inr ⟨_, rfl, rfl⟩ | refine .inr ⟨_, _, rfl, rfl, ?_⟩ | refine ⟨?_, ?_⟩)) (aOnce _ [⟨⟨[97], [(1, 0)]⟩, ⟨[49], [(1, 0)]⟩⟩, ⟨⟨[97], [(1, 0)]⟩, ⟨[50], [(1, 0)]⟩⟩] (by simp [okA, okS]) (by simp))) ?_)
  (repeat (first | simp -dsimp only [st_run, sz_run, st1_run, cl_run, st_Str, sz_Str, st1_Str, cl_Str, st_c, sz_c, st1_c, cl_c, st_attr, sz_attr, st1_attr, cl_attr, alive_once, attrV, RB, TB, keep19, tab19, ewOp, xop, xindexAddr, xindex, xslice, xconvert, xlen, drawStep, FreeW, SameW, ChangeW, limBytes, Nat.reduceBEq, Nat.reduceAdd, Nat.reduceEqDiff, Nat.reduceLT, Nat.reduceLeDiff, Nat.reduceMul, Nat.reduceSub, Int.reduceBEq, Int.reduceBNe, Int.reduceToNat, Int.reduceLT, Int.reduceLE, Int.reduceGT, Int.reduceGE, Int.reduceAdd, Int.reduceSub, Int.reduceNeg, Int.reduceEq, Int.toNat_zero, Int.toNat_one, reduceIte, reduceCtorEq, ne_eq, decide_true, decide_false] | ((with_reducible refine Need.intro ?_ ?_); (first | trivial | omega | (simp; done) | (simp; omega)))))
  refine RetW.auto0 false _ (by first | rfl | exact (List.append_nil _).symm) ?_ ?_
  · (simp (maxDischargeDepth := 6) [LTB, HLt_set, ltL_take, ltL_drop, ltL_rep, ltL_set, upd, eset, hH, hHk, lt_vi, lt_str, lt_vb, ltc_str, ltc_vi, lt_run, lt1_run, ltc_run, lt_Str, lt1_Str, ltc_Str, lt_c, lt1_c, ltc_c, lt_attr, lt1_attr, ltc_attr] <;> omega)
  (try simp only [wk, wk1, wk0, RB, limBytes, Nat.reduceBEq, Nat.reduceAdd, Nat.reduceEqDiff, Nat.reduceLT, Nat.reduceLeDiff, Nat.reduceMul, Nat.reduceSub, Int.reduceBEq, Int.reduceBNe, Int.reduceToNat, Int.reduceLT, Int.reduceLE, Int.reduceGT, Int.reduceGE, Int.reduceAdd, Int.reduceSub, Int.reduceNeg, Int.reduceEq, Int.toNat_zero, Int.toNat_one, reduceIte, reduceCtorEq, ne_eq, decide_true, decide_false])
  (try (rw [List.take_of_length_le]; rotate_left 1; (· first | (simp; done) | (simp; omega) | omega)))
theorem find_once (s : List UInt8) : ∀ (l acc : List Attr), (onceA l acc).find? (fun a => a.name.text == s) = (acc.find? (fun a => a.name.text == s)).or ((l.find? (fun a => a.name.text == s)).map ownA)
  | [], acc => by simp [onceA]
  | a :: l, acc => by
    simp only [onceA]
    split
    · rename_i hp
      rw [find_once s l, List.find?_append]
      by_cases hs : (a.name.text == s) = true
      · have e : a.name.text = s := by simpa using hs
        have hn : acc.find? (fun a => a.name.text == s) = none := by
          rcases place_find acc a.name.text with ⟨_, hf⟩ | ⟨i, hi, hp', _⟩
          · rw [← e]; exact hf
          · omega
        have hs2 : ((ownA a).name.text == s) = true := hs
        simp only [hn, List.find?_cons, hs, hs2, List.find?_nil, Option.none_or, Option.map_some]
        rfl
      · have hs1 : (a.name.text == s) = false := by simpa using hs
        have hs2 : ((ownA a).name.text == s) = false := hs1
        simp only [List.find?_cons, hs1, hs2, List.find?_nil, Option.or_none]
    · rename_i hp
      rw [find_once s l]
      by_cases hs : (a.name.text == s) = true
      · have e : a.name.text = s := by simpa using hs
        rcases place_find acc a.name.text with ⟨hp', _⟩ | ⟨i, hi, hp', hf, _⟩
        · exact absurd hp' hp
        · rw [← e, hf]; simp
      · rw [List.find?_cons_of_neg (by simpa using hs)]
theorem mem_once : ∀ (l acc : List Attr), (∀ x ∈ acc, acc.find? (fun a => a.name.text == x.name.text) = some x) → ∀ x ∈ onceA l acc, (onceA l acc).find? (fun a => a.name.text == x.name.text) = some x
  | [], acc, h => h
  | a :: l, acc, h => by
    simp only [onceA]
    split
    · rename_i hp
      refine mem_once l _ fun x hx => ?_
      rw [List.find?_append]
      rcases List.mem_append.1 hx with hx | hx
      · rw [h x hx]; rfl
      · rw [List.mem_singleton.1 hx]
        have hn : acc.find? (fun y => y.name.text == (ownA a).name.text) = none := by
          rcases place_find acc a.name.text with ⟨_, hf⟩ | ⟨i, hi, hp', _⟩
          · exact hf
          · omega
        rw [hn]
        simp
    · exact mem_once l _ h
/-- what is kept is the first of its name -/
theorem once_first {l : List Attr} {x : Attr} (h : x ∈ onceA l []) : ∃ y, l.find? (fun a => a.name.text == x.name.text) = some y ∧ x = ownA y := by
  have h1 := mem_once l [] (by simp) x h
  rw [find_once] at h1
  simp only [List.find?_nil, Option.none_or] at h1
  obtain ⟨y, h2, h3⟩ := Option.map_eq_some_iff.1 h1
  exact ⟨y, h2, h3.symm⟩
theorem place_once (l : List Attr) (s : List UInt8) : placeA (onceA l []) s < 0 ↔ placeA l s < 0 := by
  have hf := find_once s l []
  simp only [List.find?_nil, Option.none_or] at hf
  rcases place_find (onceA l []) s with ⟨h1, h2⟩ | ⟨i, hi, h1, h2, _⟩
  · rcases place_find l s with ⟨h3, h4⟩ | ⟨k, hk, h3, h4, _⟩
    · exact ⟨fun _ => h3, fun _ => h1⟩
    · rw [h2, h4] at hf; simp at hf
  · rcases place_find l s with ⟨h3, h4⟩ | ⟨k, hk, h3, h4, _⟩
    · rw [h2, h4] at hf; simp at hf
    · constructor <;> intro h <;> omega
end Go.Proofs.Ytadhjfdmfdgppab

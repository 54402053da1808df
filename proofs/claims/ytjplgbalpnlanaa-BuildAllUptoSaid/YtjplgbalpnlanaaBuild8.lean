/- What the laws of chapter 14 share: the example, the reading of tokens, what is open. -/
import Derived.Test.YtjplgbalpnlanaaBuild7
import Derived.Test.YtjplgbalpnlanaaTree4
set_option maxHeartbeats 600000
set_option linter.unusedSimpArgs false
set_option linter.unusedVariables false
set_option maxRecDepth 100000
namespace Go.Proofs.Ytjplgbalpnlanaa
open Go Go.EL
theorem zrBuild81 : type_of% (And.intro (And.intro (And.intro (And.intro (@st_run) (And.intro (@sz_run) (@st1_run))) (And.intro (@cl_run) (And.intro (@st_Str) (@sz_Str)))) (And.intro (And.intro (@st1_Str) (And.intro (@cl_Str) (@st_c))) (And.intro (@sz_c) (And.intro (@st1_c) (@cl_c))))) (And.intro (And.intro (And.intro (@st_attr) (And.intro (@sz_attr) (@st1_attr))) (And.intro (@cl_attr) (And.intro (@st_tree) (@sz_tree)))) (And.intro (And.intro (@st1_tree) (And.intro (@cl_tree) (@st_tok))) (And.intro (@sz_tok) (And.intro (@st1_tok) (@cl_tok)))))) := And.intro (And.intro (And.intro (And.intro (@st_run) (And.intro (@sz_run) (@st1_run))) (And.intro (@cl_run) (And.intro (@st_Str) (@sz_Str)))) (And.intro (And.intro (@st1_Str) (And.intro (@cl_Str) (@st_c))) (And.intro (@sz_c) (And.intro (@st1_c) (@cl_c))))) (And.intro (And.intro (And.intro (@st_attr) (And.intro (@sz_attr) (@st1_attr))) (And.intro (@cl_attr) (And.intro (@st_tree) (@sz_tree)))) (And.intro (And.intro (@st1_tree) (And.intro (@cl_tree) (@st_tok))) (And.intro (@sz_tok) (And.intro (@st1_tok) (@cl_tok)))))
theorem zlBuild81 : type_of% (And.intro (And.intro (And.intro (And.intro (@lt_vi) (@lt_str)) (And.intro (@lt_vb) (And.intro (@ltc_str) (@ltc_vi)))) (And.intro (And.intro (@lt_run) (And.intro (@lt1_run) (@ltc_run))) (And.intro (@lt_Str) (And.intro (@lt1_Str) (@ltc_Str))))) (And.intro (And.intro (And.intro (@lt_c) (And.intro (@lt1_c) (@ltc_c))) (And.intro (@lt_attr) (And.intro (@lt1_attr) (@ltc_attr)))) (And.intro (And.intro (@lt_tree) (And.intro (@lt1_tree) (@ltc_tree))) (And.intro (@lt_tok) (And.intro (@lt1_tok) (@ltc_tok)))))) := And.intro (And.intro (And.intro (And.intro (@lt_vi) (@lt_str)) (And.intro (@lt_vb) (And.intro (@ltc_str) (@ltc_vi)))) (And.intro (And.intro (@lt_run) (And.intro (@lt1_run) (@ltc_run))) (And.intro (@lt_Str) (And.intro (@lt1_Str) (@ltc_Str))))) (And.intro (And.intro (And.intro (@lt_c) (And.intro (@lt1_c) (@ltc_c))) (And.intro (@lt_attr) (And.intro (@lt1_attr) (@ltc_attr)))) (And.intro (And.intro (@lt_tree) (And.intro (@lt1_tree) (@ltc_tree))) (And.intro (@lt_tok) (And.intro (@lt1_tok) (@ltc_tok)))))
def exK : List Toke := [⟨1, ⟨[98], rle [near 0]⟩, [], false, zeroS⟩, ⟨3, zeroS, [], false, ⟨[120], rle [near 0]⟩⟩]
theorem exK_fin : finF (stA exK) = [.mk ⟨[98], rle [near 0]⟩ [] [.mk zeroS [] [] ⟨[120], rle [near 0]⟩] zeroS] := by
  obtain ⟨f, h1, h2⟩ := finF_last 1 (stA exK) rfl
  have h3 : popN 1 (stA exK) = [⟨zeroS, [], [.mk ⟨[98], rle [near 0]⟩ [] [.mk zeroS [] [] ⟨[120], rle [near 0]⟩] zeroS]⟩] := rfl
  rw [h3] at h1
  injection h1 with h1 _
  rw [h2, ← h1]
theorem alive14 (H : List Ob) : SCall Try.prog 17 [] H (fun r H' => r = .bool true ∧ H' = H) := by
  obtain ⟨ms, hms⟩ : ∃ ms, ms = mergeT (finF (stA exK)) := ⟨_, rfl⟩
  have hms2 := hms
  rw [exK_fin] at hms2
  have hl : ms.length = 1 := by rw [hms2]; decide +kernel
  have hlt : 0 < ms.length := by rw [hl]; decide
  have hx0 : (ms[0]?.map fun t => t.tag.text) = some [98] := by rw [hms2]; decide +kernel
  have hx : ms[0].tag.text = [98] := by rw [List.getElem?_eq_getElem hlt] at hx0; simpa using hx0
  have hk0 : (ms[0]?.map fun t => t.kids.length) = some 1 := by rw [hms2]; decide +kernel
  have hk : ms[0].kids.length = 1 := by rw [List.getElem?_eq_getElem hlt] at hk0; simpa using hk0
  refine SCall.of_good fun hH => ?_
  have hHk := HLt.add hH
  refine SCall.of_code Tok Try.func17 rfl Try.call17 (n := 27) rfl (by simp) (rs := [.tmp 0]) rfl ?_
  refine EWn.to ?_
  refine EWn.of_c Tok mixed (own := false) keep17 tab17 (by kernel_rfl) ?_
  (repeat (first | simp -dsimp only [zrBuild81, RB, TB, keep17, tab17, xindexAddr, xindex, xslice, xconvert, xlen, ewOp, FreeW, StabW, SameW, ChangeW, AddW, BaseW, limBytes, simprocAttr, ne_eq] | ((with_reducible refine Need.intro ?_ ?_); (first | trivial | exact ⟨_, rfl⟩ | exact ⟨[], (List.append_nil _).symm⟩ | omega | (simp; done) | (simp; omega) | exact ⟨by first | trivial | (simp; done), _, by first | rfl | (simp; rfl)⟩))))
  (first | refine SCall.then (mOf _ _ _) ?_ | refine SCall.thenA (mOf _ _ _) (by repeat (first | exact trivial | exact .inl (.inl rfl) | exact .inl (.inr ⟨_, rfl, rfl⟩) | exact .inl rfl | exact .inr ⟨_, rfl, rfl⟩ | refine .inr ⟨_, _, rfl, rfl, ?_⟩ | refine ⟨?_, ?_⟩)) ?_ | refine CallE.intro _ (mOf _ _ _) ?_ | refine CallE.introA (mOf _ _ _) (by repeat (first | exact trivial | exact .inl (.inl rfl) | exact .inl (.inr ⟨_, rfl, rfl⟩) | exact .inl rfl | exact .inr ⟨_, rfl, rfl⟩ | refine .inr ⟨_, _, rfl, rfl, ?_⟩ | refine ⟨?_, ?_⟩)) ?_ | refine CallE.intro _ (fun _ => mOf _ _ _) ?_ | refine CallE.intro _ (fun _ => SCall.arg (by repeat (first | exact trivial | exact .inl (.inl rfl) | exact .inl (.inr ⟨_, rfl, rfl⟩) | exact .inl rfl | exact .inr ⟨_, rfl, rfl⟩ | refine .inr ⟨_, _, rfl, rfl, ?_⟩ | refine ⟨?_, ?_⟩)) (mOf _ _ _)) ?_ | refine CallE2.intro _ _ (mOf _ _ _) ?_ | refine CallE2.intro _ _ (SCall.arg (by repeat (first | exact trivial | exact .inl (.inl rfl) | exact .inl (.inr ⟨_, rfl, rfl⟩) | exact .inl rfl | exact .inr ⟨_, rfl, rfl⟩ | refine .inr ⟨_, _, rfl, rfl, ?_⟩ | refine ⟨?_, ?_⟩)) (mOf _ _ _)) ?_)
  (repeat (first | simp -dsimp only [zrBuild81, strV, RB, TB, keep17, tab17, xindexAddr, xindex, xslice, xconvert, xlen, ewOp, FreeW, StabW, SameW, ChangeW, AddW, BaseW, limBytes, simprocAttr, ne_eq] | ((with_reducible refine Need.intro ?_ ?_); (first | trivial | exact ⟨_, rfl⟩ | exact ⟨[], (List.append_nil _).symm⟩ | omega | (simp; done) | (simp; omega) | exact ⟨by first | trivial | (simp; done), _, by first | rfl | (simp; rfl)⟩))))
  (first | refine SCall.then (mOf _ _ _) ?_ | refine SCall.thenA (mOf _ _ _) (by repeat (first | exact trivial | exact .inl (.inl rfl) | exact .inl (.inr ⟨_, rfl, rfl⟩) | exact .inl rfl | exact .inr ⟨_, rfl, rfl⟩ | refine .inr ⟨_, _, rfl, rfl, ?_⟩ | refine ⟨?_, ?_⟩)) ?_ | refine CallE.intro _ (mOf _ _ _) ?_ | refine CallE.introA (mOf _ _ _) (by repeat (first | exact trivial | exact .inl (.inl rfl) | exact .inl (.inr ⟨_, rfl, rfl⟩) | exact .inl rfl | exact .inr ⟨_, rfl, rfl⟩ | refine .inr ⟨_, _, rfl, rfl, ?_⟩ | refine ⟨?_, ?_⟩)) ?_ | refine CallE.intro _ (fun _ => mOf _ _ _) ?_ | refine CallE.intro _ (fun _ => SCall.arg (by repeat (first | exact trivial | exact .inl (.inl rfl) | exact .inl (.inr ⟨_, rfl, rfl⟩) | exact .inl rfl | exact .inr ⟨_, rfl, rfl⟩ | refine .inr ⟨_, _, rfl, rfl, ?_⟩ | refine ⟨?_, ?_⟩)) (mOf _ _ _)) ?_ | refine CallE2.intro _ _ (mOf _ _ _) ?_ | refine CallE2.intro _ _ (SCall.arg (by repeat (first | exact trivial | exact .inl (.inl rfl) | exact .inl (.inr ⟨_, rfl, rfl⟩) | exact .inl rfl | exact .inr ⟨_, rfl, rfl⟩ | refine .inr ⟨_, _, rfl, rfl, ?_⟩ | refine ⟨?_, ?_⟩)) (mOf _ _ _)) ?_)
  (repeat (first | simp -dsimp only [zrBuild81, strV, RB, TB, keep17, tab17, xindexAddr, xindex, xslice, xconvert, xlen, ewOp, FreeW, StabW, SameW, ChangeW, AddW, BaseW, limBytes, simprocAttr, ne_eq] | ((with_reducible refine Need.intro ?_ ?_); (first | trivial | exact ⟨_, rfl⟩ | exact ⟨[], (List.append_nil _).symm⟩ | omega | (simp; done) | (simp; omega) | exact ⟨by first | trivial | (simp; done), _, by first | rfl | (simp; rfl)⟩))))
  (first | refine SCall.deep ?_ | refine CallE.deep ?_)
  simp -dsimp only [wdV, wdVs, wds_run]
  have e : V.slice [V.agg [.int .i64 1, .str [98], .slice (List.map runV (rle [near 0])), .slice [], .bool false, .str [], .slice []], V.agg [.int .i64 3, .str [], .slice [], .slice [], .bool false, .str [120], .slice (List.map runV (rle [near 0]))]] = V.slice (exK.map tokV) := rfl
  rw [e]
  have hte := treeV_eq ms[0]
  rw [hx] at hte
  have hat := at_map treeV ms 0 hlt
  have hsz : (exK.map szK).sum ≤ 90000000 := by decide +kernel
  have hb := bTrees H exK hsz
  rw [← hms] at hb
  refine SCall.then hb ?_
  (repeat (first | simp -dsimp only [zrBuild81, hl, hat, hte, hk, RB, TB, keep17, tab17, xindexAddr, xindex, xslice, xconvert, xlen, ewOp, FreeW, StabW, SameW, ChangeW, AddW, BaseW, limBytes, simprocAttr, ne_eq] | ((with_reducible refine Need.intro ?_ ?_); (first | trivial | exact ⟨_, rfl⟩ | exact ⟨[], (List.append_nil _).symm⟩ | omega | (simp; done) | (simp; omega) | exact ⟨by first | trivial | (simp; done), _, by first | rfl | (simp; rfl)⟩))))
  refine RetW.auto0 false _ (by first | rfl | exact (List.append_nil _).symm) ?_ ?_
  · (simp (maxDischargeDepth := 6) [LTB, HLt_set, ltL_take, ltL_drop, ltL_rep, ltL_set, upd, eset, hH, hHk, zlBuild81] <;> omega)
  (try simp only [wk, wk1, wk0, RB, limBytes, simprocAttr, ne_eq])
  (try (rw [List.take_of_length_le]; rotate_left 1; (· first | (simp; done) | (simp; omega) | omega)))
/-! reading tokens -/
theorem starts_iff (t : Toke) : t.starts = (decide (t.kind = 1) && !(t.name.text == [])) := rfl
theorem stepO_open (op : List (List UInt8)) {t : Toke} (h : t.starts = false) (hk : t.kind = 2) : stepO op t = if openI op t.name.text < 0 then op else op.take (openI op t.name.text).toNat := by
  unfold stepO openI
  rw [if_neg (by simp [h]), if_pos hk]
  cases lastAt op t.name.text op.length with
  | none => simp
  | some k => simp only; rw [if_neg (by omega)]; simp
theorem stepO_len (op : List (List UInt8)) (t : Toke) : (stepO op t).length ≤ op.length + 1 := by
  unfold stepO
  split
  · simp
  · split
    · split
      · simp; omega
      · omega
    · omega
def opA (l : List Toke) : List (List UInt8) := l.foldl stepO []
theorem opA_succ {l : List Toke} {i : Nat} (h : i < l.length) : opA (l.take (i + 1)) = stepO (opA (l.take i)) l[i] := by
  unfold opA
  rw [List.take_succ_eq_append_getElem h, List.foldl_append]
  rfl
theorem opA_len (l : List Toke) : ∀ i, i ≤ l.length → (opA (l.take i)).length ≤ i
  | 0, _ => by simp [opA]
  | i + 1, h => by
    rw [opA_succ (by omega)]
    have := opA_len l i (by omega)
    have := stepO_len (opA (l.take i)) (l[i]'(by omega))
    omega
theorem opn_stA (l : List Toke) : opn (stA l) = opA l := by
  unfold stA opA
  rw [opn_all l [rootF] (by simp)]
  simp [opn]
theorem lOpen2B (H : List Ob) (op : List (List UInt8)) (nm : List UInt8) (x : V) (hx : Bo H x (.slice (op.map V.str))) : SCall Try.prog 20 [x, .str nm] H (fun r H' => r = .int .i64 (openI op nm) ∧ H' = H) := by
  refine SCall.borrow (args' := [.slice (op.map V.str), .str nm]) ⟨hx, ⟨rfl, trivial⟩, trivial⟩ ?_
  refine (lOpen2 [] op nm).mono ?_
  rintro r H' ⟨rfl, _⟩
  exact ⟨rfl, trivial⟩
theorem plTextsB (H : List Ob) (l m : List (List UInt8)) (x : V) (hx : Bo H x (.slice (m.map V.str))) : SCall Try.prog 24 [.slice (l.map V.str), x] H (fun r H' => r = .bool (decide (l = m)) ∧ H' = H) := by
  refine SCall.borrow (args' := [.slice (l.map V.str), .slice (m.map V.str)]) ⟨⟨rfl, ltL_map (f := V.str) (fun _ => trivial) l⟩, hx, trivial⟩ ?_
  refine (plTexts [] l m).mono ?_
  rintro r H' ⟨rfl, _⟩
  exact ⟨rfl, trivial⟩
end Go.Proofs.Ytjplgbalpnlanaa

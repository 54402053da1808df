/- The walks of package tree: visit, walk; what a range over walk's function comes to. -/
import Derived.Test.YtjplgbalpnlanaaTree1
set_option linter.unusedSimpArgs false
set_option linter.unusedVariables false
set_option maxRecDepth 100000
namespace Go.Proofs.Ytjplgbalpnlanaa
open Go Go.EL
theorem zrTree21 : type_of% (And.intro (And.intro (And.intro (And.intro (@st_run) (@sz_run)) (And.intro (@st1_run) (And.intro (@cl_run) (@st_Str)))) (And.intro (And.intro (@sz_Str) (@st1_Str)) (And.intro (@cl_Str) (And.intro (@st_c) (@sz_c))))) (And.intro (And.intro (And.intro (@st1_c) (@cl_c)) (And.intro (@st_attr) (And.intro (@sz_attr) (@st1_attr)))) (And.intro (And.intro (@cl_attr) (@st_tree)) (And.intro (@sz_tree) (And.intro (@st1_tree) (@cl_tree)))))) := And.intro (And.intro (And.intro (And.intro (@st_run) (@sz_run)) (And.intro (@st1_run) (And.intro (@cl_run) (@st_Str)))) (And.intro (And.intro (@sz_Str) (@st1_Str)) (And.intro (@cl_Str) (And.intro (@st_c) (@sz_c))))) (And.intro (And.intro (And.intro (@st1_c) (@cl_c)) (And.intro (@st_attr) (And.intro (@sz_attr) (@st1_attr)))) (And.intro (And.intro (@cl_attr) (@st_tree)) (And.intro (@sz_tree) (And.intro (@st1_tree) (@cl_tree)))))
theorem zlTree21 : type_of% (And.intro (And.intro (And.intro (And.intro (@lt_vi) (@lt_str)) (And.intro (@lt_vb) (And.intro (@ltc_str) (@ltc_vi)))) (And.intro (And.intro (@lt_run) (@lt1_run)) (And.intro (@ltc_run) (And.intro (@lt_Str) (@lt1_Str))))) (And.intro (And.intro (And.intro (@ltc_Str) (@lt_c)) (And.intro (@lt1_c) (And.intro (@ltc_c) (@lt_attr)))) (And.intro (And.intro (@lt1_attr) (@ltc_attr)) (And.intro (@lt_tree) (And.intro (@lt1_tree) (@ltc_tree)))))) := And.intro (And.intro (And.intro (And.intro (@lt_vi) (@lt_str)) (And.intro (@lt_vb) (And.intro (@ltc_str) (@ltc_vi)))) (And.intro (And.intro (@lt_run) (@lt1_run)) (And.intro (@ltc_run) (And.intro (@lt_Str) (@lt1_Str))))) (And.intro (And.intro (And.intro (@ltc_Str) (@lt_c)) (And.intro (@lt1_c) (And.intro (@ltc_c) (@lt_attr)))) (And.intro (And.intro (@lt1_attr) (@ltc_attr)) (And.intro (@lt_tree) (And.intro (@lt1_tree) (@ltc_tree)))))
theorem ysMono {P : Program} {l : Nat} {args : List V} {H : List Ob} {R R' : V → List Ob → Prop} (h : YSCall P l args H R) (hr : ∀ r H', R r H' → R' r H') : YSCall P l args H R' := by
  intro g w cargs hG ha
  obtain ⟨l', fn, tmps, body, h1, h2⟩ := h g w cargs hG ha
  exact ⟨l', fn, tmps, body, h1, h2.mono fun e w' ⟨v, he, r, H', g', k1, k2, k3, k4⟩ => ⟨v, he, r, H', g', k1, k2, k3, hr _ _ k4⟩⟩
mutual
def visK : Tree → Int → List (Tree × Int)
  | .mk _ _ kids _, d => visL kids (d + 1)
def visL : List Tree → Int → List (Tree × Int)
  | [], _ => []
  | t :: l, d => (t, d) :: (visK t d ++ visL l d)
end
theorem visK_eq (t : Tree) (d : Int) : visK t d = visL t.kids (d + 1) := by cases t; rw [visK]; rfl
theorem visL_append : ∀ (a b : List Tree) (d : Int), visL (a ++ b) d = visL a d ++ visL b d
  | [], b, d => by simp only [List.nil_append, visL]
  | t :: a, b, d => by simp only [List.cons_append, visL, visL_append a b d, List.append_assoc]
theorem visL_succ {l : List Tree} {i : Nat} (h : i < l.length) (d : Int) : visL (l.take (i + 1)) d = visL (l.take i) d ++ (l[i], d) :: visL l[i].kids (d + 1) := by
  rw [List.take_succ_eq_append_getElem h, visL_append]
  simp only [visL, List.append_nil, visK_eq]
theorem visL_split {l : List Tree} {i : Nat} (h : i < l.length) (d : Int) : visL l d = visL (l.take i) d ++ ((l[i], d) :: (visL l[i].kids (d + 1) ++ visL (l.drop (i + 1)) d)) := by
  conv => lhs; rw [← List.take_append_drop (i + 1) l]
  rw [visL_append, visL_succ h]
  simp
def encT (a : Tree × Int) : List V := [treeV a.1, .int .i64 a.2]
set_option maxHeartbeats 2000000 in
theorem tVisit {ι : Type} (hs : ι → List Ob) (ok : List (Tree × Int) → ι → Prop) (k0 : Nat) (hl : ∀ pre x, ok pre x → (hs x).length = k0 ∧ HLt k0 (hs x)) (lo : Nat) (all : List (Tree × Int))
    (hY : ∀ pre a post x L, all = pre ++ a :: post → ok pre x → YSCall Try.prog lo (encT a) (hs x ++ L) (fun r H' => r = .bool true ∧ ∃ x', ok (pre ++ [a]) x' ∧ H' = hs x' ++ L)) :
    ∀ (n : Nat) (l : List Tree) (d : Int) (pre post : List (Tree × Int)) (x : ι) (L : List Ob), szTs l ≤ n → 0 ≤ d → d + n ≤ 1000000000 → all = pre ++ (visL l d ++ post) → ok pre x → SCall Try.prog 156 [.slice (l.map treeV), .int .i64 d, .fn (.yield lo) [] []] (hs x ++ L) (fun r H' => r = .bool true ∧ ∃ x', ok (pre ++ visL l d) x' ∧ H' = hs x' ++ L) := by
  intro n
  induction n with
  | zero =>
    intro l d pre post x L h _ _ ha hok
    have h0 : l = [] := List.eq_nil_of_length_eq_zero (by have := sz_len l; omega)
    subst h0
    obtain ⟨H, hHe⟩ : ∃ H, H = hs x ++ L := ⟨_, rfl⟩
    rw [← hHe]
    refine SCall.of_good fun hH => ?_
    have hHk := HLt.add hH
    refine SCall.of_code Tok Try.func156 rfl Try.call156 (n := 30) rfl (by simp) (rs := [.tmp 6]) rfl ?_
    refine EWn.to ?_
    refine EWn.of_c Tok mixed (own := false) keep156 tab156 (by kernel_rfl) ?_
    (repeat (first | simp -dsimp only [zrTree21, RB, TB, keep156, tab156, xindexAddr, xindex, xslice, xconvert, xlen, ewOp, FreeW, StabW, SameW, ChangeW, AddW, BaseW, limBytes, simprocAttr, ne_eq] | ((with_reducible refine Need.intro ?_ ?_); (first | trivial | exact ⟨_, rfl⟩ | exact ⟨[], (List.append_nil _).symm⟩ | omega | (simp; done) | (simp; omega) | exact ⟨by first | trivial | (simp; done), _, by first | rfl | (simp; rfl)⟩))))
    refine EWn.rounds 1 ?_
    show EWn _ _ _ _ _ _ _
    refine EWn.of_c Tok mixed (own := false) keep156 tab156 (by kernel_rfl) ?_
    (repeat (first | simp -dsimp only [zrTree21, RB, TB, keep156, tab156, xindexAddr, xindex, xslice, xconvert, xlen, ewOp, FreeW, StabW, SameW, ChangeW, AddW, BaseW, limBytes, simprocAttr, ne_eq] | ((with_reducible refine Need.intro ?_ ?_); (first | trivial | exact ⟨_, rfl⟩ | exact ⟨[], (List.append_nil _).symm⟩ | omega | (simp; done) | (simp; omega) | exact ⟨by first | trivial | (simp; done), _, by first | rfl | (simp; rfl)⟩))))
    refine RetW.auto0 false _ (by first | rfl | exact (List.append_nil _).symm) ?_ ?_
    · (simp (maxDischargeDepth := 6) [LTB, HLt_set, ltL_take, ltL_drop, ltL_rep, ltL_set, upd, eset, hH, hHk, zlTree21] <;> omega)
    (try simp only [wk, wk1, wk0, RB, limBytes, simprocAttr, ne_eq])
    (try (rw [List.take_of_length_le]; rotate_left 1; (· first | (simp; done) | (simp; omega) | omega)))
    exact ⟨x, by simpa only [visL, List.append_nil] using hok, hHe⟩
  | succ n ih =>
    intro l d pre post x L hn hd hb ha hok
    have hll := sz_len l
    refine SCall.of_good fun hH0 => ?_
    obtain ⟨hh, hhe⟩ : ∃ hh : ι → List Ob, ∀ y, hh y = hs y ++ L := ⟨_, fun _ => rfl⟩
    have hln : ∀ pre x', ok pre x' → (hh x').length = (hh x).length := fun pre x' h => by rw [hhe, hhe, List.length_append, List.length_append, (hl _ _ h).1, (hl _ _ hok).1]
    have hHx : ∀ pre x', ok pre x' → HLt (hh x).length (hh x') := fun pre x' h => by
      rw [hhe, hhe]
      rw [HLt_append] at hH0 ⊢
      exact ⟨(hl _ _ h).2.le (by rw [List.length_append, (hl _ _ hok).1]; omega), hH0.2⟩
    have hYh : ∀ pre a post x M, all = pre ++ a :: post → ok pre x → YSCall Try.prog lo (encT a) (hh x ++ M) (fun r H' => r = .bool true ∧ ∃ x', ok (pre ++ [a]) x' ∧ H' = hh x' ++ M) := fun pre a post x M h1 h2 => by
      rw [hhe, List.append_assoc]
      exact ysMono (hY pre a post x (L ++ M) h1 h2) fun r H' ⟨k1, x', k2, k3⟩ => ⟨k1, x', k2, by rw [k3, hhe, List.append_assoc]⟩
    have ihh : ∀ (l : List Tree) (d : Int) (pre post : List (Tree × Int)) (x : ι) (M : List Ob), szTs l ≤ n → 0 ≤ d → d + n ≤ 1000000000 → all = pre ++ (visL l d ++ post) → ok pre x → SCall Try.prog 156 [.slice (l.map treeV), .int .i64 d, .fn (.yield lo) [] []] (hh x ++ M) (fun r H' => r = .bool true ∧ ∃ x', ok (pre ++ visL l d) x' ∧ H' = hh x' ++ M) := fun l d pre post x M h1 h2 h3 h4 h5 => by
      rw [hhe, List.append_assoc]
      exact (ih l d pre post x (L ++ M) h1 h2 h3 h4 h5).mono fun r H' ⟨k1, x', k2, k3⟩ => ⟨k1, x', k2, by rw [k3, hhe, List.append_assoc]⟩
    have hfin : SCall Try.prog 156 [.slice (l.map treeV), .int .i64 d, .fn (.yield lo) [] []] (hh x) (fun r H' => r = .bool true ∧ ∃ x', ok (pre ++ visL l d) x' ∧ H' = hh x') → SCall Try.prog 156 [.slice (l.map treeV), .int .i64 d, .fn (.yield lo) [] []] (hs x ++ L) (fun r H' => r = .bool true ∧ ∃ x', ok (pre ++ visL l d) x' ∧ H' = hs x' ++ L) := fun h => by
      rw [← hhe]
      exact h.mono fun r H' ⟨k1, x', k2, k3⟩ => ⟨k1, x', k2, by rw [k3, hhe]⟩
    refine hfin ?_
    clear hfin
    refine SCall.of_good fun hH => ?_
    have hHk := HLt.add hH
    refine SCall.of_code Tok Try.func156 rfl Try.call156 (n := 30) rfl (by simp) (rs := [.tmp 6]) rfl ?_
    refine EWn.to ?_
    refine EWn.of_c Tok mixed (own := false) keep156 tab156 (by kernel_rfl) ?_
    (repeat (first | simp -dsimp only [zrTree21, RB, TB, keep156, tab156, xindexAddr, xindex, xslice, xconvert, xlen, ewOp, FreeW, StabW, SameW, ChangeW, AddW, BaseW, limBytes, simprocAttr, ne_eq] | ((with_reducible refine Need.intro ?_ ?_); (first | trivial | exact ⟨_, rfl⟩ | exact ⟨[], (List.append_nil _).symm⟩ | omega | (simp; done) | (simp; omega) | exact ⟨by first | trivial | (simp; done), _, by first | rfl | (simp; rfl)⟩))))
    refine EWn.loopE (ι := (Nat) × (ι)) (fun (x_ : (Nat) × (ι)) => match x_ with | (i, y) => i ≤ l.length ∧ ok (pre ++ visL (l.take i) d) y) (fun (x_ : (Nat) × (ι)) => match x_ with | (i, y) => l.length - i) (fun (x_ : (Nat) × (ι)) => match x_ with | (i, y) => [(11, .int .i64 i)]) (fun (x_ : (Nat) × (ι)) => match x_ with | (i, y) => hh y) (0, x) ?_ ?_ ?_ ?_ ?_
    · first | rfl | simp [upd, eset]
    · first | rfl | (simp; done) | exact (set_same (by assumption)).symm
    · rintro ⟨i, y⟩ ⟨h1, h2⟩
      have e1 := hln _ _ h2
      have hH1 := hHx _ _ h2
      simp only
      rw [e1]
      refine ⟨Nat.le_refl _, hH1, ?_⟩
      (simp (maxDischargeDepth := 6) [LTB, HLt_set, ltL_take, ltL_drop, ltL_rep, ltL_set, upd, eset, hH, hHk, zlTree21] <;> omega)
    · exact ⟨Nat.zero_le _, by simpa [visL] using hok⟩
    rintro ⟨i, y⟩ ⟨hi, hy⟩
    (try simp only at hi hy)
    have e1 := hln _ _ hy
    have hH1 := hHx _ _ hy
    rw [← e1] at hH1
    refine EWn.of_c Tok mixed (own := false) keep156 tab156 (by kernel_rfl) ?_
    (repeat (first | simp -dsimp only [zrTree21, RB, TB, keep156, tab156, xindexAddr, xindex, xslice, xconvert, xlen, ewOp, FreeW, StabW, SameW, ChangeW, AddW, BaseW, limBytes, simprocAttr, ne_eq] | ((with_reducible refine Need.intro ?_ ?_); (first | trivial | exact ⟨_, rfl⟩ | exact ⟨[], (List.append_nil _).symm⟩ | omega | (simp; done) | (simp; omega) | exact ⟨by first | trivial | (simp; done), _, by first | rfl | (simp; rfl)⟩))))
    refine IfW.intro (fun h => ?_) (fun h => ?_)
    · have hlt := lt_of h
      have hsplit := visL_split hlt d
      have hte := treeV_eq l[i]
      have hszl := szTs_mem (List.getElem_mem hlt)
      have hsz := szT_eq l[i]
      unfold szS' at hsz
      (repeat (first | simp -dsimp only [zrTree21, h, at_map treeV l i hlt, hte, RB, TB, keep156, tab156, xindexAddr, xindex, xslice, xconvert, xlen, ewOp, FreeW, StabW, SameW, ChangeW, AddW, BaseW, limBytes, simprocAttr, ne_eq] | ((with_reducible refine Need.intro ?_ ?_); (first | trivial | exact ⟨_, rfl⟩ | exact ⟨[], (List.append_nil _).symm⟩ | omega | (simp; done) | (simp; omega) | exact ⟨by first | trivial | (simp; done), _, by first | rfl | (simp; rfl)⟩))))
      have hc := fun M => hYh (pre ++ visL (l.take i) d) (l[i], d) (visL l[i].kids (d + 1) ++ (visL (l.drop (i + 1)) d ++ post)) y M (by rw [ha, hsplit]; simp) hy
      simp only [encT, hte] at hc
      refine ysMono (hc _) ?_
      rintro _ _ ⟨rfl, y2, hy2, rfl⟩
      have e2 := hln _ _ hy2
      rw [show (hh y).length = (hh y2).length from e1.trans e2.symm]
      (repeat (first | simp -dsimp only [zrTree21, h, RB, TB, keep156, tab156, xindexAddr, xindex, xslice, xconvert, xlen, ewOp, FreeW, StabW, SameW, ChangeW, AddW, BaseW, limBytes, simprocAttr, ne_eq] | ((with_reducible refine Need.intro ?_ ?_); (first | trivial | exact ⟨_, rfl⟩ | exact ⟨[], (List.append_nil _).symm⟩ | omega | (simp; done) | (simp; omega) | exact ⟨by first | trivial | (simp; done), _, by first | rfl | (simp; rfl)⟩))))
      rw [wrapI (by omega)]
      refine SCall.mono (ihh l[i].kids (d + 1) (pre ++ visL (l.take i) d ++ [(l[i], d)]) (visL (l.drop (i + 1)) d ++ post) y2 _ (by omega) (by omega) (by omega) (by rw [ha, hsplit]; simp) hy2) ?_
      rintro _ _ ⟨rfl, y3, hy3, rfl⟩
      have e3 := hln _ _ hy3
      try rw [show (hh y2).length = (hh y3).length from e2.trans e3.symm]
      (repeat (first | simp -dsimp only [zrTree21, h, RB, TB, keep156, tab156, xindexAddr, xindex, xslice, xconvert, xlen, ewOp, FreeW, StabW, SameW, ChangeW, AddW, BaseW, limBytes, simprocAttr, ne_eq] | ((with_reducible refine Need.intro ?_ ?_); (first | trivial | exact ⟨_, rfl⟩ | exact ⟨[], (List.append_nil _).symm⟩ | omega | (simp; done) | (simp; omega) | exact ⟨by first | trivial | (simp; done), _, by first | rfl | (simp; rfl)⟩))))
      rw [wrapI (by omega)]
      refine UpTo.here ⟨(i + 1, y3), ⟨hlt, ?_⟩, by simp only; omega, by simp [upd, eset], ⟨_, rfl⟩⟩
      rw [visL_succ hlt]
      simpa using hy3
    · have hi' : i = l.length := by
        have : ¬ ((i : Int) < l.length) := by simpa using h
        omega
      subst hi'
      rw [List.take_length] at hy
      (repeat (first | simp -dsimp only [zrTree21, h, RB, TB, keep156, tab156, xindexAddr, xindex, xslice, xconvert, xlen, ewOp, FreeW, StabW, SameW, ChangeW, AddW, BaseW, limBytes, simprocAttr, ne_eq] | ((with_reducible refine Need.intro ?_ ?_); (first | trivial | exact ⟨_, rfl⟩ | exact ⟨[], (List.append_nil _).symm⟩ | omega | (simp; done) | (simp; omega) | exact ⟨by first | trivial | (simp; done), _, by first | rfl | (simp; rfl)⟩))))
      refine RetW.keep false ?_ ?_ ?_ ?_
      · rw [e1]; exact Nat.le_refl _
      · exact hH1
      · trivial
      exact ⟨rfl, y, hy, rfl⟩
theorem tWalk (H : List Ob) (l : List Tree) : SCall Try.prog 97 [.slice (l.map treeV)] H (fun r H' => r = .fn (.func 155) [] [.ref H.length 0] ∧ H' = H ++ [.var [.slice (l.map treeV)]]) := by
  refine SCall.of_good fun hH => ?_
  have hHk := HLt.add hH
  refine SCall.of_code Tok Try.func97 rfl Try.call97 (n := 4) rfl (by simp) (rs := [.tmp 2]) rfl ?_
  refine EWn.to ?_
  refine EWn.of_c Tok mixed (own := false) keep97 tab97 (by kernel_rfl) ?_
  (repeat (first | simp -dsimp only [zrTree21, RB, TB, keep97, tab97, xindexAddr, xindex, xslice, xconvert, xlen, ewOp, FreeW, StabW, SameW, ChangeW, AddW, BaseW, limBytes, simprocAttr, ne_eq] | ((with_reducible refine Need.intro ?_ ?_); (first | trivial | exact ⟨_, rfl⟩ | exact ⟨[], (List.append_nil _).symm⟩ | omega | (simp; done) | (simp; omega) | exact ⟨by first | trivial | (simp; done), _, by first | rfl | (simp; rfl)⟩))))
  refine RetW.auto false [.var [.slice (l.map treeV)]] _ (by first | rfl | simp) ?_ ?_ ?_
  · (simp (maxDischargeDepth := 6) [LTB, HLt_set, ltL_take, ltL_drop, ltL_rep, ltL_set, upd, eset, hH, hHk, zlTree21] <;> omega)
  · (simp (maxDischargeDepth := 6) [LTB, HLt_set, ltL_take, ltL_drop, ltL_rep, ltL_set, upd, eset, hH, hHk, zlTree21] <;> omega)
  (try simp only [wk, wk1, wk0, RB, limBytes, simprocAttr, ne_eq])
  (try (rw [List.take_of_length_le]; rotate_left 1; (· first | (simp; done) | (simp; omega) | omega)))
/-- all that a range over a walk goes through -/
def visA (l : List Tree) : List (Tree × Int) := visL (mergeT l) 1
theorem tWalk1 {ι : Type} (hs : ι → List Ob) (ok : List (Tree × Int) → ι → Prop) (k0 : Nat) (hl : ∀ pre x, ok pre x → (hs x).length = k0 ∧ HLt k0 (hs x)) (lo : Nat) (l : List Tree) (c : Nat) (x : ι) (R : List Ob) (hsz : szTs l ≤ 100000000) (h0 : ok [] x) (hc : (hs x)[c]? = some (.var [.slice (l.map treeV)]))
    (hY : ∀ pre a post x L, visA l = pre ++ a :: post → ok pre x → YSCall Try.prog lo (encT a) (hs x ++ (R ++ L)) (fun r H' => r = .bool true ∧ ∃ x', ok (pre ++ [a]) x' ∧ H' = hs x' ++ (R ++ L))) :
    SCall Try.prog 155 [.fn (.yield lo) [] [], .ref c 0] (hs x ++ R) (fun r H' => ∃ x', ok (visA l) x' ∧ H' = hs x' ++ R) := by
  have hms := merge_sz l
  refine SCall.of_good fun hH0 => ?_
  obtain ⟨hh, hhe⟩ : ∃ hh : ι → List Ob, ∀ y, hh y = hs y ++ R := ⟨_, fun _ => rfl⟩
  have hcc : (hh x)[c]? = some (.var [.slice (l.map treeV)]) := by rw [hhe, List.getElem?_append_left (List.getElem?_eq_some_iff.1 hc).1]; exact hc
  have hHx : ∀ pre x', ok pre x' → (hh x').length = (hh x).length ∧ HLt (hh x).length (hh x') := fun pre x' h => by
    rw [hhe, hhe]
    rw [HLt_append] at hH0 ⊢
    refine ⟨by rw [List.length_append, List.length_append, (hl _ _ h).1, (hl _ _ h0).1], (hl _ _ h).2.le (by rw [List.length_append, (hl _ _ h0).1]; omega), hH0.2⟩
  have hV : ∀ M, SCall Try.prog 156 [.slice ((mergeT l).map treeV), .int .i64 1, .fn (.yield lo) [] []] (hh x ++ M) (fun r H' => r = .bool true ∧ ∃ x', ok (visA l) x' ∧ H' = hh x' ++ M) := fun M => by
    rw [hhe]
    refine SCall.mono (tVisit (fun x => hs x ++ R) ok (hh x).length (fun pre x' h => by have := hHx pre x' h; rw [hhe] at this; exact this) lo (visA l) (fun pre a post y L h1 h2 => ?_) (szTs (mergeT l)) (mergeT l) 1 [] [] x M (Nat.le_refl _) (by omega) (by omega) (by simp [visA]) h0) fun r H' ⟨k1, x', k2, k3⟩ => ⟨k1, x', k2, by rw [k3, hhe]⟩
    rw [List.append_assoc]
    exact ysMono (hY pre a post y L h1 h2) fun r H' ⟨k1, x', k2, k3⟩ => ⟨k1, x', k2, by rw [k3, List.append_assoc]⟩
  have hfin : SCall Try.prog 155 [.fn (.yield lo) [] [], .ref c 0] (hh x) (fun r H' => ∃ x', ok (visA l) x' ∧ H' = hh x') → SCall Try.prog 155 [.fn (.yield lo) [] [], .ref c 0] (hs x ++ R) (fun r H' => ∃ x', ok (visA l) x' ∧ H' = hs x' ++ R) := fun h => by
    rw [← hhe]
    exact h.mono fun r H' ⟨x', k2, k3⟩ => ⟨x', k2, by rw [k3, hhe]⟩
  refine hfin ?_
  clear hfin
  have hclt := lt_of_get hcc
  refine SCall.of_good fun hH => ?_
  have hHk := HLt.add hH
  refine SCall.of_code Tok Try.func155 rfl Try.call155 (n := 7) rfl (by simp) (rs := []) rfl ?_
  refine EWn.to ?_
  refine EWn.of_c Tok mixed (own := false) keep155 tab155 (by kernel_rfl) ?_
  (repeat (first | simp -dsimp only [zrTree21, hcc, RB, TB, keep155, tab155, xindexAddr, xindex, xslice, xconvert, xlen, ewOp, FreeW, StabW, SameW, ChangeW, AddW, BaseW, limBytes, simprocAttr, ne_eq] | ((with_reducible refine Need.intro ?_ ?_); (first | trivial | exact ⟨_, rfl⟩ | exact ⟨[], (List.append_nil _).symm⟩ | omega | (simp; done) | (simp; omega) | exact ⟨by first | trivial | (simp; done), _, by first | rfl | (simp; rfl)⟩))))
  (first | refine SCall.then (tMerge _ l (Nat.le_refl _) hsz _) ?_ | refine SCall.thenA (tMerge _ l (Nat.le_refl _) hsz _) (by repeat (first | exact trivial | exact .inl (.inl rfl) | exact .inl (.inr ⟨_, rfl, rfl⟩) | exact .inl rfl | exact .inr ⟨_, rfl, rfl⟩ | refine .inr ⟨_, _, rfl, rfl, ?_⟩ | refine ⟨?_, ?_⟩)) ?_ | refine CallE.intro _ (tMerge _ l (Nat.le_refl _) hsz _) ?_ | refine CallE.introA (tMerge _ l (Nat.le_refl _) hsz _) (by repeat (first | exact trivial | exact .inl (.inl rfl) | exact .inl (.inr ⟨_, rfl, rfl⟩) | exact .inl rfl | exact .inr ⟨_, rfl, rfl⟩ | refine .inr ⟨_, _, rfl, rfl, ?_⟩ | refine ⟨?_, ?_⟩)) ?_ | refine CallE.intro _ (fun _ => tMerge _ l (Nat.le_refl _) hsz _) ?_ | refine CallE.intro _ (fun _ => SCall.arg (by repeat (first | exact trivial | exact .inl (.inl rfl) | exact .inl (.inr ⟨_, rfl, rfl⟩) | exact .inl rfl | exact .inr ⟨_, rfl, rfl⟩ | refine .inr ⟨_, _, rfl, rfl, ?_⟩ | refine ⟨?_, ?_⟩)) (tMerge _ l (Nat.le_refl _) hsz _)) ?_ | refine CallE2.intro _ _ (tMerge _ l (Nat.le_refl _) hsz _) ?_ | refine CallE2.intro _ _ (SCall.arg (by repeat (first | exact trivial | exact .inl (.inl rfl) | exact .inl (.inr ⟨_, rfl, rfl⟩) | exact .inl rfl | exact .inr ⟨_, rfl, rfl⟩ | refine .inr ⟨_, _, rfl, rfl, ?_⟩ | refine ⟨?_, ?_⟩)) (tMerge _ l (Nat.le_refl _) hsz _)) ?_)
  (repeat (first | simp -dsimp only [zrTree21, RB, TB, keep155, tab155, xindexAddr, xindex, xslice, xconvert, xlen, ewOp, FreeW, StabW, SameW, ChangeW, AddW, BaseW, limBytes, simprocAttr, ne_eq] | ((with_reducible refine Need.intro ?_ ?_); (first | trivial | exact ⟨_, rfl⟩ | exact ⟨[], (List.append_nil _).symm⟩ | omega | (simp; done) | (simp; omega) | exact ⟨by first | trivial | (simp; done), _, by first | rfl | (simp; rfl)⟩))))
  have hV0 := hV []
  rw [List.append_nil] at hV0
  refine SCall.mono hV0 ?_
  rintro _ _ ⟨rfl, y, hy, rfl⟩
  obtain ⟨e1, hH1⟩ := hHx _ _ hy
  rw [← e1] at hH1
  rw [List.append_nil]
  (repeat (first | simp -dsimp only [zrTree21, RB, TB, keep155, tab155, xindexAddr, xindex, xslice, xconvert, xlen, ewOp, FreeW, StabW, SameW, ChangeW, AddW, BaseW, limBytes, simprocAttr, ne_eq] | ((with_reducible refine Need.intro ?_ ?_); (first | trivial | exact ⟨_, rfl⟩ | exact ⟨[], (List.append_nil _).symm⟩ | omega | (simp; done) | (simp; omega) | exact ⟨by first | trivial | (simp; done), _, by first | rfl | (simp; rfl)⟩))))
  refine RetW.keep false ?_ ?_ ?_ ?_
  · rw [e1]; exact Nat.le_refl _
  · exact hH1
  · intro x hx; cases hx
  exact ⟨y, hy, rfl⟩
/-- A CALL OF A FUNCTION THAT RANGES OVER A WALK. -/
theorem ofWalk {f : FuncId} {fn : Func} {c : Code} {args : List V} {H : List Ob} {R : V → List Ob → Prop} (hf : Try.prog.funcs[f]? = some fn) (hb : fn.body = some c) (hcall : ∀ args w, (callFunc f args).run Try.prog w = .ok (.enter f args) w)
    {n : Nat} (hn : fn.ntmps = n) (hargs : args.length ≤ n) {rs : List ResultVar} (hrs : fn.results = rs.toArray)
    (k : List Unit) {c1 ch post assign body : Code} {bid : Nat} {tg : Operand} {ps : Array Tmp} (hh : headC k c = c1) (ht : tailC k c = .seq (.seq ch (.block bid (.rangeFunc tg ps assign body))) post) (hl : longC k c = true)
    (keep : Nat → List Nat) (tab : Nat → List Nat × List Nat) (hok : okC n tab c1 = true) (hok2 : okC n tab ch = true)
    {env : Env} {cc : Nat} (l : List Tree) (hsz : szTs l ≤ 100000000) {ι : Type} (hs : ι → List Ob) (ok : List (Tree × Int) → ι → Prop) (x0 : ι) (eM : Tree × Int → Nat → Env) (M : Tree × Int → Nat → List Ob)
    (hhead : ewC Try.prog T false H.length n keep tab c1 (thenE (ewC Try.prog T false H.length n keep tab ch (thenE (UpTo H.length fun e h => e = env ∧ h = hs x0) (fun _ _ _ => False))) (fun _ _ _ => False)) (argEnv 0 args) H)
    (hg : evl env tg = .fn (.func 155) [] [.ref cc 0]) (hc : (hs x0)[cc]? = some (.var [.slice (l.map treeV)]))
    (h0 : ok [] x0) (hlen : ∀ x, (hs x).length = (hs x0).length) (hlt : ∀ pre x, ok pre x → HLt (hs x0).length (hs x)) (hp2 : ps.size = 2) (hps : ∀ t ∈ ps.toList, t < n) (hkn : ∀ p ∈ env, p.1 < n)
    (hassign : ∀ pre a post x R, visA l = pre ++ a :: post → ok pre x → EWn Try.prog (hs x ++ R).length n assign (thenE (fun e h => e = eM a (hs x ++ R).length ∧ h = hs x ++ R ++ M a (hs x ++ R).length) (fun _ _ _ => False)) (updP env (ps.toList.zip (encT a))) (hs x ++ R))
    (hbody : ∀ pre a post x R, visA l = pre ++ a :: post → ok pre x → HLt (hs x ++ R).length (hs x ++ R) → EWn Try.prog (hs x ++ R).length n body (fun e => UpTo (hs x ++ R).length (fun _ h => e = .normal ∧ ∃ x', ok (pre ++ [a]) x' ∧ h = hs x' ++ R)) (eM a (hs x ++ R).length) (hs x ++ R ++ M a (hs x ++ R).length))
    (hpost : ∀ D l' y vs cs x', ok (visA l) x' → EWn Try.prog H.length n post (RetD T rs H (hs x0).length D R) env (hs x' ++ [.raw D dfr [] [], .raw l' y vs cs])) : SCall Try.prog f args H R :=
  SCall.of_range Tok mixed hf hb hcall hn hargs hrs k hh ht hl keep tab hok hok2 (visA l) encT hs ok x0 eM M hhead Try.call155 hg h0 hlen (fun a => by simp [encT, hp2]) hps hkn
    (fun lo R hY => (tWalk1 hs ok (hs x0).length (fun pre x h => ⟨hlen x, hlt pre x h⟩) lo l cc x0 R hsz h0 hc (fun pre a post x L h1 h2 => hY pre a post x L h1 h2)))
    hassign hbody hpost
theorem updP_two (env : Env) (p q : Nat) (a : Tree × Int) : updP env (#[p, q].toList.zip (encT a)) = eset (eset env p (treeV a.1)) q (.int .i64 a.2) := rfl
section
variable {H R M : List Ob} {a b : Ob}
theorem hgetR : (H ++ a :: b :: (R ++ M))[H.length + (R.length + 2)]? = M[0]? := by
  have e : H ++ a :: b :: (R ++ M) = (H ++ a :: b :: R) ++ M := by simp
  rw [e, show H.length + (R.length + 2) = (H ++ a :: b :: R).length from by simp, hget0]
theorem hsetR {x : Ob} : (H ++ a :: b :: (R ++ M)).set (H.length + (R.length + 2)) x = H ++ a :: b :: (R ++ M.set 0 x) := by
  have e : H ++ a :: b :: (R ++ M) = (H ++ a :: b :: R) ++ M := by simp
  rw [e, show H.length + (R.length + 2) = (H ++ a :: b :: R).length from by simp, hset0]
  simp
end
theorem dropR {n0 : Nat} {Q : Env → List Ob → Prop} {env : Env} (Hx : List Ob) {H L : List Ob} (he : H = Hx ++ L) (h0 : n0 ≤ Hx.length) (hH : HLt Hx.length Hx) (k : UpTo n0 Q [] Hx) : UpTo n0 Q env H := by
  subst he
  exact UpTo.step (Gho.restr []) (UpTo.step (drop_rest h0 hH (by simp [restr])) k)
theorem hltR {H R A : List Ob} (A' : List Ob) (h : HLt (H ++ A ++ R).length (H ++ A ++ R)) (hl : A'.length = A.length) (hA : HLt (H.length + A.length + R.length) A') : HLt (H ++ (A' ++ R)).length (H ++ (A' ++ R)) := by
  have e : (H ++ (A' ++ R)).length = (H ++ A ++ R).length := by simp [hl]
  have e2 : (H ++ A ++ R).length = H.length + A.length + R.length := by simp; omega
  rw [e]
  simp only [HLt_append] at h ⊢
  refine ⟨h.1.1, ?_, h.2⟩
  rw [e2]; exact hA
end Go.Proofs.Ytjplgbalpnlanaa

/- slices.Backward of ints; a range over it. -/
import Derived.Test.YtjplgbalpnlanaaShot1
set_option maxHeartbeats 600000
set_option linter.unusedSimpArgs false
set_option linter.unusedVariables false
set_option maxRecDepth 100000
namespace Go.Proofs.Ytjplgbalpnlanaa
open Go Go.EL
theorem zrRoute21 : type_of% (And.intro (And.intro (And.intro (And.intro (@st_run) (And.intro (@sz_run) (@st1_run))) (And.intro (@cl_run) (And.intro (@st_Str) (@sz_Str)))) (And.intro (And.intro (@st1_Str) (And.intro (@cl_Str) (@st_c))) (And.intro (@sz_c) (And.intro (@st1_c) (@cl_c))))) (And.intro (And.intro (And.intro (@st_attr) (And.intro (@sz_attr) (@st1_attr))) (And.intro (@cl_attr) (And.intro (@st_hook) (@sz_hook)))) (And.intro (And.intro (@st1_hook) (And.intro (@cl_hook) (@st_node))) (And.intro (@sz_node) (And.intro (@st1_node) (@cl_node)))))) := And.intro (And.intro (And.intro (And.intro (@st_run) (And.intro (@sz_run) (@st1_run))) (And.intro (@cl_run) (And.intro (@st_Str) (@sz_Str)))) (And.intro (And.intro (@st1_Str) (And.intro (@cl_Str) (@st_c))) (And.intro (@sz_c) (And.intro (@st1_c) (@cl_c))))) (And.intro (And.intro (And.intro (@st_attr) (And.intro (@sz_attr) (@st1_attr))) (And.intro (@cl_attr) (And.intro (@st_hook) (@sz_hook)))) (And.intro (And.intro (@st1_hook) (And.intro (@cl_hook) (@st_node))) (And.intro (@sz_node) (And.intro (@st1_node) (@cl_node)))))
theorem zlRoute21 : type_of% (And.intro (And.intro (And.intro (And.intro (@lt_vi) (@lt_str)) (And.intro (@lt_vb) (And.intro (@ltc_str) (@ltc_vi)))) (And.intro (And.intro (@lt_run) (And.intro (@lt1_run) (@ltc_run))) (And.intro (@lt_Str) (And.intro (@lt1_Str) (@ltc_Str))))) (And.intro (And.intro (And.intro (@lt_c) (And.intro (@lt1_c) (@ltc_c))) (And.intro (@lt_attr) (And.intro (@lt1_attr) (@ltc_attr)))) (And.intro (And.intro (@lt_hook) (And.intro (@lt1_hook) (@ltc_hook))) (And.intro (@lt_node) (And.intro (@lt1_node) (@ltc_node)))))) := And.intro (And.intro (And.intro (And.intro (@lt_vi) (@lt_str)) (And.intro (@lt_vb) (And.intro (@ltc_str) (@ltc_vi)))) (And.intro (And.intro (@lt_run) (And.intro (@lt1_run) (@ltc_run))) (And.intro (@lt_Str) (And.intro (@lt1_Str) (@ltc_Str))))) (And.intro (And.intro (And.intro (@lt_c) (And.intro (@lt1_c) (@ltc_c))) (And.intro (@lt_attr) (And.intro (@lt1_attr) (@ltc_attr)))) (And.intro (And.intro (@lt_hook) (And.intro (@lt1_hook) (@ltc_hook))) (And.intro (@lt_node) (And.intro (@lt1_node) (@ltc_node)))))
theorem ysMonoB {P : Program} {l : Nat} {args : List V} {H : List Ob} {R R' : V → List Ob → Prop} (h : YSCall P l args H R) (hr : ∀ r H', R r H' → R' r H') : YSCall P l args H R' := by
  intro g w cargs hG ha
  obtain ⟨l', fn, tmps, body, h1, h2⟩ := h g w cargs hG ha
  exact ⟨l', fn, tmps, body, h1, h2.mono fun e w' ⟨v, he, r, H', g', k1, k2, k3, k4⟩ => ⟨v, he, r, H', g', k1, k2, k3, hr _ _ k4⟩⟩
theorem back (H : List Ob) (l : List Int) : SCall Try.prog 126 [.slice (l.map vi)] H (fun r H' => r = .fn (.func 164) [] [.ref H.length 0] ∧ H' = H ++ [.var [.slice (l.map vi)]]) := by
  refine SCall.of_good fun hH => ?_
  have hHk := HLt.add hH
  refine SCall.of_code Tok Try.func126 rfl Try.call126 (n := 4) rfl (by simp) (rs := [.tmp 2]) rfl ?_
  refine EWn.to ?_
  refine EWn.of_c Tok mixed (own := false) keep126 tab126 (by kernel_rfl) ?_
  (repeat (first | simp -dsimp only [zrRoute21, xnils, xnilm, xrange, xmakeMap, xslice3, RB, TB, keep126, tab126, xindexAddr, xindex, xslice, xconvert, xlen, ewOp, FreeW, StabW, SameW, ChangeW, AddW, BaseW, limBytes, simprocAttr, ne_eq] | ((with_reducible refine Need.intro ?_ ?_); (first | trivial | exact ⟨_, rfl⟩ | exact ⟨[], (List.append_nil _).symm⟩ | omega | (simp; done) | (simp; omega) | exact ⟨by first | trivial | (simp; done), _, by first | rfl | (simp; rfl)⟩))))
  refine RetW.auto false [.var [.slice (l.map vi)]] _ (by first | rfl | simp) ?_ ?_ ?_
  · (simp (maxDischargeDepth := 6) [LTB, HLt_set, ltL_take, ltL_drop, ltL_rep, ltL_set, upd, eset, hH, hHk, zlRoute21] <;> omega)
  · (simp (maxDischargeDepth := 6) [LTB, HLt_set, ltL_take, ltL_drop, ltL_rep, ltL_set, upd, eset, hH, hHk, zlRoute21] <;> omega)
  (try simp only [wk, wk1, wk0, RB, limBytes, simprocAttr, ne_eq])
  (try (rw [List.take_of_length_le]; rotate_left 1; (· first | (simp; done) | (simp; omega) | omega)))
/-- a place and what stands there, from the end -/
def visB (l : List Int) : List (Nat × Int) := l.zipIdx.reverse.map fun p => (p.2, p.1)
def encB (a : Nat × Int) : List V := [.int .i64 a.1, .int .i64 a.2]
theorem visB_len (l : List Int) : (visB l).length = l.length := by simp [visB]
theorem visB_get (l : List Int) (k : Nat) (hk : k < l.length) : (visB l)[k]? = some (l.length - 1 - k, l[l.length - 1 - k]'(by omega)) := by
  unfold visB
  rw [List.getElem?_map, List.getElem?_reverse (by simpa using hk)]
  simp only [List.length_zipIdx]
  rw [List.getElem?_eq_getElem (by simp; omega)]
  simp
theorem back1 {ι : Type} (hs : ι → List Ob) (ok : List (Nat × Int) → ι → Prop) (k0 : Nat) (hl : ∀ pre x, ok pre x → (hs x).length = k0 ∧ HLt k0 (hs x)) (lo : Nat) (l : List Int) (c : Nat) (x : ι) (R : List Ob) (hsz : l.length ≤ 1000000) (h0 : ok [] x) (hc : ∀ pre y, ok pre y → (hs y)[c]? = some (.var [.slice (l.map vi)]))
    (hY : ∀ pre a post x L, visB l = pre ++ a :: post → ok pre x → YSCall Try.prog lo (encB a) (hs x ++ (R ++ L)) (fun r H' => r = .bool true ∧ ∃ x', ok (pre ++ [a]) x' ∧ H' = hs x' ++ (R ++ L))) :
    SCall Try.prog 164 [.fn (.yield lo) [] [], .ref c 0] (hs x ++ R) (fun r H' => ∃ x', ok (visB l) x' ∧ H' = hs x' ++ R) := by
  refine SCall.of_good fun hH0 => ?_
  obtain ⟨hh, hhe⟩ : ∃ hh : ι → List Ob, ∀ y, hh y = hs y ++ R := ⟨_, fun _ => rfl⟩
  have hcc : ∀ pre y, ok pre y → ∀ K, (hh y ++ K)[c]? = some (.var [.slice (l.map vi)]) := fun pre y h K => by rw [hhe]; exact get_appD (get_appD (hc pre y h))
  have hcc0 : ∀ pre y, ok pre y → (hh y)[c]? = some (.var [.slice (l.map vi)]) := fun pre y h => by rw [hhe]; exact get_appD (hc pre y h)
  have hln : ∀ pre x', ok pre x' → (hh x').length = (hh x).length := fun pre x' h => by rw [hhe, hhe, List.length_append, List.length_append, (hl _ _ h).1, (hl _ _ h0).1]
  have hHx : ∀ pre x', ok pre x' → HLt (hh x).length (hh x') := fun pre x' h => by
    rw [hhe, hhe]
    rw [HLt_append] at hH0 ⊢
    exact ⟨(hl _ _ h).2.le (by rw [List.length_append, (hl _ _ h0).1]; omega), hH0.2⟩
  have hYh : ∀ pre a post x M, visB l = pre ++ a :: post → ok pre x → YSCall Try.prog lo (encB a) (hh x ++ M) (fun r H' => r = .bool true ∧ ∃ x', ok (pre ++ [a]) x' ∧ H' = hh x' ++ M) := fun pre a post x M h1 h2 => by
    rw [hhe, List.append_assoc]
    exact ysMonoB (hY pre a post x M h1 h2) fun r H' ⟨k1, x', k2, k3⟩ => ⟨k1, x', k2, by rw [k3, hhe, List.append_assoc]⟩
  have hfin : SCall Try.prog 164 [.fn (.yield lo) [] [], .ref c 0] (hh x) (fun r H' => ∃ x', ok (visB l) x' ∧ H' = hh x') → SCall Try.prog 164 [.fn (.yield lo) [] [], .ref c 0] (hs x ++ R) (fun r H' => ∃ x', ok (visB l) x' ∧ H' = hs x' ++ R) := fun h => by
    rw [← hhe]
    exact h.mono fun r H' ⟨x', k2, k3⟩ => ⟨x', k2, by rw [k3, hhe]⟩
  refine hfin ?_
  clear hfin
  have hclt := lt_of_get (hcc0 _ _ h0)
  have w0 : IntKind.i64.wrap ((l.length : Int) - 1) = (l.length : Int) - 1 := wrapI (by omega)
  have hx0 := hcc0 _ _ h0
  have hvl := visB_len l
  refine SCall.of_good fun hH => ?_
  have hHk := HLt.add hH
  refine SCall.of_code Tok Try.func164 rfl Try.call164 (n := 19) rfl (by simp) (rs := []) rfl ?_
  refine EWn.to ?_
  refine EWn.of_c Tok mixed (own := false) keep164 tab164 (by kernel_rfl) ?_
  (repeat (first | simp -dsimp only [zrRoute21, xnils, xnilm, xrange, xmakeMap, xslice3, hx0, w0, RB, TB, keep164, tab164, xindexAddr, xindex, xslice, xconvert, xlen, ewOp, FreeW, StabW, SameW, ChangeW, AddW, BaseW, limBytes, simprocAttr, ne_eq] | ((with_reducible refine Need.intro ?_ ?_); (first | trivial | exact ⟨_, rfl⟩ | exact ⟨[], (List.append_nil _).symm⟩ | omega | (simp; done) | (simp; omega) | exact ⟨by first | trivial | (simp; done), _, by first | rfl | (simp; rfl)⟩))))
  refine EWn.loopE (ι := (Nat) × (ι)) (fun (x_ : (Nat) × (ι)) => match x_ with | (i, y) => i ≤ l.length ∧ ok ((visB l).take i) y) (fun (x_ : (Nat) × (ι)) => match x_ with | (i, y) => l.length - i) (fun (x_ : (Nat) × (ι)) => match x_ with | (i, y) => [(3, .int .i64 ((l.length : Int) - 1 - i))]) (fun (x_ : (Nat) × (ι)) => match x_ with | (i, y) => hh y) (0, x) ?_ ?_ ?_ ?_ ?_
  · first | rfl | simp [upd, eset]
  · first | rfl | (simp; done) | exact (set_same (by assumption)).symm
  · rintro ⟨i, y⟩ ⟨h1, h2⟩
    have e1 := hln _ _ h2
    have hH1 := hHx _ _ h2
    simp only
    rw [e1]
    refine ⟨Nat.le_refl _, hH1, ?_⟩
    (simp (maxDischargeDepth := 6) [LTB, HLt_set, ltL_take, ltL_drop, ltL_rep, ltL_set, upd, eset, hH, hHk, hclt, zlRoute21] <;> omega)
  · exact ⟨Nat.zero_le _, by simpa using h0⟩
  rintro ⟨i, y⟩ ⟨hi, hy⟩
  (try simp only at hi hy)
  have e1 := hln _ _ hy
  have hH1 := hHx _ _ hy
  rw [← e1] at hH1
  have hgy := hcc0 _ _ hy
  refine EWn.of_c Tok mixed (own := false) keep164 tab164 (by kernel_rfl) ?_
  (repeat (first | simp -dsimp only [zrRoute21, xnils, xnilm, xrange, xmakeMap, xslice3, hgy, RB, TB, keep164, tab164, xindexAddr, xindex, xslice, xconvert, xlen, ewOp, FreeW, StabW, SameW, ChangeW, AddW, BaseW, limBytes, simprocAttr, ne_eq] | ((with_reducible refine Need.intro ?_ ?_); (first | trivial | exact ⟨_, rfl⟩ | exact ⟨[], (List.append_nil _).symm⟩ | omega | (simp; done) | (simp; omega) | exact ⟨by first | trivial | (simp; done), _, by first | rfl | (simp; rfl)⟩))))
  refine IfW.intro (fun h => ?_) (fun h => ?_)
  · have hlt : i < l.length := by
      have : (0 : Int) ≤ (l.length : Int) - 1 - i := by simpa using h
      omega
    have hg := visB_get l i hlt
    have hvi : i < (visB l).length := by omega
    have hge : (visB l)[i] = (l.length - 1 - i, l[l.length - 1 - i]'(by omega)) := by
      rw [List.getElem?_eq_getElem hvi] at hg; exact Option.some.inj hg
    have hsp : visB l = (visB l).take i ++ (l.length - 1 - i, l[l.length - 1 - i]'(by omega)) :: (visB l).drop (i + 1) := by
      rw [← hge]; simp
    have hmi := at_map vi l (l.length - 1 - i) (by omega)
    simp only [vi] at hmi
    have hj : ((l.length : Int) - 1 - i).toNat = l.length - 1 - i := by omega
    have hj2 : ((l.length : Int) - 1 - i) = ((l.length - 1 - i : Nat) : Int) := by omega
    have hyk := hYh _ _ _ y [] hsp hy
    simp only [encB, List.append_nil] at hyk
    (repeat (first | simp -dsimp only [zrRoute21, xnils, xnilm, xrange, xmakeMap, xslice3, h, hgy, hmi, hj, RB, TB, keep164, tab164, xindexAddr, xindex, xslice, xconvert, xlen, ewOp, FreeW, StabW, SameW, ChangeW, AddW, BaseW, limBytes, simprocAttr, ne_eq] | ((with_reducible refine Need.intro ?_ ?_); (first | trivial | exact ⟨_, rfl⟩ | exact ⟨[], (List.append_nil _).symm⟩ | omega | (simp; done) | (simp; omega) | exact ⟨by first | trivial | (simp; done), _, by first | rfl | (simp; rfl)⟩))))
    rw [hj2]
    refine ysMonoB hyk ?_
    rintro _ _ ⟨rfl, y2, hy2, rfl⟩
    have w1 : IntKind.i64.wrap (((l.length - 1 - i : Nat) : Int) - 1) = (l.length : Int) - 1 - ((i + 1 : Nat) : Int) := by rw [wrapI (by omega)]; omega
    (repeat (first | simp -dsimp only [zrRoute21, xnils, xnilm, xrange, xmakeMap, xslice3, h, w1, RB, TB, keep164, tab164, xindexAddr, xindex, xslice, xconvert, xlen, ewOp, FreeW, StabW, SameW, ChangeW, AddW, BaseW, limBytes, simprocAttr, ne_eq] | ((with_reducible refine Need.intro ?_ ?_); (first | trivial | exact ⟨_, rfl⟩ | exact ⟨[], (List.append_nil _).symm⟩ | omega | (simp; done) | (simp; omega) | exact ⟨by first | trivial | (simp; done), _, by first | rfl | (simp; rfl)⟩))))
    refine UpTo.here ⟨(i + 1, y2), ⟨hlt, ?_⟩, by simp only; omega, by simp [upd, eset], ⟨[], by simp⟩⟩
    rw [List.take_succ_eq_append_getElem hvi, hge]
    exact hy2
  · have hie : i = l.length := by
      have : ¬ (0 : Int) ≤ (l.length : Int) - 1 - i := by simpa using h
      omega
    rw [show l.length = (visB l).length from hvl.symm] at hie
    subst hie
    rw [List.take_length] at hy
    (repeat (first | simp -dsimp only [zrRoute21, xnils, xnilm, xrange, xmakeMap, xslice3, h, RB, TB, keep164, tab164, xindexAddr, xindex, xslice, xconvert, xlen, ewOp, FreeW, StabW, SameW, ChangeW, AddW, BaseW, limBytes, simprocAttr, ne_eq] | ((with_reducible refine Need.intro ?_ ?_); (first | trivial | exact ⟨_, rfl⟩ | exact ⟨[], (List.append_nil _).symm⟩ | omega | (simp; done) | (simp; omega) | exact ⟨by first | trivial | (simp; done), _, by first | rfl | (simp; rfl)⟩))))
    refine RetW.keep false ?_ ?_ ?_ ?_
    · rw [e1]; exact Nat.le_refl _
    · exact hH1
    · intro x hx; cases hx
    exact ⟨y, hy, rfl⟩
/-- A CALL OF A FUNCTION THAT RANGES OVER A LIST FROM ITS END. -/
theorem ofBack {f : FuncId} {fn : Func} {c : Code} {args : List V} {H : List Ob} {R : V → List Ob → Prop} (hf : Try.prog.funcs[f]? = some fn) (hb : fn.body = some c) (hcall : ∀ args w, (callFunc f args).run Try.prog w = .ok (.enter f args) w)
    {n : Nat} (hn : fn.ntmps = n) (hargs : args.length ≤ n) {rs : List ResultVar} (hrs : fn.results = rs.toArray)
    (k : List Unit) {c1 ch post assign body : Code} {bid : Nat} {tg : Operand} {ps : Array Tmp} (hh : headC k c = c1) (ht : tailC k c = .seq (.seq ch (.block bid (.rangeFunc tg ps assign body))) post) (hl : longC k c = true)
    (keep : Nat → List Nat) (tab : Nat → List Nat × List Nat) (hok : okC n tab c1 = true) (hok2 : okC n tab ch = true)
    {env : Env} {cc : Nat} (l : List Int) (hsz : l.length ≤ 1000000) {ι : Type} (hs : ι → List Ob) (ok : List (Nat × Int) → ι → Prop) (x0 : ι) (eM : Nat × Int → Nat → Env) (M : Nat × Int → Nat → List Ob)
    (hhead : ewC Try.prog T false H.length n keep tab c1 (thenE (ewC Try.prog T false H.length n keep tab ch (thenE (UpTo H.length fun e h => e = env ∧ h = hs x0) (fun _ _ _ => False))) (fun _ _ _ => False)) (argEnv 0 args) H)
    (hg : evl env tg = .fn (.func 164) [] [.ref cc 0]) (hc : ∀ x, (hs x)[cc]? = some (.var [.slice (l.map vi)]))
    (h0 : ok [] x0) (hlen : ∀ x, (hs x).length = (hs x0).length) (hlt : ∀ pre x, ok pre x → HLt (hs x0).length (hs x)) (hp2 : ps.size = 2) (hps : ∀ t ∈ ps.toList, t < n) (hkn : ∀ p ∈ env, p.1 < n)
    (hassign : ∀ pre a post x R, visB l = pre ++ a :: post → ok pre x → EWn Try.prog (hs x ++ R).length n assign (thenE (fun e h => e = eM a (hs x ++ R).length ∧ h = hs x ++ R ++ M a (hs x ++ R).length) (fun _ _ _ => False)) (updP env (ps.toList.zip (encB a))) (hs x ++ R))
    (hbody : ∀ pre a post x R, visB l = pre ++ a :: post → ok pre x → HLt (hs x ++ R).length (hs x ++ R) → EWn Try.prog (hs x ++ R).length n body (fun e => UpTo (hs x ++ R).length (fun _ h => e = .normal ∧ ∃ x', ok (pre ++ [a]) x' ∧ h = hs x' ++ R)) (eM a (hs x ++ R).length) (hs x ++ R ++ M a (hs x ++ R).length))
    (hpost : ∀ D l' y vs cs x', ok (visB l) x' → EWn Try.prog H.length n post (RetD T rs H (hs x0).length D R) env (hs x' ++ [.raw D dfr [] [], .raw l' y vs cs])) : SCall Try.prog f args H R :=
  SCall.of_range Tok mixed hf hb hcall hn hargs hrs k hh ht hl keep tab hok hok2 (visB l) encB hs ok x0 eM M hhead Try.call164 hg h0 hlen (fun a => by simp [encB, hp2]) hps hkn
    (fun lo R hY => (back1 hs ok (hs x0).length (fun pre x h => ⟨hlen x, hlt pre x h⟩) lo l cc x0 R hsz h0 (fun pre y _ => hc y) (fun pre a post x L h1 h2 => hY pre a post x L h1 h2)))
    hassign hbody hpost
theorem updP_twoB (env : Env) (p q : Nat) (a : Nat × Int) : updP env (#[p, q].toList.zip (encB a)) = eset (eset env p (.int .i64 a.1)) q (.int .i64 a.2) := rfl
section
variable {H R M : List Ob}
theorem dropRB {n0 : Nat} {Q : Env → List Ob → Prop} {env : Env} (Hx : List Ob) {H L : List Ob} (he : H = Hx ++ L) (h0 : n0 ≤ Hx.length) (hH : HLt Hx.length Hx) (k : UpTo n0 Q [] Hx) : UpTo n0 Q env H := by
  subst he
  exact UpTo.step (Gho.restr []) (UpTo.step (drop_rest h0 hH (by simp [restr])) k)
end
theorem hltRB {H R A : List Ob} (A' : List Ob) (h : HLt (H ++ A ++ R).length (H ++ A ++ R)) (hl : A'.length = A.length) (hA : HLt (H.length + A.length + R.length) A') : HLt (H ++ (A' ++ R)).length (H ++ (A' ++ R)) := by
  have e : (H ++ (A' ++ R)).length = (H ++ A ++ R).length := by simp [hl]
  rw [e]
  rw [HLt_append] at h
  rw [HLt_append] at h
  rw [HLt_append, HLt_append]
  refine ⟨h.1.1, ?_, h.2⟩
  refine hA.le ?_
  simp
  try omega
end Go.Proofs.Ytjplgbalpnlanaa

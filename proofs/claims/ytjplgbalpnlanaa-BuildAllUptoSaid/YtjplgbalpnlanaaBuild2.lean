/- The walks of package build: the stack as one thing; add, pop, find, put. -/
import Derived.Test.YtjplgbalpnlanaaBuild1
set_option maxHeartbeats 600000
set_option linter.unusedSimpArgs false
set_option linter.unusedVariables false
set_option maxRecDepth 100000
namespace Go.EL
open Go
theorem SCall.goodR {P : Program} {f : FuncId} {args : List V} {H : List Ob} {R : V → List Ob → Prop} (h : SCall P f args H R) : SCall P f args H (fun r H' => R r H' ∧ HLt H'.length H') := by
  intro g w cargs hG ha
  exact (h g w cargs hG ha).mono fun v w' ⟨r, H', g', h1, h2, h3, h4⟩ => ⟨r, H', g', h1, h2, h3, h4, fun x hx => by obtain ⟨i, hi⟩ := List.getElem?_of_mem hx; exact h1.lt hi⟩
theorem CvO.rfl' {z : Option (Nat × Nat × List V)} (u : Ob) : CvO z u u := by
  cases u with
  | gone => trivial
  | hole => trivial
  | var cs => exact All2.rfl' (fun _ => .inl (.inl rfl)) _
  | vec v e l => exact ⟨rfl, rfl, All2.rfl' CvA.rfl' _⟩
  | raw _ _ _ _ => exact ⟨rfl, rfl, rfl, rfl⟩
  | map _ _ => exact ⟨rfl, All2.rfl' (fun _ => ⟨rfl, rfl, CvA.rfl' _⟩) _⟩
  | iter _ _ _ _ => exact ⟨rfl, rfl, rfl, rfl⟩
/-- a list of one's own, in a struct that is handed over, is given up -/
theorem SCall.freezeIn {P : Program} (i : Nat) {f : FuncId} {args : List V} {H : List Ob} {R : V → List Ob → Prop} {o ver es : Nat} {l cs cs' : List V} (ho : H[o]? = some (.vec ver es l)) (ha : args[i]? = some (.agg cs)) (hc : All2 (CvB (some (o, ver, l))) cs cs') (h : SCall P f (args.set i (.agg cs')) (H.set o .gone) R) : SCall P f args H R := by
  have hlt := (List.getElem?_eq_some_iff.1 ho).1
  refine SCall.ghost (Gho.conv (some (o, ver, l)) (fun _ _ _ e => by cases e; exact ⟨⟨es, ho⟩, List.getElem?_set_self hlt⟩) (by simp) (fun j x hx hz => ⟨x, ?_, CvO.rfl' x⟩) (argEnv_G (R := CvA (some (o, ver, l))) CvA.rfl' (.inr ⟨cs, cs', rfl, rfl, hc⟩) args i 0 ha)) (by simp) h
  rw [List.getElem?_set_ne (by rintro rfl; simp [isZ] at hz)]
  exact hx
theorem SCall.trunc {P : Program} {f : FuncId} {args : List V} {H : List Ob} {R : V → List Ob → Prop} (o n : Nat) {ver es : Nat} {l : List V} (ho : H[o]? = some (.vec ver es l)) (h : SCall P f args (H.set o (.vec ver es (l.take n))) R) : SCall P f args H R :=
  SCall.ghost (Gho.trunc o n ho) rfl h
end Go.EL
namespace Go.Proofs.Ytjplgbalpnlanaa
open Go Go.EL
theorem zrBuild21 : type_of% (And.intro (And.intro (And.intro (And.intro (@st_run) (@sz_run)) (And.intro (@st1_run) (And.intro (@cl_run) (@st_Str)))) (And.intro (And.intro (@sz_Str) (@st1_Str)) (And.intro (@cl_Str) (And.intro (@st_c) (@sz_c))))) (And.intro (And.intro (And.intro (@st1_c) (@cl_c)) (And.intro (@st_attr) (And.intro (@sz_attr) (@st1_attr)))) (And.intro (And.intro (@cl_attr) (@st_tree)) (And.intro (@sz_tree) (And.intro (@st1_tree) (@cl_tree)))))) := And.intro (And.intro (And.intro (And.intro (@st_run) (@sz_run)) (And.intro (@st1_run) (And.intro (@cl_run) (@st_Str)))) (And.intro (And.intro (@sz_Str) (@st1_Str)) (And.intro (@cl_Str) (And.intro (@st_c) (@sz_c))))) (And.intro (And.intro (And.intro (@st1_c) (@cl_c)) (And.intro (@st_attr) (And.intro (@sz_attr) (@st1_attr)))) (And.intro (And.intro (@cl_attr) (@st_tree)) (And.intro (@sz_tree) (And.intro (@st1_tree) (@cl_tree)))))
theorem zlBuild21 : type_of% (And.intro (And.intro (And.intro (And.intro (@lt_vi) (@lt_str)) (And.intro (@lt_vb) (And.intro (@ltc_str) (@ltc_vi)))) (And.intro (And.intro (@lt_run) (@lt1_run)) (And.intro (@ltc_run) (And.intro (@lt_Str) (@lt1_Str))))) (And.intro (And.intro (And.intro (@ltc_Str) (@lt_c)) (And.intro (@lt1_c) (And.intro (@ltc_c) (@lt_attr)))) (And.intro (And.intro (@lt1_attr) (@ltc_attr)) (And.intro (@lt_tree) (And.intro (@lt1_tree) (@ltc_tree)))))) := And.intro (And.intro (And.intro (And.intro (@lt_vi) (@lt_str)) (And.intro (@lt_vb) (And.intro (@ltc_str) (@ltc_vi)))) (And.intro (And.intro (@lt_run) (@lt1_run)) (And.intro (@ltc_run) (And.intro (@lt_Str) (@lt1_Str))))) (And.intro (And.intro (And.intro (@ltc_Str) (@lt_c)) (And.intro (@lt1_c) (And.intro (@ltc_c) (@lt_attr)))) (And.intro (And.intro (@lt1_attr) (@ltc_attr)) (And.intro (@lt_tree) (And.intro (@lt1_tree) (@ltc_tree)))))
def ownOf (s o : Nat) (ps : List Op) : List Nat := s :: o :: ps.map (fun p => p.2.1)
def StkAt (H : List Ob) (s o ver : Nat) (ps : List Op) : Prop := H[s]? = some (.var [.vec o ver 0 ps.length]) ∧ H[o]? = some (.vec ver 6 (ps.reverse.map opV)) ∧ (∀ p ∈ ps, H[p.2.1]? = some (.vec p.2.2 6 (p.1.kids.map treeV))) ∧ (ownOf s o ps).Nodup
def Stk (H : List Ob) (s : Nat) (st : List Fr) (own : List Nat) : Prop := ∃ o ver ps, own = ownOf s o ps ∧ ps.map (fun p => p.1) = st ∧ StkAt H s o ver ps
def Kept (H : List Ob) (own : List Nat) (H' : List Ob) (own' : List Nat) : Prop := H.length ≤ H'.length ∧ (∀ j, j < H.length → j ∉ own → H'[j]? = H[j]?) ∧ ∀ j ∈ own', j ∈ own ∨ H.length ≤ j
/-- what a step of the stack leaves -/
def After (H : List Ob) (s : Nat) (own : List Nat) (st : List Fr) (H' : List Ob) : Prop := HLt H'.length H' ∧ ∃ own', Stk H' s st own' ∧ Kept H own H' own'
theorem Kept.trans {A B C : List Ob} {a b c : List Nat} (h : Kept A a B b) (k : Kept B b C c) : Kept A a C c := by
  refine ⟨Nat.le_trans h.1 k.1, fun j hj hn => ?_, fun j hj => ?_⟩
  · rw [k.2.1 j (Nat.lt_of_lt_of_le hj h.1) (fun hb => (h.2.2 j hb).elim hn (fun h2 => absurd hj (Nat.not_lt.2 h2))), h.2.1 j hj hn]
  · rcases k.2.2 j hj with h1 | h1
    · exact h.2.2 j h1
    · exact .inr (Nat.le_trans h.1 h1)
theorem Kept.app (H L : List Ob) (own : List Nat) : Kept H own (H ++ L) own := ⟨by simp, fun j hj _ => List.getElem?_append_left hj, fun j hj => .inl hj⟩
theorem Kept.refl (H : List Ob) (own : List Nat) : Kept H own H own := ⟨Nat.le_refl _, fun _ _ _ => rfl, fun j hj => .inl hj⟩
theorem get_app {H L : List Ob} {j : Nat} {x : Ob} (h : H[j]? = some x) : (H ++ L)[j]? = some x := by rw [List.getElem?_append_left (List.getElem?_eq_some_iff.1 h).1]; exact h
theorem StkAt.app {H : List Ob} {s o ver : Nat} {ps : List Op} (h : StkAt H s o ver ps) (L : List Ob) : StkAt (H ++ L) s o ver ps := ⟨get_app h.1, get_app h.2.1, fun p hp => get_app (h.2.2.1 p hp), h.2.2.2⟩
theorem Stk.app {H : List Ob} {s : Nat} {st : List Fr} {own : List Nat} (h : Stk H s st own) (L : List Ob) : Stk (H ++ L) s st own := by
  obtain ⟨o, ver, ps, h1, h2, h3⟩ := h
  exact ⟨o, ver, ps, h1, h2, h3.app L⟩
theorem After.trans {A B C : List Ob} {s : Nat} {a b : List Nat} {st : List Fr} (h : Kept A a B b) (k : After B s b st C) : After A s a st C := by
  obtain ⟨h1, own', h2, h3⟩ := k
  exact ⟨h1, own', h2, h.trans h3⟩
theorem set2_get {H L : List Ob} {k o j : Nat} {X Y : Ob} (hk : j ≠ k) (ho : j ≠ o) (hj : j < H.length) : (((H.set k X).set o Y) ++ L)[j]? = H[j]? := by
  rw [List.getElem?_append_left (by simpa using hj), List.getElem?_set_ne (Ne.symm ho), List.getElem?_set_ne (Ne.symm hk)]
theorem StkAt.cons {H : List Ob} {s o ver k kv : Nat} {f : Fr} {ps : List Op} (h : StkAt H s o ver ((f, k, kv) :: ps)) :
    H[s]? = some (.var [.vec o ver 0 ((ps.reverse.map opV).length + 1)]) ∧ H[o]? = some (.vec ver 6 (ps.reverse.map opV ++ [opV (f, k, kv)])) ∧ H[k]? = some (.vec kv 6 (f.kids.map treeV)) ∧ s ≠ o ∧ s ≠ k ∧ o ≠ k ∧ ∀ p ∈ ps, p.2.1 ≠ k ∧ p.2.1 ≠ o ∧ p.2.1 ≠ s := by
  obtain ⟨h1, h2, h3, h4⟩ := h
  unfold ownOf at h4
  simp only [List.map_cons, List.nodup_cons, List.mem_cons, not_or] at h4
  refine ⟨by rw [h1]; simp, by rw [h2]; simp, h3 (f, k, kv) (by simp), h4.1.1, h4.1.2.1, h4.2.1.1, fun p hp => ?_⟩
  have hm : p.2.1 ∈ ps.map fun p => p.2.1 := List.mem_map.2 ⟨p, hp, rfl⟩
  exact ⟨fun e => h4.2.2.1 (e ▸ hm), fun e => h4.2.1.2 (e ▸ hm), fun e => h4.1.2.2 (e ▸ hm)⟩
theorem stk_add {H L : List Ob} {s o ver k kv : Nat} {f : Fr} {ps : List Op} {t : Tree} (h : StkAt H s o ver ((f, k, kv) :: ps)) :
    StkAt (((H.set k (.vec (kv + 1) 6 (f.kids.map treeV ++ [treeV t]))).set o (.vec ver 6 (ps.reverse.map opV ++ [opV (⟨f.tag, f.attrs, f.kids ++ [t]⟩, k, kv + 1)]))) ++ L) s o ver ((⟨f.tag, f.attrs, f.kids ++ [t]⟩, k, kv + 1) :: ps) := by
  obtain ⟨g1, g2, g3, hso, hsk, hok, hps⟩ := h.cons
  have ls := (List.getElem?_eq_some_iff.1 g1).1
  have lo := (List.getElem?_eq_some_iff.1 g2).1
  have lk := (List.getElem?_eq_some_iff.1 g3).1
  refine ⟨?_, ?_, fun p hp => ?_, h.2.2.2⟩
  · rw [set2_get hsk hso ls, g1]; simp
  · rw [List.getElem?_append_left (by simpa using lo), List.getElem?_set_self (by simpa using lo)]; simp
  · rcases List.mem_cons.1 hp with rfl | hp
    · rw [List.getElem?_append_left (by simpa using lk), List.getElem?_set_ne hok, List.getElem?_set_self lk]; simp
    · have h3 := h.2.2.1 p (List.mem_cons_of_mem _ hp)
      rw [set2_get (hps p hp).1 (hps p hp).2.1 (List.getElem?_eq_some_iff.1 h3).1, h3]
theorem kept_add {H L : List Ob} {s o k : Nat} {X Y : Ob} {ps : List Op} {f f' : Fr} {v v' : Nat} : Kept H (ownOf s o ((f, k, v) :: ps)) (((H.set k X).set o Y) ++ L) (ownOf s o ((f', k, v') :: ps)) := by
  refine ⟨by simp, fun j hj hn => ?_, fun j hj => .inl hj⟩
  unfold ownOf at hn
  simp only [List.map_cons, List.mem_cons, not_or] at hn
  exact set2_get hn.2.2.1 hn.2.1 hj
theorem len_st {st : List Fr} : st.length ≤ szSt st := by
  induction st with
  | nil => simp
  | cons f st ih => simp only [szSt, List.map_cons, List.sum_cons, List.length_cons, szFr] at *; omega
theorem bAdd (H : List Ob) (s : Nat) (f : Fr) (st : List Fr) (own : List Nat) (t : Tree) (h : Stk H s (f :: st) own) (hb : szSt (f :: st) ≤ 100000000) :
    SCall Try.prog 152 [.ref s 0, treeV t] H (fun r H' => r = .tuple [] ∧ After H s own (addF (f :: st) t) H') := by
  obtain ⟨o, ver, ps, rfl, hm, h⟩ := h
  cases ps with
  | nil => cases hm
  | cons p ps =>
    obtain ⟨f2, k, kv⟩ := p
    simp only [List.map_cons, List.cons.injEq] at hm
    obtain ⟨rfl, rfl⟩ := hm
    obtain ⟨g1, g2, g3, hso, hsk, hok, hps⟩ := h.cons
    have b1 := len_st (st := f2 :: ps.map fun p => p.1)
    have b2 := sz_kids (f := f2) (st := f2 :: ps.map fun p => p.1) (by simp)
    have b3 := sz_len f2.kids
    simp only [List.length_cons, List.length_map] at b1
    refine SCall.mono (bAdd0 H s o ver (ps.reverse.map opV) f2 k kv t g1 g2 g3 hso hsk hok (by simp; omega) (by omega)).goodR ?_
    rintro _ _ ⟨⟨rfl, rfl⟩, hl⟩
    exact ⟨rfl, hl, _, ⟨o, ver, _, rfl, rfl, stk_add h⟩, kept_add⟩
theorem bPop (H : List Ob) (s : Nat) (f f2 : Fr) (st : List Fr) (own : List Nat) (h : Stk H s (f :: f2 :: st) own) (hb : szSt (f :: f2 :: st) ≤ 100000000) :
    SCall Try.prog 90 [.ref s 0] H (fun r H' => r = .tuple [] ∧ After H s own (popF (f :: f2 :: st)) H') := by
  obtain ⟨o, ver, ps, rfl, hm, h⟩ := h
  match ps, hm with
  | (f', k, kv) :: (f2', k2, kv2) :: ps, hm =>
    simp only [List.map_cons, List.cons.injEq] at hm
    obtain ⟨rfl, rfl, rfl⟩ := hm
    obtain ⟨g1, g2, g3, hso, hsk, hok, hps⟩ := h.cons
    have b1 := len_st (st := f' :: f2' :: ps.map fun p => p.1)
    simp only [List.length_cons, List.length_map] at b1
    have ls := (List.getElem?_eq_some_iff.1 g1).1
    have lo := (List.getElem?_eq_some_iff.1 g2).1
    have lk := (List.getElem?_eq_some_iff.1 g3).1
    generalize hcs : ((f2', k2, kv2) :: ps).reverse.map opV = cs at *
    have hcl : cs.length = ps.length + 1 := by rw [← hcs]; simp
    have hS : ∀ L, (H ++ L)[s]? = some (.var [.vec o ver 0 (cs.length + 1)]) := fun L => get_app g1
    have hO : ∀ L, (H ++ L)[o]? = some (.vec ver 6 (cs ++ [opV (f', k, kv)])) := fun L => get_app g2
    have hsS : ∀ (L : List Ob) (x : Ob), (H ++ L).set s x = H.set s x ++ L := fun L x => List.set_append_left _ _ ls
    have w : IntKind.i64.wrap (((cs.length + 1 : Nat) : Int) - 1) = (cs.length : Int) := by rw [wrapI (by omega)]; omega
    refine SCall.of_good fun hH => ?_
    have hHk := HLt.add hH
    refine SCall.of_code Tok Try.func90 rfl Try.call90 (n := 24) rfl (by simp) (rs := []) rfl ?_
    refine EWn.to ?_
    refine EWn.of_c Tok mixed (own := false) keep90 tab90 (by kernel_rfl) ?_
    (repeat (first | simp -dsimp only [zrBuild21, RB, TB, keep90, tab90, xindexAddr, xindex, xslice, xconvert, xlen, ewOp, FreeW, StabW, SameW, ChangeW, AddW, BaseW, limBytes, simprocAttr, ne_eq] | ((with_reducible refine Need.intro ?_ ?_); (first | trivial | exact ⟨_, rfl⟩ | exact ⟨[], (List.append_nil _).symm⟩ | omega | (simp; done) | (simp; omega) | exact ⟨by first | trivial | (simp; done), _, by first | rfl | (simp; rfl)⟩))))
    (first | refine SCall.then (bTop _ s o ver cs _ (by first | exact g1 | exact hS _) (by first | exact g2 | exact hO _) (by omega)) ?_ | refine SCall.thenA (bTop _ s o ver cs _ (by first | exact g1 | exact hS _) (by first | exact g2 | exact hO _) (by omega)) (by repeat (first | exact trivial | exact .inl (.inl rfl) | exact .inl (.inr ⟨_, rfl, rfl⟩) | exact .inl rfl | exact .inr ⟨_, rfl, rfl⟩ | refine .inr ⟨_, _, rfl, rfl, ?_⟩ | refine ⟨?_, ?_⟩)) ?_ | refine CallE.intro _ (bTop _ s o ver cs _ (by first | exact g1 | exact hS _) (by first | exact g2 | exact hO _) (by omega)) ?_ | refine CallE.introA (bTop _ s o ver cs _ (by first | exact g1 | exact hS _) (by first | exact g2 | exact hO _) (by omega)) (by repeat (first | exact trivial | exact .inl (.inl rfl) | exact .inl (.inr ⟨_, rfl, rfl⟩) | exact .inl rfl | exact .inr ⟨_, rfl, rfl⟩ | refine .inr ⟨_, _, rfl, rfl, ?_⟩ | refine ⟨?_, ?_⟩)) ?_ | refine CallE.intro _ (fun _ => bTop _ s o ver cs _ (by first | exact g1 | exact hS _) (by first | exact g2 | exact hO _) (by omega)) ?_ | refine CallE.intro _ (fun _ => SCall.arg (by repeat (first | exact trivial | exact .inl (.inl rfl) | exact .inl (.inr ⟨_, rfl, rfl⟩) | exact .inl rfl | exact .inr ⟨_, rfl, rfl⟩ | refine .inr ⟨_, _, rfl, rfl, ?_⟩ | refine ⟨?_, ?_⟩)) (bTop _ s o ver cs _ (by first | exact g1 | exact hS _) (by first | exact g2 | exact hO _) (by omega))) ?_ | refine CallE2.intro _ _ (bTop _ s o ver cs _ (by first | exact g1 | exact hS _) (by first | exact g2 | exact hO _) (by omega)) ?_ | refine CallE2.intro _ _ (SCall.arg (by repeat (first | exact trivial | exact .inl (.inl rfl) | exact .inl (.inr ⟨_, rfl, rfl⟩) | exact .inl rfl | exact .inr ⟨_, rfl, rfl⟩ | refine .inr ⟨_, _, rfl, rfl, ?_⟩ | refine ⟨?_, ?_⟩)) (bTop _ s o ver cs _ (by first | exact g1 | exact hS _) (by first | exact g2 | exact hO _) (by omega))) ?_)
    (repeat (first | simp -dsimp only [zrBuild21, g1, g2, hS, hO, hsS, at_snoc, opV, len_snoc, w, RB, TB, keep90, tab90, xindexAddr, xindex, xslice, xconvert, xlen, ewOp, FreeW, StabW, SameW, ChangeW, AddW, BaseW, limBytes, simprocAttr, ne_eq] | ((with_reducible refine Need.intro ?_ ?_); (first | trivial | exact ⟨_, rfl⟩ | exact ⟨[], (List.append_nil _).symm⟩ | omega | (simp; done) | (simp; omega) | exact ⟨by first | trivial | (simp; done), _, by first | rfl | (simp; rfl)⟩))))
    have hgk : (H.set s (Ob.var [V.vec o ver 0 (cs.length - 0)]) ++ [Ob.var [V.str f'.tag.text, V.slice (List.map runV f'.tag.runs), V.slice (List.map attrV f'.attrs), V.vec k kv 0 f'.kids.length, V.str [], V.slice []]])[k]? = some (.vec kv 6 (f'.kids.map treeV)) := by
      rw [List.getElem?_append_left (by simpa using lk), List.getElem?_set_ne hsk]; exact g3
    have hgo : (H.set s (Ob.var [V.vec o ver 0 (cs.length - 0)]) ++ [Ob.var [V.str f'.tag.text, V.slice (List.map runV f'.tag.runs), V.slice (List.map attrV f'.attrs), V.vec k kv 0 f'.kids.length, V.str [], V.slice []]])[o]? = some (.vec ver 6 (cs ++ [opV (f', k, kv)])) := by
      rw [List.getElem?_append_left (by simpa using lo), List.getElem?_set_ne hso]; exact g2
    have hgs : (H.set s (Ob.var [V.vec o ver 0 (cs.length - 0)]) ++ [Ob.var [V.str f'.tag.text, V.slice (List.map runV f'.tag.runs), V.slice (List.map attrV f'.attrs), V.vec k kv 0 f'.kids.length, V.str [], V.slice []]])[s]? = some (.var [.vec o ver 0 (cs.length - 0)]) := by
      rw [List.getElem?_append_left (by simpa using ls), List.getElem?_set_self ls]
    have hgj : ∀ j, j < H.length → j ≠ s → (H.set s (Ob.var [V.vec o ver 0 (cs.length - 0)]) ++ [Ob.var [V.str f'.tag.text, V.slice (List.map runV f'.tag.runs), V.slice (List.map attrV f'.attrs), V.vec k kv 0 f'.kids.length, V.str [], V.slice []]])[j]? = H[j]? := by
      intro j hj hjs
      rw [List.getElem?_append_left (by simpa using hj), List.getElem?_set_ne (Ne.symm hjs)]
    have hgl : (H.set s (Ob.var [V.vec o ver 0 (cs.length - 0)]) ++ [Ob.var [V.str f'.tag.text, V.slice (List.map runV f'.tag.runs), V.slice (List.map attrV f'.attrs), V.vec k kv 0 f'.kids.length, V.str [], V.slice []]]).length = H.length + 1 := by simp
    generalize (H.set s (Ob.var [V.vec o ver 0 (cs.length - 0)]) ++ [Ob.var [V.str f'.tag.text, V.slice (List.map runV f'.tag.runs), V.slice (List.map attrV f'.attrs), V.vec k kv 0 f'.kids.length, V.str [], V.slice []]]) = G at *
    refine SCall.freezeIn 1 (cs' := [.str f'.tag.text, .slice (f'.tag.runs.map runV), .slice (f'.attrs.map attrV), .slice (f'.kids.map treeV), .str [], .slice []]) hgk rfl ⟨.inl (.inl rfl), .inl (.inl rfl), .inl (.inl rfl), .inr ⟨k, kv, _, 0, f'.kids.length, rfl, rfl, by simp, by rw [List.drop_zero, List.take_of_length_le (by simp)]⟩, .inl (.inl rfl), .inl (.inl rfl), trivial⟩ ?_
    refine SCall.trunc o cs.length (ver := ver) (es := 6) (l := cs ++ [opV (f', k, kv)]) (by rw [List.getElem?_set_ne (Ne.symm hok)]; exact hgo) ?_
    have hat : StkAt ((G.set k .gone).set o (.vec ver 6 ((cs ++ [opV (f', k, kv)]).take cs.length))) s o ver ((f2', k2, kv2) :: ps) := by
      have hnd := h.2.2.2
      unfold ownOf at hnd
      simp only [List.map_cons, List.nodup_cons, List.mem_cons, not_or] at hnd
      refine ⟨?_, ?_, fun p hp => ?_, ?_⟩
      · rw [List.getElem?_set_ne (Ne.symm hso), List.getElem?_set_ne (Ne.symm hsk), hgs, hcl]; simp
      · rw [List.getElem?_set_self (by rw [List.length_set]; omega), ← hcs, List.take_left' rfl]
      · obtain ⟨q1, q2, q3⟩ := hps p hp
        have h3 := h.2.2.1 p (List.mem_cons_of_mem _ hp)
        rw [List.getElem?_set_ne (Ne.symm q2), List.getElem?_set_ne (Ne.symm q1), hgj _ (List.getElem?_eq_some_iff.1 h3).1 q3, h3]
      · unfold ownOf
        simp only [List.map_cons, List.nodup_cons, List.mem_cons, not_or]
        exact ⟨⟨hnd.1.1, hnd.1.2.2.1, hnd.1.2.2.2⟩, ⟨hnd.2.1.2.1, hnd.2.1.2.2⟩, hnd.2.2.2⟩
    have hkp : Kept H (ownOf s o ((f', k, kv) :: (f2', k2, kv2) :: ps)) ((G.set k .gone).set o (.vec ver 6 ((cs ++ [opV (f', k, kv)]).take cs.length))) (ownOf s o ((f2', k2, kv2) :: ps)) := by
      refine ⟨by simp [hgl], fun j hj hn => ?_, fun j hj => .inl ?_⟩
      · unfold ownOf at hn
        simp only [List.map_cons, List.mem_cons, not_or] at hn
        rw [List.getElem?_set_ne (Ne.symm hn.2.1), List.getElem?_set_ne (Ne.symm hn.2.2.1), hgj j hj hn.1]
      · unfold ownOf at hj ⊢
        simp only [List.map_cons, List.mem_cons] at hj ⊢
        rcases hj with h | h | h | h
        · exact .inl h
        · exact .inr (.inl h)
        · exact .inr (.inr (.inr (.inl h)))
        · exact .inr (.inr (.inr (.inr h)))
    have htr := treeV_eq f'.tree
    simp only [Fr.tree, Tree.tag, Tree.attrs, Tree.kids, Tree.text, zeroS, List.map_nil] at htr
    have hadd := bAdd _ s f2' (ps.map fun p => p.1) _ f'.tree ⟨o, ver, _, rfl, rfl, hat⟩ (by simp only [szSt, List.map_cons, List.sum_cons] at hb ⊢; omega)
    simp only [Fr.tree, zeroS] at hadd
    rw [htr] at hadd
    refine SCall.mono hadd ?_
    rintro _ G2 ⟨rfl, hA⟩
    (repeat (first | simp -dsimp only [zrBuild21, RB, TB, keep90, tab90, xindexAddr, xindex, xslice, xconvert, xlen, ewOp, FreeW, StabW, SameW, ChangeW, AddW, BaseW, limBytes, simprocAttr, ne_eq] | ((with_reducible refine Need.intro ?_ ?_); (first | trivial | exact ⟨_, rfl⟩ | exact ⟨[], (List.append_nil _).symm⟩ | omega | (simp; done) | (simp; omega) | exact ⟨by first | trivial | (simp; done), _, by first | rfl | (simp; rfl)⟩))))
    refine RetW.keep false (Nat.le_trans (by simp [hgl]) hA.2.choose_spec.2.1) hA.1 (by simp [okW, okW1, okW0, V.lt]) ?_
    simp only [wk, wk1, wk0]
    exact ⟨rfl, After.trans hkp hA⟩
end Go.Proofs.Ytjplgbalpnlanaa

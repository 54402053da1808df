/- CapsSees: the law returns true at every input, and the arguments read as they did. -/
import Derived.Test.YtjplgbalpnlanaaG5
import Derived.Test.YtjplgbalpnlanaaRows
import Derived.ProofKit
import Derived.JoinedCond
/- The law CapsSees: what an arena with a mount and a node is; the calls of its table. -/
set_option maxHeartbeats 600000
set_option linter.unusedSimpArgs false
set_option linter.unusedVariables false
set_option maxRecDepth 100000
namespace Go.Proofs.Ytjplgbalpnlanaa
open Go Go.EL
theorem zrCaps41 : type_of% (And.intro (And.intro (And.intro (And.intro (@st_run) (And.intro (@sz_run) (@st1_run))) (And.intro (@cl_run) (And.intro (@st_Str) (@sz_Str)))) (And.intro (And.intro (@st1_Str) (And.intro (@cl_Str) (@st_c))) (And.intro (@sz_c) (And.intro (@st1_c) (@cl_c))))) (And.intro (And.intro (And.intro (@st_attr) (And.intro (@sz_attr) (@st1_attr))) (And.intro (@cl_attr) (And.intro (@st_hook) (@sz_hook)))) (And.intro (And.intro (@st1_hook) (And.intro (@cl_hook) (@st_node))) (And.intro (@sz_node) (And.intro (@st1_node) (@cl_node)))))) := And.intro (And.intro (And.intro (And.intro (@st_run) (And.intro (@sz_run) (@st1_run))) (And.intro (@cl_run) (And.intro (@st_Str) (@sz_Str)))) (And.intro (And.intro (@st1_Str) (And.intro (@cl_Str) (@st_c))) (And.intro (@sz_c) (And.intro (@st1_c) (@cl_c))))) (And.intro (And.intro (And.intro (@st_attr) (And.intro (@sz_attr) (@st1_attr))) (And.intro (@cl_attr) (And.intro (@st_hook) (@sz_hook)))) (And.intro (And.intro (@st1_hook) (And.intro (@cl_hook) (@st_node))) (And.intro (@sz_node) (And.intro (@st1_node) (@cl_node)))))
theorem zlCaps41 : type_of% (And.intro (And.intro (And.intro (And.intro (@lt_vi) (@lt_str)) (And.intro (@lt_vb) (And.intro (@ltc_str) (@ltc_vi)))) (And.intro (And.intro (@lt_run) (And.intro (@lt1_run) (@ltc_run))) (And.intro (@lt_Str) (And.intro (@lt1_Str) (@ltc_Str))))) (And.intro (And.intro (And.intro (@lt_c) (And.intro (@lt1_c) (@ltc_c))) (And.intro (@lt_attr) (And.intro (@lt1_attr) (@ltc_attr)))) (And.intro (And.intro (@lt_hook) (And.intro (@lt1_hook) (@ltc_hook))) (And.intro (@lt_node) (And.intro (@lt1_node) (@ltc_node)))))) := And.intro (And.intro (And.intro (And.intro (@lt_vi) (@lt_str)) (And.intro (@lt_vb) (And.intro (@ltc_str) (@ltc_vi)))) (And.intro (And.intro (@lt_run) (And.intro (@lt1_run) (@ltc_run))) (And.intro (@lt_Str) (And.intro (@lt1_Str) (@ltc_Str))))) (And.intro (And.intro (And.intro (@lt_c) (And.intro (@lt1_c) (@ltc_c))) (And.intro (@lt_attr) (And.intro (@lt1_attr) (@ltc_attr)))) (And.intro (And.intro (@lt_hook) (And.intro (@lt1_hook) (@ltc_hook))) (And.intro (@lt_node) (And.intro (@lt1_node) (@ltc_node)))))
abbrev capH (H : List Ob) (a : Arena) (ow c : Int) (K : List Ob) : List Ob := H ++ .map (encM a.nodes) a.clock :: .var (arC H.length a) :: .var [.int .i64 ow, .vec (H.length + 4) 1 0 2] :: .var [.int .i64 c] :: .vec 1 1 [.int .i64 1, .int .i64 c] :: K
theorem tableCalls (H : List Ob) (ow c : Int) (a : Arena) (hu : a.used.length = 4) (hl : a.live.length = 4) (hok : ∀ p ∈ a.nodes, okN p.2.2) (hky : Keyed a.nodes) (hN : a.nodes.length ≤ 1000) :
    (∀ K, SCall Try.prog 72 [.ref (H.length + 2) 0, .ref (H.length + 1) 0, .int .i64 2] (capH H a ow c K) (fun r H' => r = .tuple [nodeV (seesN a ow 1 c), .int .i64 (seesE a ow 1 c)] ∧ H' = capH H a ow c K)) ∧
    (∀ K, SCall Try.prog 73 [.ref (H.length + 2) 0, .ref (H.length + 1) 0, .int .i64 2] (capH H a ow c K) (fun r H' => r = .tuple [nodeV (ownsN a ow 1 c), .int .i64 (ownsE a ow 1 c)] ∧ H' = capH H a ow c K)) ∧
    (∀ K, SCall Try.prog 73 [.ref (H.length + 2) 0, .ref (H.length + 1) 0, .int .i64 1] (capH H a ow c K) (fun r H' => r = .tuple [nodeV (ownsN a ow 1 1), .int .i64 (ownsE a ow 1 1)] ∧ H' = capH H a ow c K)) ∧
    (∀ K, SCall Try.prog 72 [.ref (H.length + 2) 0, .ref (H.length + 1) 0, .int .i64 1] (capH H a ow c K) (fun r H' => r = .tuple [nodeV (seesN a ow 1 1), .int .i64 (seesE a ow 1 1)] ∧ H' = capH H a ow c K)) := by
  have hat : ∀ K, arenaAt (capH H a ow c K) (H.length + 1) H.length a := fun K => ⟨by simp [arC], by simp, hu, hl⟩
  have h1 : ∀ K, (capH H a ow c K)[H.length + 2]? = some (.var [.int .i64 ow, .vec (H.length + 4) 1 0 2]) := fun K => by simp
  have h2 : ∀ K, (capH H a ow c K)[H.length + 4]? = some (.vec 1 1 (([1, c] : List Int).map vi)) := fun K => by simp [vi]
  exact ⟨fun K => cSees _ (H.length + 2) ow [1, c] (H.length + 4) 1 (h1 K) (h2 K) (by simp) (by simp) (H.length + 1) H.length a (hat K) hok (by omega) 1 (by simp),
    fun K => cOwns _ (H.length + 2) ow [1, c] (H.length + 4) 1 (h1 K) (h2 K) (by simp) (by simp) (H.length + 1) H.length a (hat K) hok hky (by omega) 1 (by simp),
    fun K => cOwns _ (H.length + 2) ow [1, c] (H.length + 4) 1 (h1 K) (h2 K) (by simp) (by simp) (H.length + 1) H.length a (hat K) hok hky (by omega) 0 (by simp),
    fun K => cSees _ (H.length + 2) ow [1, c] (H.length + 4) 1 (h1 K) (h2 K) (by simp) (by simp) (H.length + 1) H.length a (hat K) hok (by omega) 0 (by simp)⟩
theorem gRemove (H K : List Ob) (a : Arena) (hu : a.used.length = 4) (hl : a.live.length = 4) (hok : ∀ p ∈ a.nodes, okN p.2.2) (hky : Keyed a.nodes) (k : Nat) (id : Int) (n : Node) (hn : nget a.nodes id = some n) (h0 : id ≠ 0) (fok : FreeOK (remA a id n.parent)) (hd : deepG (remA a id n.parent) k id) (hkl : ∀ p ∈ a.nodes, p.2.2.kids.length ≤ 1000000) :
    SCall Try.prog 71 [.ref (H.length + 1) 0, .int .i64 id] (H ++ .map (encM a.nodes) a.clock :: .var (arC H.length a) :: K) (fun r H' => r = .tuple [.int .i64 (freeG k (remA a id n.parent) id).2, .int .i64 0] ∧
      H' = H ++ .map (encM (freeG k (remA a id n.parent) id).1.nodes) (freeG k (remA a id n.parent) id).1.clock :: .var (arC H.length (freeG k (remA a id n.parent) id).1) :: K) := by
  have hat : arenaAt (H ++ .map (encM a.nodes) a.clock :: .var (arC H.length a) :: K) (H.length + 1) H.length a := ⟨by simp [arC], by simp, hu, hl⟩
  refine SCall.mono (dRemove _ (H.length + 1) H.length a hat hok hky (by omega) k id n hn h0 fok hd hkl) fun r H' h => ⟨h.1, ?_⟩
  rw [h.2]
  simp [hpA]
theorem inside_step {a : Arena} {top x : Int} {n : Node} {k : Nat} {met : List Int} (h : nget a.nodes x = some n) (hid : n.id = x) (hm : x ∉ met) (ht : x ≠ top) : insideG a top (k + 1) x met = insideG a top k n.parent (met ++ [x]) := by
  rw [insideG_succ, h]
  simp only [hid]
  rw [if_neg hm, if_neg ht]
theorem inside_here {a : Arena} {x : Int} {n : Node} {k : Nat} {met : List Int} (h : nget a.nodes x = some n) (hid : n.id = x) (hm : x ∉ met) : insideG a x (k + 1) x met = true := by
  rw [insideG_succ, h]
  simp only [hid]
  rw [if_neg hm]; simp
theorem inside_none {a : Arena} {top x : Int} (h : nget a.nodes x = none) : ∀ (k : Nat) (met : List Int), insideG a top k x met = false
  | 0, _ => rfl
  | k + 1, met => by rw [insideG_succ, h]
/-- the arena of this law: the root, a mount, and a node in one of both -/
structure Two (a : Arena) (c top w : Int) : Prop where
  ok : ∀ p ∈ a.nodes, okN p.2.2
  ky : Keyed a.nodes
  len : a.nodes.length ≤ 100
  ul : a.used.length = 4
  ll : a.live.length = 4
  node : ∃ n, nget a.nodes c = some n ∧ n.id = c ∧ n.owner = w ∧ n.parent = top ∧ n.kids = []
  mount : ∃ n, nget a.nodes 1 = some n ∧ n.id = 1 ∧ n.parent = 0
  root : ∃ n, nget a.nodes 0 = some n ∧ n.id = 0 ∧ n.parent = -1
  neg : nget a.nodes (-1) = none
  c0 : c ≠ 0
  c1 : c ≠ 1
theorem Two.sees1 {a : Arena} {c top w ow : Int} (h : Two a c top w) : seesE a ow 1 1 = 0 ∧ (seesN a ow 1 1).id = 1 ∧ ownsE a ow 1 1 = 20 := by
  obtain ⟨n, h1, h2, h3⟩ := h.mount
  have e : seesE a ow 1 1 = 0 := by
    unfold seesE
    rw [h1]
    simp only
    rw [inside_here h1 h2 (by simp), if_neg (by simp), if_neg (fun e => e.1 rfl)]
  refine ⟨e, ?_, ?_⟩
  · unfold seesN
    rw [if_pos e, nodeAt_some h1]; exact h2
  · unfold ownsE
    rw [if_neg (fun e' => e' e), if_pos rfl]
theorem Two.in1 {a : Arena} {c w ow : Int} (h : Two a c 1 w) : seesE a ow 1 c = if w = ow then 0 else 20 := by
  obtain ⟨n, h1, h2, h3⟩ := h.mount
  obtain ⟨m, g1, g2, g3, g4, g5⟩ := h.node
  unfold seesE
  rw [g1]
  simp only
  have h99 : 1 ≤ a.nodes.length := by
    cases hl : a.nodes with
    | nil => rw [hl] at g1; cases g1
    | cons _ _ => simp
  obtain ⟨k, hk⟩ : ∃ k, a.nodes.length = k + 1 := ⟨a.nodes.length - 1, by omega⟩
  rw [hk, inside_step g1 g2 (by simp) h.c1, g4, inside_here h1 h2 (by simp; exact fun e => h.c1 e.symm), if_neg (by simp), g3]
  by_cases e : w = ow
  · rw [if_pos e, if_neg (fun e' => e'.2 e)]
  · rw [if_neg e, if_pos ⟨h.c1, e⟩]
theorem Two.out1 {a : Arena} {c w ow : Int} (h : Two a c 0 w) : seesE a ow 1 c = 21 := by
  obtain ⟨n, h1, h2, h3⟩ := h.root
  obtain ⟨m, g1, g2, g3, g4, g5⟩ := h.node
  unfold seesE
  rw [g1]
  simp only
  rw [if_pos]
  rw [inside_step g1 g2 (by simp) h.c1, g4]
  cases hl : a.nodes.length with
  | zero => rfl
  | succ k => rw [inside_step h1 h2 (by simp; exact fun e => h.c0 e.symm) (by omega), h3, inside_none h.neg]
theorem gone1 {a : Arena} {c ow : Int} (h : nget a.nodes c = none) : seesE a ow 1 c = 21 := by unfold seesE; rw [h]
theorem ids_of {a : Arena} {ow c : Int} {n : Node} (hc : c ≠ 1) (h : nget a.nodes c = some n) (hid : n.id = c) (e : seesE a ow 1 c = 0) : (seesN a ow 1 c).id = c ∧ (ownsN a ow 1 c).id = c ∧ ownsE a ow 1 c = 0 := by
  have e2 : ownsE a ow 1 c = 0 := by unfold ownsE; rw [if_neg (fun e' => e' e), if_neg hc]
  refine ⟨?_, ?_, e2⟩
  · unfold seesN; rw [if_pos e, nodeAt_some h]; exact hid
  · unfold ownsN; rw [if_pos e2, nodeAt_some h]; exact hid
theorem ids_no {a : Arena} {ow c : Int} (e : seesE a ow 1 c ≠ 0) : (seesN a ow 1 c).id = 0 ∧ (ownsN a ow 1 c).id = 0 ∧ ownsE a ow 1 c = seesE a ow 1 c := by
  have e2 : ownsE a ow 1 c = seesE a ow 1 c := by unfold ownsE; rw [if_pos e]
  refine ⟨?_, ?_, e2⟩
  · unfold seesN; rw [if_neg e]; rfl
  · unfold ownsN; rw [if_neg (by rw [e2]; exact e)]; rfl
/-- the node is gone -/
theorem Two.gone {a : Arena} {c top w : Int} (h : Two a c top w) (ht : top = 0 ∨ top = 1) (fok : FreeOK a) :
    FreeOK (remA a c top) ∧ deepG (remA a c top) 1 c ∧ (∃ n, nget (freeG 1 (remA a c top) c).1.nodes 1 = some n ∧ n.id = 1 ∧ n.parent = 0) ∧ nget (freeG 1 (remA a c top) c).1.nodes c = none ∧
    (∀ p ∈ (freeG 1 (remA a c top) c).1.nodes, okN p.2.2) ∧ Keyed (freeG 1 (remA a c top) c).1.nodes ∧ (freeG 1 (remA a c top) c).1.nodes.length ≤ 1000 := by
  obtain ⟨m, g1, g2, g3, g4, g5⟩ := h.node
  obtain ⟨n, h1, h2, h3⟩ := h.mount
  obtain ⟨r, k1, k2, k3⟩ := h.root
  obtain ⟨p, hp, hpid⟩ : ∃ p, nget a.nodes top = some p ∧ p.id = top := by
    rcases ht with rfl | rfl
    · exact ⟨r, k1, k2⟩
    · exact ⟨n, h1, h2⟩
  have hct : c ≠ top := by rcases ht with rfl | rfl; exact h.c0; exact h.c1
  have e1 : remA a c top = { a with nodes := nset a.nodes top (setN p (remK p c)) } := by unfold remA; rw [hp]
  obtain ⟨q, hq, hqe⟩ := nget_mem hp
  have okp : okN p := hqe ▸ h.ok q hq
  have hpk : p.kids.length ≤ 1000000 := hqe ▸ (fok.own q hq).2
  have okk : okN (remK p c) := by
    obtain ⟨o1, o2, o3, o4, o5, o6⟩ := okN_own okp
    exact ⟨o1, o2, o3, o4, o5, by simp only [remK]; have := but_len p.kids c; omega⟩
  have okR : ∀ t ∈ (remA a c top).nodes, okN t.2.2 := by rw [e1]; exact ok_nset (okN_set okp okk) h.ok
  have hget : ∀ y, nget (remA a c top).nodes y = if y = top then some (setN p (remK p c)) else nget a.nodes y := fun y => by
    rw [e1]
    show nget (nset a.nodes top (setN p (remK p c))) y = _
    rw [nget_nset, hp]; rfl
  have f1 : FreeOK (remA a c top) := by rw [e1]; exact fok.set hp rfl (by show (but p.kids c).length ≤ _; have := but_len p.kids c; omega)
  have hgc : nget (remA a c top).nodes c = some m := by rw [hget, if_neg hct]; exact g1
  have e2 : (freeG 1 (remA a c top) c).1 = freed (remA a c top) c m := by rw [freeG_some h.c0 hgc, g5]; rfl
  have hgf : ∀ y, nget (freeG 1 (remA a c top) c).1.nodes y = if y = c then none else nget (remA a c top).nodes y := fun y => by
    rw [e2]
    exact nget_ndel f1.keys y
  have hkeyR : Keyed (remA a c top).nodes := fun t ht => by
    have h5 := nget_of_mem f1.keys ht
    rw [hget] at h5
    split at h5
    · rename_i e
      injection h5 with h5
      rw [← h5, e]
      exact hpid
    · exact nget_key h.ky h5
  refine ⟨f1, ?_, ?_, by rw [hgf, if_pos rfl], ?_, ?_, ?_⟩
  · intro x hx y hy
    rw [hgc] at hx
    injection hx with hx
    subst hx
    rw [g5] at hy; cases hy
  · rw [hgf, if_neg (fun e => h.c1 e.symm), hget]
    split
    · rename_i e
      refine ⟨_, rfl, ?_⟩
      have hpn : p = n := by rw [← e, h1] at hp; injection hp with hp; exact hp.symm
      subst hpn
      exact ⟨h2, h3⟩
    · exact ⟨n, h1, h2, h3⟩
  · rw [e2]
    intro t ht
    exact okR t ((ndel_sub _ _).subset ht)
  · rw [e2]
    intro t ht
    exact hkeyR t ((ndel_sub _ _).subset ht)
  · rw [e2]
    have h6 : (ndel (remA a c top).nodes c).length ≤ (remA a c top).nodes.length := (ndel_sub _ _).length_le
    have h7 : (remA a c top).nodes.length = a.nodes.length := by
      have := congrArg List.length (nset_keys top (setN p (remK p c)) a.nodes)
      simp only [List.length_map] at this
      rw [e1]; exact this
    have := h.len
    show (ndel (remA a c top).nodes c).length ≤ _
    omega
end Go.Proofs.Ytjplgbalpnlanaa

/- The walk of the law CapsSees. -/
set_option linter.unusedSimpArgs false
set_option linter.unusedVariables false
set_option maxRecDepth 100000
namespace Go.Proofs.Ytjplgbalpnlanaa
open Go Go.EL
theorem zrCaps51 : type_of% (And.intro (And.intro (And.intro (And.intro (@st_run) (And.intro (@sz_run) (@st1_run))) (And.intro (@cl_run) (And.intro (@st_Str) (@sz_Str)))) (And.intro (And.intro (@st1_Str) (And.intro (@cl_Str) (@st_c))) (And.intro (@sz_c) (And.intro (@st1_c) (@cl_c))))) (And.intro (And.intro (And.intro (@st_attr) (And.intro (@sz_attr) (@st1_attr))) (And.intro (@cl_attr) (And.intro (@st_hook) (@sz_hook)))) (And.intro (And.intro (@st1_hook) (And.intro (@cl_hook) (@st_node))) (And.intro (@sz_node) (And.intro (@st1_node) (@cl_node)))))) := And.intro (And.intro (And.intro (And.intro (@st_run) (And.intro (@sz_run) (@st1_run))) (And.intro (@cl_run) (And.intro (@st_Str) (@sz_Str)))) (And.intro (And.intro (@st1_Str) (And.intro (@cl_Str) (@st_c))) (And.intro (@sz_c) (And.intro (@st1_c) (@cl_c))))) (And.intro (And.intro (And.intro (@st_attr) (And.intro (@sz_attr) (@st1_attr))) (And.intro (@cl_attr) (And.intro (@st_hook) (@sz_hook)))) (And.intro (And.intro (@st1_hook) (And.intro (@cl_hook) (@st_node))) (And.intro (@sz_node) (And.intro (@st1_node) (@cl_node)))))
theorem zlCaps51 : type_of% (And.intro (And.intro (And.intro (And.intro (@lt_vi) (@lt_str)) (And.intro (@lt_vb) (And.intro (@ltc_str) (@ltc_vi)))) (And.intro (And.intro (@lt_run) (And.intro (@lt1_run) (@ltc_run))) (And.intro (@lt_Str) (And.intro (@lt1_Str) (@ltc_Str))))) (And.intro (And.intro (And.intro (@lt_c) (And.intro (@lt1_c) (@ltc_c))) (And.intro (@lt_attr) (And.intro (@lt1_attr) (@ltc_attr)))) (And.intro (And.intro (@lt_hook) (And.intro (@lt1_hook) (@ltc_hook))) (And.intro (@lt_node) (And.intro (@lt1_node) (@ltc_node)))))) := And.intro (And.intro (And.intro (And.intro (@lt_vi) (@lt_str)) (And.intro (@lt_vb) (And.intro (@ltc_str) (@ltc_vi)))) (And.intro (And.intro (@lt_run) (And.intro (@lt1_run) (@ltc_run))) (And.intro (@lt_Str) (And.intro (@lt1_Str) (@ltc_Str))))) (And.intro (And.intro (And.intro (@lt_c) (And.intro (@lt1_c) (@ltc_c))) (And.intro (@lt_attr) (And.intro (@lt1_attr) (@ltc_attr)))) (And.intro (And.intro (@lt_hook) (And.intro (@lt1_hook) (@ltc_hook))) (And.intro (@lt_node) (And.intro (@lt1_node) (@ltc_node)))))
theorem okZ : okS zeroS := ⟨by simp [zeroS], by simp [zeroS]⟩
set_option maxHeartbeats 4000000 in
theorem capsSees (H : List Ob) (ow0 wh0 : Int) (ins gone : Bool) : SCall Try.prog 11 [.int .i64 ow0, .int .i64 wh0, .bool ins, .bool gone] H (fun r H' => r = .bool true) := by
  obtain ⟨k3, hk3, hkw3⟩ := tmod3' ow0
  obtain ⟨w, hw4, hkw4⟩ := tmod4 wh0
  have w1 : IntKind.i64.wrap (1 + (k3 : Int)) = 1 + k3 := wrapI (by omega)
  obtain ⟨ow, how⟩ : ∃ ow : Int, ow = 1 + k3 := ⟨_, rfl⟩
  rw [← how] at w1
  have g0 := Grown.new 0
  obtain ⟨g1, hm1⟩ := g0.made (k := 0) (by omega) (by omega) okZ 3 [] ow
  have hid1 : idO newA 0 = 1 := rfl
  have hq1 : ∀ x, nget (makeA newA 0 3 zeroS [] ow).nodes x = if x = 1 then some (madeO 0 1 3 zeroS [] ow) else nget newA.nodes x := fun x => nget_made (a := newA) (k := 0) rfl x
  rw [hid1] at hm1
  obtain ⟨a1, ha1⟩ : ∃ a1, a1 = makeA newA 0 3 zeroS [] ow := ⟨_, rfl⟩
  have gm1 := fun K => gMake H K g0 0 (by omega) (by omega) 3 ⟨by omega, by omega⟩ zeroS okZ [] ow
  rw [hid1, ← ha1] at gm1
  rw [← ha1] at g1 hm1 hq1
  clear ha1
  obtain ⟨hcf, hcn, hc0, hcp⟩ := g1.fresh hw4 (by omega)
  have gm2 := fun K => gMake H K g1 w hw4 (by omega) 1 ⟨by omega, by omega⟩ tagP okP [] 0
  obtain ⟨g2, hm2⟩ := g1.made hw4 (by omega) okP 1 [] 0
  have hq2 := fun x => nget_made (a := a1) (k := w) (kind := 1) (tag := tagP) (key := []) (slot := 0) hcf x
  have hc1 : idO a1 w ≠ 1 := fun e => by rw [e, hm1] at hcf; cases hcf
  generalize idO a1 w = c at *
  generalize makeA a1 w 1 tagP [] 0 = a2 at *
  have hr0 : nget a2.nodes 0 = some rootN := by rw [hq2, if_neg (fun e => hc0 e.symm), hq1, if_neg (by omega)]; rfl
  have hm0 : nget a2.nodes 1 = some (madeO 0 1 3 zeroS [] ow) := by rw [hq2, if_neg (fun e => hc1 e.symm)]; exact hm1
  have gi1 := fun K => gInsertA H K g2 (by omega) (by omega) (p := 0) (c := 1) (by simp) (by simp) hr0 hm0 (by simp [rootN]) rfl 0 (by omega) 0 rfl
  obtain ⟨g3, hk1⟩ := g2.ins (q := 0) (p := 0) (c := 1) (by simp) (by simp) hr0 hm0 rfl (by omega) (by omega)
  have hq3 : ∀ x, nget (insA a2 0 1 0 rootN (madeO 0 1 3 zeroS [] ow)).nodes x = _ := fun x => nget_ins (q := 0) hr0 hm0 (by omega) x
  have g3 : Grown 0 (0 + 1 + 1) (0 + 1) (insA a2 0 1 0 rootN (madeO 0 1 3 zeroS [] ow)) ([0] ++ [1]) := g3
  generalize insA a2 0 1 0 rootN (madeO 0 1 3 zeroS [] ow) = a3 at *
  obtain ⟨n0, hn0⟩ : ∃ n0, n0 = madeO w c 1 tagP [] 0 := ⟨_, rfl⟩
  rw [← hn0] at hm2
  have hn0p : n0.parent = -1 := by rw [hn0]; rfl
  have hnn : nget a3.nodes c = some n0 := by rw [hq3, if_neg hc1, if_neg hc0]; exact hm2
  have hcn3 : c ∉ [0] ++ [1] := by simp [hc0, hc1]
  have hall : ∀ top : Int, (top = 0 ∨ top = 1) → ∃ p, nget a3.nodes top = some p ∧ p.kind ≠ 2 ∧ p.kids.length ≤ 10 ∧ Grown 0 2 2 (insA a3 top c 0 p n0) ([0] ++ [1] ++ [c]) ∧ Two (insA a3 top c 0 p n0) c top w := by
    intro top ht
    obtain ⟨p, hp, hpk, hpid, hpp⟩ : ∃ p, nget a3.nodes top = some p ∧ p.kind ≠ 2 ∧ p.id = top ∧ (p.parent = if top = 0 then -1 else 0) := by
      rcases ht with rfl | rfl
      · exact ⟨_, by rw [hq3, if_neg (by omega), if_pos rfl], by simp [setN, rootN], rfl, rfl⟩
      · exact ⟨_, by rw [hq3, if_pos rfl], by simp [setN, madeO], rfl, rfl⟩
    have htm : top ∈ [0] ++ [1] := by rcases ht with rfl | rfl <;> simp
    have htc : top ≠ c := fun e => hcn3 (e ▸ htm)
    obtain ⟨g4, hk4⟩ := g3.ins (q := 0) htm hcn3 hp hnn (by rw [hn0]; rfl) (by omega) (by omega)
    have g4 : Grown 0 2 2 (insA a3 top c 0 p n0) ([0] ++ [1] ++ [c]) := g4
    have hq4 := fun x => nget_ins (q := 0) hp hnn htc x
    have hkl := (g3.kids top p hp).2.1
    refine ⟨p, hp, hpk, by omega, g4, ⟨g4.oks, g4.keyed, by have := g4.len; omega, g4.ul, g4.ll, ⟨_, hk4, ?_, ?_, ?_, ?_⟩, ?_, ?_, g4.none_neg (by omega), hc0, hc1⟩⟩
    · show n0.id = c; rw [hn0]; rfl
    · show n0.owner = w; rw [hn0]; rfl
    · rfl
    · show n0.kids = []; rw [hn0]; rfl
    · show ∃ n, nget (insAtN a3.nodes top c 0 p n0) 1 = some n ∧ n.id = 1 ∧ n.parent = 0
      rw [hq4, if_neg (fun e => hc1 e.symm)]
      by_cases h : (1 : Int) = top
      · rw [if_pos h]
        exact ⟨_, rfl, by show p.id = 1; rw [hpid, h], by show p.parent = 0; rw [hpp, if_neg (by omega)]⟩
      · rw [if_neg h, hq3, if_pos rfl]
        exact ⟨_, rfl, rfl, rfl⟩
    · show ∃ n, nget (insAtN a3.nodes top c 0 p n0) 0 = some n ∧ n.id = 0 ∧ n.parent = -1
      rw [hq4, if_neg (fun e => hc0 e.symm)]
      by_cases h : (0 : Int) = top
      · rw [if_pos h]
        exact ⟨_, rfl, by show p.id = 0; rw [hpid, h], by show p.parent = -1; rw [hpp, if_pos h.symm]⟩
      · rw [if_neg h, hq3, if_neg (by omega), if_pos rfl]
        exact ⟨_, rfl, rfl, rfl⟩
  refine SCall.of_good fun hH => ?_
  have hHk := HLt.add hH
  refine SCall.of_code Tok Try.func11 rfl Try.call11 (n := 173) rfl (by simp) (rs := [.tmp 8]) rfl ?_
  refine EWn.to ?_
  refine EWn.of_c Tok mixed (own := false) keep11 tab11 (by kernel_rfl) ?_
  (repeat simp -dsimp only [zrCaps51, xnils, xnilm, xrange, xmakeMap, xslice3, RB, TB, keep11, tab11, xindexAddr, xindex, xslice, xconvert, xlen, ewOp, FreeW, StabW, SameW, ChangeW, AddW, BaseW, limBytes, simprocAttr, ne_eq])
  (refine SCall.then (alive26 _) ?_)
  (repeat simp -dsimp only [zrCaps51, xnils, xnilm, xrange, xmakeMap, xslice3, RB, TB, keep11, tab11, xindexAddr, xindex, xslice, xconvert, xlen, ewOp, FreeW, StabW, SameW, ChangeW, AddW, BaseW, limBytes, simprocAttr, ne_eq])
  skip
  (refine SCall.then (aNew _) ?_)
  (repeat simp -dsimp only [zrCaps51, xnils, xnilm, xrange, xmakeMap, xslice3, hkw3, w1, ← how, hkw4, RB, TB, keep11, tab11, xindexAddr, xindex, xslice, xconvert, xlen, ewOp, FreeW, StabW, SameW, ChangeW, AddW, BaseW, limBytes, simprocAttr, ne_eq])
  (refine SCall.thenA (gm1 _) (by repeat (first | exact trivial | exact .inl (.inl rfl) | exact .inl (.inr ⟨_, rfl, rfl⟩) | exact .inl rfl | exact .inr ⟨_, rfl, rfl⟩ | refine .inr ⟨_, _, rfl, rfl, ?_⟩ | refine ⟨?_, ?_⟩)) ?_)
  (repeat simp -dsimp only [zrCaps51, xnils, xnilm, xrange, xmakeMap, xslice3, RB, TB, keep11, tab11, xindexAddr, xindex, xslice, xconvert, xlen, ewOp, FreeW, StabW, SameW, ChangeW, AddW, BaseW, limBytes, simprocAttr, ne_eq])
  (refine SCall.then (mOf _ _ _) ?_)
  (repeat simp -dsimp only [zrCaps51, xnils, xnilm, xrange, xmakeMap, xslice3, strV, RB, TB, keep11, tab11, xindexAddr, xindex, xslice, xconvert, xlen, ewOp, FreeW, StabW, SameW, ChangeW, AddW, BaseW, limBytes, simprocAttr, ne_eq])
  (refine SCall.then (gm2 _) ?_)
  (repeat simp -dsimp only [zrCaps51, xnils, xnilm, xrange, xmakeMap, xslice3, RB, TB, keep11, tab11, xindexAddr, xindex, xslice, xconvert, xlen, ewOp, FreeW, StabW, SameW, ChangeW, AddW, BaseW, limBytes, simprocAttr, ne_eq])
  (refine SCall.then (gi1 _) ?_)
  (repeat simp -dsimp only [zrCaps51, xnils, xnilm, xrange, xmakeMap, xslice3, RB, TB, keep11, tab11, xindexAddr, xindex, xslice, xconvert, xlen, ewOp, FreeW, StabW, SameW, ChangeW, AddW, BaseW, limBytes, simprocAttr, ne_eq])
  cases ins
  · cases gone
    · obtain ⟨p, hp, hpk, hpc, g4, h2⟩ := hall 0 (.inl rfl)
      (repeat simp -dsimp only [zrCaps51, xnils, xnilm, xrange, xmakeMap, xslice3, RB, TB, keep11, tab11, xindexAddr, xindex, xslice, xconvert, xlen, ewOp, FreeW, StabW, SameW, ChangeW, AddW, BaseW, limBytes, simprocAttr, ne_eq])
      (refine SCall.then (gInsertA H _ g3 (by omega) (by omega) (by simp) hcn3 hp hnn hpk hn0p 0 (by omega) 0 rfl) ?_)
      (repeat simp -dsimp only [zrCaps51, xnils, xnilm, xrange, xmakeMap, xslice3, RB, TB, keep11, tab11, xindexAddr, xindex, xslice, xconvert, xlen, ewOp, FreeW, StabW, SameW, ChangeW, AddW, BaseW, limBytes, simprocAttr, ne_eq])
      have hkl : ∀ t ∈ (insA a3 0 c 0 p n0).nodes, t.2.2.kids.length ≤ 1000000 := fun t ht => (g4.freeOK (by omega) (by omega)).own t ht |>.2
      have fok := g4.freeOK (by omega) (by omega)
      generalize insA a3 0 c 0 p n0 = a4 at *
      (refine SCall.then (cNew _ ow 1) ?_)
      (repeat simp -dsimp only [zrCaps51, xnils, xnilm, xrange, xmakeMap, xslice3, RB, TB, keep11, tab11, xindexAddr, xindex, xslice, xconvert, xlen, ewOp, FreeW, StabW, SameW, ChangeW, AddW, BaseW, limBytes, simprocAttr, ne_eq])
      (refine SCall.then (cGrant_fn _ (H.length + 2) ow 1 c (fun e => h2.c1 e.symm) (by simp)) ?_)
      (repeat simp -dsimp only [zrCaps51, xnils, xnilm, xrange, xmakeMap, xslice3, RB, TB, keep11, tab11, xindexAddr, xindex, xslice, xconvert, xlen, ewOp, FreeW, StabW, SameW, ChangeW, AddW, BaseW, limBytes, simprocAttr, ne_eq])
      obtain ⟨e11, i11, e12⟩ := h2.sees1 (ow := ow)
      obtain ⟨hS2, hO2, hO1, hS1⟩ := tableCalls H ow c a4 h2.ul h2.ll h2.ok h2.ky (by have := h2.len; omega)
      have e21 : seesE a4 ow 1 c = 21 := h2.out1
      obtain ⟨hx, hy, e22⟩ := ids_no (a := a4) (ow := ow) (c := c) (by rw [e21]; decide)
      rw [e21] at e22
      rw [e21] at hS2
      rw [e22] at hO2
      rw [e11] at hS1
      rw [e12] at hO1
      (refine SCall.then (hS2 _) ?_)
      (repeat simp -dsimp only [zrCaps51, xnils, xnilm, xrange, xmakeMap, xslice3, nodeV, RB, TB, keep11, tab11, xindexAddr, xindex, xslice, xconvert, xlen, ewOp, FreeW, StabW, SameW, ChangeW, AddW, BaseW, limBytes, simprocAttr, ne_eq])
      (refine SCall.then (hO2 _) ?_)
      (repeat simp -dsimp only [zrCaps51, xnils, xnilm, xrange, xmakeMap, xslice3, nodeV, RB, TB, keep11, tab11, xindexAddr, xindex, xslice, xconvert, xlen, ewOp, FreeW, StabW, SameW, ChangeW, AddW, BaseW, limBytes, simprocAttr, ne_eq])
      (refine SCall.then (hO1 _) ?_)
      (repeat simp -dsimp only [zrCaps51, xnils, xnilm, xrange, xmakeMap, xslice3, nodeV, RB, TB, keep11, tab11, xindexAddr, xindex, xslice, xconvert, xlen, ewOp, FreeW, StabW, SameW, ChangeW, AddW, BaseW, limBytes, simprocAttr, ne_eq])
      (refine SCall.then (hS1 _) ?_)
      (repeat simp -dsimp only [zrCaps51, xnils, xnilm, xrange, xmakeMap, xslice3, nodeV, i11, hx, hy, RB, TB, keep11, tab11, xindexAddr, xindex, xslice, xconvert, xlen, ewOp, FreeW, StabW, SameW, ChangeW, AddW, BaseW, limBytes, simprocAttr, ne_eq])
      refine RetW.auto0 false _ (by first | rfl | exact (List.append_nil _).symm) ?_ ?_
      · (simp (maxDischargeDepth := 6) [LTB, HLt_set, ltL_take, ltL_drop, ltL_rep, ltL_set, upd, eset, hH, hHk, lt_encM, lt_arC, ltL_nodeC, zlCaps51] <;> omega)
      (try simp only [wk, wk1, wk0, RB, limBytes, simprocAttr, ne_eq])
      skip
    · obtain ⟨p, hp, hpk, hpc, g4, h2⟩ := hall 0 (.inl rfl)
      (repeat simp -dsimp only [zrCaps51, xnils, xnilm, xrange, xmakeMap, xslice3, RB, TB, keep11, tab11, xindexAddr, xindex, xslice, xconvert, xlen, ewOp, FreeW, StabW, SameW, ChangeW, AddW, BaseW, limBytes, simprocAttr, ne_eq])
      (refine SCall.then (gInsertA H _ g3 (by omega) (by omega) (by simp) hcn3 hp hnn hpk hn0p 0 (by omega) 0 rfl) ?_)
      (repeat simp -dsimp only [zrCaps51, xnils, xnilm, xrange, xmakeMap, xslice3, RB, TB, keep11, tab11, xindexAddr, xindex, xslice, xconvert, xlen, ewOp, FreeW, StabW, SameW, ChangeW, AddW, BaseW, limBytes, simprocAttr, ne_eq])
      have hkl : ∀ t ∈ (insA a3 0 c 0 p n0).nodes, t.2.2.kids.length ≤ 1000000 := fun t ht => (g4.freeOK (by omega) (by omega)).own t ht |>.2
      have fok := g4.freeOK (by omega) (by omega)
      generalize insA a3 0 c 0 p n0 = a4 at *
      (refine SCall.then (cNew _ ow 1) ?_)
      (repeat simp -dsimp only [zrCaps51, xnils, xnilm, xrange, xmakeMap, xslice3, RB, TB, keep11, tab11, xindexAddr, xindex, xslice, xconvert, xlen, ewOp, FreeW, StabW, SameW, ChangeW, AddW, BaseW, limBytes, simprocAttr, ne_eq])
      (refine SCall.then (cGrant_fn _ (H.length + 2) ow 1 c (fun e => h2.c1 e.symm) (by simp)) ?_)
      (repeat simp -dsimp only [zrCaps51, xnils, xnilm, xrange, xmakeMap, xslice3, RB, TB, keep11, tab11, xindexAddr, xindex, xslice, xconvert, xlen, ewOp, FreeW, StabW, SameW, ChangeW, AddW, BaseW, limBytes, simprocAttr, ne_eq])
      obtain ⟨f1, f2, ⟨md, f3, f4, f5⟩, f6, f7, f8, f9⟩ := h2.gone (.inl rfl) fok
      obtain ⟨nn, k1, k2, k3, k4, k5⟩ := h2.node
      have gR := fun K => gRemove H K a4 h2.ul h2.ll h2.ok h2.ky 1 c nn k1 h2.c0 (by rw [k4]; exact f1) (by rw [k4]; exact f2) hkl
      rw [k4] at gR
      have hu5 := (freeG_ok 1 _ c f1).1.ul
      have hl5 := (freeG_ok 1 _ c f1).1.ll
      (refine SCall.then (gR _) ?_)
      (repeat simp -dsimp only [zrCaps51, xnils, xnilm, xrange, xmakeMap, xslice3, RB, TB, keep11, tab11, xindexAddr, xindex, xslice, xconvert, xlen, ewOp, FreeW, StabW, SameW, ChangeW, AddW, BaseW, limBytes, simprocAttr, ne_eq])
      generalize (freeG 1 (remA a4 c 0) c).1 = a5 at *
      have e21 : seesE a5 ow 1 c = 21 := gone1 f6
      have e11 : seesE a5 ow 1 1 = 0 := by unfold seesE; rw [f3]; simp only; rw [inside_here f3 f4 (by simp), if_neg (by simp), if_neg (fun e => e.1 rfl)]
      have i11 : (seesN a5 ow 1 1).id = 1 := by unfold seesN; rw [if_pos e11, nodeAt_some f3]; exact f4
      have e12 : ownsE a5 ow 1 1 = 20 := by unfold ownsE; rw [if_neg (fun e => e e11), if_pos rfl]
      obtain ⟨hx, hy, e22⟩ := ids_no (a := a5) (ow := ow) (c := c) (by rw [e21]; decide)
      rw [e21] at e22
      obtain ⟨hS2, hO2, hO1, hS1⟩ := tableCalls H ow c a5 hu5 hl5 f7 f8 f9
      rw [e21] at hS2
      rw [e22] at hO2
      rw [e11] at hS1
      rw [e12] at hO1
      (refine SCall.then (hS2 _) ?_)
      (repeat simp -dsimp only [zrCaps51, xnils, xnilm, xrange, xmakeMap, xslice3, nodeV, RB, TB, keep11, tab11, xindexAddr, xindex, xslice, xconvert, xlen, ewOp, FreeW, StabW, SameW, ChangeW, AddW, BaseW, limBytes, simprocAttr, ne_eq])
      (refine SCall.then (hO2 _) ?_)
      (repeat simp -dsimp only [zrCaps51, xnils, xnilm, xrange, xmakeMap, xslice3, nodeV, RB, TB, keep11, tab11, xindexAddr, xindex, xslice, xconvert, xlen, ewOp, FreeW, StabW, SameW, ChangeW, AddW, BaseW, limBytes, simprocAttr, ne_eq])
      (refine SCall.then (hO1 _) ?_)
      (repeat simp -dsimp only [zrCaps51, xnils, xnilm, xrange, xmakeMap, xslice3, nodeV, RB, TB, keep11, tab11, xindexAddr, xindex, xslice, xconvert, xlen, ewOp, FreeW, StabW, SameW, ChangeW, AddW, BaseW, limBytes, simprocAttr, ne_eq])
      (refine SCall.then (hS1 _) ?_)
      (repeat simp -dsimp only [zrCaps51, xnils, xnilm, xrange, xmakeMap, xslice3, nodeV, i11, hx, hy, RB, TB, keep11, tab11, xindexAddr, xindex, xslice, xconvert, xlen, ewOp, FreeW, StabW, SameW, ChangeW, AddW, BaseW, limBytes, simprocAttr, ne_eq])
      refine RetW.auto0 false _ (by first | rfl | exact (List.append_nil _).symm) ?_ ?_
      · (simp (maxDischargeDepth := 6) [LTB, HLt_set, ltL_take, ltL_drop, ltL_rep, ltL_set, upd, eset, hH, hHk, lt_encM, lt_arC, ltL_nodeC, zlCaps51] <;> omega)
      (try simp only [wk, wk1, wk0, RB, limBytes, simprocAttr, ne_eq])
      skip
  · cases gone
    · obtain ⟨p, hp, hpk, hpc, g4, h2⟩ := hall 1 (.inr rfl)
      (repeat simp -dsimp only [zrCaps51, xnils, xnilm, xrange, xmakeMap, xslice3, RB, TB, keep11, tab11, xindexAddr, xindex, xslice, xconvert, xlen, ewOp, FreeW, StabW, SameW, ChangeW, AddW, BaseW, limBytes, simprocAttr, ne_eq])
      (refine SCall.then (gInsertA H _ g3 (by omega) (by omega) (by simp) hcn3 hp hnn hpk hn0p 0 (by omega) 0 rfl) ?_)
      (repeat simp -dsimp only [zrCaps51, xnils, xnilm, xrange, xmakeMap, xslice3, RB, TB, keep11, tab11, xindexAddr, xindex, xslice, xconvert, xlen, ewOp, FreeW, StabW, SameW, ChangeW, AddW, BaseW, limBytes, simprocAttr, ne_eq])
      have hkl : ∀ t ∈ (insA a3 1 c 0 p n0).nodes, t.2.2.kids.length ≤ 1000000 := fun t ht => (g4.freeOK (by omega) (by omega)).own t ht |>.2
      have fok := g4.freeOK (by omega) (by omega)
      generalize insA a3 1 c 0 p n0 = a4 at *
      (refine SCall.then (cNew _ ow 1) ?_)
      (repeat simp -dsimp only [zrCaps51, xnils, xnilm, xrange, xmakeMap, xslice3, RB, TB, keep11, tab11, xindexAddr, xindex, xslice, xconvert, xlen, ewOp, FreeW, StabW, SameW, ChangeW, AddW, BaseW, limBytes, simprocAttr, ne_eq])
      (refine SCall.then (cGrant_fn _ (H.length + 2) ow 1 c (fun e => h2.c1 e.symm) (by simp)) ?_)
      (repeat simp -dsimp only [zrCaps51, xnils, xnilm, xrange, xmakeMap, xslice3, RB, TB, keep11, tab11, xindexAddr, xindex, xslice, xconvert, xlen, ewOp, FreeW, StabW, SameW, ChangeW, AddW, BaseW, limBytes, simprocAttr, ne_eq])
      obtain ⟨e11, i11, e12⟩ := h2.sees1 (ow := ow)
      obtain ⟨hS2, hO2, hO1, hS1⟩ := tableCalls H ow c a4 h2.ul h2.ll h2.ok h2.ky (by have := h2.len; omega)
      obtain ⟨nn, k1, k2, k3, k4, k5⟩ := h2.node
      have e21 : seesE a4 ow 1 c = if (w : Int) = ow then 0 else 20 := h2.in1
      by_cases hwo : (w : Int) = ow
      · rw [if_pos hwo] at e21
        obtain ⟨hx, hy, e22⟩ := ids_of (ow := ow) h2.c1 k1 k2 e21
        have hwb : ((w : Int) == ow) = true := by simpa using hwo
        rw [e21] at hS2
        rw [e22] at hO2
        rw [e11] at hS1
        rw [e12] at hO1
        (refine SCall.then (hS2 _) ?_)
        (repeat simp -dsimp only [zrCaps51, xnils, xnilm, xrange, xmakeMap, xslice3, nodeV, RB, TB, keep11, tab11, xindexAddr, xindex, xslice, xconvert, xlen, ewOp, FreeW, StabW, SameW, ChangeW, AddW, BaseW, limBytes, simprocAttr, ne_eq])
        (refine SCall.then (hO2 _) ?_)
        (repeat simp -dsimp only [zrCaps51, xnils, xnilm, xrange, xmakeMap, xslice3, nodeV, RB, TB, keep11, tab11, xindexAddr, xindex, xslice, xconvert, xlen, ewOp, FreeW, StabW, SameW, ChangeW, AddW, BaseW, limBytes, simprocAttr, ne_eq])
        (refine SCall.then (hO1 _) ?_)
        (repeat simp -dsimp only [zrCaps51, xnils, xnilm, xrange, xmakeMap, xslice3, nodeV, RB, TB, keep11, tab11, xindexAddr, xindex, xslice, xconvert, xlen, ewOp, FreeW, StabW, SameW, ChangeW, AddW, BaseW, limBytes, simprocAttr, ne_eq])
        (refine SCall.then (hS1 _) ?_)
        (repeat simp -dsimp only [zrCaps51, xnils, xnilm, xrange, xmakeMap, xslice3, nodeV, i11, hx, hy, hwb, RB, TB, keep11, tab11, xindexAddr, xindex, xslice, xconvert, xlen, ewOp, FreeW, StabW, SameW, ChangeW, AddW, BaseW, limBytes, simprocAttr, ne_eq])
        refine RetW.auto0 false _ (by first | rfl | exact (List.append_nil _).symm) ?_ ?_
        · (simp (maxDischargeDepth := 6) [LTB, HLt_set, ltL_take, ltL_drop, ltL_rep, ltL_set, upd, eset, hH, hHk, lt_encM, lt_arC, ltL_nodeC, zlCaps51] <;> omega)
        (try simp only [wk, wk1, wk0, RB, limBytes, simprocAttr, ne_eq])
        skip
      · rw [if_neg hwo] at e21
        obtain ⟨hx, hy, e22⟩ := ids_no (a := a4) (ow := ow) (c := c) (by rw [e21]; decide)
        rw [e21] at e22
        have hwb : ((w : Int) == ow) = false := by simpa using hwo
        rw [e21] at hS2
        rw [e22] at hO2
        rw [e11] at hS1
        rw [e12] at hO1
        (refine SCall.then (hS2 _) ?_)
        (repeat simp -dsimp only [zrCaps51, xnils, xnilm, xrange, xmakeMap, xslice3, nodeV, RB, TB, keep11, tab11, xindexAddr, xindex, xslice, xconvert, xlen, ewOp, FreeW, StabW, SameW, ChangeW, AddW, BaseW, limBytes, simprocAttr, ne_eq])
        (refine SCall.then (hO2 _) ?_)
        (repeat simp -dsimp only [zrCaps51, xnils, xnilm, xrange, xmakeMap, xslice3, nodeV, RB, TB, keep11, tab11, xindexAddr, xindex, xslice, xconvert, xlen, ewOp, FreeW, StabW, SameW, ChangeW, AddW, BaseW, limBytes, simprocAttr, ne_eq])
        (refine SCall.then (hO1 _) ?_)
        (repeat simp -dsimp only [zrCaps51, xnils, xnilm, xrange, xmakeMap, xslice3, nodeV, RB, TB, keep11, tab11, xindexAddr, xindex, xslice, xconvert, xlen, ewOp, FreeW, StabW, SameW, ChangeW, AddW, BaseW, limBytes, simprocAttr, ne_eq])
        (refine SCall.then (hS1 _) ?_)
        (repeat simp -dsimp only [zrCaps51, xnils, xnilm, xrange, xmakeMap, xslice3, nodeV, i11, hx, hy, hwb, RB, TB, keep11, tab11, xindexAddr, xindex, xslice, xconvert, xlen, ewOp, FreeW, StabW, SameW, ChangeW, AddW, BaseW, limBytes, simprocAttr, ne_eq])
        refine RetW.auto0 false _ (by first | rfl | exact (List.append_nil _).symm) ?_ ?_
        · (simp (maxDischargeDepth := 6) [LTB, HLt_set, ltL_take, ltL_drop, ltL_rep, ltL_set, upd, eset, hH, hHk, lt_encM, lt_arC, ltL_nodeC, zlCaps51] <;> omega)
        (try simp only [wk, wk1, wk0, RB, limBytes, simprocAttr, ne_eq])
        skip
    · obtain ⟨p, hp, hpk, hpc, g4, h2⟩ := hall 1 (.inr rfl)
      (repeat simp -dsimp only [zrCaps51, xnils, xnilm, xrange, xmakeMap, xslice3, RB, TB, keep11, tab11, xindexAddr, xindex, xslice, xconvert, xlen, ewOp, FreeW, StabW, SameW, ChangeW, AddW, BaseW, limBytes, simprocAttr, ne_eq])
      (refine SCall.then (gInsertA H _ g3 (by omega) (by omega) (by simp) hcn3 hp hnn hpk hn0p 0 (by omega) 0 rfl) ?_)
      (repeat simp -dsimp only [zrCaps51, xnils, xnilm, xrange, xmakeMap, xslice3, RB, TB, keep11, tab11, xindexAddr, xindex, xslice, xconvert, xlen, ewOp, FreeW, StabW, SameW, ChangeW, AddW, BaseW, limBytes, simprocAttr, ne_eq])
      have hkl : ∀ t ∈ (insA a3 1 c 0 p n0).nodes, t.2.2.kids.length ≤ 1000000 := fun t ht => (g4.freeOK (by omega) (by omega)).own t ht |>.2
      have fok := g4.freeOK (by omega) (by omega)
      generalize insA a3 1 c 0 p n0 = a4 at *
      (refine SCall.then (cNew _ ow 1) ?_)
      (repeat simp -dsimp only [zrCaps51, xnils, xnilm, xrange, xmakeMap, xslice3, RB, TB, keep11, tab11, xindexAddr, xindex, xslice, xconvert, xlen, ewOp, FreeW, StabW, SameW, ChangeW, AddW, BaseW, limBytes, simprocAttr, ne_eq])
      (refine SCall.then (cGrant_fn _ (H.length + 2) ow 1 c (fun e => h2.c1 e.symm) (by simp)) ?_)
      (repeat simp -dsimp only [zrCaps51, xnils, xnilm, xrange, xmakeMap, xslice3, RB, TB, keep11, tab11, xindexAddr, xindex, xslice, xconvert, xlen, ewOp, FreeW, StabW, SameW, ChangeW, AddW, BaseW, limBytes, simprocAttr, ne_eq])
      obtain ⟨f1, f2, ⟨md, f3, f4, f5⟩, f6, f7, f8, f9⟩ := h2.gone (.inr rfl) fok
      obtain ⟨nn, k1, k2, k3, k4, k5⟩ := h2.node
      have gR := fun K => gRemove H K a4 h2.ul h2.ll h2.ok h2.ky 1 c nn k1 h2.c0 (by rw [k4]; exact f1) (by rw [k4]; exact f2) hkl
      rw [k4] at gR
      have hu5 := (freeG_ok 1 _ c f1).1.ul
      have hl5 := (freeG_ok 1 _ c f1).1.ll
      (refine SCall.then (gR _) ?_)
      (repeat simp -dsimp only [zrCaps51, xnils, xnilm, xrange, xmakeMap, xslice3, RB, TB, keep11, tab11, xindexAddr, xindex, xslice, xconvert, xlen, ewOp, FreeW, StabW, SameW, ChangeW, AddW, BaseW, limBytes, simprocAttr, ne_eq])
      generalize (freeG 1 (remA a4 c 1) c).1 = a5 at *
      have e21 : seesE a5 ow 1 c = 21 := gone1 f6
      have e11 : seesE a5 ow 1 1 = 0 := by unfold seesE; rw [f3]; simp only; rw [inside_here f3 f4 (by simp), if_neg (by simp), if_neg (fun e => e.1 rfl)]
      have i11 : (seesN a5 ow 1 1).id = 1 := by unfold seesN; rw [if_pos e11, nodeAt_some f3]; exact f4
      have e12 : ownsE a5 ow 1 1 = 20 := by unfold ownsE; rw [if_neg (fun e => e e11), if_pos rfl]
      obtain ⟨hx, hy, e22⟩ := ids_no (a := a5) (ow := ow) (c := c) (by rw [e21]; decide)
      rw [e21] at e22
      obtain ⟨hS2, hO2, hO1, hS1⟩ := tableCalls H ow c a5 hu5 hl5 f7 f8 f9
      rw [e21] at hS2
      rw [e22] at hO2
      rw [e11] at hS1
      rw [e12] at hO1
      (refine SCall.then (hS2 _) ?_)
      (repeat simp -dsimp only [zrCaps51, xnils, xnilm, xrange, xmakeMap, xslice3, nodeV, RB, TB, keep11, tab11, xindexAddr, xindex, xslice, xconvert, xlen, ewOp, FreeW, StabW, SameW, ChangeW, AddW, BaseW, limBytes, simprocAttr, ne_eq])
      (refine SCall.then (hO2 _) ?_)
      (repeat simp -dsimp only [zrCaps51, xnils, xnilm, xrange, xmakeMap, xslice3, nodeV, RB, TB, keep11, tab11, xindexAddr, xindex, xslice, xconvert, xlen, ewOp, FreeW, StabW, SameW, ChangeW, AddW, BaseW, limBytes, simprocAttr, ne_eq])
      (refine SCall.then (hO1 _) ?_)
      (repeat simp -dsimp only [zrCaps51, xnils, xnilm, xrange, xmakeMap, xslice3, nodeV, RB, TB, keep11, tab11, xindexAddr, xindex, xslice, xconvert, xlen, ewOp, FreeW, StabW, SameW, ChangeW, AddW, BaseW, limBytes, simprocAttr, ne_eq])
      (refine SCall.then (hS1 _) ?_)
      (repeat simp -dsimp only [zrCaps51, xnils, xnilm, xrange, xmakeMap, xslice3, nodeV, i11, hx, hy, RB, TB, keep11, tab11, xindexAddr, xindex, xslice, xconvert, xlen, ewOp, FreeW, StabW, SameW, ChangeW, AddW, BaseW, limBytes, simprocAttr, ne_eq])
      refine RetW.auto0 false _ (by first | rfl | exact (List.append_nil _).symm) ?_ ?_
      · (simp (maxDischargeDepth := 6) [LTB, HLt_set, ltL_take, ltL_drop, ltL_rep, ltL_set, upd, eset, hH, hHk, lt_encM, lt_arC, ltL_nodeC, zlCaps51] <;> omega)
      (try simp only [wk, wk1, wk0, RB, limBytes, simprocAttr, ne_eq])
      skip
end Go.Proofs.Ytjplgbalpnlanaa

/- CapsSees: the law returns true at every input, and the arguments read as they did. -/
set_option linter.unusedSimpArgs false
set_option linter.unusedVariables false
set_option maxRecDepth 100000
set_option maxHeartbeats 1000000
namespace Go.Proofs.Ytjplgbalpnlanaa
open Go Go.EL

theorem own_none : ownKnob Try.prog.godebug = none := by kernel_rfl
theorem laid_out : laidOutB Try.prog = true := by kernel_rfl
open Go.ChangeShapes Go.WideShapes Go.ChangeAt Go.RowKit in
theorem capsSees_lifted (os : Os) (started : os.Started) (H : Type) (enc : TypeId × Value → H) :
    ReturnsInHanded {} Try.checked os 11 .any (Rows.capsSeesSpec.pre6 enc Try.prog Try.f11 Rows.capsSeesRow.domain false) (Rows.capsSeesSpec.post enc Try.prog Try.f11 false true false false) := by
  refine returnsInHanded_of_change (C := Try.checked) own_none started (by kernel_rfl) Try.func11
    (ChangeSpec.witness6 (enc := enc) (C := Try.checked) false ⟨#[], #[.int .i64 0, .int .i64 0, .bool false, .bool false], []⟩ 8 (by kernel_rfl) (by kernel_rfl) (by kernel_rfl) (by kernel_rfl)) ?_
  intro W base args ds gs before hval0 hW hcnd _
  have hval : ∀ (j : Nat) t v, Try.f11.params[j]? = some t → args[j]? = some v → Value.okWide Try.prog W .any base t v := hval0
  obtain ⟨p0_, q0_, hA, _⟩ := id hW
  have hA0 : DataW.TrodAll enc Try.prog W 0 (fun _ => true) true Try.f11.params.toList args.toList ds p0_ := hA
  rw [Try.params11] at hA0 hval
  obtain ⟨v0, v1, v2, v3, d0, d1, d2, d3, p0, p1, p2, p3, rfl, rfl, rfl, h0, h1, h2, h3⟩ := trodAll_four hA0
  obtain ⟨ow, hp_ow, hz_ow, hv_ow⟩ := (Dec.int Try.underlying3).value h0 (fun _ => okAgg_leaf (by simp) (ok_int Try.underlying3 (hval 0 3 v0 rfl rfl)))
  obtain ⟨wh, hp_wh, hz_wh, hv_wh⟩ := (Dec.int Try.underlying3).value h1 (fun _ => okAgg_leaf (by simp) (ok_int Try.underlying3 (hval 1 3 v1 rfl rfl)))
  obtain ⟨ins, hp_ins, hz_ins, hv_ins⟩ := (Dec.bool Try.underlying4).value h2 (fun _ => okAgg_leaf (by simp) (ok_bool Try.underlying4 (hval 2 4 v2 rfl rfl)))
  obtain ⟨gone, hp_gone, hz_gone, hv_gone⟩ := (Dec.bool Try.underlying4).value h3 (fun _ => okAgg_leaf (by simp) (ok_bool Try.underlying4 (hval 3 4 v3 rfl rfl)))
  exact row_contract (P := Try.prog) (s := Rows.capsSeesSpec) (vs := [.int .i64 ow, .int .i64 wh, .bool ins, .bool gone]) laid_out (by kernel_rfl) rfl Try.call11 rfl Try.underlying4 hW ⟨rfl, rfl, rfl⟩ ⟨hv_ow, hv_wh, hv_ins, hv_gone, trivial⟩ (capsSees [] ow wh ins gone)
theorem capsSees_holds : Rows.CapsSeesSaid :=
  OpenClaim.holds_of_wide 11 Try.f11 rfl rfl rfl rfl rfl rfl rfl ⟨rfl, rfl, rfl, rfl, rfl⟩ rfl rfl rfl rfl rfl (by kernel_rfl) Try.func11 (by kernel_rfl)
    (of_decide_eq_true (by kernel_rfl)) (by unfold Func.isWrapper; first | (rw [if_neg (by decide +kernel)]; exact ⟨rfl, rfl⟩) | (rw [if_pos (by decide +kernel)]; kernel_rfl))
    (fun os started H enc _ => capsSees_lifted os started H enc)
end Go.Proofs.Ytjplgbalpnlanaa

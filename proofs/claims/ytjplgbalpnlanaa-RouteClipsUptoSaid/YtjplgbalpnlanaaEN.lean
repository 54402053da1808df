/- The value logic, part N: calls, code, loops. -/
import Derived.Test.YtjplgbalpnlanaaEM
set_option linter.unusedVariables false
set_option linter.unusedSimpArgs false
namespace Go.EL
open Go
variable {P : Program} {T : Nat → TD} {rd : Option Nat} {ds : List Deferred}

/-- what holds two things in their place: 'simp' does not enter them -/
class Hold {α : Sort _} {β : Sort _} (a : α) (b : β) : Type where
instance {α : Sort _} {β : Sort _} (a : α) (b : β) : Hold a b := ⟨⟩

/-- what a call of a function comes to -/
def CallR (P : Program) (f : FuncId) (cargs : Array Value) (w : World) (K : Value → World → Prop) : Prop :=
  match (callFunc f cargs).run P w with
  | .ok (.value v) w' => K v w'
  | .ok (.enter f' args') w' => Calls P f' args' w' fun e w'' => ∃ v, e = .returned v ∧ K v w''
  | _ => False

def SCall (P : Program) (f : FuncId) (args : List V) (H : List Ob) (R : V → List Ob → Prop) [Hold R R] : Prop :=
  ∀ (g : Nat → Option Key) (w : World) (cargs : Array Value), Good g H w → RepVals (cxOf g H.length w) args cargs.toList →
    CallR P f cargs w fun cv w' => ∃ r H' g', Good g' H' w' ∧ Ext g H.length w g' H'.length w' ∧ RepV (cxOf g' H'.length w') r cv ∧ R r H'

theorem CallR.mono {f : FuncId} {cargs : Array Value} {w : World} {K K' : Value → World → Prop} (h : CallR P f cargs w K) (hk : ∀ v w', K v w' → K' v w') : CallR P f cargs w K' := by
  unfold CallR at *
  split
  · rename_i hr; rw [hr] at h; exact hk _ _ h
  · rename_i hr; rw [hr] at h; exact h.mono fun e w' ⟨v, h1, h2⟩ => ⟨v, h1, hk _ _ h2⟩
  · rename_i h1 h2
    split at h
    · rename_i hr; exact absurd hr (h1 _ _)
    · rename_i hr; exact absurd hr (h2 _ _ _)
    · exact h

theorem SCall.mono {f : FuncId} {args : List V} {H : List Ob} {R R' : V → List Ob → Prop} (h : SCall P f args H R) (hr : ∀ r H', R r H' → R' r H') : SCall P f args H R' := by
  intro g w cargs hG ha
  exact (h g w cargs hG ha).mono fun v w' ⟨r, H', g', h1, h2, h3, h4⟩ => ⟨r, H', g', h1, h2, h3, hr _ _ h4⟩

theorem SCall.congr {f : FuncId} {args args' : List V} {H H' : List Ob} {R : V → List Ob → Prop} (h1 : args = args') (h2 : H = H') : SCall P f args H R = SCall P f args' H' R := by rw [h1, h2]

/-- the fence of a round, or of none -/
def fz (rd : Option Nat) : Fence := { Fence.wide with round := rd }
theorem fz_fn {rd : Option Nat} {f : FuncId} : (fz rd).fn f := trivial
theorem callsIn_fz {rd : Option Nat} {m : Nat} {f : FuncId} {args : Array Value} {w : World} {R : Ending → World → Prop} (h : Calls P f args w R) : CallsIn (fz rd) m P f args w R := by
  have h1 : CallsIn Fence.wide m P f args w R := callsIn_wide.2 h
  cases rd with
  | none => exact h1
  | some l => exact CallsIn.inRound l h1
theorem roundIn_fz {rd : Option Nat} {m k l : Nat} {f : FuncId} {tmps : Array Value} {assign body : Code} {w : World} {R : Ending → World → Prop} (h : RoundIn Fence.wide k P l f tmps assign body w R) : RoundIn (fz rd) m P l f tmps assign body w R :=
  ⟨trivial, fun c cs _ => h.2 c cs (room_wide _)⟩
theorem fz_depth {rd : Option Nat} {k : Nat} : (fz rd).depth.isSome = true → 1 ≤ k := fun h => by simp [fz, Fence.wide] at h
/-- what the call of a loop's body, handed on, comes to -/
def YSCall (P : Program) (l : Nat) (args : List V) (H : List Ob) (R : V → List Ob → Prop) [Hold R R] : Prop :=
  ∀ (g : Nat → Option Key) (w : World) (cargs : Array Value), Good g H w → RepVals (cxOf g H.length w) args cargs.toList →
    YieldAt Fence.wide 0 P l cargs w fun e w' => ∃ v, e = .returned v ∧ ∃ r H' g', Good g' H' w' ∧ Ext g H.length w g' H'.length w' ∧ RepV (cxOf g' H'.length w') r v ∧ R r H'
theorem YSCall.congr {l : Nat} {args args' : List V} {H H' : List Ob} {R : V → List Ob → Prop} (h1 : args = args') (h2 : H = H') : YSCall P l args H R = YSCall P l args' H' R := by rw [h1, h2]

def Rel (ds : List Deferred) (n : Nat) (env : Env) (H : List Ob) (g : Nat → Option Key) (a : Act) (w : World) : Prop :=
  a.tmps.size = n ∧ a.defers = ds ∧ EnvRep (cxOf g H.length w) env a ∧ Good g H w

def EW (P : Program) (n : Nat) (c : Code) (Q : Exit → Env → List Ob → Prop) [Hold c Q] (env : Env) (H : List Ob) : Prop :=
  ∀ rd ds g a w, Rel ds n env H g a w → c.wpIn (fz rd) 0 P (fun e a' w' => ∃ env' H' g', Rel ds n env' H' g' a' w' ∧ Ext g H.length w g' H'.length w' ∧ Q e env' H') a w

theorem EW.congr {n : Nat} {c : Code} {Q : Exit → Env → List Ob → Prop} {env env' : Env} {H H' : List Ob} (h1 : env = env') (h2 : H = H') : EW P n c Q env H = EW P n c Q env' H' := by rw [h1, h2]

def Need (pre K : Prop) [Hold K K] : Prop := pre ∧ K
theorem Need.congr {pre pre' K : Prop} (h : pre = pre') : Need pre K = Need pre' K := by rw [h]
theorem Need_true (K : Prop) (i : Hold K K) : @Need True K i = K := by simp [Need]
theorem Need.intro {pre K : Prop} (h : pre) (k : K) : Need pre K := ⟨h, k⟩

def IfW (b : Bool) (X Y : Prop) [Hold X Y] : Prop := (b = true → X) ∧ (b = false → Y)
theorem IfW.congr {b b' : Bool} {X Y : Prop} (h : b = b') : IfW b X Y = IfW b' X Y := by rw [h]
theorem IfW_true (X Y : Prop) (i : Hold X Y) : @IfW true X Y i = X := by simp [IfW]
theorem IfW_false (X Y : Prop) (i : Hold X Y) : @IfW false X Y i = Y := by simp [IfW]
theorem IfW.intro {b : Bool} {X Y : Prop} (h : b = true → X) (k : b = false → Y) : IfW b X Y := ⟨h, k⟩

/-- what a guard says: one way, or the other; it may itself stand behind a guard -/
def GuardW (v : V) (want : Bool) (X Y : Prop) [Hold X Y] : Prop := match v with
  | .bool q => IfW (q == want) X Y
  | .tuple _ => Y
  | _ => False
theorem GuardW_bool (q want : Bool) (X Y : Prop) (i : Hold X Y) : @GuardW (.bool q) want X Y i = @IfW (q == want) X Y i := rfl
theorem GuardW_tuple (l : List V) (want : Bool) (X Y : Prop) (i : Hold X Y) : @GuardW (.tuple l) want X Y i = Y := rfl

/-- a truth value that is not known, but for a case -/
def AnyB (p : Prop) (K : Bool → Prop) [Hold p K] : Prop := ∀ b, (p → b = false) → K b
theorem AnyB.intro {p : Prop} {K : Bool → Prop} (h : ∀ b, (p → b = false) → K b) : AnyB p K := h
/-- the step of an iterator: any entry that is not seen yet, or the end -/
def NextW (it : V) (H : List Ob) (K : V → List Ob → Prop) [Hold H K] : Prop := ∃ i o since seen last l ck, it = .ref i 0 ∧ H[i]? = some (.iter o since seen last) ∧ H[o]? = some (.map l ck) ∧ (seen = [] ∨ l = [] ∨ ∃ p ∈ l, p.2.1 < last) ∧
  (∀ p ∈ l, p.2.1 ∉ seen → K (.tuple [.bool true, .int .i64 p.1, p.2.2]) (H.set i (.iter o since (seen ++ [p.2.1]) ck))) ∧ ((∀ p ∈ l, p.2.1 < since → p.2.1 ∈ seen) → K (.tuple [.bool false]) H)
theorem NextW.intro {it : V} {H : List Ob} {K : V → List Ob → Prop} (i o since : Nat) (seen : List Nat) (last : Nat) (l : List (Int × Nat × V)) (ck : Nat) (h1 : it = .ref i 0) (h2 : H[i]? = some (.iter o since seen last)) (h3 : H[o]? = some (.map l ck)) (h4 : seen = [] ∨ l = [] ∨ ∃ p ∈ l, p.2.1 < last)
    (h5 : ∀ p ∈ l, p.2.1 ∉ seen → K (.tuple [.bool true, .int .i64 p.1, p.2.2]) (H.set i (.iter o since (seen ++ [p.2.1]) ck))) (h6 : (∀ p ∈ l, p.2.1 < since → p.2.1 ∈ seen) → K (.tuple [.bool false]) H) : NextW it H K := ⟨i, o, since, seen, last, l, ck, h1, h2, h3, h4, h5, h6⟩
/-- one operation -/
def ewOp (P : Program) (T : Nat → TD) (own : Bool) (o : Oper) (K : V → List Ob → Prop) (env : Env) (H : List Ob) : Prop :=
  match xop T own (evl env) H o.op with
  | .val pre v H' => Need pre (K v H')
  | .maybe pre p f H' => Need pre (AnyB p fun b => K (f b) H')
  | .steps it => NextW it H K
  | .call f args => SCall P f args H K
  | .ycall l args => YSCall P l args H K
  | .bad => False

def gval (ops : List Oper) (env : Env) (j : Nat) : V := match (ops[j]?).bind (·.dst) with | some t => eget env t | none => .dead

def ewOps (P : Program) (T : Nat → TD) (own : Bool) (ops : List Oper) : List Oper → (Env → List Ob → Prop) → Env → List Ob → Prop
  | [], K, env, H => K env H
  | o :: rest, K, env, H =>
    match o.guard with
    | none => ewOp P T own o (fun v H' => ewOps P T own ops rest K (eput env o.dst v) H') env H
    | some (j, want) => GuardW (gval ops env j) want (ewOp P T own o (fun v H' => ewOps P T own ops rest K (eput env o.dst v) H') env H) (ewOps P T own ops rest K (eput env o.dst (.tuple [])) H)

theorem ewOp.congr {own : Bool} {o : Oper} {K : V → List Ob → Prop} {env env' : Env} {H H' : List Ob} (h1 : env = env') (h2 : H = H') : ewOp P T own o K env H = ewOp P T own o K env' H' := by rw [h1, h2]
theorem ewOps.congr {own : Bool} {ops l : List Oper} {K : Env → List Ob → Prop} {env env' : Env} {H H' : List Ob} (h1 : env = env') (h2 : H = H') : ewOps P T own ops l K env H = ewOps P T own ops l K env' H' := by rw [h1, h2]

def restr (ks : List Nat) (env : Env) : Env := ks.map fun t => (t, eget env t)

theorem get_restrict (env : Env) (t : Nat) : ∀ (ks : List Nat), eget (restr ks env) t = if t ∈ ks then eget env t else .dead
  | [] => by simp [restr, eget]
  | k :: ks => by
    have ih := get_restrict env t ks
    simp only [restr, List.map_cons, eget] at ih ⊢
    rw [ih]
    by_cases h : k = t
    · subst h; simp
    · simp [h, Ne.symm h]

theorem EnvRep.restr {c : Cx} {env : Env} {a : Act} (ks : List Nat) (h : EnvRep c env a) : EnvRep c (restr ks env) a := by
  intro t
  rw [get_restrict]
  split
  · exact h t
  · trivial

/-- the code's fixed facts: what is written lies in the frame; regions draw as told -/
def codeOK (n : Nat) : Code → Bool
  | .region _ ops _ => ops.toList.all fun o => match o.dst with | some d => decide (d < n) | none => true
  | .seq a b => codeOK n a && codeOK n b
  | .cond _ a b => codeOK n a && codeOK n b
  | .block _ b => codeOK n b
  | .loop b => codeOK n b
  | .scope b => codeOK n b
  | _ => true

section
variable {n : Nat} {env : Env} {H : List Ob} {g : Nat → Option Key} {a : Act} {w : World}

theorem Rel.put (h : Rel ds n env H g a w) {d : Option Tmp} (hd : ∀ t, d = some t → t < n) {v : V} {cv : Value} {H' g' w'} (hG : Good g' H' w') (he : Ext g H.length w g' H'.length w') (hv : RepV (cxOf g' H'.length w') v cv) :
    Rel ds n (eput env d v) H' g' (a.put d cv) w' := by
  obtain ⟨h1, h2, h3, h4⟩ := h
  refine ⟨by cases d <;> simp [Act.put, h1], by cases d <;> simp [Act.put, h2], (h3.mono he.mono).put (by rw [h1]; exact hd) hv, hG⟩

theorem Rel.put_undef (h : Rel ds n env H g a w) {d : Option Tmp} (hd : ∀ t, d = some t → t < n) : Rel ds n (eput env d .dead) H g (a.put d undef) w :=
  h.put hd h.2.2.2 (Ext.refl _ _ _) trivial

theorem Rel.put_undefT (h : Rel ds n env H g a w) {d : Option Tmp} (hd : ∀ t, d = some t → t < n) : Rel ds n (eput env d (.tuple [])) H g (a.put d undef) w :=
  h.put hd h.2.2.2 (Ext.refl _ _ _) ⟨by simp only [RepC]; exact ⟨[], rfl, rfl⟩, trivial⟩

theorem execOp_call {o : Oper} {c : Call} {fo : Operand} {k : FuncId} {first cap : Array Value} {ρc : Operand → Value} (ho : o.op = .call c) (hc : c.callee = .value fo) (hf : ρc fo = .func (.func k) first cap) :
    (execOp ρc o).run P w = (callFunc k (first ++ c.args.map ρc ++ cap)).run P w := by
  simp [execOp, ho, resolve, hc, hf, Deferred.ofValue, invoke]

theorem xload_nc {d : TD} {H : List Ob} {a : V} {f args} : xload d H a ≠ .call f args := by
  unfold xload; (repeat' split) <;> simp
theorem xstore_nc {d : TD} {H : List Ob} {a x : V} {f args} : xstore d H a x ≠ .call f args := by
  unfold xstore; (repeat' split) <;> simp
theorem xfieldAddr_nc {d : TD} {H : List Ob} {a : V} {i f args} : xfieldAddr T d H a i ≠ .call f args := by
  unfold xfieldAddr; (repeat' split) <;> simp
theorem xindexAddr_nc {d : TD} {H : List Ob} {a i : V} {f args} : xindexAddr T d H a i ≠ .call f args := by
  unfold xindexAddr; (repeat' split) <;> simp
theorem xindex_nc {d : TD} {H : List Ob} {a i : V} {f args} : xindex T d H a i ≠ .call f args := by
  unfold xindex; (repeat' split) <;> simp
theorem xslice_nc {d : TD} {H : List Ob} {a : V} {lo hi f args} : xslice T H d a lo hi ≠ .call f args := by
  unfold xslice xsliceA; (repeat' split) <;> simp
theorem xslice3_nc {d : TD} {H : List Ob} {a : V} {lo hi m f args} : xslice3 T H d a lo hi m ≠ .call f args := by
  unfold xslice3; (repeat' split) <;> simp
theorem xslice3_ny {d : TD} {H : List Ob} {a : V} {lo hi m f args} : xslice3 T H d a lo hi m ≠ .ycall f args := by
  unfold xslice3; (repeat' split) <;> simp
theorem xpart_nc {d : TD} {H : List Ob} {off} {x : V} {f args} : xpart d H off x ≠ .call f args := by
  unfold xpart; (repeat' split) <;> simp
theorem xnil_nc {d : TD} {H : List Ob} {op} {x : V} {f args} : xnil d H op x ≠ .call f args := by
  unfold xnil; (repeat' split) <;> simp
theorem xbin_nc {d : TD} {H : List Ob} {op} {x y : V} {f args} : xbin T H d op x y ≠ .call f args := by
  unfold xbin; (repeat' split) <;> first | exact xnil_nc | simp
theorem xtoStr_nc {H : List Ob} {x : V} {f args} : xtoStr H x ≠ .call f args := by
  unfold xtoStr; (repeat' split) <;> simp
theorem xconvert_nc {own s d e} {H : List Ob} {x : V} {f args} : xconvert own s d e H x ≠ .call f args := by
  unfold xconvert; (repeat' split) <;> simp
theorem xmake_nc {d : TD} {H : List Ob} {x y : V} {f args} : xmake d H x y ≠ .call f args := by
  unfold xmake; (repeat' split) <;> simp
theorem xbuiltin_nc {H : List Ob} {b ts} {xs : List V} {f args} : xbuiltin T H b ts xs ≠ .call f args := by
  unfold xbuiltin xlen xmapLen xappend xmin xclear xdelete; (repeat' split) <;> simp

theorem xmapLen_nc {H : List Ob} {x : V} {f args} : xmapLen H x ≠ .call f args := by
  unfold xmapLen; (repeat' split) <;> simp
theorem xlookup_nc {d : TD} {H : List Ob} {ok} {x i : V} {f args} : xlookup T d H ok x i ≠ .call f args := by
  unfold xlookup; (repeat' split) <;> simp
theorem xmapUpdate_nc {d : TD} {H : List Ob} {m i x : V} {f args} : xmapUpdate T d H m i x ≠ .call f args := by
  unfold xmapUpdate; (repeat' split) <;> simp
theorem xrange_nc {d : TD} {H : List Ob} {x : V} {f args} : xrange d H x ≠ .call f args := by
  unfold xrange; (repeat' split) <;> simp
theorem xentry_nc {H : List Ob} {x : V} {f args} : xentry H x ≠ .call f args := by
  unfold xentry; (repeat' split) <;> simp
theorem xnilm_nc {d : TD} {H : List Ob} {op} {x : V} {f args} : xnilm d H op x ≠ .call f args := by
  unfold xnilm; (repeat' split) <;> simp
theorem xlookup_ny {d : TD} {H : List Ob} {ok} {x i : V} {f args} : xlookup T d H ok x i ≠ .ycall f args := by
  unfold xlookup; (repeat' split) <;> simp
theorem xmapUpdate_ny {d : TD} {H : List Ob} {m i x : V} {f args} : xmapUpdate T d H m i x ≠ .ycall f args := by
  unfold xmapUpdate; (repeat' split) <;> simp
theorem xrange_ny {d : TD} {H : List Ob} {x : V} {f args} : xrange d H x ≠ .ycall f args := by
  unfold xrange; (repeat' split) <;> simp
theorem xentry_ny {H : List Ob} {x : V} {f args} : xentry H x ≠ .ycall f args := by
  unfold xentry; (repeat' split) <;> simp
theorem xnilm_ny {d : TD} {H : List Ob} {op} {x : V} {f args} : xnilm d H op x ≠ .ycall f args := by
  unfold xnilm; (repeat' split) <;> simp
theorem xload_ny {d : TD} {H : List Ob} {a : V} {f args} : xload d H a ≠ .ycall f args := by
  unfold xload; (repeat' split) <;> simp
theorem xstore_ny {d : TD} {H : List Ob} {a x : V} {f args} : xstore d H a x ≠ .ycall f args := by
  unfold xstore; (repeat' split) <;> simp
theorem xfieldAddr_ny {d : TD} {H : List Ob} {a : V} {i f args} : xfieldAddr T d H a i ≠ .ycall f args := by
  unfold xfieldAddr; (repeat' split) <;> simp
theorem xindexAddr_ny {d : TD} {H : List Ob} {a i : V} {f args} : xindexAddr T d H a i ≠ .ycall f args := by
  unfold xindexAddr; (repeat' split) <;> simp
theorem xindex_ny {d : TD} {H : List Ob} {a i : V} {f args} : xindex T d H a i ≠ .ycall f args := by
  unfold xindex; (repeat' split) <;> simp
theorem xslice_ny {d : TD} {H : List Ob} {a : V} {lo hi f args} : xslice T H d a lo hi ≠ .ycall f args := by
  unfold xslice xsliceA; (repeat' split) <;> simp
theorem xpart_ny {d : TD} {H : List Ob} {off} {x : V} {f args} : xpart d H off x ≠ .ycall f args := by
  unfold xpart; (repeat' split) <;> simp
theorem xnil_ny {d : TD} {H : List Ob} {op} {x : V} {f args} : xnil d H op x ≠ .ycall f args := by
  unfold xnil; (repeat' split) <;> simp
theorem xbin_ny {d : TD} {H : List Ob} {op} {x y : V} {f args} : xbin T H d op x y ≠ .ycall f args := by
  unfold xbin; (repeat' split) <;> first | exact xnil_ny | simp
theorem xtoStr_ny {H : List Ob} {x : V} {f args} : xtoStr H x ≠ .ycall f args := by
  unfold xtoStr; (repeat' split) <;> simp
theorem xconvert_ny {own s d e} {H : List Ob} {x : V} {f args} : xconvert own s d e H x ≠ .ycall f args := by
  unfold xconvert; (repeat' split) <;> simp
theorem xmake_ny {d : TD} {H : List Ob} {x y : V} {f args} : xmake d H x y ≠ .ycall f args := by
  unfold xmake; (repeat' split) <;> simp
theorem xbuiltin_ny {H : List Ob} {b ts} {xs : List V} {f args} : xbuiltin T H b ts xs ≠ .ycall f args := by
  unfold xbuiltin xlen xmapLen xappend xmin xclear xdelete; (repeat' split) <;> simp

theorem xop_call {own : Bool} {ρ : Operand → V} {H : List Ob} {op : Op} {f : FuncId} {args : List V} (h : xop T own ρ H op = .call f args) :
    ∃ c fo first cap, op = .call c ∧ c.callee = .value fo ∧ ρ fo = .fn (.func f) first cap ∧ args = first ++ c.args.toList.map ρ ++ cap := by
  unfold xop at h
  split at h
  case h_21 c =>
    split at h
    · rename_i fo hc
      split at h
      · rename_i k first cap hq
        injection h with h1 h2
        subst h1 h2
        exact ⟨c, fo, first, cap, rfl, hc, hq, rfl⟩
      · cases h
      · cases h
    · exact absurd h xbuiltin_nc
    · cases h
  case h_22 => (repeat' split at h) <;> first | cases h | exact absurd h xmake_nc
  case h_23 => (repeat' split at h) <;> first | cases h | exact absurd h xpart_nc
  case h_8 => split at h <;> first | cases h | exact absurd h xload_nc
  case h_9 => split at h <;> first | cases h | exact absurd h xstore_nc
  case h_10 => exact absurd h xfieldAddr_nc
  case h_11 => exact absurd h xindexAddr_nc
  case h_12 => exact absurd h xindex_nc
  case h_13 => split at h <;> first | exact absurd h xslice_nc | exact absurd h xslice3_nc
  case h_15 =>
    split at h
    · exact absurd h xnils_call
    · split at h
      · exact absurd h xnilm_nc
      · exact absurd h xbin_nc
  case h_24 => split at h; (cases h); (unfold xmakeMap at h; split at h <;> cases h)
  case h_25 => exact absurd h xlookup_nc
  case h_26 => exact absurd h xmapUpdate_nc
  case h_27 => exact absurd h xrange_nc
  case h_28 => exact absurd h xentry_nc
  case h_30 => (repeat' split at h) <;> cases h
  case h_31 => split at h <;> cases h
  case h_18 =>
    split at h
    · split at h <;> first | cases h | exact absurd h xtoStr_nc
    · cases h
    · exact absurd h xconvert_nc
    · exact absurd h xconvert_nc
  all_goals first
    | cases h
    | (split at h <;> cases h)

theorem xop_ycall {own : Bool} {ρ : Operand → V} {H : List Ob} {op : Op} {l : Nat} {args : List V} (h : xop T own ρ H op = .ycall l args) :
    ∃ c fo, op = .call c ∧ c.callee = .value fo ∧ ρ fo = .fn (.yield l) [] [] ∧ args = c.args.toList.map ρ := by
  cases op
  case call c =>
    simp only [xop] at h
    split at h
    · rename_i fo hc
      split at h
      · cases h
      · rename_i l' hq
        injection h with h1 h2
        subst h1 h2
        exact ⟨c, fo, rfl, hc, hq, rfl⟩
      · cases h
    · exact absurd h xbuiltin_ny
    · cases h
  case makeSlice => simp only [xop] at h; (repeat' split at h) <;> first | cases h | exact absurd h xmake_ny
  case field => simp only [xop] at h; (repeat' split at h) <;> first | cases h | exact absurd h xpart_ny
  case load => simp only [xop] at h; split at h <;> first | cases h | exact absurd h xload_ny
  case store => simp only [xop] at h; split at h <;> first | cases h | exact absurd h xstore_ny
  case fieldAddr => exact absurd h xfieldAddr_ny
  case indexAddr => exact absurd h xindexAddr_ny
  case index => exact absurd h xindex_ny
  case slice => simp only [xop] at h; split at h <;> first | exact absurd h xslice_ny | exact absurd h xslice3_ny
  case binOp =>
    simp only [xop] at h
    split at h
    · exact absurd h xnils_ycall
    · split at h
      · exact absurd h xnilm_ny
      · exact absurd h xbin_ny
  case makeMap => simp only [xop] at h; split at h; (cases h); (unfold xmakeMap at h; split at h <;> cases h)
  case lookup => exact absurd h xlookup_ny
  case mapUpdate => exact absurd h xmapUpdate_ny
  case range => exact absurd h xrange_ny
  case entry => exact absurd h xentry_ny
  case typeAssert => simp only [xop] at h; (repeat' split at h) <;> cases h
  case next => simp only [xop] at h; split at h <;> cases h
  case unOp op t x => cases op <;> simp only [xop] at h <;> first | (cases h; done) | (split at h <;> cases h)
  case convert =>
    simp only [xop] at h
    split at h
    · split at h <;> first | cases h | exact absurd h xtoStr_ny
    · cases h
    · exact absurd h xconvert_ny
    · exact absurd h xconvert_ny
  all_goals first
    | cases h
    | (simp only [xop] at h; split at h <;> cases h)

theorem op_wp' (hTO : TyOK P T) {own : Bool} {o : Oper} {K : V → List Ob → Prop} (hρ : EnvRep (cxOf g H.length w) env a) (hG : Good g H w) (h : ewOp P T own o K env H) {next : Act → World → Prop} {Q : Exit → Act → World → Prop}
    (hn : ∀ v cv H' g' w', Good g' H' w' → Ext g H.length w g' H'.length w' → RepV (cxOf g' H'.length w') v cv → K v H' → next (a.put o.dst cv) w') : o.wpIn (fz rd) 0 P a w next Q := by
  unfold ewOp at h
  have hρ := hρ.ev
  split at h
  · rename_i pre v H' hx
    obtain ⟨w', g', cv, nx, h1, h2, h3, h4, h5⟩ := xop_sound hTO hρ hG hx h.1
    refine ⟨fun _ _ => trivial, ?_⟩
    rw [Oper.semAt_eq _ _ _ (fun c hc => by rw [hc] at hx; simp [xop] at hx), h1]
    rcases h2 with rfl | ⟨rfl, rfl⟩
    · exact hn _ _ _ _ _ h3 h4 h5 h.2
    · exact hn _ _ _ _ _ h3 h4 h5 h.2
  · rename_i pre p f H' hx
    obtain ⟨b, hb, w', g', cv, nx, h1, h2, h3, h4, h5⟩ := xop_maybe hTO hρ (fun v => rfl) hG hx h.1
    refine ⟨fun _ _ => trivial, ?_⟩
    rw [Oper.semAt_eq _ _ _ (fun c hc => by rw [hc] at hx; simp [xop] at hx), h1]
    rcases h2 with rfl | ⟨rfl, rfl⟩
    · exact hn _ _ _ _ _ h3 h4 h5 (h.2 b hb)
    · exact hn _ _ _ _ _ h3 h4 h5 (h.2 b hb)
  · rename_i it hx
    obtain ⟨x, ho, rfl⟩ := xop_steps hx
    obtain ⟨i, oo, since, seen, last, l, ck, k1, k2, k3, k4, k5, k6⟩ := h
    have hit := hρ x
    rw [k1] at hit
    obtain ⟨cv, w', g', v, H', h1, h2, h3, h4, h5⟩ := next_sound (P := P) hG k2 k3 k4 hit o.type
    refine ⟨fun _ _ => trivial, ?_⟩
    rw [Oper.semAt_eq _ _ _ (fun c hc => by rw [hc] at ho; cases ho)]
    have hrun : (execOp a.eval o).run P w = .ok (.value cv) w' := by
      obtain ⟨dst, op, ty, pos, after, guard⟩ := o
      simp only at ho
      subst ho
      simp [execOp, h1]
    rw [hrun]
    rcases h5 with ⟨p, hp, hns, rfl, rfl⟩ | ⟨hall, rfl, rfl⟩
    · exact hn _ _ _ _ _ h2 h3 h4 (k5 p hp hns)
    · exact hn _ _ _ _ _ h2 h3 h4 (k6 hall)
  · rename_i f args hx
    obtain ⟨c, fo, first, cap, ho, hc, hq, rfl⟩ := xop_call hx
    have hf := hρ fo
    rw [hq] at hf
    have hl := hf.leaf (by simp) (by simp)
    simp only [RepC] at hl
    obtain ⟨x, y, hu, hx1, hy1⟩ := hl
    injection hu with hu
    have hrun := execOp_call (P := P) (w := w) ho hc hu
    have hargs : RepVals (cxOf g H.length w) (first ++ c.args.toList.map (evl env) ++ cap) (x.toArray ++ c.args.map a.eval ++ y.toArray).toList := by
      simp only [Array.toList_append, Array.toList_map]
      exact (hx1.vals.append (RepVals.map hρ _)).append hy1.vals
    have hcall := h g w _ hG hargs
    refine ⟨fun _ _ => trivial, ?_⟩
    rw [Oper.semAt_eq _ _ _ (fun c hc => by rw [hc] at ho; cases ho), hrun]
    unfold CallR at hcall
    split at hcall
    · rename_i v w' hr
      rw [hr]
      obtain ⟨r, H', g', k1, k2, k3, k4⟩ := hcall
      exact hn _ _ _ _ _ k1 k2 k3 k4
    · rename_i f' args' w' hr
      rw [hr]
      refine ⟨fz_depth, callsIn_fz (Calls.mono hcall fun e w'' ⟨v, he, r, H', g', k1, k2, k3, k4⟩ => ?_)⟩
      subst he
      exact hn _ _ _ _ _ k1 k2 k3 k4
    · exact hcall.elim
  · rename_i l args hx
    obtain ⟨c, fo, ho, hc, hq, rfl⟩ := xop_ycall hx
    have hf := hρ fo
    rw [hq] at hf
    have hl := hf.leaf (by simp) (by simp)
    simp only [RepC] at hl
    obtain ⟨x, y, hu, hx1, hy1⟩ := hl
    injection hu with hu
    have hxe : x = [] := by simpa only [RepVs] using hx1
    have hye : y = [] := by simpa only [RepVs] using hy1
    subst hxe hye
    have hargs : RepVals (cxOf g H.length w) (c.args.toList.map (evl env)) (c.args.map a.eval).toList := by
      rw [Array.toList_map]
      exact RepVals.map hρ _
    obtain ⟨fn, tmps, assign, body, hy, hR⟩ := h g w _ hG hargs
    have hrun : (execOp a.eval o).run P w = (Instr.yield l (c.args.map a.eval)).run P w := by
      have e1 : a.eval fo = .func (.yield l) #[] #[] := hu
      simp [execOp, ho, resolve, hc, e1, Deferred.ofValue, invoke]
    refine ⟨fun _ _ => trivial, ?_⟩
    rw [Oper.semAt_eq _ _ _ (fun c hc => by rw [hc] at ho; cases ho), hrun, hy]
    refine ⟨fz_depth, roundIn_fz (hR.mono fun e w'' ⟨v, he, r, H', g', k1, k2, k3, k4⟩ => ?_)⟩
    subst he
    exact hn _ _ _ _ _ k1 k2 k3 k4
  · exact h.elim

theorem op_wp (hTO : TyOK P T) {own : Bool} {o : Oper} (hd : ∀ t, o.dst = some t → t < n) {K : V → List Ob → Prop} (hR : Rel ds n env H g a w) (h : ewOp P T own o K env H) {next : Act → World → Prop} {Q : Exit → Act → World → Prop}
    (hn : ∀ v H' g' a' w', Rel ds n (eput env o.dst v) H' g' a' w' → Ext g H.length w g' H'.length w' → K v H' → next a' w') : o.wpIn (fz rd) 0 P a w next Q :=
  op_wp' hTO hR.2.2.1 hR.2.2.2 h fun v cv H' g' w' h1 h2 h3 h4 => hn _ _ _ _ _ (hR.put hd h1 h2 h3) h2 h4

theorem gval_yield {ops : Array Oper} {j : Nat} {b : Bool} (hR : Rel ds n env H g a w) (h : gval ops.toList env j = .bool b) : yielded ops a.tmps j = some b := by
  unfold gval at h
  unfold yielded
  rw [Array.getElem?_toList] at h
  cases hx : (ops[j]?).bind (·.dst) with
  | none => rw [hx] at h; cases h
  | some t =>
    rw [hx] at h
    have := hR.2.2.1 t
    simp only at h
    rw [h] at this
    have := this.bool
    simp only [Option.bind_some]
    have ht : a.tmps[t]? = some (.bool b) := by
      by_cases hlt : t < a.tmps.size
      · rw [Array.getElem?_eq_getElem hlt]
        simpa [Array.getD, hlt] using this
      · simp [Array.getD, hlt, undef] at this
    rw [ht]

theorem gval_tuple {ops : Array Oper} {j : Nat} {l : List V} (hR : Rel ds n env H g a w) (h : gval ops.toList env j = .tuple l) : yielded ops a.tmps j = none := by
  unfold gval at h
  unfold yielded
  rw [Array.getElem?_toList] at h
  cases hx : (ops[j]?).bind (·.dst) with
  | none => rw [hx] at h; cases h
  | some t =>
    rw [hx] at h
    have := hR.2.2.1 t
    simp only at h
    rw [h] at this
    have h1 := this.1
    simp only [RepC] at h1
    obtain ⟨ws, h2, _⟩ := h1
    simp only [Option.bind_some]
    by_cases hlt : t < a.tmps.size
    · rw [Array.getElem?_eq_getElem hlt]
      have e : a.tmps.getD t undef = a.tmps[t] := by simp [Array.getD, hlt]
      rw [e] at h2
      cases hv : a.tmps[t] with
      | bool b => rw [hv] at h2; simp [Value.cells] at h2
      | _ => rfl
    · rw [Array.getElem?_eq_none (Nat.le_of_not_lt hlt)]

theorem ops_wp (hTO : TyOK P T) {own : Bool} {ops : Array Oper} {K : Env → List Ob → Prop} {Q : Exit → Act → World → Prop} : ∀ (l : List Oper) {env : Env} {H : List Ob} {g : Nat → Option Key} {a : Act} {w : World},
    (∀ o ∈ l, ∀ t, o.dst = some t → t < n) → Rel ds n env H g a w → ewOps P T own ops.toList l K env H →
    (∀ env' H' g' a' w', Rel ds n env' H' g' a' w' → Ext g H.length w g' H'.length w' → K env' H' → Q .normal a' w') → wpListIn (fz rd) 0 P ops Q l a w
  | [], env, H, g, a, w, _, hR, h, hK => hK _ _ _ _ _ hR (Ext.refl _ _ _) h
  | o :: rest, env, H, g, a, w, hd, hR, h, hK => by
    have hdo := hd o (by simp)
    have hdr := fun o' (ho' : o' ∈ rest) => hd o' (by simp [ho'])
    have run : ewOp P T own o (fun v H' => ewOps P T own ops.toList rest K (eput env o.dst v) H') env H → o.wpIn (fz rd) 0 P a w (wpListIn (fz rd) 0 P ops Q rest) Q := fun h => op_wp hTO hdo hR h fun v H' g' a' w' hR' he hk =>
      ops_wp hTO rest hdr hR' hk fun env'' H'' g'' a'' w'' hR'' he'' hk'' => hK _ _ _ _ _ hR'' (he.trans he'') hk''
    unfold wpListIn
    simp only [ewOps] at h
    cases hg : o.guard with
    | none =>
      rw [hg] at h
      rw [if_pos (by simp [Region.wanted, hg])]
      exact run h
    | some jw =>
      obtain ⟨j, want⟩ := jw
      rw [hg] at h
      simp only at h
      unfold GuardW at h
      split at h
      · rename_i b hb
        have hy := gval_yield hR hb
        have hw : Region.wanted o (yielded ops a.tmps) = (b == want) := by simp [Region.wanted, hg, hy]
        rw [hw]
        cases hbw : (b == want) with
        | true =>
          rw [if_pos rfl]
          exact run (h.1 hbw)
        | false =>
          rw [if_neg (by simp)]
          exact ⟨fun _ _ => trivial, ops_wp hTO rest hdr (hR.put_undefT hdo) (h.2 hbw) hK⟩
      · rename_i l hb
        have hy := gval_tuple hR hb
        have hw : Region.wanted o (yielded ops a.tmps) = false := by simp [Region.wanted, hg, hy]
        rw [hw, if_neg (by simp)]
        exact ⟨fun _ _ => trivial, ops_wp hTO rest hdr (hR.put_undefT hdo) h hK⟩
      · exact h.elim

theorem EW.region (hTO : TyOK P T) {own : Bool} {id : Nat} {ops : Array Oper} (keep : Nat → List Nat) (hd : codeOK n (.region id ops false) = true) {Q : Exit → Env → List Ob → Prop}
    (h : ewOps P T own ops.toList ops.toList (fun env' H' => Q .normal (restr (keep id) env') H') env H) : EW P n (.region id ops false) Q env H := by
  intro rd ds g a w hR
  refine wpIn_region_list (ops_wp hTO (n := n) ops.toList (fun o ho t ht => ?_) hR h fun env' H' g' a' w' hR' he hk => ⟨_, H', g', ⟨hR'.1, hR'.2.1, hR'.2.2.1.restr (keep id), hR'.2.2.2⟩, he, hk⟩)
  have := List.all_eq_true.1 hd o ho
  simpa [ht] using this

theorem EW.mono {c : Code} {Q Q' : Exit → Env → List Ob → Prop} (h : EW P n c Q env H) (hq : ∀ e env' H', Q e env' H' → Q' e env' H') : EW P n c Q' env H := by
  intro rd ds g a w hR
  exact wpIn_mono (h rd ds g a w hR) fun e a' w' ⟨env', H', g', h1, h2, h3⟩ => ⟨env', H', g', h1, h2, hq _ _ _ h3⟩

def thenE (c : Env → List Ob → Prop) (Q : Exit → Env → List Ob → Prop) : Exit → Env → List Ob → Prop
  | .normal => c
  | .exit id => Q (.exit id)
  | .goto l => Q (.goto l)
  | .ret => Q .ret
  | .panic ch => Q (.panic ch)
  | .outgrown => Q .outgrown

theorem EW.seq {c d : Code} {Q : Exit → Env → List Ob → Prop} (h : EW P n c (thenE (EW P n d Q) Q) env H) : EW P n (.seq c d) Q env H := by
  intro rd ds g a w hR
  refine wpIn_seq (wpIn_mono (h rd ds g a w hR) fun e a' w' ⟨env', H', g', h1, h2, h3⟩ => ?_)
  cases e with
  | normal =>
    exact wpIn_mono (h3 rd ds g' a' w' h1) fun e a'' w'' ⟨env'', H'', g'', k1, k2, k3⟩ => ⟨env'', H'', g'', k1, h2.trans k2, k3⟩
  | exit id => exact ⟨env', H', g', h1, h2, h3⟩
  | goto l => exact ⟨env', H', g', h1, h2, h3⟩
  | ret => exact ⟨env', H', g', h1, h2, h3⟩
  | panic ch => exact ⟨env', H', g', h1, h2, h3⟩
  | outgrown => exact ⟨env', H', g', h1, h2, h3⟩

def condW (v : V) (X Y : Prop) [Hold X Y] : Prop := match v with | .bool b => IfW b X Y | _ => False
theorem condW_bool (b : Bool) (X Y : Prop) (i : Hold X Y) : @condW (.bool b) X Y i = @IfW b X Y i := rfl
theorem condW.congr {v v' : V} {X Y : Prop} (h : v = v') : condW v X Y = condW v' X Y := by rw [h]

theorem EW.cond {c : Operand} {x y : Code} {Q : Exit → Env → List Ob → Prop} (h : condW (evl env c) (EW P n x Q env H) (EW P n y Q env H)) : EW P n (.cond c x y) Q env H := by
  intro rd ds g a w hR
  have hc := hR.2.2.1.ev c
  unfold condW at h
  split at h
  · rename_i b hb
    rw [hb] at hc
    have := hc.bool
    cases b with
    | true => exact wpIn_cond_true this ((h.1 rfl) rd ds g a w hR)
    | false => exact wpIn_cond_false this ((h.2 rfl) rd ds g a w hR)
  · exact h.elim

def inBlockE (id : Nat) (Q : Exit → Env → List Ob → Prop) : Exit → Env → List Ob → Prop
  | .normal => Q .normal
  | .exit id' => if id' = id then Q .normal else Q (.exit id')
  | .goto l => Q (.goto l)
  | .ret => Q .ret
  | .panic ch => Q (.panic ch)
  | .outgrown => Q .outgrown

theorem EW.block {id : Nat} {c : Code} {Q : Exit → Env → List Ob → Prop} (h : EW P n c (inBlockE id Q) env H) : EW P n (.block id c) Q env H := by
  intro rd ds g a w hR
  refine wpIn_block (wpIn_mono (h rd ds g a w hR) fun e a' w' ⟨env', H', g', h1, h2, h3⟩ => ?_)
  cases e with
  | exit id' =>
    simp only [Exit.inBlock, inBlockE] at h3 ⊢
    split
    · rename_i e; rw [if_pos e] at h3; exact ⟨env', H', g', h1, h2, h3⟩
    · rename_i e; rw [if_neg e] at h3; exact ⟨env', H', g', h1, h2, h3⟩
  | _ => exact ⟨env', H', g', h1, h2, h3⟩

theorem EW.exit {id : Nat} {Q : Exit → Env → List Ob → Prop} (h : Q (.exit id) env H) : EW P n (.exit id) Q env H :=
  fun rd ds g a w hR => wpIn_exit ⟨env, H, g, hR, Ext.refl _ _ _, h⟩
theorem EW.ret {Q : Exit → Env → List Ob → Prop} (h : Q .ret env H) : EW P n .ret Q env H :=
  fun rd ds g a w hR => wpIn_ret ⟨env, H, g, hR, Ext.refl _ _ _, h⟩
theorem EW.skip {Q : Exit → Env → List Ob → Prop} (h : Q .normal env H) : EW P n .skip Q env H :=
  fun rd ds g a w hR => wpIn_skip ⟨env, H, g, hR, Ext.refl _ _ _, h⟩

theorem exists_least (p : Nat → Prop) (h : ∃ n, p n) : ∃ n, p n ∧ ∀ m, p m → n ≤ m := by
  obtain ⟨n, hn⟩ := h
  induction n using Nat.strongRecOn with
  | _ n ih =>
    by_cases h : ∃ m, m < n ∧ p m
    · obtain ⟨m, h1, h2⟩ := h
      exact ih m h1 h2
    · exact ⟨n, hn, fun m hm => Nat.le_of_not_lt fun hlt => h ⟨m, hlt, hm⟩⟩

open Classical in
noncomputable def least (p : Nat → Prop) : Nat := if h : ∃ n, p n then Classical.choose (exists_least p h) else 0
theorem least_spec {p : Nat → Prop} (h : ∃ n, p n) : p (least p) ∧ ∀ m, p m → least p ≤ m := by
  unfold least
  rw [dif_pos h]
  exact Classical.choose_spec (exists_least p h)

/-- A LOOP: an invariant, with a number that goes down. -/
theorem EW.loop {c : Code} {Q : Exit → Env → List Ob → Prop} (I : Nat → Env → List Ob → Prop) (m : Nat) (h0 : I m env H)
    (hb : ∀ k env H, I k env H → EW P n c (thenE (fun env' H' => ∃ k', k' < k ∧ I k' env' H') Q) env H) : EW P n (.loop c) Q env H := by
  intro rd ds g a w hR
  let J : Act → World → Nat → Prop := fun a' w' k => ∃ env' H' g', Rel ds n env' H' g' a' w' ∧ Ext g H.length w g' H'.length w' ∧ I k env' H'
  refine wpIn_loop (fun a' w' => ∃ k, J a' w' k) (fun a' w' => least (J a' w')) ⟨m, env, H, g, hR, Ext.refl _ _ _, h0⟩ ?_
  intro a' w' hJ
  have hmin := (least_spec hJ).1
  generalize least (J a' w') = k at hmin ⊢
  obtain ⟨env', H', g', h1, h2, h3⟩ := hmin
  refine wpIn_mono (hb k env' H' h3 rd ds g' a' w' h1) fun e a'' w'' ⟨env'', H'', g'', k1, k2, k3⟩ => ?_
  cases e with
  | normal =>
    obtain ⟨k', hk', hI⟩ := k3
    have hJ2 : J a'' w'' k' := ⟨env'', H'', g'', k1, h2.trans k2, hI⟩
    exact ⟨⟨k', hJ2⟩, Nat.lt_of_le_of_lt ((least_spec ⟨k', hJ2⟩).2 k' hJ2) hk'⟩
  | exit id => exact ⟨env'', H'', g'', k1, h2.trans k2, k3⟩
  | goto l => exact ⟨env'', H'', g'', k1, h2.trans k2, k3⟩
  | ret => exact ⟨env'', H'', g'', k1, h2.trans k2, k3⟩
  | panic ch => exact ⟨env'', H'', g'', k1, h2.trans k2, k3⟩
  | outgrown => exact ⟨env'', H'', g'', k1, h2.trans k2, k3⟩
end
end Go.EL

/- The value logic, part S: regions whose order is open. -/
import Derived.Test.YtjplgbalpnlanaaER
set_option linter.unusedVariables false
set_option linter.unusedSimpArgs false
namespace Go.EL
open Go
variable {P : Program} {T : Nat → TD}

theorem map_congr_mem {α β : Type} {f g : α → β} {l : List α} (h : ∀ x ∈ l, f x = g x) : l.map f = l.map g := List.map_congr_left h

theorem xop_congr {own : Bool} {ρ ρ' : Operand → V} {H : List Ob} (op : Op) (h : ∀ x ∈ op.operands, ρ x = ρ' x) : xop T own ρ H op = xop T own ρ' H op := by
  cases op
  case move x => simp only [xop]; rw [h x (by simp [Op.operands])]
  case assign x => simp only [xop]; rw [h x (by simp [Op.operands])]
  case pick c a b => simp only [xop]; rw [h c (by simp [Op.operands]), h a (by simp [Op.operands]), h b (by simp [Op.operands])]
  case alloc e => rfl
  case box e x => simp only [xop]; rw [h x (by simp [Op.operands])]
  case build t ps =>
    have h' : ∀ p ∈ ps.toList, ρ p.2 = ρ' p.2 := fun p hp => h p.2 (by simp [Op.operands]; exact ⟨p.1, by simpa using hp⟩)
    have e1 : (ps.toList.map fun p => (p.1, ρ p.2)) = ps.toList.map fun p => (p.1, ρ' p.2) := map_congr_mem fun p hp => by rw [h' p hp]
    simp only [xop]
    rw [e1]
    split
    · congr 1
      apply propext
      constructor
      · exact fun ⟨a, b⟩ => ⟨a, fun p hp => by rw [← h' p hp]; exact b p hp⟩
      · exact fun ⟨a, b⟩ => ⟨a, fun p hp => by rw [h' p hp]; exact b p hp⟩
    · congr 1
      apply propext
      constructor
      · exact fun ⟨a, b⟩ => ⟨a, fun p hp => by rw [← h' p hp]; exact b p hp⟩
      · exact fun ⟨a, b⟩ => ⟨a, fun p hp => by rw [h' p hp]; exact b p hp⟩
    · rfl
  case buildSlice t n ps =>
    have h' : ∀ p ∈ ps.toList, ρ p.2 = ρ' p.2 := fun p hp => h p.2 (by simp [Op.operands]; exact ⟨p.1, by simpa using hp⟩)
    have e1 : (ps.toList.map fun p => ρ p.2) = ps.toList.map fun p => ρ' p.2 := map_congr_mem fun p hp => by rw [h' p hp]
    simp only [xop]
    rw [e1]
    split
    · congr 1
      apply propext
      constructor
      · exact fun ⟨a, b, c, d, e⟩ => ⟨a, b, c, d, fun p hp => by rw [← h' p hp]; exact e p hp⟩
      · exact fun ⟨a, b, c, d, e⟩ => ⟨a, b, c, d, fun p hp => by rw [h' p hp]; exact e p hp⟩
    · rfl
  case load t a => simp only [xop]; rw [h a (by simp [Op.operands])]
  case store t a x => simp only [xop]; rw [h a (by simp [Op.operands]), h x (by simp [Op.operands])]
  case fieldAddr t a f => simp only [xop]; rw [h a (by simp [Op.operands])]
  case indexAddr t x i => simp only [xop]; rw [h x (by simp [Op.operands]), h i (by simp [Op.operands])]
  case index t x i => simp only [xop]; rw [h x (by simp [Op.operands]), h i (by simp [Op.operands])]
  case slice t x lo hi mx =>
    have e1 : lo.map ρ = lo.map ρ' := by cases lo with
      | none => rfl
      | some y => simp only [Option.map_some]; rw [h y (by simp [Op.operands])]
    have e2 : hi.map ρ = hi.map ρ' := by cases hi with
      | none => rfl
      | some y => simp only [Option.map_some]; rw [h y (by simp [Op.operands])]
    simp only [xop]
    rw [h x (by simp [Op.operands]), e1, e2]
    cases mx with
    | none => rfl
    | some m => simp only; rw [h m (by simp [Op.operands])]
  case nilCheck x => simp only [xop]; rw [h x (by simp [Op.operands])]
  case binOp op t x y yt => simp only [xop]; rw [h x (by simp [Op.operands]), h y (by simp [Op.operands])]
  case unOp op t x => cases op <;> simp only [xop] <;> rw [h x (by simp [Op.operands])]
  case convert s d x => simp only [xop]; rw [h x (by simp [Op.operands])]
  case makeFunc f first cap =>
    have e1 : first.toList.map ρ = first.toList.map ρ' := map_congr_mem fun x hx => h x (by simp [Op.operands]; exact .inl (by simpa using hx))
    have e2 : cap.toList.map ρ = cap.toList.map ρ' := map_congr_mem fun x hx => h x (by simp [Op.operands]; exact .inr (by simpa using hx))
    simp only [xop]
    rw [e1, e2]
    congr 1
    apply propext
    have h' : ∀ x ∈ first.toList ++ cap.toList, ρ x = ρ' x := fun x hx => h x (by simpa [Op.operands] using hx)
    exact ⟨fun a x hx => by rw [← h' x hx]; exact a x hx, fun a x hx => by rw [h' x hx]; exact a x hx⟩
  case extract t i => simp only [xop]; rw [h t (by simp [Op.operands])]
  case call c =>
    have e1 : c.args.toList.map ρ = c.args.toList.map ρ' := map_congr_mem fun x hx => h x (by simp [Op.operands, Call.operands]; exact .inr (by simpa using hx))
    simp only [xop]
    rw [e1]
    cases hc : c.callee with
    | value f => simp only []; rw [h f (by simp [Op.operands, Call.operands, hc])]
    | builtin b => rfl
    | invoke r m => rfl
  case field t x f => simp only [xop]; rw [h x (by simp [Op.operands])]
  case makeSlice t n c => simp only [xop]; rw [h n (by simp [Op.operands]), h c (by simp [Op.operands])]
  case makeInterface t x => simp only [xop]; rw [h x (by simp [Op.operands])]
  case lookup t x i ok => simp only [xop]; rw [h x (by simp [Op.operands]), h i (by simp [Op.operands])]
  case mapUpdate t m i x => simp only [xop]; rw [h m (by simp [Op.operands]), h i (by simp [Op.operands]), h x (by simp [Op.operands])]
  case range t x => simp only [xop]; rw [h x (by simp [Op.operands])]
  case entry x => simp only [xop]; rw [h x (by simp [Op.operands])]
  case typeAssert x s t ok => simp only [xop]; rw [h x (by simp [Op.operands])]
  case next x s => simp only [xop]; rw [h x (by simp [Op.operands])]
  all_goals rfl

theorem live_free {x : V} {H : List Ob} (h : live [] x) : live H x := by
  unfold live at *
  split at h <;> first | (simp at h; done) | trivial | exact h.elim

/-- what an operation comes to where it asks nothing of the heap -/
theorem nilEq_free {d : TD} {x : V} {p : Prop} {b : Bool} (h : nilEq d [] x = some (p, b)) (hp : p) (H : List Ob) : ∃ p', nilEq d H x = some (p', b) ∧ p' := by
  cases x
  case nilp =>
    simp only [nilEq] at h ⊢
    split at h
    · injection h with h; injection h with h1 h2; subst h1 h2; exact ⟨_, rfl, trivial⟩
    · cases h
  case cref cs c =>
    simp only [nilEq] at h ⊢
    split at h
    · injection h with h; injection h with h1 h2; subst h1 h2; exact ⟨_, rfl, trivial⟩
    · cases h
  case ref o c =>
    simp only [nilEq] at h
    split at h
    · injection h with h; injection h with h1 h2; subst h1 h2; obtain ⟨cs, h⟩ := hp; simp at h
    · cases h
  case eref o v i c =>
    simp only [nilEq] at h
    split at h
    · injection h with h; injection h with h1 h2; subst h1 h2; obtain ⟨cs, l, h, _⟩ := hp; simp at h
    · cases h
  all_goals simp [nilEq] at h
theorem xnil_free {d : TD} {op : BinOp} {x : V} {pre : Prop} {v : V} (h : xnil d [] op x = .val pre v []) (hp : pre) (H : List Ob) : ∃ pre', xnil d H op x = .val pre' v H ∧ pre' := by
  unfold xnil at h ⊢
  split at h
  case h_2 => cases h
  rename_i p b hb
  split at h
  case h_3 => cases h
  all_goals
    injection h with e1 e2 e3
    subst e1 e2
    obtain ⟨p', k1, k2⟩ := nilEq_free hb hp H
    rw [k1]
    exact ⟨_, rfl, k2⟩
theorem xop_free {own : Bool} {ρ : Operand → V} {op : Op} {pre : Prop} {v : V} (h : xop T own ρ [] op = .val pre v []) (hp : pre) : ∀ H : List Ob, ∃ pre', xop T own ρ H op = .val pre' v H ∧ pre' := by
  intro H
  cases op
  all_goals first | (cases h; done) | skip
  case move x => injection h with e1 e2 e3; subst e1 e2; exact ⟨_, rfl, trivial⟩
  case assign x => injection h with e1 e2 e3; subst e1 e2; exact ⟨_, rfl, trivial⟩
  case pick c a b =>
    simp only [xop] at h ⊢
    split at h
    · injection h with e1 e2 e3; subst e1 e2; exact ⟨_, rfl, trivial⟩
    · cases h
  case build t ps =>
    simp only [xop] at h ⊢
    split at h
    · injection h with e1 e2 e3; subst e1 e2; exact ⟨_, rfl, hp⟩
    · injection h with e1 e2 e3; subst e1 e2; exact ⟨_, rfl, hp⟩
    · cases h
  case buildSlice t n ps =>
    simp only [xop] at h ⊢
    split at h
    · cases own with
      | false => injection h with e1 e2 e3; subst e1 e2; exact ⟨_, rfl, hp⟩
      | true => injection h with e1 e2 e3; exact absurd (congrArg List.length e3) (by simp)
    · cases h
  case load t a =>
    simp only [xop] at h ⊢
    split at h
    · cases h
    · rename_i hk
      rw [if_neg hk]
      unfold xload at h ⊢
      split at h
      · simp at h
      · injection h with e1 e2 e3; subst e1 e2; exact ⟨_, rfl, hp⟩
      · simp at h
      · cases h
  case store t a x =>
    simp only [xop] at h
    split at h
    · cases h
    · unfold xstore at h
      split at h
      · simp at h
      · simp at h
      · cases h
  case fieldAddr t a f =>
    simp only [xop] at h ⊢
    unfold xfieldAddr at h ⊢
    split at h
    · split at h
      · split at h
        · injection h with e1 e2 e3; subst e1 e2; exact ⟨_, rfl, live_free hp.1, hp.2⟩
        · injection h with e1 e2 e3; subst e1 e2; exact ⟨_, rfl, live_free hp.1, hp.2⟩
        · injection h with e1 e2 e3; subst e1 e2; exact ⟨_, rfl, live_free hp.1, hp.2⟩
        · cases h
      · cases h
    · cases h
  case indexAddr t x i =>
    simp only [xop] at h ⊢
    unfold xindexAddr at h ⊢
    split at h
    · split at h
      · injection h with e1 e2 e3; subst e1 e2; exact ⟨_, rfl, hp⟩
      · injection h with e1 e2 e3; subst e1 e2; exact ⟨_, rfl, hp⟩
      · simp at h
      · cases h
    · split at h
      · injection h with e1 e2 e3; subst e1 e2; exact ⟨_, rfl, live_free hp.1, hp.2⟩
      · injection h with e1 e2 e3; subst e1 e2; exact ⟨_, rfl, hp⟩
      · cases h
    · cases h
  case index t x i =>
    simp only [xop] at h ⊢
    unfold xindex at h ⊢
    split at h
    · injection h with e1 e2 e3; subst e1 e2; exact ⟨_, rfl, hp⟩
    · injection h with e1 e2 e3; subst e1 e2; exact ⟨_, rfl, hp⟩
    · cases h
  case slice t x lo hi mx =>
    simp only [xop] at h ⊢
    split at h
    · unfold xslice at h ⊢
      split at h
      · split at h
        · split at h
          · injection h with e1 e2 e3; subst e1 e2; first | exact ⟨_, rfl, hp⟩ | (rename_i ha hb; simp only [ha, hb]; exact ⟨_, rfl, hp⟩) | (rename_i ho; rw [if_neg ho]; exact ⟨_, rfl, hp⟩)
          · cases h
        · cases h
      · split at h
        · cases h
        · rename_i hk
          rw [if_neg hk]
          split at h
          · split at h
            · injection h with e1 e2 e3; subst e1 e2; first | exact ⟨_, rfl, hp⟩ | (rename_i ha hb; simp only [ha, hb]; exact ⟨_, rfl, hp⟩) | (rename_i ho; rw [if_neg ho]; exact ⟨_, rfl, hp⟩)
            · cases h
          · split at h
            · injection h with e1 e2 e3; subst e1 e2; first | exact ⟨_, rfl, hp⟩ | (rename_i ha hb; simp only [ha, hb]; exact ⟨_, rfl, hp⟩) | (rename_i ho; rw [if_neg ho]; exact ⟨_, rfl, hp⟩)
            · cases h
          · simp at h
          · cases h
      · split at h
        · cases h
        · unfold xsliceA at h
          split at h
          · simp at h
          · cases h
      · cases h
    · unfold xslice3 at h ⊢
      split at h
      · split at h
        · cases h
        · rename_i hk
          rw [if_neg hk]
          split at h
          · injection h with e1 e2 e3; subst e1 e2; exact ⟨_, rfl, hp⟩
          · injection h with e1 e2 e3; subst e1 e2; exact ⟨_, rfl, hp⟩
          · cases h
      · cases h
  case nilCheck x =>
    simp only [xop] at h ⊢
    split at h
    · injection h with e1 e2 e3; subst e1 e2; exact ⟨_, rfl, live_free hp⟩
    · injection h with e1 e2 e3; subst e1 e2; exact ⟨_, rfl, hp⟩
    · injection h with e1 e2 e3; subst e1 e2; exact ⟨_, rfl, live_free hp⟩
    · cases h
  case binOp op t x y yt =>
    simp only [xop] at h ⊢
    split at h
    · exact absurd h xnils_val
    · rename_i hy
      rw [if_neg hy]
      split at h
      · unfold xnilm at h ⊢
        (repeat' split at h) <;> first
          | (cases h; done)
          | (injection h with e1 e2 e3; subst e1 e2; exact ⟨_, rfl, trivial⟩)
          | (injection h with e1 e2 e3; subst e1 e2; obtain ⟨_, _, hp⟩ := hp; simp at hp)
      · unfold xbin at h ⊢
        split at h
        · split at h <;> first
            | (injection h with e1 e2 e3; subst e1 e2; exact ⟨_, rfl, hp⟩)
            | cases h
        · split at h <;> first
            | (injection h with e1 e2 e3; subst e1 e2; exact ⟨_, rfl, hp⟩)
            | cases h
        · split at h <;> first
            | (injection h with e1 e2 e3; subst e1 e2; exact ⟨_, rfl, hp⟩)
            | cases h
        · split at h
          · split at h
            · rename_i b hb
              try simp only [hb]
              split at h <;> first
                | (injection h with e1 e2 e3; subst e1 e2; exact ⟨_, rfl, hp⟩)
                | cases h
            · cases h
          · cases h
        · exact xnil_free h hp H
        · exact xnil_free h hp H
        · exact xnil_free h hp H
        · exact xnil_free h hp H
        · cases h
  case unOp op t x =>
    cases op <;> simp only [xop] at h ⊢ <;> first
      | cases h
      | (split at h
         · injection h with e1 e2 e3; subst e1 e2; exact ⟨_, rfl, hp⟩
         · cases h)
  case convert s d x =>
    simp only [xop] at h ⊢
    split at h
    · split at h
      · rename_i he
        rw [if_pos he]
        unfold xtoStr at h ⊢
        split at h
        · cases h
        · rename_i hs
          rw [if_neg hs]
          cases hx : ρ x <;> rw [hx] at hs h <;> simp only [elems] at h ⊢ <;> first
            | (injection h with e1 e2 e3; subst e1 e2; exact ⟨_, rfl, hp⟩)
            | (simp at h; done)
            | exact absurd rfl hs
      · cases h
    · cases h
    · unfold xconvert at h ⊢
      split at h
      · injection h with e1 e2 e3; subst e1 e2; first | exact ⟨_, rfl, hp⟩ | (rename_i ha hb; simp only [ha, hb]; exact ⟨_, rfl, hp⟩) | (rename_i ho; rw [if_neg ho]; exact ⟨_, rfl, hp⟩)
      · injection h with e1 e2 e3; subst e1 e2; first | exact ⟨_, rfl, hp⟩ | (rename_i ha hb; simp only [ha, hb]; exact ⟨_, rfl, hp⟩) | (rename_i ho; rw [if_neg ho]; exact ⟨_, rfl, hp⟩)
      · injection h with e1 e2 e3; subst e1 e2; first | exact ⟨_, rfl, hp⟩ | (rename_i ha hb; simp only [ha, hb]; exact ⟨_, rfl, hp⟩)
      · cases h
    · unfold xconvert at h ⊢
      split at h
      · injection h with e1 e2 e3; subst e1 e2; first | exact ⟨_, rfl, hp⟩ | (rename_i ha hb; simp only [ha, hb]; exact ⟨_, rfl, hp⟩) | (rename_i ho; rw [if_neg ho]; exact ⟨_, rfl, hp⟩)
      · injection h with e1 e2 e3; subst e1 e2; first | exact ⟨_, rfl, hp⟩ | (rename_i ha hb; simp only [ha, hb]; exact ⟨_, rfl, hp⟩) | (rename_i ho; rw [if_neg ho]; exact ⟨_, rfl, hp⟩)
      · injection h with e1 e2 e3; subst e1 e2; first | exact ⟨_, rfl, hp⟩ | (rename_i ha hb; simp only [ha, hb]; exact ⟨_, rfl, hp⟩)
      · cases h
  case makeFunc f first cap => injection h with e1 e2 e3; subst e1 e2; exact ⟨_, rfl, hp⟩
  case extract t i =>
    simp only [xop] at h ⊢
    split at h
    · injection h with e1 e2 e3; subst e1 e2; exact ⟨_, rfl, hp⟩
    · cases h
  case call c =>
    simp only [xop] at h ⊢
    split at h
    · split at h <;> cases h
    · unfold xbuiltin at h ⊢
      split at h
      · rename_i _ t x _
        have key2 : ∀ d x, xlen d [] x = .val pre v [] → ∃ pre', xlen d H x = .val pre' v H ∧ pre' := by
          intro d x h
          unfold xlen at h ⊢
          split at h
          · injection h with e1 e2 e3; subst e1 e2; exact ⟨_, rfl, hp⟩
          · injection h with e1 e2 e3; subst e1 e2; exact ⟨_, rfl, hp⟩
          · injection h with e1 e2 e3; subst e1 e2; exact ⟨_, rfl, hp⟩
          · simp at h
          · cases h
        split at h
        · unfold xmapLen at h ⊢
          split at h
          · simp at h
          · injection h with e1 e2 e3; subst e1 e2; exact ⟨_, rfl, hp⟩
          · cases h
        · exact key2 _ _ h
      · have key : ∀ d s x, xappend d [] s x = .val pre v [] → ∀ H, xappend d H s x = .val pre v H := by
          intro d s x hx H
          unfold xappend at hx ⊢
          have he : ∀ xs, elems [] x = some xs → elems H x = some xs := by
            intro xs h
            cases x <;> simp [elems] at h ⊢ <;> exact h
          split at hx
          · cases hx
          · rename_i xs hxs
            rw [he xs hxs]
            simp only
            split at hx
            · simp at hx
            · split at hx
              · rename_i hc
                rw [if_pos hc]
                injection hx with e1 e2 e3
                subst e1 e2
                rfl
              · simp at hx
            · cases hx
        split at h
        · split at h
          · rename_i he
            rw [if_pos he]; exact ⟨_, key _ _ _ h _, hp⟩
          · cases h
        · split at h
          · rename_i he
            rw [if_pos he]; exact ⟨_, key _ _ _ h _, hp⟩
          · cases h
        · cases h
      · unfold xmin at h ⊢
        split at h
        · injection h with e1 e2 e3; subst e1 e2; exact ⟨_, rfl, hp⟩
        · cases h
      · unfold xmin at h ⊢
        split at h
        · injection h with e1 e2 e3; subst e1 e2; exact ⟨_, rfl, hp⟩
        · cases h
      · unfold xdelete at h
        (repeat' split at h) <;> first | (cases h; done) | (simp at *; done)
      · split at h
        · split at h
          · rename_i he
            rw [if_pos he]
            unfold xclear at h ⊢
            split at h
            · simp at h
            · injection h with e1 e2 e3; subst e1 e2; exact ⟨_, rfl, hp⟩
            · cases h
          · cases h
        · cases h
      · cases h
    · cases h
  case field t x f =>
    simp only [xop] at h ⊢
    split at h
    · split at h
      · unfold xpart at h ⊢
        split at h
        · injection h with e1 e2 e3; subst e1 e2; exact ⟨_, rfl, hp⟩
        · cases h
      · cases h
    · cases h
  case makeMap t r =>
    simp only [xop] at h
    unfold xmakeMap at h
    (repeat' split at h) <;> first | (cases h; done) | (simp at *; done)
  case lookup t x i ok =>
    simp only [xop] at h ⊢
    unfold xlookup at h ⊢
    split at h
    · split at h
      · simp at h
      · injection h with e1 e2 e3; subst e1 e2; exact ⟨_, rfl, hp⟩
      · cases h
    · cases h
  case mapUpdate t m k x =>
    simp only [xop] at h
    unfold xmapUpdate at h
    (repeat' split at h) <;> first | (cases h; done) | (simp at *; done)
  case range t x =>
    simp only [xop] at h
    unfold xrange at h
    (repeat' split at h) <;> first | (cases h; done) | (simp at *; done)
  case entry x =>
    simp only [xop] at h
    unfold xentry at h
    (repeat' split at h) <;> first | (cases h; done) | (simp at *; done)
  case next x s => simp only [xop] at h; split at h <;> cases h
  case makeInterface t x => injection h with e1 e2 e3; subst e1 e2; exact ⟨_, rfl, hp⟩
  case typeAssert x s t ok =>
    simp only [xop] at h ⊢
    split at h
    · split at h
      · cases h
      · rename_i ho
        injection h with e1 e2 e3; subst e1 e2
        exact ⟨_, by rw [if_neg ho], hp⟩
    · cases h
  case makeSlice t n c =>
    simp only [xop] at h
    split at h
    · split at h
      · unfold xmake at h
        split at h
        · simp at h
        · cases h
      · cases h
    · cases h
end Go.EL

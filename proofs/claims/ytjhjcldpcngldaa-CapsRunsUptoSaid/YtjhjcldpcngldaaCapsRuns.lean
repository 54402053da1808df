/- CapsRuns, where what it reads is of bulk at most 1048576: the law returns true and the arguments read as they did. -/
import Derived.Test.YtjhjcldpcngldaaCaps2
import Derived.Test.YtjhjcldpcngldaaRows
import Derived.ProofKit
import Derived.JoinedCond
set_option linter.unusedSimpArgs false
set_option linter.unusedVariables false
set_option maxRecDepth 100000
set_option maxHeartbeats 1000000
namespace Go.Proofs.Ytjhjcldpcngldaa
open Go Go.EL

theorem dec_ints : Dec Try.prog 22 (fun l : List Int => V.slice (l.map vi)) (fun _ => True) (fun l => l.length) :=
  Dec.of (Dec.slice Try.underlying22 (of_decide_eq_true (by kernel_rfl)) (Dec.int Try.underlying3)) id (fun x _ => ⟨rfl, trivial, by have := len_sum (fun x : Int => 1) (fun x => by omega) x; simp only [id]; omega⟩)
open Go.ChangeShapes Go.WideShapes Go.ChangeAt Go.RowKit in
theorem capsRuns_lifted (os : Os) (started : os.Started) (H : Type) (enc : TypeId × Value → H) (F : Stop.Interp) :
    ReturnsInHanded {} Try.checked os 3 .any ((Rows.OpenSpec.upto Rows.capsRunsSpec).pre6 enc Try.prog Try.f3 Rows.capsRunsUptoRow.domain false) (((Rows.OpenSpec.upto Rows.capsRunsSpec).at F).post enc Try.prog Try.f3 false true false false) := by
  refine returnsInHanded_of_cond (C := Try.checked) (s := Rows.OpenSpec.upto Rows.capsRunsSpec) (k := Rows.uptoSmall) rfl own_none started (by kernel_rfl) Try.func3
    (OpenSpec.witness (enc := enc) (C := Try.checked) (s := Rows.OpenSpec.upto Rows.capsRunsSpec) (k := Rows.uptoSmall) rfl false ⟨#[], #[.int .i64 0, .int .i64 0, .slice none 0 0, .int .i64 0], []⟩ 8 (by kernel_rfl) (by kernel_rfl) (by kernel_rfl)
      (x := ([.lit (.int .i64 0), .lit (.int .i64 0), .nil, .lit (.int .i64 0)], [], [])) (by kernel_rfl) rfl (by kernel_rfl)) ?_
  intro W base args ds gs before hval0 hW _ hk _
  have hval : ∀ (j : Nat) t v, Try.f3.params[j]? = some t → args[j]? = some v → Value.okWide Try.prog W .any base t v := hval0
  obtain ⟨p0_, q0_, hA, _⟩ := id hW
  have hA0 : DataW.TrodAll enc Try.prog W 0 (fun _ => true) true Try.f3.params.toList args.toList ds p0_ := hA
  rw [Try.params3] at hA0 hval
  obtain ⟨v0, v1, v2, v3, d0, d1, d2, d3, p0, p1, p2, p3, rfl, rfl, rfl, h0, h1, h2, h3⟩ := trodAll_four hA0
  obtain ⟨ow, hp_ow, hz_ow, hv_ow⟩ := (Dec.int Try.underlying3).value h0 (fun _ => okAgg_leaf (by simp) (ok_int Try.underlying3 (hval 0 3 v0 rfl rfl)))
  obtain ⟨m, hp_m, hz_m, hv_m⟩ := (Dec.int Try.underlying3).value h1 (fun _ => okAgg_leaf (by simp) (ok_int Try.underlying3 (hval 1 3 v1 rfl rfl)))
  obtain ⟨l, hp_l, hz_l, hv_l⟩ := dec_ints.value h2 (fun _ => okAgg_leaf (by simp) (ok_slice Try.underlying22 (hval 2 22 v2 rfl rfl)))
  obtain ⟨hd, hp_hd, hz_hd, hv_hd⟩ := (Dec.int Try.underlying3).value h3 (fun _ => okAgg_leaf (by simp) (ok_int Try.underlying3 (hval 3 3 v3 rfl rfl)))
  have hb : Rows.uptoBulkAll ([d0, d1, d2, d3] ++ gs) ≤ 1048576 := of_decide_eq_true hk
  rw [← bulkAll_eq] at hb
  simp only [List.cons_append, bulkAll] at hb
  exact row_contract (P := Try.prog) (s := Rows.capsRunsSpec) (vs := [.int .i64 ow, .int .i64 m, .slice (l.map vi), .int .i64 hd]) laid_out (by kernel_rfl) rfl Try.call3 rfl Try.underlying4 hW ⟨rfl, rfl, rfl⟩ ⟨hv_ow, hv_m, hv_l, hv_hd, trivial⟩ (capsRuns [] ow m l hd (by omega))
theorem capsRuns_upto : Rows.CapsRunsUptoSaid :=
  OpenClaim.holds_of_cond 3 Try.f3 rfl rfl rfl rfl rfl rfl rfl ⟨rfl, rfl, rfl, rfl, rfl⟩ rfl rfl rfl rfl rfl (by kernel_rfl) Try.func3 (by kernel_rfl)
    (of_decide_eq_true (by kernel_rfl)) (by unfold Func.isWrapper; first | (rw [if_neg (by decide +kernel)]; exact ⟨rfl, rfl⟩) | (rw [if_pos (by decide +kernel)]; kernel_rfl))
    (fun os started H enc _ F => capsRuns_lifted os started H enc F)
end Go.Proofs.Ytjhjcldpcngldaa

/-
  'WholeCurves' returns true, and what it was given reads as before: whatever the input.
-/
import Derived.Test.YteaoegdmhoepiaaB5

set_option linter.unusedSimpArgs false
set_option linter.unusedVariables false

namespace Go.Proofs.Yteaoegdmhoepiaa
open Go Go.ChangeShapes Go.WideShapes Go.ChangeAt Go.RowKit

theorem law3 : Law Yteaoegdmhoepiaa.Rows.wholeCurvesSpec Try.f3.params.toList.length := by
  have e : Try.f3.params.toList.length = 1 := by kernel_rfl
  rw [e]
  exact law_of1 ⟨rfl, fun _ _ => rfl⟩

set_option maxRecDepth 100000 in
theorem lifted3 (os : Os) (started : os.Started) (H : Type) (enc : TypeId × Value → H) :
    ReturnsInHanded {} Try.checked os 3 .any (Yteaoegdmhoepiaa.Rows.wholeCurvesSpec.pre6 enc Try.prog Try.f3 Yteaoegdmhoepiaa.Rows.wholeCurvesRow.domain false) (Yteaoegdmhoepiaa.Rows.wholeCurvesSpec.post enc Try.prog Try.f3 false true false false) := by
  refine returnsInHanded_of_change (C := Try.checked) own started (by kernel_rfl) Try.func3
    (ChangeSpec.witness6 (enc := enc) (C := Try.checked) false ⟨#[], #[.agg (Array.replicate 32 (.int .u8 0))], []⟩ 8 (by kernel_rfl) (by kernel_rfl) (by kernel_rfl) (by kernel_rfl)) ?_
  intro W base args ds gs before hval0 hW hcnd _
  have hval : ∀ (j : Nat) t v, Try.f3.params[j]? = some t → args[j]? = some v → Value.okWide Try.prog W .any base t v := hval0
  have hW' := hW
  obtain ⟨p, q, hA0, hV, rfl, hfz, hnd⟩ := hW
  have hA : DataW.TrodAll enc Try.prog W 0 (fun _ => true) true Try.f3.params.toList args.toList ds p := hA0
  rw [Try.params3] at hA hval
  obtain ⟨v0, d0, rfl, rfl, h0⟩ := trodAll_one hA
  obtain ⟨a0, l0, b0, rfl⟩ := open_arrV rfl u5 c5 u23 c23 (hval 0 23 v0 rfl rfl) h0
  exact law_calls (E := ⟨Try.prog, [], []⟩) laidOut law3 (by rw [Try.params3]; decide +kernel) rfl u4 hW' (relCons (relAgg l0 b0) relNil) (ctr3 (g32_of l0 b0))

theorem wholeCurves_holds : Yteaoegdmhoepiaa.Rows.WholeCurvesSaid :=
  OpenClaim.holds_of_wide 3 Try.f3 rfl rfl rfl rfl rfl rfl rfl ⟨rfl, rfl, rfl, rfl, rfl⟩ rfl rfl rfl rfl rfl (by kernel_rfl) Try.func3 (by kernel_rfl)
    (of_decide_eq_true (by kernel_rfl)) (by unfold Func.isWrapper; first | (rw [if_pos (by decide +kernel)]; kernel_rfl) | (rw [if_neg (by decide +kernel)]; exact ⟨rfl, rfl⟩))
    (fun os started H enc _ => lifted3 os started H enc)

end Go.Proofs.Yteaoegdmhoepiaa

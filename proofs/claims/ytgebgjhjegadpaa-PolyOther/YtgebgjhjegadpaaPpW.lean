/-
  'PolyOther' returns true, and what it was given reads as before: whatever the input.
-/
import Derived.Test.YtgebgjhjegadpaaB4

set_option linter.unusedSimpArgs false
set_option linter.unusedVariables false

namespace Go.Proofs.Ytgebgjhjegadpaa
open Go Go.ChangeShapes Go.WideShapes Go.ChangeAt Go.RowKit

theorem law11 : Law Ytgebgjhjegadpaa.Rows.polyOtherSpec Try.f11.params.toList.length := by
  have e : Try.f11.params.toList.length = 3 := by kernel_rfl
  rw [e]
  exact law_of ⟨rfl, fun _ _ _ _ => rfl⟩

set_option maxRecDepth 100000 in
theorem lifted11 (os : Os) (started : os.Started) (H : Type) (enc : TypeId × Value → H) :
    ReturnsInHanded {} Try.checked os 11 .any (Ytgebgjhjegadpaa.Rows.polyOtherSpec.pre6 enc Try.prog Try.f11 Ytgebgjhjegadpaa.Rows.polyOtherRow.domain false) (Ytgebgjhjegadpaa.Rows.polyOtherSpec.post enc Try.prog Try.f11 false true false false) := by
  refine returnsInHanded_of_change_sized (C := Try.checked) own started (by kernel_rfl) Try.func11
    (ChangeSpec.witness6 (enc := enc) (C := Try.checked) false ⟨#[], #[.agg (Array.replicate 32 (.int .u8 0)), .agg (Array.replicate 16 (.int .u8 0)), .slice none 0 0], []⟩ 8 (by kernel_rfl) (by kernel_rfl) (by kernel_rfl) (by kernel_rfl)) ?_
  intro W base args ds gs before hval0 hW hcnd hsz0 _
  have hval : ∀ (j : Nat) t v, Try.f11.params[j]? = some t → args[j]? = some v → Value.okWide Try.prog W .any base t v := hval0
  have hsz : (DataW.weightsEach Try.prog (Try.f11.params.toList ++ Ytgebgjhjegadpaa.Rows.polyOtherSpec.plain.varTypes Try.prog) (ds ++ gs)).all (· ≤ reachBytes) = true := hsz0
  have hW' := hW
  obtain ⟨p, q, hA0, hV, rfl, hfz, hnd⟩ := hW
  have hA : DataW.TrodAll enc Try.prog W 0 (fun _ => true) true Try.f11.params.toList args.toList ds p := hA0
  rw [Try.params11] at hA hval hsz
  obtain ⟨v0, v1, v2, d0, d1, d2, p0, p1, p2, rfl, rfl, rfl, h0, h1, h2⟩ := trodAll_three hA
  obtain ⟨a0, l0, b0, rfl⟩ := open_arrV rfl u5 c5 u23 c23 (hval 0 23 v0 rfl rfl) h0
  obtain ⟨a1, l1, b1, rfl⟩ := open_arrV rfl u5 c5 u44 c44 (hval 1 44 v1 rfl rfl) h1
  obtain ⟨a2, l2, b2, x2⟩ := open_rowS rfl u5 c5 u34 (hval 2 34 v2 rfl rfl) h2
  exact law_calls (E := ⟨Try.prog, [], []⟩) laidOut law11 (by rw [Try.params11]; decide +kernel) rfl u4 hW' (relCons (relAgg l0 b0) (relCons (relAgg l1 b1) (relCons (relXs x2) relNil))) (ctr11 l0 b0 l1 b1 (row_reach hsz (j := 2) rfl rfl u34 by5 l2))

theorem polyOther_holds : Ytgebgjhjegadpaa.Rows.PolyOtherSaid :=
  OpenClaim.holds_of_wide 11 Try.f11 rfl rfl rfl rfl rfl rfl rfl ⟨rfl, rfl, rfl, rfl, rfl⟩ rfl rfl rfl rfl rfl (by kernel_rfl) Try.func11 (by kernel_rfl)
    (of_decide_eq_true (by kernel_rfl)) (by unfold Func.isWrapper; first | (rw [if_pos (by decide +kernel)]; kernel_rfl) | (rw [if_neg (by decide +kernel)]; exact ⟨rfl, rfl⟩))
    (fun os started H enc _ => lifted11 os started H enc)

end Go.Proofs.Ytgebgjhjegadpaa

/-
  'ChachaMixes' returns true, and what it was given reads as before: whatever the input.
-/
import Derived.Test.YtgebgjhjegadpaaB5

set_option linter.unusedSimpArgs false
set_option linter.unusedVariables false

namespace Go.Proofs.Ytgebgjhjegadpaa
open Go Go.ChangeShapes Go.WideShapes Go.ChangeAt Go.RowKit

theorem law4 : Law Ytgebgjhjegadpaa.Rows.chachaMixesSpec Try.f4.params.toList.length := by
  have e : Try.f4.params.toList.length = 3 := by kernel_rfl
  rw [e]
  exact law_of ⟨rfl, fun _ _ _ _ => rfl⟩

set_option maxRecDepth 100000 in
theorem lifted4 (os : Os) (started : os.Started) (H : Type) (enc : TypeId × Value → H) :
    ReturnsInHanded {} Try.checked os 4 .any (Ytgebgjhjegadpaa.Rows.chachaMixesSpec.pre6 enc Try.prog Try.f4 Ytgebgjhjegadpaa.Rows.chachaMixesRow.domain false) (Ytgebgjhjegadpaa.Rows.chachaMixesSpec.post enc Try.prog Try.f4 false true false false) := by
  refine returnsInHanded_of_change (C := Try.checked) own started (by kernel_rfl) Try.func4
    (ChangeSpec.witness6 (enc := enc) (C := Try.checked) false ⟨#[], #[.agg (Array.replicate 32 (.int .u8 0)), .int .u32 0, .slice none 0 0], []⟩ 8 (by kernel_rfl) (by kernel_rfl) (by kernel_rfl) (by kernel_rfl)) ?_
  intro W base args ds gs before hval0 hW hcnd _
  have hval : ∀ (j : Nat) t v, Try.f4.params[j]? = some t → args[j]? = some v → Value.okWide Try.prog W .any base t v := hval0
  have hW' := hW
  obtain ⟨p, q, hA0, hV, rfl, hfz, hnd⟩ := hW
  have hA : DataW.TrodAll enc Try.prog W 0 (fun _ => true) true Try.f4.params.toList args.toList ds p := hA0
  rw [Try.params4] at hA hval
  obtain ⟨v0, v1, v2, d0, d1, d2, p0, p1, p2, rfl, rfl, rfl, h0, h1, h2⟩ := trodAll_three hA
  obtain ⟨a0, l0, b0, rfl⟩ := open_arrV rfl u5 c5 u23 c23 (hval 0 23 v0 rfl rfl) h0
  obtain ⟨a1, b1, rfl⟩ := open_uintV u26 rfl (hval 1 26 v1 rfl rfl) h1
  obtain ⟨a2, l2, b2, x2, _⟩ := open_rowsV u33 u34 u5 (by kernel_rfl) c5 (hval 2 33 v2 rfl rfl) h2
  exact law_calls (E := ⟨Try.prog, [], []⟩) laidOut law4 (by rw [Try.params4]; decide +kernel) rfl u4 hW' (relCons (relAgg l0 b0) (relCons (relNat b1) (relCons (relXs x2) relNil))) (ctr4 b0 b1 (by omega) (fun p hp => by have := (b2 p hp).1; omega))

theorem chachaMixes_holds : Ytgebgjhjegadpaa.Rows.ChachaMixesSaid :=
  OpenClaim.holds_of_wide 4 Try.f4 rfl rfl rfl rfl rfl rfl rfl ⟨rfl, rfl, rfl, rfl, rfl⟩ rfl rfl rfl rfl rfl (by kernel_rfl) Try.func4 (by kernel_rfl)
    (of_decide_eq_true (by kernel_rfl)) (by unfold Func.isWrapper; first | (rw [if_pos (by decide +kernel)]; kernel_rfl) | (rw [if_neg (by decide +kernel)]; exact ⟨rfl, rfl⟩))
    (fun os started H enc _ => lifted4 os started H enc)

end Go.Proofs.Ytgebgjhjegadpaa

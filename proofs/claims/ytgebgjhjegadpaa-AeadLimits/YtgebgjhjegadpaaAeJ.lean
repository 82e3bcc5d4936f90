/-
  'AeadLimits' returns true, and what it was given reads as before: whatever the input.
-/
import Derived.Test.YtgebgjhjegadpaaB5

set_option linter.unusedSimpArgs false
set_option linter.unusedVariables false

namespace Go.Proofs.Ytgebgjhjegadpaa
open Go Go.ChangeShapes Go.WideShapes Go.ChangeAt Go.RowKit

theorem law17 : Law Ytgebgjhjegadpaa.Rows.aeadLimitsSpec Try.f17.params.toList.length := by
  have e : Try.f17.params.toList.length = 2 := by kernel_rfl
  rw [e]
  exact law_of2 ⟨rfl, fun _ _ _ => rfl⟩

set_option maxRecDepth 100000 in
theorem lifted17 (os : Os) (started : os.Started) (H : Type) (enc : TypeId × Value → H) :
    ReturnsInHanded {} Try.checked os 17 .any (Ytgebgjhjegadpaa.Rows.aeadLimitsSpec.pre6 enc Try.prog Try.f17 Ytgebgjhjegadpaa.Rows.aeadLimitsRow.domain false) (Ytgebgjhjegadpaa.Rows.aeadLimitsSpec.post enc Try.prog Try.f17 false true false false) := by
  refine returnsInHanded_of_change (C := Try.checked) own started (by kernel_rfl) Try.func17
    (ChangeSpec.witness6 (enc := enc) (C := Try.checked) false ⟨#[], #[.agg (Array.replicate 2 (.int .i64 0)), .agg (Array.replicate 44 (.int .u8 0))], []⟩ 8 (by kernel_rfl) (by kernel_rfl) (by kernel_rfl) (by kernel_rfl)) ?_
  intro W base args ds gs before hval0 hW hcnd _
  have hval : ∀ (j : Nat) t v, Try.f17.params[j]? = some t → args[j]? = some v → Value.okWide Try.prog W .any base t v := hval0
  have hW' := hW
  obtain ⟨p, q, hA0, hV, rfl, hfz, hnd⟩ := hW
  have hA : DataW.TrodAll enc Try.prog W 0 (fun _ => true) true Try.f17.params.toList args.toList ds p := hA0
  rw [Try.params17] at hA hval
  obtain ⟨v0, v1, d0, d1, p0, p1, rfl, rfl, rfl, h0, h1⟩ := trodAll_two hA
  obtain ⟨a0, l0, b0, m0, rfl⟩ := open_two u3 c3 u63 c63 (hval 0 63 v0 rfl rfl) h0
  obtain ⟨a1, n1, l1, b1, m1, c1, rfl⟩ := open_boxV u58 u5 c5 u23 c23 u25 c25 rfl rfl c58 (hval 1 58 v1 rfl rfl) h1
  exact law_calls (E := ⟨Try.prog, [], []⟩) laidOut law17 (by rw [Try.params17]; decide +kernel) rfl u4 hW' (relCons (relTwo b0 m0) (relCons (relBox l1 b1 m1 c1) relNil)) (ctr17 a0 l0)

theorem aeadLimits_holds : Ytgebgjhjegadpaa.Rows.AeadLimitsSaid :=
  OpenClaim.holds_of_wide 17 Try.f17 rfl rfl rfl rfl rfl rfl rfl ⟨rfl, rfl, rfl, rfl, rfl⟩ rfl rfl rfl rfl rfl (by kernel_rfl) Try.func17 (by kernel_rfl)
    (of_decide_eq_true (by kernel_rfl)) (by unfold Func.isWrapper; first | (rw [if_pos (by decide +kernel)]; kernel_rfl) | (rw [if_neg (by decide +kernel)]; exact ⟨rfl, rfl⟩))
    (fun os started H enc _ => lifted17 os started H enc)

end Go.Proofs.Ytgebgjhjegadpaa

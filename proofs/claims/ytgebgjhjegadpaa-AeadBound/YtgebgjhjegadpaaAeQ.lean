/-
  'AeadBound' returns true, and what it was given reads as before: whatever the input.
-/
import Derived.Test.YtgebgjhjegadpaaB5

set_option linter.unusedSimpArgs false
set_option linter.unusedVariables false

namespace Go.Proofs.Ytgebgjhjegadpaa
open Go Go.ChangeShapes Go.WideShapes Go.ChangeAt Go.RowKit

theorem law18 : Law Ytgebgjhjegadpaa.Rows.aeadBoundSpec Try.f18.params.toList.length := by
  have e : Try.f18.params.toList.length = 3 := by kernel_rfl
  rw [e]
  exact law_of ⟨rfl, fun _ _ _ _ => rfl⟩

set_option maxRecDepth 100000 in
theorem lifted18 (os : Os) (started : os.Started) (H : Type) (enc : TypeId × Value → H) :
    ReturnsInHanded {} Try.checked os 18 .any (Ytgebgjhjegadpaa.Rows.aeadBoundSpec.pre6 enc Try.prog Try.f18 Ytgebgjhjegadpaa.Rows.aeadBoundRow.domain false) (Ytgebgjhjegadpaa.Rows.aeadBoundSpec.post enc Try.prog Try.f18 false true false false) := by
  refine returnsInHanded_of_change (C := Try.checked) own started (by kernel_rfl) Try.func18
    (ChangeSpec.witness6 (enc := enc) (C := Try.checked) false ⟨#[], #[.agg (Array.replicate 44 (.int .u8 0)), .slice none 0 0, .slice none 0 0], []⟩ 8 (by kernel_rfl) (by kernel_rfl) (by kernel_rfl) (by kernel_rfl)) ?_
  intro W base args ds gs before hval0 hW hcnd _
  have hval : ∀ (j : Nat) t v, Try.f18.params[j]? = some t → args[j]? = some v → Value.okWide Try.prog W .any base t v := hval0
  have hW' := hW
  obtain ⟨p, q, hA0, hV, rfl, hfz, hnd⟩ := hW
  have hA : DataW.TrodAll enc Try.prog W 0 (fun _ => true) true Try.f18.params.toList args.toList ds p := hA0
  rw [Try.params18] at hA hval
  obtain ⟨v0, v1, v2, d0, d1, d2, p0, p1, p2, rfl, rfl, rfl, h0, h1, h2⟩ := trodAll_three hA
  obtain ⟨a0, n0, l0, b0, m0, c0, rfl⟩ := open_boxV u58 u5 c5 u23 c23 u25 c25 rfl rfl c58 (hval 0 58 v0 rfl rfl) h0
  obtain ⟨a1, l1, b1, x1⟩ := open_rowV rfl u5 c5 u34 (hval 1 34 v1 rfl rfl) h1
  obtain ⟨a2, l2, b2, x2⟩ := open_rowV rfl u5 c5 u34 (hval 2 34 v2 rfl rfl) h2
  exact law_calls (E := ⟨Try.prog, [], []⟩) laidOut law18 (by rw [Try.params18]; decide +kernel) rfl u4 hW' (relCons (relBox l0 b0 m0 c0) (relCons (relXs x1) (relCons (relXs x2) relNil))) (ctr18 b0 c0 b1 b2 (by omega) (by omega))

theorem aeadBound_holds : Ytgebgjhjegadpaa.Rows.AeadBoundSaid :=
  OpenClaim.holds_of_wide 18 Try.f18 rfl rfl rfl rfl rfl rfl rfl ⟨rfl, rfl, rfl, rfl, rfl⟩ rfl rfl rfl rfl rfl (by kernel_rfl) Try.func18 (by kernel_rfl)
    (of_decide_eq_true (by kernel_rfl)) (by unfold Func.isWrapper; first | (rw [if_pos (by decide +kernel)]; kernel_rfl) | (rw [if_neg (by decide +kernel)]; exact ⟨rfl, rfl⟩))
    (fun os started H enc _ => lifted18 os started H enc)

end Go.Proofs.Ytgebgjhjegadpaa

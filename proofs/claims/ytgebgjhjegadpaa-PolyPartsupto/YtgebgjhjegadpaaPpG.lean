/-
  'PolyParts' returns true, and what it was given reads as before: whatever the input.
-/
import Derived.Test.YtgebgjhjegadpaaB4

set_option linter.unusedSimpArgs false
set_option linter.unusedVariables false

namespace Go.Proofs.Ytgebgjhjegadpaa
open Go Go.ChangeShapes Go.WideShapes Go.ChangeAt Go.RowKit

theorem law10 : Law Ytgebgjhjegadpaa.Rows.polyPartsSpec Try.f10.params.toList.length := by
  have e : Try.f10.params.toList.length = 2 := by kernel_rfl
  rw [e]
  exact law_of2 ⟨rfl, fun _ _ _ => rfl⟩

set_option maxRecDepth 100000 in
theorem lifted10 (os : Os) (started : os.Started) (H : Type) (enc : TypeId × Value → H) (F : Stop.Interp) :
    ReturnsInHanded {} Try.checked os 10 .any ((Ytgebgjhjegadpaa.Rows.OpenSpec.upto Ytgebgjhjegadpaa.Rows.polyPartsSpec).pre6 enc Try.prog Try.f10 Ytgebgjhjegadpaa.Rows.polyPartsUptoRow.domain false) (((Ytgebgjhjegadpaa.Rows.OpenSpec.upto Ytgebgjhjegadpaa.Rows.polyPartsSpec).at F).post enc Try.prog Try.f10 false true false false) := by
  refine returnsInHanded_of_cond (C := Try.checked) (s := Ytgebgjhjegadpaa.Rows.OpenSpec.upto Ytgebgjhjegadpaa.Rows.polyPartsSpec) (k := Ytgebgjhjegadpaa.Rows.uptoSmall) rfl own started (by kernel_rfl) Try.func10
    (OpenSpec.witness (enc := enc) (C := Try.checked) (s := Ytgebgjhjegadpaa.Rows.OpenSpec.upto Ytgebgjhjegadpaa.Rows.polyPartsSpec) (k := Ytgebgjhjegadpaa.Rows.uptoSmall) rfl false ⟨#[], #[.agg (Array.replicate 32 (.int .u8 0)), .slice none 0 0], []⟩ 8 (by kernel_rfl) (by kernel_rfl) (by kernel_rfl)
      (x := ([.agg (List.replicate 32 (.lit (.int .u8 0))), .nil], [], [])) (by kernel_rfl) rfl (by kernel_rfl)) ?_
  intro W base args ds gs before hval0 hW hcnd hk _
  have hval : ∀ (j : Nat) t v, Try.f10.params[j]? = some t → args[j]? = some v → Value.okWide Try.prog W .any base t v := hval0
  have hW' := hW
  obtain ⟨p, q, hA0, hV, rfl, hfz, hnd⟩ := hW
  have hA : DataW.TrodAll enc Try.prog W 0 (fun _ => true) true Try.f10.params.toList args.toList ds p := hA0
  rw [Try.params10] at hA hval
  obtain ⟨v0, v1, d0, d1, p0, p1, rfl, rfl, rfl, h0, h1⟩ := trodAll_two hA
  obtain ⟨a0, l0, b0, rfl⟩ := open_arrV rfl u5 c5 u23 c23 (hval 0 23 v0 rfl rfl) h0
  obtain ⟨a1, l1, b1, x1, m1⟩ := open_rowsU u33 u34 u5 (by kernel_rfl) c5 (hval 1 33 v1 rfl rfl) h1
  have s1 := bulk_small hk (d := d1) (by simp)
  exact law_calls (E := ⟨Try.prog, [], []⟩) laidOut law10 (by rw [Try.params10]; decide +kernel) rfl u4 hW' (relCons (relAgg l0 b0) (relCons (relXs x1) relNil)) (ctr10 b0 l1 (by omega))

theorem polyPartsUpto_holds : Ytgebgjhjegadpaa.Rows.PolyPartsUptoSaid :=
  OpenClaim.holds_of_cond 10 Try.f10 rfl rfl rfl rfl rfl rfl rfl ⟨rfl, rfl, rfl, rfl, rfl⟩ rfl rfl rfl rfl rfl (by kernel_rfl) Try.func10 (by kernel_rfl)
    (of_decide_eq_true (by kernel_rfl)) (by unfold Func.isWrapper; first | (rw [if_pos (by decide +kernel)]; kernel_rfl) | (rw [if_neg (by decide +kernel)]; exact ⟨rfl, rfl⟩))
    (fun os started H enc _ F => lifted10 os started H enc F)

end Go.Proofs.Ytgebgjhjegadpaa

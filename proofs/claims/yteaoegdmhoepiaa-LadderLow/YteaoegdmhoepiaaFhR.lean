/-
  'LadderLow' returns true, and what it was given reads as before: whatever the input.
-/
import Derived.Test.YteaoegdmhoepiaaB5

set_option linter.unusedSimpArgs false
set_option linter.unusedVariables false

namespace Go.Proofs.Yteaoegdmhoepiaa
open Go Go.ChangeShapes Go.WideShapes Go.ChangeAt Go.RowKit

theorem law17 : Law Yteaoegdmhoepiaa.Rows.ladderLowSpec Try.f17.params.toList.length := by
  have e : Try.f17.params.toList.length = 3 := by kernel_rfl
  rw [e]
  exact law_of ⟨rfl, fun _ _ _ _ => rfl⟩

theorem relBool {cx : Cx} {β : Bm} {b : Bool} : RelV cx β (.s (.bool b)) (.bool b) := rfl

set_option maxRecDepth 100000 in
theorem lifted17 (os : Os) (started : os.Started) (H : Type) (enc : TypeId × Value → H) :
    ReturnsInHanded {} Try.checked os 17 .any (Yteaoegdmhoepiaa.Rows.ladderLowSpec.pre6 enc Try.prog Try.f17 Yteaoegdmhoepiaa.Rows.ladderLowRow.domain false) (Yteaoegdmhoepiaa.Rows.ladderLowSpec.post enc Try.prog Try.f17 false true false false) := by
  refine returnsInHanded_of_change (C := Try.checked) own started (by kernel_rfl) Try.func17
    (ChangeSpec.witness6 (enc := enc) (C := Try.checked) false ⟨#[], #[.agg (Array.replicate 32 (.int .u8 0)), .int .i64 0, .bool false], []⟩ 8 (by kernel_rfl) (by kernel_rfl) (by kernel_rfl) (by kernel_rfl)) ?_
  intro W base args ds gs before hval0 hW hcnd _
  have hval : ∀ (j : Nat) t v, Try.f17.params[j]? = some t → args[j]? = some v → Value.okWide Try.prog W .any base t v := hval0
  have hW' := hW
  obtain ⟨p, q, hA0, hV, rfl, hfz, hnd⟩ := hW
  have hA : DataW.TrodAll enc Try.prog W 0 (fun _ => true) true Try.f17.params.toList args.toList ds p := hA0
  rw [Try.params17] at hA hval
  obtain ⟨v0, v1, v2, d0, d1, d2, p0, p1, p2, rfl, rfl, rfl, h0, h1, h2⟩ := trodAll_three hA
  obtain ⟨a0, l0, b0, rfl⟩ := open_arrV rfl u5 c5 u23 c23 (hval 0 23 v0 rfl rfl) h0
  obtain ⟨a1, l1, b1, rfl⟩ := open_i64V u3 (hval 1 3 v1 rfl rfl) h1
  obtain ⟨a2, rfl, _, _⟩ := open_bool u4 (hval 2 4 v2 rfl rfl) h2
  cases a1 with
  | ofNat n =>
    have b1' : n < lim .i64 := by
      have : ((n : Nat) : Int) < 9223372036854775808 := b1
      show n < 9223372036854775808
      omega
    exact law_calls (E := ⟨Try.prog, [], []⟩) laidOut law17 (by rw [Try.params17]; decide +kernel) rfl u4 hW' (relCons (relAgg l0 b0) (relCons (relNat (k := .i64) (b1')) (relCons (relBool) relNil))) (ctr17n (g32_of l0 b0) n a2)
  | negSucc n =>
    exact law_calls (E := ⟨Try.prog, [], []⟩) laidOut law17 (by rw [Try.params17]; decide +kernel) rfl u4 hW' (relCons (relAgg l0 b0) (relCons (relInt l1 b1) (relCons (relBool) relNil))) (ctr17z n a2)

theorem ladderLow_holds : Yteaoegdmhoepiaa.Rows.LadderLowSaid :=
  OpenClaim.holds_of_wide 17 Try.f17 rfl rfl rfl rfl rfl rfl rfl ⟨rfl, rfl, rfl, rfl, rfl⟩ rfl rfl rfl rfl rfl (by kernel_rfl) Try.func17 (by kernel_rfl)
    (of_decide_eq_true (by kernel_rfl)) (by unfold Func.isWrapper; first | (rw [if_pos (by decide +kernel)]; kernel_rfl) | (rw [if_neg (by decide +kernel)]; exact ⟨rfl, rfl⟩))
    (fun os started H enc _ => lifted17 os started H enc)

end Go.Proofs.Yteaoegdmhoepiaa

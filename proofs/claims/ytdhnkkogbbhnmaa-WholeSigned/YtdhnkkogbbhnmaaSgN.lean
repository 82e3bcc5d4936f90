/-
  'WholeSigned' returns true, and what it was given reads as before: whatever the input.
-/
import Derived.Test.YtdhnkkogbbhnmaaB6

set_option linter.unusedSimpArgs false
set_option linter.unusedVariables false

namespace Go.Proofs.Ytdhnkkogbbhnmaa
open Go Go.ChangeShapes Go.WideShapes Go.ChangeAt Go.RowKit

theorem own : ownKnob Try.prog.godebug = none := by kernel_rfl
theorem laidOut : laidOutB Try.prog = true := by kernel_rfl
theorem u4 : Try.prog.underlying 4 = some .bool := by kernel_rfl
theorem u5 : Try.prog.underlying 5 = some (.int .u8) := by kernel_rfl
theorem u23 : Try.prog.underlying 23 = some (.array 32 5) := by kernel_rfl
theorem u24 : Try.prog.underlying 24 = some (.slice 5) := by kernel_rfl
theorem c5 : Try.prog.cellsOf 5 = 1 := by kernel_rfl
theorem c23 : Try.prog.cellsOf 23 = 32 := by kernel_rfl

theorem g32_of {k : List Nat} (hl : k.length = 32) (h : ∀ x ∈ k, x < 256) : g32 k = true := by
  rw [g32, Bool.and_eq_true]
  exact ⟨decide_eq_true hl, allB_mem h⟩

theorem law_of {s : ChangeSpec} (h : s.vars = [] ∧ ∀ (H : Type) (d1 d2 d3 : DataW H), (s.fn H [d1, d2, d3]) = { results := [.lit (.bool true)], args := [d1, d2, d3] }) : Law s 3 := by
  refine ⟨h.1, fun H ds hl => ?_⟩
  match ds, hl with
  | [d1, d2, d3], _ => rw [h.2]; exact ⟨rfl, rfl, rfl⟩

theorem law3 : Law Ytdhnkkogbbhnmaa.Rows.wholeSignedSpec Try.f3.params.toList.length := by
  have e : Try.f3.params.toList.length = 3 := by kernel_rfl
  rw [e]
  exact law_of ⟨rfl, fun _ _ _ _ => rfl⟩

set_option maxRecDepth 100000 in
theorem lifted3 (os : Os) (started : os.Started) (H : Type) (enc : TypeId × Value → H) :
    ReturnsInHanded {} Try.checked os 3 .any (Ytdhnkkogbbhnmaa.Rows.wholeSignedSpec.pre6 enc Try.prog Try.f3 Ytdhnkkogbbhnmaa.Rows.wholeSignedRow.domain false) (Ytdhnkkogbbhnmaa.Rows.wholeSignedSpec.post enc Try.prog Try.f3 false true false false) := by
  refine returnsInHanded_of_change (C := Try.checked) own started (by kernel_rfl) Try.func3
    (ChangeSpec.witness6 (enc := enc) (C := Try.checked) false ⟨#[], #[.agg (Array.replicate 32 (.int .u8 0)), .slice none 0 0, .agg (Array.replicate 32 (.int .u8 0))], []⟩ 8 (by kernel_rfl) (by kernel_rfl) (by kernel_rfl) (by kernel_rfl)) ?_
  intro W base args ds gs before hval0 hW hcnd _
  have hval : ∀ (j : Nat) t v, Try.f3.params[j]? = some t → args[j]? = some v → Value.okWide Try.prog W .any base t v := hval0
  have hW' := hW
  obtain ⟨p, q, hA0, hV, rfl, hfz, hnd⟩ := hW
  have hA : DataW.TrodAll enc Try.prog W 0 (fun _ => true) true Try.f3.params.toList args.toList ds p := hA0
  rw [Try.params3] at hA hval
  obtain ⟨v0, v1, v2, d0, d1, d2, p0, p1, p2, rfl, rfl, rfl, h0, h1, h2⟩ := trodAll_three hA
  obtain ⟨a0, l0, b0, rfl⟩ := open_arrV rfl u5 c5 u23 c23 (hval 0 23 v0 rfl rfl) h0
  obtain ⟨a1, l1, b1, x1⟩ := open_rowV rfl u5 c5 u24 (hval 1 24 v1 rfl rfl) h1
  obtain ⟨a2, l2, b2, rfl⟩ := open_arrV rfl u5 c5 u23 c23 (hval 2 23 v2 rfl rfl) h2
  exact law_calls (E := ⟨Try.prog, [], []⟩) laidOut law3 (by rw [Try.params3]; decide +kernel) rfl u4 hW' (relCons (relAgg l0 b0) (relCons (relXs x1) (relCons (relAgg l2 b2) relNil))) (ctrS (g32_of l0 b0) (g32_of l2 b2) (by omega))

theorem wholeSigned_holds : Ytdhnkkogbbhnmaa.Rows.WholeSignedSaid :=
  OpenClaim.holds_of_wide 3 Try.f3 rfl rfl rfl rfl rfl rfl rfl ⟨rfl, rfl, rfl, rfl, rfl⟩ rfl rfl rfl rfl rfl (by kernel_rfl) Try.func3 (by kernel_rfl)
    (of_decide_eq_true (by kernel_rfl)) (by unfold Func.isWrapper; first | (rw [if_pos (by decide +kernel)]; kernel_rfl) | (rw [if_neg (by decide +kernel)]; exact ⟨rfl, rfl⟩))
    (fun os started H enc _ => lifted3 os started H enc)

end Go.Proofs.Ytdhnkkogbbhnmaa

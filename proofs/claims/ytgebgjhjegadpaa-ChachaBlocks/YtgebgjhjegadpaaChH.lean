/-
  The law ChachaBlocks.
-/
import Derived.Test.YtgebgjhjegadpaaChG
namespace Go.Proofs.Ytgebgjhjegadpaa
open Go Go.ChangeShapes Go.WideShapes Go.ChangeAt Go.RowKit

theorem own : ownKnob Try.prog.godebug = none := by kernel_rfl
theorem laidOut : laidOutB Try.prog = true := by kernel_rfl
theorem u4 : Try.prog.underlying 4 = some .bool := by kernel_rfl
theorem u5 : Try.prog.underlying 5 = some (.int .u8) := by kernel_rfl
theorem u26 : Try.prog.underlying 26 = some (.int .u32) := by kernel_rfl
theorem u23 : Try.prog.underlying 23 = some (.array 32 5) := by kernel_rfl
theorem u25 : Try.prog.underlying 25 = some (.array 12 5) := by kernel_rfl
theorem c5 : Try.prog.cellsOf 5 = 1 := by kernel_rfl
theorem c23 : Try.prog.cellsOf 23 = 32 := by kernel_rfl
theorem c25 : Try.prog.cellsOf 25 = 12 := by kernel_rfl

theorem ctr3 {key nonce : List Nat} {n : Nat} (hk : B8 key) (hn : B8 nonce) (h : n < 4294967296) : Ctr Try.prog 3 [.agg [.ints .u8 32 key], .agg [.ints .u8 12 nonce], .s (.nat .u32 n)] [] (.s (.bool true)) [] := by
  refine ctrB (fs := [(19, F19), (20, F20), (21, F21)]) (xs := []) (m := .nat) (fuel := 3) (.cons ok19 (.cons ok20 (.cons ok21 .nil))) fn3 ?_
  rw [r3, blk_eq hk hn h]
  simp

theorem law3 : Law Ytgebgjhjegadpaa.Rows.chachaBlocksSpec Try.f3.params.toList.length := by
  have e : Try.f3.params.toList.length = 3 := by kernel_rfl
  rw [e]
  refine ⟨rfl, fun H ds hl => ?_⟩
  match ds, hl with
  | [d1, d2, d3], _ => exact ⟨rfl, rfl, rfl⟩

theorem lifted3 (os : Os) (started : os.Started) (H : Type) (enc : TypeId × Value → H) :
    ReturnsInHanded {} Try.checked os 3 .any (Ytgebgjhjegadpaa.Rows.chachaBlocksSpec.pre6 enc Try.prog Try.f3 Ytgebgjhjegadpaa.Rows.chachaBlocksRow.domain false) (Ytgebgjhjegadpaa.Rows.chachaBlocksSpec.post enc Try.prog Try.f3 false true false false) := by
  refine returnsInHanded_of_change (C := Try.checked) own started (by kernel_rfl) Try.func3
    (ChangeSpec.witness6 (enc := enc) (C := Try.checked) false ⟨#[], #[.agg (Array.replicate 32 (.int .u8 0)), .agg (Array.replicate 12 (.int .u8 0)), .int .u32 0], []⟩ 8 (by kernel_rfl) (by kernel_rfl) (by kernel_rfl) (by kernel_rfl)) ?_
  intro W base args ds gs before hval0 hW hcnd _
  have hval : ∀ (j : Nat) t v, Try.f3.params[j]? = some t → args[j]? = some v → Value.okWide Try.prog W .any base t v := hval0
  have hW' := hW
  obtain ⟨p, q, hA0, hV, rfl, hfz, hnd⟩ := hW
  have hA : DataW.TrodAll enc Try.prog W 0 (fun _ => true) true Try.f3.params.toList args.toList ds p := hA0
  rw [Try.params3] at hA hval
  obtain ⟨v0, v1, v2, d0, d1, d2, p0, p1, p2, rfl, rfl, rfl, h0, h1, h2⟩ := trodAll_three hA
  obtain ⟨key, k1, k2, rfl⟩ := open_arrV rfl u5 c5 u23 c23 (hval 0 23 v0 rfl rfl) h0
  obtain ⟨nonce, n1, n2, rfl⟩ := open_arrV rfl u5 c5 u25 c25 (hval 1 25 v1 rfl rfl) h1
  obtain ⟨n, b1, rfl⟩ := open_uintV u26 rfl (hval 2 26 v2 rfl rfl) h2
  exact law_calls (E := ⟨Try.prog, [], []⟩) laidOut law3 (by rw [Try.params3]; decide +kernel) rfl u4 hW' (relCons (relAgg k1 k2) (relCons (relAgg n1 n2) (relCons (relNat b1) relNil))) (ctr3 k2 n2 b1)

theorem chachaBlocks_holds : Ytgebgjhjegadpaa.Rows.ChachaBlocksSaid :=
  OpenClaim.holds_of_wide 3 Try.f3 rfl rfl rfl rfl rfl rfl rfl ⟨rfl, rfl, rfl, rfl, rfl⟩ rfl rfl rfl rfl rfl (by kernel_rfl) Try.func3 (by kernel_rfl)
    (of_decide_eq_true (by kernel_rfl)) (by unfold Func.isWrapper; first | (rw [if_pos (by decide +kernel)]; kernel_rfl) | (rw [if_neg (by decide +kernel)]; exact ⟨rfl, rfl⟩))
    (fun os started H enc _ => lifted3 os started H enc)

end Go.Proofs.Ytgebgjhjegadpaa

/-
  The program's closed facts that the laws ask for.
-/
import Derived.Test.YtgebgjhjegadpaaAcC
import Derived.Test.YtgebgjhjegadpaaRows
namespace Go.Proofs.Ytgebgjhjegadpaa
open Go Go.ChangeShapes Go.WideShapes Go.ChangeAt Go.RowKit

theorem own : ownKnob Try.prog.godebug = none := by kernel_rfl
theorem laidOut : laidOutB Try.prog = true := by kernel_rfl
theorem u3 : Try.prog.underlying 3 = some (.int .i64) := by kernel_rfl
theorem u4 : Try.prog.underlying 4 = some .bool := by kernel_rfl
theorem u5 : Try.prog.underlying 5 = some (.int .u8) := by kernel_rfl
theorem u26 : Try.prog.underlying 26 = some (.int .u32) := by kernel_rfl
theorem u23 : Try.prog.underlying 23 = some (.array 32 5) := by kernel_rfl
theorem u25 : Try.prog.underlying 25 = some (.array 12 5) := by kernel_rfl
theorem u34 : Try.prog.underlying 34 = some (.slice 5) := by kernel_rfl
theorem c5 : Try.prog.cellsOf 5 = 1 := by kernel_rfl
theorem c23 : Try.prog.cellsOf 23 = 32 := by kernel_rfl
theorem c25 : Try.prog.cellsOf 25 = 12 := by kernel_rfl

theorem law_of {s : ChangeSpec} (h : s.vars = [] ∧ ∀ (H : Type) (d1 d2 d3 : DataW H), (s.fn H [d1, d2, d3]) = { results := [.lit (.bool true)], args := [d1, d2, d3] }) : Law s 3 := by
  refine ⟨h.1, fun H ds hl => ?_⟩
  match ds, hl with
  | [d1, d2, d3], _ => rw [h.2]; exact ⟨rfl, rfl, rfl⟩

theorem law_of2 {s : ChangeSpec} (h : s.vars = [] ∧ ∀ (H : Type) (d1 d2 : DataW H), (s.fn H [d1, d2]) = { results := [.lit (.bool true)], args := [d1, d2] }) : Law s 2 := by
  refine ⟨h.1, fun H ds hl => ?_⟩
  match ds, hl with
  | [d1, d2], _ => rw [h.2]; exact ⟨rfl, rfl, rfl⟩

end Go.Proofs.Ytgebgjhjegadpaa

/-
  ChaCha: the small head, and the law of blocks.
-/
import Derived.Test.YtgebgjhjegadpaaChF
namespace Go.Proofs.Ytgebgjhjegadpaa
open Go Go.ChangeShapes Go.WideShapes Go.RowKit

def F19 : FSem := ⟨false, fun args hin => match args, hin with
  | [], [] => some (.leaf (.s (.bool true), []))
  | _, _ => none⟩

theorem fn19 : Fn Try.prog 19 Try.f19 := ⟨mixed, Try.func19, by kernel_rfl, of_decide_eq_true (by kernel_rfl)⟩
theorem fn3 : Fn Try.prog 3 Try.f3 := ⟨mixed, Try.func3, by kernel_rfl, of_decide_eq_true (by kernel_rfl)⟩

set_option maxRecDepth 100000 in
theorem r19 : runB Try.prog [(20, F20)] [] .nat 3 Try.f19 [] [] = some (.s (.bool true), []) := by kernel_rfl

theorem ok19 : FOk Try.prog 19 F19 := by
  refine fokB (fs := [(20, F20)]) (xs := []) (m := .nat) (fuel := 3) (.cons ok20 .nil) fn19 ?_
  intro args hin t r h hg
  unfold F19 at h
  simp only at h
  split at h
  · cases h; cases hg
    exact r19
  · cases h

set_option maxRecDepth 100000 in
theorem r3 (key nonce : List Nat) (n : Nat) : runB Try.prog [(19, F19), (20, F20), (21, F21)] [] .nat 3 Try.f3 [.agg [.ints .u8 32 key], .agg [.ints .u8 12 nonce], .s (.nat .u32 n)] [] = some (.s (.bool (decide (blk key nonce n = blkR key nonce n))), []) := by kernel_rfl

end Go.Proofs.Ytgebgjhjegadpaa

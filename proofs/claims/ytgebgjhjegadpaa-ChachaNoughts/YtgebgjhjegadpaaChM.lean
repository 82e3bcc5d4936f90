/-
  The law ChachaBack: mixed twice, bytes are as they were.
-/
import Derived.Test.YtgebgjhjegadpaaChL
namespace Go.Proofs.Ytgebgjhjegadpaa
open Go Go.ChangeShapes Go.WideShapes Go.ChangeAt Go.RowKit

def fT : Option (AV × List (Option Blk)) := some (.s (.bool false), [])

def ys5 (xs : List Nat) : List Nat := xs.take (min xs.length 2000)
def zs5 (key nonce : List Nat) (c : Nat) (ys : List Nat) : List Nat := mixC key nonce c (catN [ys] 1) (lenN [ys] 1)

theorem fn5 : Fn Try.prog 5 Try.f5 := ⟨mixed, Try.func5, by kernel_rfl, of_decide_eq_true (by kernel_rfl)⟩

set_option maxRecDepth 100000 in
theorem r5 (key nonce xs : List Nat) : runB Try.prog [(19, F19), (20, F20), (22, F22)] [] .nat 3 Try.f5 [.agg [.ints .u8 32 key], .agg [.ints .u8 12 nonce], .s (.xsl (.ints .u8 xs))] [] =
    nd [decide (xs.length < 9223372036854775808), decide (min xs.length 2000 < 9223372036854775808), decide (min xs.length 2000 ≤ xs.length), okLens [ys5 xs]]
      (cond (decide (lenN [ys5 xs] 1 ≤ 16777216))
        (nd [decide (lenN [ys5 xs] 1 = lenN [ys5 xs] 1), okLens [zs5 key nonce 7 (ys5 xs)]]
          (cond (decide (lenN [zs5 key nonce 7 (ys5 xs)] 1 ≤ 16777216))
            (nd [decide (lenN [zs5 key nonce 7 (ys5 xs)] 1 = lenN [zs5 key nonce 7 (ys5 xs)] 1)]
              (cond (decide (zs5 key nonce 7 (zs5 key nonce 7 (ys5 xs)) = ys5 xs))
                (cond (decide (ys5 xs = ys5 xs))
                  (nd [decide (lenN [ys5 xs] 1 < 9223372036854775808), decide ((ys5 xs).length < 9223372036854775808)] (some (.s (.bool (decide (lenN [ys5 xs] 1 = (ys5 xs).length))), [])))
                  fT) fT)) fT)) fT) := by kernel_rfl

theorem ext_getD {xs ys : List Nat} (h : xs.length = ys.length) (hi : ∀ i, i < ys.length → xs.getD i 0 = ys.getD i 0) : xs = ys := by
  apply List.ext_getElem h
  intro i h1 h2
  have := hi i h2
  simpa [List.getD, h1, h2] using this

theorem zs5_eq (key nonce : List Nat) (c : Nat) (ys : List Nat) : zs5 key nonce c ys = mixC key nonce c ys ys.length := by
  unfold zs5
  simp [catN, lenN]

theorem zs5_back (key nonce : List Nat) (c : Nat) (ys : List Nat) : zs5 key nonce c (zs5 key nonce c ys) = ys := by
  rw [zs5_eq, zs5_eq]
  have hl := mixC_len key nonce c ys ys.length
  refine ext_getD (by rw [mixC_len, hl]) fun i hi => ?_
  rw [mixC_get _ _ _ _ (by omega) (by omega), mixAt, mixC_get _ _ _ _ hi hi, mixAt, Nat.xor_assoc, Nat.xor_self, Nat.xor_zero]

theorem okLens_one {ys : List Nat} (h : ys.length < 9223372036854775808) : okLens [ys] = true := by
  simp [okLens, h]

theorem lenN_one (ys : List Nat) : lenN [ys] 1 = ys.length := by simp [lenN]

theorem ctr5 {key nonce xs : List Nat} (h : xs.length < 9223372036854775808) : Ctr Try.prog 5 [.agg [.ints .u8 32 key], .agg [.ints .u8 12 nonce], .s (.xsl (.ints .u8 xs))] [] (.s (.bool true)) [] := by
  refine ctrB (fs := [(19, F19), (20, F20), (22, F22)]) (xs := []) (m := .nat) (fuel := 3) (.cons ok19 (.cons ok20 (.cons ok22 .nil))) fn5 ?_
  have hy : (ys5 xs).length ≤ 2000 := by unfold ys5; simp; omega
  have hz : (zs5 key nonce 7 (ys5 xs)).length = (ys5 xs).length := by rw [zs5_eq, mixC_len]
  rw [r5, zs5_back, lenN_one, lenN_one, hz]
  generalize ys5 xs = ys at *
  generalize zs5 key nonce 7 ys = zs at *
  rw [nd_true, decide_eq_true (by omega : ys.length ≤ 16777216), cond_true, nd_true]
  · have a2 : ys.length < 9223372036854775808 := by omega
    simp [nd, a2]
  · intro c hc
    simp only [List.mem_cons, List.not_mem_nil, or_false] at hc
    rcases hc with rfl | rfl
    · simp
    · exact okLens_one (by omega)
  · intro c hc
    simp only [List.mem_cons, List.not_mem_nil, or_false] at hc
    rcases hc with rfl | rfl | rfl | rfl
    · exact decide_eq_true h
    · exact decide_eq_true (by omega)
    · exact decide_eq_true (by omega)
    · exact okLens_one (by omega)

end Go.Proofs.Ytgebgjhjegadpaa

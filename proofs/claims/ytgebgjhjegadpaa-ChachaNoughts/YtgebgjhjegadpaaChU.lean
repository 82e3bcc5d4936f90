/-
  The law ChachaNoughts: what its function computes.
-/
import Derived.Test.YtgebgjhjegadpaaChT
namespace Go.Proofs.Ytgebgjhjegadpaa
open Go

def zz (z : Int) : List Nat := List.replicate z.toNat 0

set_option maxRecDepth 100000 in
theorem r7 (key nonce : List Nat) (z : Int) : runL Try.prog [(19, F19), (20, F20), (22, F22)] [] .nat 3 [(0, S7)] Try.f7 [.agg [.ints .u8 32 key], .agg [.ints .u8 12 nonce], .s (.int z)] [] =
    cond (decide (z < Int.ofNat 0)) tT
      (cond (decide (Int.ofNat 400 < z)) tT
        (nd [decide (Int.ofNat 0 ≤ z), decide (Int.ofNat 0 ≤ z), decide (z.toNat ≤ z.toNat), decide (z.toNat ≤ 4398046511104), decide (z.toNat = z.toNat), okLens [zz z]]
          (cond (decide (lenN [zz z] 1 ≤ 16777216))
            (nd [decide (lenN [zz z] 1 < 9223372036854775808)]
              (cond (!decide (Int.ofNat (lenN [zz z] 1) = z)) fT
                (nd [decide (lenN [zz z] 1 < 9223372036854775808), decide (lenN [zz z] 1 = lenN [zz z] 1), decide (lenN [zz z] 1 = lenN [zz z] 1), decide (lenN [zz z] 1 < 9223372036854775808), decide (∀ i, i < lenN [zz z] 1 → (zs5 key nonce 5 (zz z)).getD i 0 = streamAt key nonce 5 i)] tT)))
            fT))) := by kernel_rfl

theorem ctr7 {key nonce : List Nat} {z : Int} : Ctr Try.prog 7 [.agg [.ints .u8 32 key], .agg [.ints .u8 12 nonce], .s (.int z)] [] (.s (.bool true)) [] := by
  refine ctrL (fs := [(19, F19), (20, F20), (22, F22)]) (xs := []) (m := .nat) (fuel := 3) (sums := [(0, S7)]) (.cons ok19 (.cons ok20 (.cons ok22 .nil))) fn7 loops7 ?_
  rw [r7]
  by_cases h0 : z < Int.ofNat 0
  · rw [decide_eq_true h0]; rfl
  by_cases h1 : Int.ofNat 400 < z
  · rw [decide_eq_false h0, decide_eq_true h1]; rfl
  have h0' : 0 ≤ z := by
    have : ¬ z < 0 := h0
    omega
  obtain ⟨m, rfl⟩ := Int.eq_ofNat_of_zero_le h0'
  have h1' : m ≤ 400 := by
    have : ¬ ((400 : Nat) : Int) < (m : Int) := h1
    omega
  have hz : zz (m : Int) = List.replicate m 0 := rfl
  have hl : (List.replicate m 0 : List Nat).length = m := List.length_replicate
  rw [decide_eq_false h0, decide_eq_false h1, cond_false, cond_false, lenN_one, hz, hl]
  have hall : ∀ i, i < m → (zs5 key nonce 5 (List.replicate m 0)).getD i 0 = streamAt key nonce 5 i := by
    intro i hi
    rw [zs5_eq, mixC_get _ _ _ _ (by omega) (by omega), mixAt]
    have : (List.replicate m 0 : List Nat).getD i 0 = 0 := by simp [List.getD, hi]
    rw [this, Nat.zero_xor]
    rfl
  have hnn : decide (Int.ofNat 0 ≤ (m : Int)) = true := by simp
  have he : decide (Int.ofNat m = (m : Int)) = true := decide_eq_true rfl
  rw [nd_true, decide_eq_true (by omega : m ≤ 16777216), cond_true, nd_true, he, Bool.not_true, cond_false, nd_true]
  · rfl
  · intro c hc
    simp only [List.mem_cons, List.not_mem_nil, or_false] at hc
    rcases hc with h | h | h | h | h <;> rw [h]
    · exact decide_eq_true (by omega)
    · simp
    · simp
    · exact decide_eq_true (by omega)
    · exact decide_eq_true hall
  · intro c hc
    simp only [List.mem_cons, List.not_mem_nil, or_false] at hc
    rw [hc]
    exact decide_eq_true (by omega)
  · intro c hc
    simp only [List.mem_cons, List.not_mem_nil, or_false] at hc
    rcases hc with h | h | h | h | h | h <;> rw [h]
    · exact hnn
    · exact hnn
    · simp
    · exact decide_eq_true (by omega)
    · simp
    · exact okLens_one (by omega)

end Go.Proofs.Ytgebgjhjegadpaa

/-
  The law ChachaApart: from a later block on the stream is the rest of the one from an earlier block on.
-/
import Derived.Test.YtgebgjhjegadpaaChM
namespace Go.Proofs.Ytgebgjhjegadpaa
open Go

def tT : Option (AV × List (Option Blk)) := some (.s (.bool true), [])

def zeros12 : List Nat := [0, 0, 0, 0, 0, 0, 0, 0, 0, 0, 0, 0]

theorem fn6 : Fn Try.prog 6 Try.f6 := ⟨mixed, Try.func6, by kernel_rfl, of_decide_eq_true (by kernel_rfl)⟩

def vs6 (xs : List Nat) (z : Int) : List Nat := (ys5 xs).drop (64 * z).toNat

set_option maxRecDepth 100000 in
theorem r6 (key xs : List Nat) (z : Int) : runB Try.prog [(19, F19), (20, F20), (22, F22)] [] .nat 3 Try.f6 [.agg [.ints .u8 32 key], .s (.xsl (.ints .u8 xs)), .s (.int z)] [] =
    nd [decide (xs.length < 9223372036854775808), decide (min xs.length 2000 < 9223372036854775808), decide (min xs.length 2000 ≤ xs.length)]
      (cond (decide (z < Int.ofNat 0)) tT
        (nd [decide ((ys5 xs).length < 9223372036854775808)]
          (cond (decide (Int.ofNat ((ys5 xs).length / 64) < z)) tT
            (nd [okLens [ys5 xs]]
              (cond (decide (lenN [ys5 xs] 1 ≤ 16777216))
                (nd [inI (Int.ofNat 64 * z), decide (Int.ofNat 0 ≤ Int.ofNat 64 * z), decide ((Int.ofNat 64 * z).toNat ≤ (ys5 xs).length), okLens [vs6 xs z]]
                  (cond (decide (lenN [vs6 xs z] 1 ≤ 16777216))
                    (nd [inI (Int.ofNat 64 * z), decide (Int.ofNat 0 ≤ Int.ofNat 64 * z), decide ((Int.ofNat 64 * z).toNat ≤ lenN [ys5 xs] 1), decide ((Int.ofNat 64 * z).toNat + (lenN [ys5 xs] 1 - (Int.ofNat 64 * z).toNat) = lenN [ys5 xs] 1), decide (lenN [vs6 xs z] 1 = lenN [vs6 xs z] 1)]
                      (some (.s (.bool (decide ((zs5 key zeros12 3 (ys5 xs)).drop (Int.ofNat 64 * z).toNat = zs5 key zeros12 ((3 + (z % Int.ofNat 4294967296).toNat) % 4294967296) (vs6 xs z)))), [])))
                    fT))
                (nd [inI (Int.ofNat 64 * z), decide (Int.ofNat 0 ≤ Int.ofNat 64 * z), decide ((Int.ofNat 64 * z).toNat ≤ (ys5 xs).length), okLens [vs6 xs z]]
                  (cond (decide (lenN [vs6 xs z] 1 ≤ 16777216)) fT fT))))))) := by kernel_rfl

theorem apart_eq (key nonce : List Nat) (ys : List Nat) (m : Nat) (h : 64 * m ≤ ys.length) : (zs5 key nonce 3 ys).drop (64 * m) = zs5 key nonce ((3 + m) % 4294967296) (ys.drop (64 * m)) := by
  rw [zs5_eq, zs5_eq]
  refine ext_getD (by simp [mixC_len]) fun i hi => ?_
  rw [mixC_len, List.length_drop] at hi
  have e : ((mixC key nonce 3 ys ys.length).drop (64 * m)).getD i 0 = (mixC key nonce 3 ys ys.length).getD (64 * m + i) 0 := by
    simp [List.getD]
  rw [e, mixC_get _ _ _ _ (by omega) (by omega), mixC_get _ _ _ _ (by simp; omega) (by simp; omega), mixAt, mixAt]
  have e2 : (ys.drop (64 * m)).getD i 0 = ys.getD (64 * m + i) 0 := by simp [List.getD]
  rw [e2]
  have e3 : (3 + (64 * m + i) / 64 % 4294967296) % 4294967296 = ((3 + m) % 4294967296 + i / 64 % 4294967296) % 4294967296 := by
    rw [show (64 * m + i) / 64 = m + i / 64 by omega]
    generalize i / 64 = k
    generalize 4294967296 = n at *
    rw [Nat.add_mod_mod, Nat.add_mod_mod, Nat.mod_add_mod, Nat.add_assoc]
  have e4 : (64 * m + i) % 64 = i % 64 := by omega
  rw [e3, e4]

set_option maxRecDepth 100000 in
theorem ctr6 {key xs : List Nat} {z : Int} (h : xs.length < 9223372036854775808) : Ctr Try.prog 6 [.agg [.ints .u8 32 key], .s (.xsl (.ints .u8 xs)), .s (.int z)] [] (.s (.bool true)) [] := by
  refine ctrB (fs := [(19, F19), (20, F20), (22, F22)]) (xs := []) (m := .nat) (fuel := 3) (.cons ok19 (.cons ok20 (.cons ok22 .nil))) fn6 ?_
  have hy : (ys5 xs).length ≤ 2000 := by unfold ys5; simp; omega
  rw [r6]
  unfold vs6
  generalize ys5 xs = ys at *
  rw [nd_true]
  rotate_left
  · intro c hc
    simp only [List.mem_cons, List.not_mem_nil, or_false] at hc
    rcases hc with rfl | rfl | rfl <;> exact decide_eq_true (by omega)
  by_cases h0 : z < Int.ofNat 0
  · rw [decide_eq_true h0]; rfl
  have h0' : 0 ≤ z := by
    have : ¬ z < 0 := h0
    omega
  obtain ⟨m, rfl⟩ := Int.eq_ofNat_of_zero_le h0'
  rw [decide_eq_false h0, cond_false, nd_true]
  rotate_left
  · intro c hc
    simp only [List.mem_cons, List.not_mem_nil, or_false] at hc
    subst hc
    exact decide_eq_true (by omega)
  by_cases h1 : Int.ofNat (ys.length / 64) < (m : Int)
  · rw [decide_eq_true h1]; rfl
  have h1' : m ≤ ys.length / 64 := by
    have : ¬ ((ys.length / 64 : Nat) : Int) < (m : Int) := h1
    omega
  rw [decide_eq_false h1, cond_false, lenN_one, lenN_one]
  have e1 : Int.ofNat 64 * (m : Int) = ((64 * m : Nat) : Int) := by simp
  have e2 : (64 * (m : Int)).toNat = 64 * m := by omega
  have e3 : ((64 * m : Nat) : Int).toNat = 64 * m := rfl
  have e4 : ((m : Int) % Int.ofNat 4294967296).toNat = m := by
    have : (m : Int) % 4294967296 = m := Int.emod_eq_of_lt (by omega) (by omega)
    show ((m : Int) % 4294967296).toNat = m
    rw [this]; rfl
  have hi : inI ((64 * m : Nat) : Int) = true := by
    unfold inI
    rw [decide_eq_true (by omega), decide_eq_true (by omega)]
    rfl
  rw [e1, e2, e3, e4, apart_eq key zeros12 ys m (by omega)]
  have hz : (ys.drop (64 * m)).length = ys.length - 64 * m := by simp
  have hnn : decide (Int.ofNat 0 ≤ ((64 * m : Nat) : Int)) = true := by
    have : (Int.ofNat 0) ≤ ((64 * m : Nat) : Int) := Int.natCast_nonneg (64 * m)
    simpa using this
  rw [nd_true, decide_eq_true (by omega : ys.length ≤ 16777216), cond_true, nd_true, decide_eq_true (by omega : (ys.drop (64 * m)).length ≤ 16777216), cond_true, nd_true]
  · simp
  · intro c hc
    simp only [List.mem_cons, List.not_mem_nil, or_false] at hc
    rcases hc with h | h | h | h | h <;> rw [h]
    · exact hi
    · exact hnn
    · exact decide_eq_true (by omega)
    · exact decide_eq_true (by omega)
    · simp
  · intro c hc
    simp only [List.mem_cons, List.not_mem_nil, or_false] at hc
    rcases hc with h | h | h | h <;> rw [h]
    · exact hi
    · exact hnn
    · exact decide_eq_true (by omega)
    · exact okLens_one (by omega)
  · intro c hc
    simp only [List.mem_cons, List.not_mem_nil, or_false] at hc
    subst hc
    exact okLens_one (by omega)

end Go.Proofs.Ytgebgjhjegadpaa

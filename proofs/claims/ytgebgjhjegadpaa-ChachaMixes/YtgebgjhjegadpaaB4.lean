/-
  Part 4 of what the last text stands on: Poly1305: the code's sum hangs on all bytes in their order alone.
-/
import Derived.Test.YtgebgjhjegadpaaB3

set_option linter.unusedSimpArgs false
set_option linter.unusedVariables false

namespace Go.Proofs.Ytgebgjhjegadpaa
open Go

theorem takesC_append {r a X p : List Nat} : ∀ {q : Nat}, 16 * q ≤ X.length → takesC r a (X ++ p) q = takesC r a X q
  | 0, _ => rfl
  | q + 1, h => by
    rw [takesC, takesC, takesC_append (by omega), List.drop_append_of_le_length (by omega), List.take_append_of_le_length (by simp; omega)]

theorem takesC_from {r a Z : List Nat} {q : Nat} : ∀ q', takesC r (takesC r a Z q) (Z.drop (16 * q)) q' = takesC r a Z (q + q')
  | 0 => rfl
  | q' + 1 => by
    rw [takesC, takesC_from q', ← Nat.add_assoc, takesC, List.drop_drop, Nat.mul_add]

theorem parts_eq {r a : List Nat} (pss : List (List Nat)) : ∀ i, asN r a pss i = takesC r a (catN pss i) ((catN pss i).length / 16) ∧ rsN pss i = dropQ (catN pss i)
  | 0 => ⟨by simp [asN, takesC, catN], by simp [rsN, dropQ, catN]⟩
  | i + 1 => by
    obtain ⟨h1, h2⟩ := parts_eq (r := r) (a := a) pss i
    have e : yN pss i = (catN pss (i + 1)).drop (16 * ((catN pss i).length / 16)) := by
      rw [yN, h2, dropQ, catN, List.drop_append_of_le_length (by omega)]
    have el : (catN pss (i + 1)).length / 16 = (catN pss i).length / 16 + (yN pss i).length / 16 := by
      rw [e, List.length_drop]
      have : (catN pss i).length ≤ (catN pss (i + 1)).length := by simp [catN]
      omega
    constructor
    · rw [asN, h1, el, ← takesC_from, ← e]
      congr 1
      rw [catN, takesC_append (by omega)]
    · show dropQ (yN pss i) = _
      rw [dropQ, dropQ, el, Nat.mul_add, ← List.drop_drop, ← e]

/-- All blocks, the last one too. -/
def nBlk (s : List Nat) : Nat := (s.length + 15) / 16

theorem last_eq {r a s : List Nat} : lastC r (takesC r a s (s.length / 16)) (dropQ s) = takesC r a s (nBlk s) := by
  unfold lastC dropQ nBlk
  by_cases h : s.length % 16 = 0
  · rw [if_neg (by simp; omega), show (s.length + 15) / 16 = s.length / 16 by omega]
  · rw [if_pos (by simp; omega), show (s.length + 15) / 16 = s.length / 16 + 1 by omega, takesC, List.take_of_length_le (by simp; omega)]

/-- The sum of bytes. -/
def tagS (key s : List Nat) : List Nat := finL (takesC (rK key) [0, 0, 0, 0, 0] s (nBlk s)) (clampK key)

theorem tagC_eq (key : List Nat) (pss : List (List Nat)) : tagC key pss = tagS key (catN pss pss.length) := by
  obtain ⟨h1, h2⟩ := parts_eq (r := rK key) (a := [0, 0, 0, 0, 0]) pss pss.length
  rw [tagC, h1, h2, last_eq, tagS]

theorem catN_one (s : List Nat) : catN [s] 1 = s := by simp [catN]

theorem tagC_one (key s : List Nat) : tagC key [s] = tagS key s := by
  rw [tagC_eq]
  show tagS key (catN [s] 1) = _
  rw [catN_one]

end Go.Proofs.Ytgebgjhjegadpaa

namespace Go.Proofs.Ytgebgjhjegadpaa
open Go

def leN : List Nat → Nat
  | [] => 0
  | b :: bs => b + 256 * leN bs

def digs : Nat → Nat → List Nat
  | 0, _ => []
  | n + 1, v => v % 256 :: digs n (v / 256)

theorem digs_len : ∀ n v, (digs n v).length = n
  | 0, _ => rfl
  | n + 1, v => by simp [digs, digs_len n]

theorem leN_digs : ∀ n v, leN (digs n v) = v % 256 ^ n
  | 0, v => by simp [digs, leN, Nat.mod_one]
  | n + 1, v => by
    rw [digs, leN, leN_digs n, Nat.pow_succ, Nat.mul_comm (256 ^ n) 256, Nat.mod_mul]

theorem leN_append : ∀ (xs ys : List Nat), leN (xs ++ ys) = leN xs + 256 ^ xs.length * leN ys
  | [], ys => by simp [leN]
  | x :: xs, ys => by
    simp only [List.cons_append, leN, leN_append xs ys, List.length_cons, Nat.pow_succ]
    rw [Nat.mul_add, Nat.mul_comm (256 ^ xs.length) 256, Nat.mul_assoc, Nat.add_assoc]

theorem leN_lt : ∀ {xs : List Nat}, (∀ x ∈ xs, x < 256) → leN xs < 256 ^ xs.length
  | [], _ => by simp [leN]
  | x :: xs, h => by
    have h1 := leN_lt (xs := xs) fun y hy => h y (List.mem_cons_of_mem _ hy)
    have h2 := h x List.mem_cons_self
    simp only [leN, List.length_cons, Nat.pow_succ]
    omega

theorem digs_leN : ∀ {xs : List Nat}, (∀ x ∈ xs, x < 256) → digs xs.length (leN xs) = xs
  | [], _ => rfl
  | x :: xs, h => by
    have h1 := digs_leN (xs := xs) fun y hy => h y (List.mem_cons_of_mem _ hy)
    have h2 := h x List.mem_cons_self
    simp only [leN, List.length_cons, digs]
    rw [show (x + 256 * leN xs) % 256 = x by omega, show (x + 256 * leN xs) / 256 = leN xs by omega, h1]

theorem digs_of {xs : List Nat} {n : Nat} (hl : xs.length = n) (h : ∀ i, i < n → xs.getD i 0 < 256) : xs = digs n (leN xs) := by
  subst hl
  rw [digs_leN]
  intro x hx
  obtain ⟨i, hi, rfl⟩ := List.getElem_of_mem hx
  have := h i hi
  rwa [List.getD, List.getElem?_eq_getElem hi, Option.getD_some] at this

theorem digs_lt : ∀ (n v : Nat), ∀ x ∈ digs n v, x < 256
  | 0, _, x, h => by cases h
  | n + 1, v, x, h => by
    simp only [digs, List.mem_cons] at h
    rcases h with rfl | h
    · exact Nat.mod_lt _ (by omega)
    · exact digs_lt n _ x h

theorem digs_get : ∀ (n v i : Nat), (digs n v).getD i 0 = if i < n then v / 256 ^ i % 256 else 0
  | 0, v, i => by simp [digs]
  | n + 1, v, 0 => by simp [digs]
  | n + 1, v, i + 1 => by
    rw [digs, List.getD_cons_succ, digs_get n, Nat.pow_succ, Nat.mul_comm (256 ^ i) 256, ← Nat.div_div_eq_div_mul]
    by_cases h : i < n
    · rw [if_pos h, if_pos (by omega)]
    · rw [if_neg h, if_neg (by omega)]

theorem leN_set : ∀ (xs : List Nat) (i v : Nat), i < xs.length → leN (xs.set i v) + xs.getD i 0 * 256 ^ i = leN xs + v * 256 ^ i
  | [], i, v, h => by simp at h
  | x :: xs, 0, v, _ => by simp [leN]; omega
  | x :: xs, i + 1, v, h => by
    have := leN_set xs i v (by simpa using h)
    simp only [List.set_cons_succ, leN, List.getD_cons_succ, Nat.pow_succ]
    have e1 : xs.getD i 0 * (256 ^ i * 256) = 256 * (xs.getD i 0 * 256 ^ i) := by rw [← Nat.mul_assoc, Nat.mul_comm]
    have e2 : v * (256 ^ i * 256) = 256 * (v * 256 ^ i) := by rw [← Nat.mul_assoc, Nat.mul_comm]
    rw [e1, e2]
    omega

theorem getD_set (xs : List Nat) (i j v : Nat) : (xs.set i v).getD j 0 = if i = j ∧ j < xs.length then v else xs.getD j 0 := by
  rw [List.getD, List.getD, List.getElem?_set]
  by_cases h : i = j
  · subst h
    by_cases hl : i < xs.length
    · simp [hl]
    · simp [hl, List.getElem?_eq_none (Nat.le_of_not_lt hl)]
  · simp [h]

theorem leN_zero : ∀ (n : Nat), leN (List.replicate n 0) = 0
  | 0 => rfl
  | n + 1 => by simp [List.replicate_succ, leN, leN_zero n]

/-! Carrying. -/
def car1 (xs : List Nat) (j : Nat) : List Nat :=
  (xs.set (j + 1) (xs.getD (j + 1) 0 + xs.getD j 0 / 256)).set j ((xs.set (j + 1) (xs.getD (j + 1) 0 + xs.getD j 0 / 256)).getD j 0 % 256)

def carN (xs : List Nat) : Nat → List Nat
  | 0 => xs
  | j + 1 => car1 (carN xs j) j

theorem car1_len (xs : List Nat) (j : Nat) : (car1 xs j).length = xs.length := by simp [car1]
theorem carN_len (xs : List Nat) : ∀ j, (carN xs j).length = xs.length
  | 0 => rfl
  | j + 1 => by rw [carN, car1_len, carN_len xs j]

theorem car1_leN {xs : List Nat} {j : Nat} (h : j + 1 < xs.length) : leN (car1 xs j) = leN xs := by
  have h1 := leN_set xs (j + 1) (xs.getD (j + 1) 0 + xs.getD j 0 / 256) h
  have h2 := leN_set (xs.set (j + 1) (xs.getD (j + 1) 0 + xs.getD j 0 / 256)) j ((xs.set (j + 1) (xs.getD (j + 1) 0 + xs.getD j 0 / 256)).getD j 0 % 256) (by simp; omega)
  have e : (xs.set (j + 1) (xs.getD (j + 1) 0 + xs.getD j 0 / 256)).getD j 0 = xs.getD j 0 := by
    rw [getD_set, if_neg (by omega)]
  unfold car1
  rw [e] at h2 ⊢
  rw [Nat.pow_succ] at h1
  generalize xs.getD j 0 = u at *
  generalize xs.getD (j + 1) 0 = w at *
  have e3 : (w + u / 256) * (256 ^ j * 256) = w * (256 ^ j * 256) + (u / 256 * 256) * 256 ^ j := by
    rw [Nat.add_mul, Nat.mul_assoc (u / 256), Nat.mul_comm 256 (256 ^ j)]
  have e4 : u * 256 ^ j = (u / 256 * 256) * 256 ^ j + (u % 256) * 256 ^ j := by
    rw [← Nat.add_mul]; congr 1; omega
  rw [e3] at h1
  rw [e4] at h2
  omega

theorem carN_leN {xs : List Nat} : ∀ {j : Nat}, j < xs.length → leN (carN xs j) = leN xs
  | 0, _ => rfl
  | j + 1, h => by rw [carN, car1_leN (by rw [carN_len]; exact h), carN_leN (by omega)]

theorem carN_get {xs : List Nat} {B : Nat} (hB : ∀ i, xs.getD i 0 < B) : ∀ {j : Nat}, j < xs.length → (∀ i, i < j → (carN xs j).getD i 0 < 256) ∧ (carN xs j).getD j 0 < 2 * B ∧ (∀ i, j < i → (carN xs j).getD i 0 = xs.getD i 0)
  | 0, _ => ⟨fun i h => by omega, by have := hB 0; simp only [carN]; omega, fun i _ => rfl⟩
  | j + 1, h => by
    obtain ⟨h1, h2, h3⟩ := carN_get hB (j := j) (by omega)
    have hl := carN_len xs j
    have hb := hB (j + 1)
    rw [carN, car1]
    refine ⟨fun i hi => ?_, ?_, fun i hi => ?_⟩
    · rw [getD_set]
      by_cases hij : j = i
      · rw [if_pos ⟨hij, by simp; omega⟩]; exact Nat.mod_lt _ (by omega)
      · rw [if_neg (fun h => hij h.1), getD_set, if_neg (by omega)]
        exact h1 i (by omega)
    · rw [getD_set, if_neg (by omega), getD_set, if_pos ⟨rfl, by omega⟩, h3 (j + 1) (by omega)]
      omega
    · rw [getD_set, if_neg (by omega), getD_set, if_neg (by omega)]
      exact h3 i (by omega)

/-- Carried to the end it is the digits. -/
theorem carN_digs {xs : List Nat} {n : Nat} (hl : xs.length = n + 1) (hv : leN xs < 256 ^ (n + 1)) : carN xs n = digs (n + 1) (leN xs) := by
  have hB : ∀ i, xs.getD i 0 < leN xs + xs.foldr max 0 + 1 := by
    intro i
    have : xs.getD i 0 ≤ xs.foldr max 0 := by
      clear hv hl
      induction xs generalizing i with
      | nil => simp
      | cons x xs ih =>
        cases i with
        | zero => simp only [List.getD_cons_zero, List.foldr_cons]; omega
        | succ i => have := ih i; simp only [List.getD_cons_succ, List.foldr_cons]; omega
    omega
  obtain ⟨h1, _, _⟩ := carN_get hB (j := n) (by omega)
  have h2 := carN_leN (xs := xs) (j := n) (by omega)
  have h3 := carN_len xs n
  rw [← h2]
  refine digs_of (by omega) fun i hi => ?_
  by_cases e : i < n
  · exact h1 i e
  · have e : i = n := by omega
    subst e
    -- the last digit
    have h4 := leN_set (carN xs i) i 0 (by omega)
    rw [h2] at h4
    refine Nat.lt_of_not_le fun hc => ?_
    have : 256 * 256 ^ i ≤ (carN xs i).getD i 0 * 256 ^ i := Nat.mul_le_mul_right _ hc
    rw [Nat.pow_succ] at hv
    omega

end Go.Proofs.Ytgebgjhjegadpaa

namespace Go.Proofs.Ytgebgjhjegadpaa
open Go

def v5 (x : List Nat) : Nat := x.getD 0 0 + 67108864 * x.getD 1 0 + 4503599627370496 * x.getD 2 0 + 302231454903657293676544 * x.getD 3 0 + 20282409603651670423947251286016 * x.getD 4 0

theorem and26 (x : Nat) : x &&& 67108863 = x % 67108864 := Nat.and_two_pow_sub_one_eq_mod x 26

/-- Five parts below B. -/
def lim5 (B : Nat) (x : List Nat) : Prop := x.length = 5 ∧ ∀ i, x.getD i 0 < B

theorem lim5_mk {B a b c d e : Nat} (ha : a < B) (hb : b < B) (hc : c < B) (hd : d < B) (he : e < B) : lim5 B [a, b, c, d, e] := by
  refine ⟨rfl, fun i => ?_⟩
  match i with
  | 0 => exact ha
  | 1 => exact hb
  | 2 => exact hc
  | 3 => exact hd
  | 4 => exact he
  | i + 5 => simp; omega

theorem v5_mk (a b c d e : Nat) : v5 [a, b, c, d, e] = a + 67108864 * b + 4503599627370496 * c + 302231454903657293676544 * d + 20282409603651670423947251286016 * e := rfl

theorem carr_mk {a b c d e : Nat} (ha : a < 9223372036854775808) (hb : b < 9223372036854775808) (hc : c < 9223372036854775808) (hd : d < 9223372036854775808) (he : e < 9223372036854775808) :
    ∃ c0 c1 c2 c3 c4 : Nat, c0 = a / 67108864 ∧ c1 = (b + c0) / 67108864 ∧ c2 = (c + c1) / 67108864 ∧ c3 = (d + c2) / 67108864 ∧ c4 = (e + c3) / 67108864 ∧
      carr [a, b, c, d, e] = [a % 67108864 + 5 * c4, (b + c0) % 67108864, (c + c1) % 67108864, (d + c2) % 67108864, (e + c3) % 67108864] := by
  refine ⟨_, _, _, _, _, rfl, rfl, rfl, rfl, rfl, ?_⟩
  show carr5 a b c d e = _
  unfold carr5 carrO ct
  simp only [and26, Nat.reducePow, Nat.add_zero]
  have h0 : a % 18446744073709551616 = a := Nat.mod_eq_of_lt (by omega)
  rw [h0]
  have h1 : (b + a / 67108864) % 18446744073709551616 = b + a / 67108864 := Nat.mod_eq_of_lt (by omega)
  rw [h1]
  have h2 : (c + (b + a / 67108864) / 67108864) % 18446744073709551616 = c + (b + a / 67108864) / 67108864 := Nat.mod_eq_of_lt (by omega)
  rw [h2]
  have h3 : (d + (c + (b + a / 67108864) / 67108864) / 67108864) % 18446744073709551616 = d + (c + (b + a / 67108864) / 67108864) / 67108864 := Nat.mod_eq_of_lt (by omega)
  rw [h3]
  have h4 : (e + (d + (c + (b + a / 67108864) / 67108864) / 67108864) / 67108864) % 18446744073709551616 = e + (d + (c + (b + a / 67108864) / 67108864) / 67108864) / 67108864 := Nat.mod_eq_of_lt (by omega)
  rw [h4]
  have hz : (e + (d + (c + (b + a / 67108864) / 67108864) / 67108864) / 67108864) / 67108864 < 274877906944 := by omega
  generalize (e + (d + (c + (b + a / 67108864) / 67108864) / 67108864) / 67108864) / 67108864 = z at *
  congr 1
  omega

abbrev P130 : Nat := 1361129467683753853853498429727072845819

/-- Carried once: below 2^59 each it is below 2^37, the first, and 2^26. -/
theorem carr_one {x : List Nat} (h : lim5 576460752303423488 x) : ∃ a b c d e k, carr x = [a, b, c, d, e] ∧ a < 137438953472 ∧ b < 67108864 ∧ c < 67108864 ∧ d < 67108864 ∧ e < 67108864 ∧ v5 x = v5 (carr x) + k * P130 := by
  obtain ⟨a, b, c, d, e, rfl⟩ := five h.1
  have h0 : a < _ := h.2 0
  have h1 : b < _ := h.2 1
  have h2 : c < _ := h.2 2
  have h3 : d < _ := h.2 3
  have h4 : e < _ := h.2 4
  obtain ⟨c0, c1, c2, c3, c4, e0, e1, e2, e3, e4, hc⟩ := carr_mk (a := a) (b := b) (c := c) (d := d) (e := e) (by omega) (by omega) (by omega) (by omega) (by omega)
  refine ⟨_, _, _, _, _, c4, hc, by omega, by omega, by omega, by omega, by omega, ?_⟩
  rw [hc, v5_mk, v5_mk]
  show _ = _ + c4 * 1361129467683753853853498429727072845819
  omega

theorem carr_two {a b c d e : Nat} (h0 : a < 137438953472) (h1 : b < 67108864) (h2 : c < 67108864) (h3 : d < 67108864) (h4 : e < 67108864) :
    ∃ a' b' c' d' e' k, carr [a, b, c, d, e] = [a', b', c', d', e'] ∧ a' < 67108869 + 1 ∧ b' < 67108864 ∧ c' < 67108864 ∧ d' < 67108864 ∧ e' < 67108864 ∧ v5 [a, b, c, d, e] = v5 [a', b', c', d', e'] + k * P130 := by
  obtain ⟨c0, c1, c2, c3, c4, e0, e1, e2, e3, e4, hc⟩ := carr_mk (a := a) (b := b) (c := c) (d := d) (e := e) (by omega) (by omega) (by omega) (by omega) (by omega)
  refine ⟨_, _, _, _, _, c4, hc, by omega, by omega, by omega, by omega, by omega, ?_⟩
  rw [v5_mk, v5_mk]
  show _ = _ + c4 * 1361129467683753853853498429727072845819
  omega

theorem carr_both {x : List Nat} (h : lim5 576460752303423488 x) : ∃ k, lim5 67108870 (carr (carr x)) ∧ v5 x = v5 (carr (carr x)) + k * P130 := by
  obtain ⟨a, b, c, d, e, k, h1, g0, g1, g2, g3, g4, hv⟩ := carr_one h
  obtain ⟨a', b', c', d', e', k', h1', g0', g1', g2', g3', g4', hv'⟩ := carr_two g0 g1 g2 g3 g4
  refine ⟨k + k', ?_, ?_⟩
  · rw [h1, h1']
    exact lim5_mk g0' (by omega) (by omega) (by omega) (by omega)
  · rw [hv, h1, hv', h1', Nat.add_mul]
    omega

/-! Products. -/
theorem mul_lt {a b A B : Nat} (ha : a < A) (hb : b < B) : a * b ≤ A * B := Nat.mul_le_mul (Nat.le_of_lt ha) (Nat.le_of_lt hb)

theorem times_val {x y : List Nat} (hx : lim5 268435456 x) (hy : lim5 67108864 y) : ∃ k, lim5 576460752303423488 (timesL x y) ∧ v5 x * v5 y = v5 (timesL x y) + k * P130 := by
  obtain ⟨x0, x1, x2, x3, x4, rfl⟩ := five hx.1
  obtain ⟨y0, y1, y2, y3, y4, rfl⟩ := five hy.1
  have a0 : x0 < _ := hx.2 0
  have a1 : x1 < _ := hx.2 1
  have a2 : x2 < _ := hx.2 2
  have a3 : x3 < _ := hx.2 3
  have a4 : x4 < _ := hx.2 4
  have b0 : y0 < _ := hy.2 0
  have b1 : y1 < _ := hy.2 1
  have b2 : y2 < _ := hy.2 2
  have b3 : y3 < _ := hy.2 3
  have b4 : y4 < _ := hy.2 4
  have m00 := mul_lt a0 b0
  have m01 := mul_lt a0 b1
  have m02 := mul_lt a0 b2
  have m03 := mul_lt a0 b3
  have m04 := mul_lt a0 b4
  have m10 := mul_lt a1 b0
  have m11 := mul_lt a1 b1
  have m12 := mul_lt a1 b2
  have m13 := mul_lt a1 b3
  have m14 := mul_lt a1 b4
  have m20 := mul_lt a2 b0
  have m21 := mul_lt a2 b1
  have m22 := mul_lt a2 b2
  have m23 := mul_lt a2 b3
  have m24 := mul_lt a2 b4
  have m30 := mul_lt a3 b0
  have m31 := mul_lt a3 b1
  have m32 := mul_lt a3 b2
  have m33 := mul_lt a3 b3
  have m34 := mul_lt a3 b4
  have m40 := mul_lt a4 b0
  have m41 := mul_lt a4 b1
  have m42 := mul_lt a4 b2
  have m43 := mul_lt a4 b3
  have m44 := mul_lt a4 b4
  have hp : ∀ {a b : Nat}, a * b ≤ 268435456 * 67108864 → pl a b = a * b := fun h => Nat.mod_eq_of_lt (by omega)
  have h5 : ∀ {a b : Nat}, a < 268435456 → a * b ≤ 268435456 * 67108864 → p5 a b = 5 * (a * b) := fun {a b} h h' => by
    unfold p5
    rw [Nat.mod_eq_of_lt (a := 5 * a) (by omega), Nat.mul_assoc]
    exact Nat.mod_eq_of_lt (by omega)
  have e : timesL [x0, x1, x2, x3, x4] [y0, y1, y2, y3, y4] =
    [x0 * y0 + 5 * (x1 * y4) + 5 * (x2 * y3) + 5 * (x3 * y2) + 5 * (x4 * y1),
     x0 * y1 + x1 * y0 + 5 * (x2 * y4) + 5 * (x3 * y3) + 5 * (x4 * y2),
     x0 * y2 + x1 * y1 + x2 * y0 + 5 * (x3 * y4) + 5 * (x4 * y3),
     x0 * y3 + x1 * y2 + x2 * y1 + x3 * y0 + 5 * (x4 * y4),
     x0 * y4 + x1 * y3 + x2 * y2 + x3 * y1 + x4 * y0] := by
    show times5 x0 x1 x2 x3 x4 y0 y1 y2 y3 y4 = _
    unfold times5
    rw [hp m00, h5 a1 m14, h5 a2 m23, h5 a3 m32, h5 a4 m41, hp m01, hp m10, h5 a2 m24, h5 a3 m33, h5 a4 m42, hp m02, hp m11, hp m20, h5 a3 m34, h5 a4 m43, hp m03, hp m12, hp m21, hp m30, h5 a4 m44, hp m04, hp m13, hp m22, hp m31, hp m40]
    unfold ad
    simp only [Nat.zero_add]
    congr 1
    · omega
    · congr 1
      · omega
      · congr 1
        · omega
        · congr 1
          · omega
          · congr 1
            omega
  rw [e]
  refine ⟨x1 * y4 + x2 * y3 + x3 * y2 + x4 * y1 + 67108864 * (x2 * y4 + x3 * y3 + x4 * y2) + 4503599627370496 * (x3 * y4 + x4 * y3) + 302231454903657293676544 * (x4 * y4), lim5_mk (by omega) (by omega) (by omega) (by omega) (by omega), ?_⟩
  rw [v5_mk, v5_mk, v5_mk]
  show _ = _ + _ * 1361129467683753853853498429727072845819
  clear e hp h5 m00 m01 m02 m03 m04 m10 m11 m12 m13 m14 m20 m21 m22 m23 m24 m30 m31 m32 m33 m34 m40 m41 m42 m43 m44 a0 a1 a2 a3 a4 b0 b1 b2 b3 b4 hx hy
  grind

end Go.Proofs.Ytgebgjhjegadpaa

namespace Go.Proofs.Ytgebgjhjegadpaa
open Go

def hx (xs : List Nat) (i : Nat) : Nat := if i = 16 then xs.getD i 0 - xs.getD 16 0 % 4 else xs.getD i 0

def loN (xs : List Nat) : Nat → List Nat
  | 0 => xs
  | j + 1 => (loN xs j).set (16 + j) ((loN xs j).getD (16 + j) 0 - hx (loN xs j) (16 + j))

def hiN (xs hs : List Nat) : Nat → List Nat
  | 0 => hs
  | j + 1 => (hiN xs hs j).set (16 + j) (hx (loN xs j) (16 + j))

def ovN (xs : List Nat) : Nat → Bool
  | 0 => false
  | j + 1 => cond (ovN xs j) true (!decide (hx (loN xs j) (16 + j) = 0))

def dn1 (xs hs : List Nat) (i : Nat) : List Nat := xs.set (i - 16) (xs.getD (i - 16) 0 + hs.getD i 0 * 5 / 4)

def dn2 (xs hs : List Nat) (i : Nat) : List Nat := xs.set (i - 17) (xs.getD (i - 17) 0 + hs.getD i 0 * 5 % 4 * 64)

def dnS (xs hs : List Nat) (i : Nat) : List Nat :=
  if hs.getD i 0 * 5 % 4 ≠ 0 ∧ 16 < i then dn2 (dn1 xs hs i) hs i else dn1 xs hs i

def dnN (xs hs : List Nat) : Nat → List Nat
  | 0 => xs
  | j + 1 => dnS (dnN xs hs j) hs (16 + j)

theorem loN_len (xs : List Nat) : ∀ j, (loN xs j).length = xs.length
  | 0 => rfl
  | j + 1 => by simp [loN, loN_len xs j]

theorem hiN_len (xs hs : List Nat) : ∀ j, (hiN xs hs j).length = hs.length
  | 0 => rfl
  | j + 1 => by simp [hiN, hiN_len xs hs j]

theorem dnS_len (xs hs : List Nat) (i : Nat) : (dnS xs hs i).length = xs.length := by
  unfold dnS dn2 dn1
  split <;> simp

theorem dnN_len (xs hs : List Nat) : ∀ j, (dnN xs hs j).length = xs.length
  | 0 => rfl
  | j + 1 => by rw [dnN, dnS_len, dnN_len xs hs j]

theorem hx_le (xs : List Nat) (i : Nat) : hx xs i ≤ xs.getD i 0 := by
  unfold hx; split <;> omega

theorem loN_get {xs : List Nat} (h40 : xs.length = 40) : ∀ {j : Nat}, j ≤ 24 → ∀ i, (loN xs j).getD i 0 = if 16 ≤ i ∧ i < 16 + j then xs.getD i 0 - hx xs i else xs.getD i 0
  | 0, _, i => by rw [if_neg (by omega)]; rfl
  | j + 1, h, i => by
    have hl := loN_len xs j
    have ih := loN_get h40 (j := j) (by omega)
    rw [loN, getD_set, ih (16 + j), if_neg (by omega : ¬ (16 ≤ 16 + j ∧ 16 + j < 16 + j))]
    have hh : hx (loN xs j) (16 + j) = hx xs (16 + j) := by
      unfold hx
      rw [ih (16 + j), if_neg (by omega : ¬ (16 ≤ 16 + j ∧ 16 + j < 16 + j))]
      by_cases h16 : 16 + j = 16
      · rw [if_pos h16, if_pos h16, ih 16, if_neg (by omega)]
      · rw [if_neg h16, if_neg h16]
    rw [hh]
    by_cases e : 16 + j = i
    · subst e
      rw [if_pos ⟨rfl, by omega⟩, if_pos ⟨by omega, by omega⟩]
    · rw [if_neg (fun h => e h.1), ih i]
      by_cases hc : 16 ≤ i ∧ i < 16 + j
      · rw [if_pos hc, if_pos (by omega)]
      · rw [if_neg hc, if_neg (by omega)]

theorem hx_lo {xs : List Nat} (h40 : xs.length = 40) {j : Nat} (hj : j ≤ 24) : hx (loN xs j) (16 + j) = hx xs (16 + j) := by
  unfold hx
  rw [loN_get h40 hj (16 + j), if_neg (by omega : ¬ (16 ≤ 16 + j ∧ 16 + j < 16 + j))]
  by_cases h16 : 16 + j = 16
  · rw [if_pos h16, if_pos h16, loN_get h40 hj 16, if_neg (by omega)]
  · rw [if_neg h16, if_neg h16]

theorem hiN_get {xs hs : List Nat} (h40 : xs.length = 40) (h41 : hs.length = 40) : ∀ {j : Nat}, j ≤ 24 → ∀ i, (hiN xs hs j).getD i 0 = if 16 ≤ i ∧ i < 16 + j then hx xs i else hs.getD i 0
  | 0, _, i => by rw [if_neg (by omega)]; rfl
  | j + 1, h, i => by
    have hl := hiN_len xs hs j
    have ih := hiN_get h40 h41 (j := j) (by omega)
    rw [hiN, getD_set, hx_lo h40 (by omega)]
    by_cases e : 16 + j = i
    · subst e
      rw [if_pos ⟨rfl, by omega⟩, if_pos ⟨by omega, by omega⟩]
    · rw [if_neg (fun h => e h.1), ih i]
      by_cases hc : 16 ≤ i ∧ i < 16 + j
      · rw [if_pos hc, if_pos (by omega)]
      · rw [if_neg hc, if_neg (by omega)]

theorem ovN_iff {xs : List Nat} (h40 : xs.length = 40) : ∀ {j : Nat}, j ≤ 24 → (ovN xs j = true ↔ ∃ i, 16 ≤ i ∧ i < 16 + j ∧ hx xs i ≠ 0)
  | 0, _ => by simp only [ovN]; constructor
               · intro h; cases h
               · rintro ⟨i, h1, h2, _⟩; omega
  | j + 1, h => by
    have ih := ovN_iff h40 (j := j) (by omega)
    rw [ovN, hx_lo h40 (by omega)]
    cases hb : ovN xs j with
    | true =>
      obtain ⟨i, h1, h2, h3⟩ := ih.1 hb
      simp only [cond_true, true_iff]
      exact ⟨i, h1, by omega, h3⟩
    | false =>
      rw [cond_false, Bool.not_eq_true', decide_eq_false_iff_not]
      constructor
      · intro h'; exact ⟨16 + j, by omega, by omega, h'⟩
      · rintro ⟨i, h1, h2, h3⟩
        by_cases e : i = 16 + j
        · subst e; exact h3
        · exfalso
          have := ih.2 ⟨i, h1, by omega, h3⟩
          rw [hb] at this; cases this

/-- The sum of digits times their weights. -/
def sumW (f : Nat → Nat) : Nat → Nat
  | 0 => 0
  | n + 1 => sumW f n + f n * 256 ^ n

theorem sumW_congr {f g : Nat → Nat} : ∀ {n : Nat}, (∀ i, i < n → f i = g i) → sumW f n = sumW g n
  | 0, _ => rfl
  | n + 1, h => by rw [sumW, sumW, sumW_congr fun i hi => h i (by omega), h n (by omega)]

theorem sumW_add (f g : Nat → Nat) : ∀ n, sumW (fun i => f i + g i) n = sumW f n + sumW g n
  | 0 => rfl
  | n + 1 => by simp only [sumW, sumW_add f g n, Nat.add_mul]; omega

theorem sumW_split (f : Nat → Nat) (m : Nat) : ∀ n, sumW f (m + n) = sumW f m + 256 ^ m * sumW (fun i => f (m + i)) n
  | 0 => by simp [sumW]
  | n + 1 => by
    rw [← Nat.add_assoc, sumW, sumW_split f m n, sumW, Nat.mul_add, Nat.pow_add]
    have : f (m + n) * (256 ^ m * 256 ^ n) = 256 ^ m * (f (m + n) * 256 ^ n) := by
      rw [← Nat.mul_assoc, Nat.mul_comm (f (m + n)) (256 ^ m), Nat.mul_assoc]
    omega

theorem leN_sumW : ∀ (xs : List Nat), leN xs = sumW (fun i => xs.getD i 0) xs.length
  | [] => rfl
  | x :: xs => by
    rw [leN, leN_sumW xs, List.length_cons, Nat.add_comm xs.length 1, sumW_split]
    simp only [sumW, Nat.zero_add, Nat.pow_zero, Nat.mul_one, List.getD_cons_zero, Nat.pow_one]
    congr 2
    exact sumW_congr fun i _ => by rw [Nat.add_comm 1 i, List.getD_cons_succ]

theorem sumW_lt {f : Nat → Nat} (h : ∀ i, f i < 256) : ∀ n, sumW f n < 256 ^ n
  | 0 => by simp [sumW]
  | n + 1 => by
    have h1 := sumW_lt h n
    have h2 : f n * 256 ^ n ≤ 255 * 256 ^ n := Nat.mul_le_mul_right _ (by have := h n; omega)
    rw [sumW, Nat.pow_succ]
    omega

theorem sumW_zero {f : Nat → Nat} : ∀ {n : Nat}, (∀ i, i < n → f i = 0) → sumW f n = 0
  | 0, _ => rfl
  | n + 1, h => by rw [sumW, sumW_zero fun i hi => h i (by omega), h n (by omega)]; simp

theorem sumW_mul4 {f : Nat → Nat} (c : Nat) : ∀ n, sumW (fun i => c * f i) n = c * sumW f n
  | 0 => rfl
  | n + 1 => by rw [sumW, sumW, sumW_mul4 c n, Nat.mul_add, Nat.mul_assoc]

theorem sumW_ne {f : Nat → Nat} {n i : Nat} (hi : i < n) (h : f i ≠ 0) : sumW f n ≠ 0 := by
  induction n with
  | zero => omega
  | succ n ih =>
    rw [sumW]
    by_cases e : i = n
    · subst e
      have : 0 < f i * 256 ^ i := Nat.mul_pos (by omega) (Nat.pow_pos (by omega))
      omega
    · have := ih (by omega)
      omega

end Go.Proofs.Ytgebgjhjegadpaa

namespace Go.Proofs.Ytgebgjhjegadpaa
open Go

theorem leN_addAt {xs : List Nat} {i : Nat} (h : i < xs.length) (v : Nat) : leN (xs.set i (xs.getD i 0 + v)) = leN xs + v * 256 ^ i := by
  have := leN_set xs i (xs.getD i 0 + v) h
  rw [Nat.add_mul] at this
  omega

theorem dnS_leN {xs hs : List Nat} (h40 : xs.length = 40) {j : Nat} (hj : j < 24) (h16 : j = 0 → hs.getD 16 0 % 4 = 0) : 4 * leN (dnS xs hs (16 + j)) = 4 * leN xs + 5 * (hs.getD (16 + j) 0 * 256 ^ j) := by
  have h1 : leN (dn1 xs hs (16 + j)) = leN xs + (hs.getD (16 + j) 0 * 5 / 4) * 256 ^ j := by
    unfold dn1
    rw [show 16 + j - 16 = j by omega]
    exact leN_addAt (by omega) _
  unfold dnS
  generalize hh : hs.getD (16 + j) 0 = h at *
  split
  · rename_i hc
    obtain ⟨k, rfl⟩ : ∃ k, j = k + 1 := ⟨j - 1, by omega⟩
    unfold dn2
    rw [hh, show 16 + (k + 1) - 17 = k by omega, leN_addAt (by simp [dn1]; omega), h1, Nat.pow_succ]
    have e1 : h * 5 / 4 * (256 ^ k * 256) = (h * 5 / 4 * 256) * 256 ^ k := by rw [Nat.mul_assoc, Nat.mul_comm 256]
    have e2 : h * (256 ^ k * 256) = (h * 256) * 256 ^ k := by rw [Nat.mul_assoc, Nat.mul_comm 256]
    rw [e1, e2]
    have e3 : 5 * (h * 256) = 4 * (h * 5 / 4 * 256) + 4 * (h * 5 % 4 * 64) := by omega
    have e4 : 5 * (h * 256 * 256 ^ k) = (4 * (h * 5 / 4 * 256) + 4 * (h * 5 % 4 * 64)) * 256 ^ k := by rw [← Nat.mul_assoc, e3]
    rw [e4, Nat.add_mul, Nat.mul_assoc 4, Nat.mul_assoc 4]
    omega
  · rename_i hc
    have h0 : h * 5 % 4 = 0 := by
      by_cases hj0 : j = 0
      · subst hj0
        have := h16 rfl
        rw [hh] at this
        omega
      · by_cases hz : h * 5 % 4 = 0
        · exact hz
        · exact absurd ⟨hz, by omega⟩ hc
    rw [h1]
    have e4 : 5 * (h * 256 ^ j) = (4 * (h * 5 / 4)) * 256 ^ j := by
      rw [← Nat.mul_assoc, show 5 * h = 4 * (h * 5 / 4) by omega]
    rw [e4, Nat.mul_add, Nat.mul_assoc 4]

theorem dnN_leN {xs hs : List Nat} (h40 : xs.length = 40) (h16 : hs.getD 16 0 % 4 = 0) : ∀ {j : Nat}, j ≤ 24 → 4 * leN (dnN xs hs j) = 4 * leN xs + 5 * sumW (fun i => hs.getD (16 + i) 0) j
  | 0, _ => by simp [dnN, sumW]
  | j + 1, h => by
    rw [dnN, dnS_leN (by rw [dnN_len]; exact h40) (by omega) (fun _ => h16), dnN_leN h40 h16 (by omega), sumW, Nat.mul_add]
    omega

/-- Bounds of the digits. -/
theorem dnN_get {xs hs : List Nat} {B C : Nat} (h40 : xs.length = 40) (hB : ∀ i, xs.getD i 0 < B) (hC : ∀ i, hs.getD i 0 < C) : ∀ {j : Nat}, j ≤ 24 →
    (∀ i, (dnN xs hs j).getD i 0 < B + 2 * C + 192) ∧ (∀ i, j ≤ i → (dnN xs hs j).getD i 0 = xs.getD i 0) ∧ (∀ i, j ≤ i + 1 → (dnN xs hs j).getD i 0 < B + 2 * C)
  | 0, _ => ⟨fun i => by have := hB i; simp only [dnN]; omega, fun i _ => rfl, fun i _ => by have := hB i; simp only [dnN]; omega⟩
  | j + 1, h => by
    obtain ⟨h1, h2, h3⟩ := dnN_get h40 hB hC (j := j) (by omega)
    have hl := dnN_len xs hs j
    have hc := hC (16 + j)
    have hb := hB j
    rw [dnN]
    generalize dnN xs hs j = ys at *
    have g : ∀ i, (dn1 ys hs (16 + j)).getD i 0 = if i = j then ys.getD j 0 + hs.getD (16 + j) 0 * 5 / 4 else ys.getD i 0 := by
      intro i
      unfold dn1
      rw [show 16 + j - 16 = j by omega, getD_set]
      by_cases e : j = i
      · subst e; rw [if_pos ⟨rfl, by omega⟩, if_pos rfl]
      · rw [if_neg (fun h => e h.1), if_neg (fun h => e h.symm)]
    have hj := h2 j (Nat.le_refl _)
    unfold dnS
    split
    · rename_i hcc
      obtain ⟨k, rfl⟩ : ∃ k, j = k + 1 := ⟨j - 1, by omega⟩
      have gk := h3 k (by omega)
      have g2 : ∀ i, (dn2 (dn1 ys hs (16 + (k + 1))) hs (16 + (k + 1))).getD i 0 = if i = k then ys.getD k 0 + hs.getD (16 + (k + 1)) 0 * 5 % 4 * 64 else (dn1 ys hs (16 + (k + 1))).getD i 0 := by
        intro i
        unfold dn2
        rw [show 16 + (k + 1) - 17 = k by omega, getD_set]
        by_cases e : k = i
        · subst e; rw [if_pos ⟨rfl, by simp [dn1]; omega⟩, if_pos rfl, g, if_neg (by omega)]
        · rw [if_neg (fun h => e h.1), if_neg (fun h => e h.symm)]
      refine ⟨fun i => ?_, fun i hi => ?_, fun i hi => ?_⟩
      · rw [g2, g]
        have := h1 i
        split
        · omega
        · split <;> omega
      · rw [g2, if_neg (by omega), g, if_neg (by omega)]; exact h2 i (by omega)
      · rw [g2, if_neg (by omega), g]
        have := h3 i (by omega)
        split <;> omega
    · refine ⟨fun i => ?_, fun i hi => ?_, fun i hi => ?_⟩
      · rw [g]
        have := h1 i
        split <;> omega
      · rw [g, if_neg (by omega)]; exact h2 i (by omega)
      · rw [g]
        have := h3 i (by omega)
        split <;> omega

def zs40 : List Nat := List.replicate 40 0

def nx (v : Nat) : Nat := v % 1361129467683753853853498429727072845824 + 5 * (v / 1361129467683753853853498429727072845824)

def lowD (v : Nat) : List Nat := loN (digs 40 v) 24
def highD (v : Nat) : List Nat := hiN (digs 40 v) zs40 24
def nextD (v : Nat) : List Nat := dnN (lowD v) (highD v) 24

theorem zs40_get (i : Nat) : zs40.getD i 0 = 0 := by
  rw [List.getD]
  cases h : zs40[i]? with
  | none => rfl
  | some x => exact (List.mem_replicate.1 (List.mem_of_getElem? h)).2

theorem round_spec {v : Nat} (hv : v < 256 ^ 40) : leN (nextD v) = nx v ∧ (∀ i, (nextD v).getD i 0 < 1000) ∧ (nextD v).length = 40 ∧ (ovN (digs 40 v) 24 = true ↔ 1361129467683753853853498429727072845824 ≤ v) ∧ (v < 1361129467683753853853498429727072845824 → lowD v = digs 40 v) := by
  have h40 : (digs 40 v).length = 40 := digs_len 40 v
  have hd : ∀ i, (digs 40 v).getD i 0 < 256 := fun i => by rw [digs_get]; split <;> omega
  have hL : ∀ i, (lowD v).getD i 0 = if 16 ≤ i ∧ i < 40 then (digs 40 v).getD i 0 - hx (digs 40 v) i else (digs 40 v).getD i 0 := loN_get h40 (j := 24) (by omega)
  have hH : ∀ i, (highD v).getD i 0 = if 16 ≤ i ∧ i < 40 then hx (digs 40 v) i else 0 := fun i => by
    have := hiN_get (hs := zs40) h40 (List.length_replicate) (j := 24) (by omega) i
    rw [zs40_get] at this
    exact this
  have hov := ovN_iff h40 (j := 24) (by omega)
  have hval : leN (digs 40 v) = v := by rw [leN_digs, Nat.mod_eq_of_lt hv]
  have hhx : ∀ i, hx (digs 40 v) i ≤ (digs 40 v).getD i 0 := hx_le _
  have hxd : ∀ i, i ≠ 16 → hx (digs 40 v) i = (digs 40 v).getD i 0 := fun i h => if_neg h
  have hx16 : hx (digs 40 v) 16 = (digs 40 v).getD 16 0 - (digs 40 v).getD 16 0 % 4 := if_pos rfl
  have l40 : (lowD v).length = 40 := by rw [lowD, loN_len, h40]
  generalize digs 40 v = xs at *
  -- the parts
  have e1 := leN_sumW xs
  have e2 := leN_sumW (lowD v)
  rw [h40, show 40 = 16 + 24 from rfl, sumW_split] at e1
  rw [l40, show 40 = 16 + 24 from rfl, sumW_split] at e2
  have a1 : sumW (fun i => (lowD v).getD i 0) 16 = sumW (fun i => xs.getD i 0) 16 := sumW_congr fun i hi => by rw [hL, if_neg (by omega)]
  have a2 : sumW (fun i => (lowD v).getD (16 + i) 0) 24 = xs.getD 16 0 % 4 := by
    rw [show 24 = 1 + 23 from rfl, sumW_split, sumW_zero (n := 23) fun i hi => by rw [hL, if_pos (by omega), hxd _ (by omega)]; omega]
    simp only [sumW, Nat.add_zero]
    rw [hL, if_pos (by omega), hx16]
    simp
    omega
  have a3 : sumW (fun i => xs.getD (16 + i) 0) 24 = xs.getD 16 0 % 4 + sumW (fun i => (highD v).getD (16 + i) 0) 24 := by
    rw [show 24 = 1 + 23 from rfl, sumW_split, sumW_split (fun i => (highD v).getD (16 + i) 0)]
    have : sumW (fun i => (highD v).getD (16 + (1 + i)) 0) 23 = sumW (fun i => xs.getD (16 + (1 + i)) 0) 23 := sumW_congr fun i hi => by rw [hH, if_pos (by omega), hxd _ (by omega)]
    rw [this]
    simp only [sumW, Nat.add_zero, Nat.pow_zero, Nat.mul_one, Nat.zero_add]
    rw [hH 16, if_pos (by omega), hx16]
    omega
  have a4 : (highD v).getD 16 0 % 4 = 0 := by rw [hH 16, if_pos (by omega), hx16]; omega
  have a5 : sumW (fun i => (highD v).getD (16 + i) 0) 24 % 4 = 0 := by
    rw [show 24 = 1 + 23 from rfl, sumW_split]
    simp only [sumW, Nat.add_zero, Nat.pow_zero, Nat.mul_one, Nat.zero_add]
    omega
  have a6 : sumW (fun i => xs.getD i 0) 16 < 256 ^ 16 := sumW_lt hd 16
  have a7 := dnN_leN l40 a4 (j := 24) (by omega)
  rw [a1, a2] at e2
  rw [a3] at e1
  rw [hval] at e1
  have hT : ∃ t, sumW (fun i => (highD v).getD (16 + i) 0) 24 = 4 * t := ⟨_, (Nat.mul_div_cancel' (Nat.dvd_of_mod_eq_zero a5)).symm⟩
  obtain ⟨t, ht⟩ := hT
  have hnz : (∃ i, 16 ≤ i ∧ i < 16 + 24 ∧ hx xs i ≠ 0) ↔ t ≠ 0 := by
    constructor
    · rintro ⟨i, g1, g2, g3⟩ h0
      have := sumW_ne (f := fun i => (highD v).getD (16 + i) 0) (n := 24) (i := i - 16) (by omega) (by
        rw [show 16 + (i - 16) = i by omega, hH, if_pos (by omega)]; exact g3)
      omega
    · intro h0
      refine Classical.byContradiction fun hn => h0 ?_
      have : sumW (fun i => (highD v).getD (16 + i) 0) 24 = 0 := sumW_zero fun i hi => by
        rw [hH, if_pos (by omega)]
        exact Classical.byContradiction fun hne => hn ⟨16 + i, by omega, by omega, hne⟩
      omega
  rw [ht] at e1
  rw [show dnN (lowD v) (highD v) 24 = nextD v from rfl, ht] at a7
  generalize hA : sumW (fun i => xs.getD i 0) 16 = A at *
  have hm : xs.getD 16 0 % 4 < 4 := Nat.mod_lt _ (by omega)
  generalize xs.getD 16 0 % 4 = m at *
  have p16 : (256 : Nat) ^ 16 = 340282366920938463463374607431768211456 := by decide
  rw [p16] at e1 e2 a6
  have hmod : v % 1361129467683753853853498429727072845824 = A + 340282366920938463463374607431768211456 * m := by omega
  have hdiv : v / 1361129467683753853853498429727072845824 = t := by omega
  refine ⟨?_, ?_, ?_, ?_, ?_⟩
  · unfold nx; rw [hmod, hdiv]; omega
  · intro i
    have := (dnN_get (xs := lowD v) (hs := highD v) (B := 256) (C := 256) l40 (fun i => by rw [hL]; have := hd i; split <;> omega) (fun i => by rw [hH]; have := hd i; have := hhx i; split <;> omega) (j := 24) (by omega)).1 i
    show (dnN (lowD v) (highD v) 24).getD i 0 < 1000
    omega
  · rw [nextD, dnN_len, l40]
  · rw [hov, hnz]
    omega
  · intro hlt
    have ht0 : t = 0 := by omega
    have hz : ∀ i, 16 ≤ i → i < 40 → hx xs i = 0 := fun i g1 g2 => Classical.byContradiction fun hne => (hnz.1 ⟨i, g1, g2, hne⟩) ht0
    apply List.ext_getElem (by omega)
    intro i g1 g2
    have := hL i
    rw [List.getD, List.getD, List.getElem?_eq_getElem g1, List.getElem?_eq_getElem g2, Option.getD_some, Option.getD_some] at this
    rw [this]
    split
    · rename_i hc; rw [hz i hc.1 hc.2]; rfl
    · rfl

end Go.Proofs.Ytgebgjhjegadpaa

namespace Go.Proofs.Ytgebgjhjegadpaa
open Go

def slw (b : Nat) : AV := .s (.sl .whole b 0 40 1)

def allB (B : Nat) (xs : List Nat) : Bool := xs.all fun x => decide (x < B)

theorem allB_get {B : Nat} {xs : List Nat} (hB : 0 < B) (h : allB B xs = true) (i : Nat) : xs.getD i 0 < B := by
  rw [List.getD]
  cases hj : xs[i]? with
  | none => exact hB
  | some p =>
    have := List.all_eq_true.1 h p (List.mem_of_getElem? hj)
    simpa using this

theorem allB_of {B : Nat} {xs : List Nat} (h : ∀ i, xs.getD i 0 < B) : allB B xs = true := by
  refine List.all_eq_true.2 fun x hx => ?_
  obtain ⟨i, hi, rfl⟩ := List.getElem_of_mem hx
  have := h i
  rw [List.getD, List.getElem?_eq_getElem hi, Option.getD_some] at this
  exact decide_eq_true this

def R2 : LSem := ⟨[0, 3], [0], fun args hin => match args, hin with
  | [.s (.sl .whole 0 0 40 1), .s (.nat .i64 0)], [[.ints .i64 40 xs]] =>
    some (Tr.needs [decide (xs.length = 40), allB 36028797018963968 xs] (.leaf (.normal, [slw 0], [some [.ints .i64 40 (carN xs 39)]])))
  | _, _ => none⟩

set_option maxRecDepth 100000 in
theorem rr2 (j : Nat) (xs : List Nat) : runR Try.prog [] [] .nat 7 [] Try.f39 2 R2 1 [.s (.sl .whole 0 0 40 1), .s (.nat .i64 j)] [some [.ints .i64 40 xs]] =
(nd [decide (j + 1 < 9223372036854775808)]
 (cond (decide (j + 1 < 40))
 (nd [decide (j + 1 < 9223372036854775808), decide (j + 1 < 40), decide (j + 1 < 40), decide (j < 40), decide (j < 40), decide (xs.getD (j + 1) 0 + xs.getD (j) 0 / 256 < 9223372036854775808), decide (j + 1 < 40), decide (j + 1 < 40), decide (j < 40), decide (j < 40), decide (j < 40), decide (j < 40), decide (j + 1 < 9223372036854775808)]
 (some (Ex.normal, [AV.s (SV.sl LK.whole 0 0 40 1), AV.s (SV.nat IntKind.i64 (j + 1))], [some [Ch.ints IntKind.i64 40 ((xs.set (j + 1) (xs.getD (j + 1) 0 + xs.getD (j) 0 / 256)).set (j) ((xs.set (j + 1) (xs.getD (j + 1) 0 + xs.getD (j) 0 / 256)).getD (j) 0 % 256))]])))
 (some (Ex.exit 2, [AV.s (SV.sl LK.whole 0 0 40 1)], [some [Ch.ints IntKind.i64 40 xs]])))) := by kernel_rfl

theorem lokR2 : LOk Try.prog Try.f39.ntmps (.block 2 (.loop (lb 2 Try.f39))) R2 := by
  refine lokR (fs := []) (xs := []) (m := .nat) (fuel := 7) (sums := []) .nil mixedP (loopsOk_none rfl _) ?_
  intro args hin t e vs hout h hg
  unfold R2 at h
  simp only at h
  split at h
  · rename_i xs
    simp only [Option.some.injEq] at h
    subst h
    obtain ⟨hc, hgt⟩ := Tr.needs_get hg
    clear hg
    have e1 : xs.length = 40 := of_decide_eq_true (hc _ (by simp))
    have e2 : allB 36028797018963968 xs = true := hc (allB 36028797018963968 xs) (by simp)
    clear hc
    cases hgt
    refine ⟨39, fun i => ([slw 0, .s (.nat .i64 i)], [some [.ints .i64 40 (carN xs i)]]), .exit 2, rfl, fun i hi => ?_, ?_, rfl⟩
    · simp only [slw, List.length_cons, List.length_nil]
      rw [rr2]
      obtain ⟨g1, g2, g3⟩ := carN_get (allB_get (by omega) e2) (j := i) (by omega)
      have g4 := g3 (i + 1) (by omega)
      have g5 := allB_get (by omega) e2 (i + 1)
      refine nd_of ?_ (cond_t (decide_eq_true (by omega)) (nd_of ?_ rfl))
      · simp only [List.mem_cons, List.not_mem_nil, or_false, forall_eq, decide_eq_true_eq]; omega
      · simp only [List.mem_cons, List.not_mem_nil, or_false, forall_eq_or_imp, forall_eq, decide_eq_true_eq, true_and, and_true]; omega
    · simp only [slw, List.length_cons, List.length_nil]
      rw [rr2]
      refine nd_of ?_ (cond_f (decide_eq_false (by omega)) rfl)
      simp only [List.mem_cons, List.not_mem_nil, or_false, forall_eq, decide_eq_true_eq]; omega
  · cases h

def R4 : LSem := ⟨[0, 4, 5, 6], [0, 4, 5], fun args hin => match args, hin with
  | [.s (.sl .whole 0 0 40 1), .s (.sl .whole 1 0 40 1), .s (.bool false), .s (.nat .i64 16)], [[.ints .i64 40 xs], [.ints .i64 40 hs]] =>
    some (.leaf (.normal, [slw 0, slw 1, .s (.bool (ovN xs 24))], [some [.ints .i64 40 (loN xs 24)], some [.ints .i64 40 (hiN xs hs 24)]]))
  | _, _ => none⟩

set_option maxRecDepth 100000 in
theorem rr4 (j : Nat) (b : Bool) (xs hs : List Nat) : runR Try.prog [] [] .nat 7 [] Try.f39 4 R4 2 [.s (.sl .whole 0 0 40 1), .s (.sl .whole 1 0 40 1), .s (.bool b), .s (.nat .i64 j)] [some [.ints .i64 40 xs], some [.ints .i64 40 hs]] =
(cond (decide (j < 40))
 (nd [decide (j < 40), decide (j < 40)]
 (cond (decide (j = 16))
 (nd [decide (xs.getD (16) 0 % 4 ≤ xs.getD (j) 0)]
 (cond (b)
 (nd [decide (j < 40), decide (j < 40), decide (j < 40), decide (j < 40), decide (xs.getD (j) 0 - xs.getD (16) 0 % 4 ≤ xs.getD (j) 0), decide (j < 40), decide (j < 40), decide (j + 1 < 9223372036854775808)]
 (some (Ex.normal, [AV.s (SV.sl LK.whole 0 0 40 1), AV.s (SV.sl LK.whole 1 0 40 1), AV.s (SV.bool true), AV.s (SV.nat IntKind.i64 (j + 1))], [some [Ch.ints IntKind.i64 40 (xs.set (j) (xs.getD (j) 0 - (xs.getD (j) 0 - xs.getD (16) 0 % 4)))], some [Ch.ints IntKind.i64 40 (hs.set (j) (xs.getD (j) 0 - xs.getD (16) 0 % 4))]])))
 (nd [decide (j < 40), decide (j < 40), decide (j < 40), decide (j < 40), decide (xs.getD (j) 0 - xs.getD (16) 0 % 4 ≤ xs.getD (j) 0), decide (j < 40), decide (j < 40), decide (j + 1 < 9223372036854775808)]
 (some (Ex.normal, [AV.s (SV.sl LK.whole 0 0 40 1), AV.s (SV.sl LK.whole 1 0 40 1), AV.s (SV.bool !decide (xs.getD (j) 0 - xs.getD (16) 0 % 4 = 0)), AV.s (SV.nat IntKind.i64 (j + 1))], [some [Ch.ints IntKind.i64 40 (xs.set (j) (xs.getD (j) 0 - (xs.getD (j) 0 - xs.getD (16) 0 % 4)))], some [Ch.ints IntKind.i64 40 (hs.set (j) (xs.getD (j) 0 - xs.getD (16) 0 % 4))]])))))
 (cond (b)
 (nd [decide (j < 40), decide (j < 40), decide (j < 40), decide (j < 40), decide (xs.getD (j) 0 ≤ xs.getD (j) 0), decide (j < 40), decide (j < 40), decide (j + 1 < 9223372036854775808)]
 (some (Ex.normal, [AV.s (SV.sl LK.whole 0 0 40 1), AV.s (SV.sl LK.whole 1 0 40 1), AV.s (SV.bool true), AV.s (SV.nat IntKind.i64 (j + 1))], [some [Ch.ints IntKind.i64 40 (xs.set (j) (xs.getD (j) 0 - xs.getD (j) 0))], some [Ch.ints IntKind.i64 40 (hs.set (j) (xs.getD (j) 0))]])))
 (nd [decide (j < 40), decide (j < 40), decide (j < 40), decide (j < 40), decide (xs.getD (j) 0 ≤ xs.getD (j) 0), decide (j < 40), decide (j < 40), decide (j + 1 < 9223372036854775808)]
 (some (Ex.normal, [AV.s (SV.sl LK.whole 0 0 40 1), AV.s (SV.sl LK.whole 1 0 40 1), AV.s (SV.bool !decide (xs.getD (j) 0 = 0)), AV.s (SV.nat IntKind.i64 (j + 1))], [some [Ch.ints IntKind.i64 40 (xs.set (j) (xs.getD (j) 0 - xs.getD (j) 0))], some [Ch.ints IntKind.i64 40 (hs.set (j) (xs.getD (j) 0))]]))))))
 (some (Ex.exit 4, [AV.s (SV.sl LK.whole 0 0 40 1), AV.s (SV.sl LK.whole 1 0 40 1), AV.s (SV.bool b)], [some [Ch.ints IntKind.i64 40 xs], some [Ch.ints IntKind.i64 40 hs]]))) := by kernel_rfl

theorem lokR4 : LOk Try.prog Try.f39.ntmps (.block 4 (.loop (lb 4 Try.f39))) R4 := by
  refine lokR (fs := []) (xs := []) (m := .nat) (fuel := 7) (sums := []) .nil mixedP (loopsOk_none rfl _) ?_
  intro args hin t e vs hout h hg
  unfold R4 at h
  simp only at h
  split at h
  · rename_i xs hs
    cases h
    cases hg
    refine ⟨24, fun i => ([slw 0, slw 1, .s (.bool (ovN xs i)), .s (.nat .i64 (16 + i))], [some [.ints .i64 40 (loN xs i)], some [.ints .i64 40 (hiN xs hs i)]]), .exit 4, rfl, fun i hi => ?_, ?_, rfl⟩
    · simp only [slw, List.length_cons, List.length_nil]
      rw [rr4]
      have hle := hx_le (loN xs i) (16 + i)
      refine cond_t (decide_eq_true (by omega)) (nd_of ?_ ?_)
      · simp only [List.mem_cons, List.not_mem_nil, or_false, forall_eq_or_imp, forall_eq, decide_eq_true_eq, true_and, and_true]; omega
      by_cases h16 : 16 + i = 16
      · have hxe : hx (loN xs i) (16 + i) = (loN xs i).getD (16 + i) 0 - (loN xs i).getD 16 0 % 4 := by rw [hx, if_pos h16]
        rw [← hxe]
        refine cond_t (decide_eq_true h16) (nd_of ?_ ?_)
        · rw [h16]; simp only [List.mem_cons, List.not_mem_nil, or_false, forall_eq, decide_eq_true_eq]; omega
        simp only [ovN, loN, hiN, Nat.add_assoc]
        cases ovN xs i
        · refine cond_f rfl (nd_of ?_ rfl)
          simp only [List.mem_cons, List.not_mem_nil, or_false, forall_eq_or_imp, forall_eq, decide_eq_true_eq, true_and, and_true]; omega
        · refine cond_t rfl (nd_of ?_ rfl)
          simp only [List.mem_cons, List.not_mem_nil, or_false, forall_eq_or_imp, forall_eq, decide_eq_true_eq, true_and, and_true]; omega
      · have hxe : hx (loN xs i) (16 + i) = (loN xs i).getD (16 + i) 0 := by rw [hx, if_neg h16]
        refine cond_f (decide_eq_false h16) ?_
        simp only [ovN, loN, hiN, Nat.add_assoc, hxe]
        cases ovN xs i
        · refine cond_f rfl (nd_of ?_ rfl)
          simp only [List.mem_cons, List.not_mem_nil, or_false, forall_eq_or_imp, forall_eq, decide_eq_true_eq, true_and, and_true]; omega
        · refine cond_t rfl (nd_of ?_ rfl)
          simp only [List.mem_cons, List.not_mem_nil, or_false, forall_eq_or_imp, forall_eq, decide_eq_true_eq, true_and, and_true]; omega
    · simp only [slw, List.length_cons, List.length_nil]
      rw [rr4]
      exact cond_f (decide_eq_false (by omega)) rfl
  · cases h

def R6 : LSem := ⟨[0, 4, 8], [0], fun args hin => match args, hin with
  | [.s (.sl .whole 0 0 40 1), .s (.sl .whole 1 0 40 1), .s (.nat .i64 16)], [[.ints .i64 40 xs], [.ints .i64 40 hs]] =>
    some (Tr.needs [decide (xs.length = 40), allB 36028797018963968 xs, allB 36028797018963968 hs] (.leaf (.normal, [slw 0], [some [.ints .i64 40 (dnN xs hs 24)], some [.ints .i64 40 hs]])))
  | _, _ => none⟩

set_option maxRecDepth 100000 in
theorem rr6 (j : Nat) (xs hs : List Nat) : runR Try.prog [] [] .nat 7 [] Try.f39 6 R6 2 [.s (.sl .whole 0 0 40 1), .s (.sl .whole 1 0 40 1), .s (.nat .i64 j)] [some [.ints .i64 40 xs], some [.ints .i64 40 hs]] =
(cond (decide (j < 40))
 (nd [decide (j < 40), decide (j < 40), decide (hs.getD (j) 0 * 5 < 9223372036854775808), decide (16 ≤ j), decide (j - 16 < 40), decide (j - 16 < 40), decide (xs.getD (j - 16) 0 + hs.getD (j) 0 * 5 / 4 < 9223372036854775808), decide (j - 16 < 40), decide (j - 16 < 40)]
 (cond (!decide (hs.getD (j) 0 * 5 % 4 = 0))
 (cond (decide (16 < j))
 (nd [decide (17 ≤ j), decide (j - 17 < 40), decide (j - 17 < 40), decide (hs.getD (j) 0 * 5 % 4 * 64 < 9223372036854775808), decide ((xs.set (j - 16) (xs.getD (j - 16) 0 + hs.getD (j) 0 * 5 / 4)).getD (j - 17) 0 + hs.getD (j) 0 * 5 % 4 * 64 < 9223372036854775808), decide (j - 17 < 40), decide (j - 17 < 40), decide (j + 1 < 9223372036854775808)]
 (some (Ex.normal, [AV.s (SV.sl LK.whole 0 0 40 1), AV.s (SV.sl LK.whole 1 0 40 1), AV.s (SV.nat IntKind.i64 (j + 1))], [some [Ch.ints IntKind.i64 40 ((xs.set (j - 16) (xs.getD (j - 16) 0 + hs.getD (j) 0 * 5 / 4)).set (j - 17) ((xs.set (j - 16) (xs.getD (j - 16) 0 + hs.getD (j) 0 * 5 / 4)).getD (j - 17) 0 + hs.getD (j) 0 * 5 % 4 * 64))], some [Ch.ints IntKind.i64 40 hs]])))
 (nd [decide (j + 1 < 9223372036854775808)]
 (some (Ex.normal, [AV.s (SV.sl LK.whole 0 0 40 1), AV.s (SV.sl LK.whole 1 0 40 1), AV.s (SV.nat IntKind.i64 (j + 1))], [some [Ch.ints IntKind.i64 40 (xs.set (j - 16) (xs.getD (j - 16) 0 + hs.getD (j) 0 * 5 / 4))], some [Ch.ints IntKind.i64 40 hs]]))))
 (nd [decide (j + 1 < 9223372036854775808)]
 (some (Ex.normal, [AV.s (SV.sl LK.whole 0 0 40 1), AV.s (SV.sl LK.whole 1 0 40 1), AV.s (SV.nat IntKind.i64 (j + 1))], [some [Ch.ints IntKind.i64 40 (xs.set (j - 16) (xs.getD (j - 16) 0 + hs.getD (j) 0 * 5 / 4))], some [Ch.ints IntKind.i64 40 hs]])))))
 (some (Ex.exit 6, [AV.s (SV.sl LK.whole 0 0 40 1)], [some [Ch.ints IntKind.i64 40 xs], some [Ch.ints IntKind.i64 40 hs]]))) := by kernel_rfl

theorem dn1_lt {xs hs : List Nat} {i : Nat} (h : xs.getD (i - 17) 0 < 4611686018427387904) (h2 : xs.getD (i - 16) 0 < 4611686018427387904) (h3 : hs.getD i 0 < 36028797018963968) : (dn1 xs hs i).getD (i - 17) 0 < 4611686018427387904 + 45035996273704960 := by
  unfold dn1
  rw [getD_set]
  split <;> omega

theorem lokR6 : LOk Try.prog Try.f39.ntmps (.block 6 (.loop (lb 6 Try.f39))) R6 := by
  refine lokR (fs := []) (xs := []) (m := .nat) (fuel := 7) (sums := []) .nil mixedP (loopsOk_none rfl _) ?_
  intro args hin t e vs hout h hg
  unfold R6 at h
  simp only at h
  split at h
  · rename_i xs hs
    simp only [Option.some.injEq] at h
    subst h
    obtain ⟨hc, hgt⟩ := Tr.needs_get hg
    clear hg
    have e1 : xs.length = 40 := of_decide_eq_true (hc _ (by simp))
    have e2 : allB 36028797018963968 xs = true := hc (allB 36028797018963968 xs) (by simp)
    have e3 : allB 36028797018963968 hs = true := hc (allB 36028797018963968 hs) (by simp)
    clear hc
    cases hgt
    refine ⟨24, fun i => ([slw 0, slw 1, .s (.nat .i64 (16 + i))], [some [.ints .i64 40 (dnN xs hs i)], some [.ints .i64 40 hs]]), .exit 6, rfl, fun i hi => ?_, ?_, rfl⟩
    · simp only [slw, List.length_cons, List.length_nil]
      rw [rr6]
      have g1 := (dnN_get e1 (allB_get (by omega) e2) (allB_get (by omega) e3) (j := i) (by omega)).1
      have g2 := g1 (16 + i - 16)
      have g3 := g1 (16 + i - 17)
      have g4 := allB_get (by omega) e3 (16 + i)
      have g5 := dn1_lt (xs := dnN xs hs i) (hs := hs) (i := 16 + i) (by omega) (by omega) g4
      unfold dn1 at g5
      refine cond_t (decide_eq_true (by omega)) (nd_of ?_ ?_)
      · simp only [List.mem_cons, List.not_mem_nil, or_false, forall_eq_or_imp, forall_eq, decide_eq_true_eq, true_and, and_true]; omega
      by_cases hz : hs.getD (16 + i) 0 * 5 % 4 = 0
      · rw [decide_eq_true hz]
        refine cond_f rfl (nd_of ?_ ?_)
        · simp only [List.mem_cons, List.not_mem_nil, or_false, forall_eq, decide_eq_true_eq]; omega
        · rw [dnN, dnS, if_neg (fun h => h.1 hz)]
          rfl
      · rw [decide_eq_false hz]
        refine cond_t rfl ?_
        by_cases h16 : 16 < 16 + i
        · refine cond_t (decide_eq_true h16) (nd_of ?_ ?_)
          · simp only [List.mem_cons, List.not_mem_nil, or_false, forall_eq_or_imp, forall_eq, decide_eq_true_eq, true_and, and_true]; omega
          · rw [dnN, dnS, if_pos ⟨hz, h16⟩]
            rfl
        · refine cond_f (decide_eq_false h16) (nd_of ?_ ?_)
          · simp only [List.mem_cons, List.not_mem_nil, or_false, forall_eq, decide_eq_true_eq]; omega
          · rw [dnN, dnS, if_neg (fun h => h16 h.2)]
            rfl
    · simp only [slw, List.length_cons, List.length_nil]
      rw [rr6]
      exact cond_f (decide_eq_false (by omega)) rfl
  · cases h

/-- Are the digits 1 .. j all 255? -/
def leN8 (b : Bool) (xs : List Nat) : Nat → Bool
  | 0 => b
  | j + 1 => cond (leN8 b xs j) (decide (xs.getD (1 + j) 0 = 255)) false

def R8 : LSem := ⟨[0, 10, 11], [0, 10], fun args hin => match args, hin with
  | [.s (.sl .whole 0 0 40 1), .s (.bool b), .s (.nat .i64 1)], [[.ints .i64 40 xs]] =>
    some (.leaf (.normal, [slw 0, .s (.bool (leN8 b xs 15))], [some [.ints .i64 40 xs]]))
  | _, _ => none⟩

set_option maxRecDepth 100000 in
theorem rr8 (j : Nat) (b : Bool) (xs : List Nat) : runR Try.prog [] [] .nat 7 [] Try.f39 8 R8 1 [.s (.sl .whole 0 0 40 1), .s (.bool b), .s (.nat .i64 j)] [some [.ints .i64 40 xs]] =
(cond (decide (j < 16))
 (cond (b)
 (nd [decide (j < 40), decide (j < 40), decide (j + 1 < 9223372036854775808)]
 (some (Ex.normal, [AV.s (SV.sl LK.whole 0 0 40 1), AV.s (SV.bool (decide (xs.getD (j) 0 = 255))), AV.s (SV.nat IntKind.i64 (j + 1))], [some [Ch.ints IntKind.i64 40 xs]])))
 (nd [decide (j + 1 < 9223372036854775808)]
 (some (Ex.normal, [AV.s (SV.sl LK.whole 0 0 40 1), AV.s (SV.bool false), AV.s (SV.nat IntKind.i64 (j + 1))], [some [Ch.ints IntKind.i64 40 xs]]))))
 (some (Ex.exit 8, [AV.s (SV.sl LK.whole 0 0 40 1), AV.s (SV.bool b)], [some [Ch.ints IntKind.i64 40 xs]]))) := by kernel_rfl

theorem lokR8 : LOk Try.prog Try.f39.ntmps (.block 8 (.loop (lb 8 Try.f39))) R8 := by
  refine lokR (fs := []) (xs := []) (m := .nat) (fuel := 7) (sums := []) .nil mixedP (loopsOk_none rfl _) ?_
  intro args hin t e vs hout h hg
  unfold R8 at h
  simp only at h
  split at h
  · rename_i b xs
    cases h
    cases hg
    refine ⟨15, fun i => ([slw 0, .s (.bool (leN8 b xs i)), .s (.nat .i64 (1 + i))], [some [.ints .i64 40 xs]]), .exit 8, rfl, fun i hi => ?_, ?_, rfl⟩
    · simp only [slw, List.length_cons, List.length_nil]
      rw [rr8]
      refine cond_t (decide_eq_true (by omega)) ?_
      simp only [leN8, Nat.add_assoc]
      cases leN8 b xs i
      · refine cond_f rfl (nd_of ?_ rfl)
        simp only [List.mem_cons, List.not_mem_nil, or_false, forall_eq, decide_eq_true_eq]; omega
      · refine cond_t rfl (nd_of ?_ rfl)
        simp only [List.mem_cons, List.not_mem_nil, or_false, forall_eq_or_imp, forall_eq, decide_eq_true_eq, true_and, and_true]; omega
    · simp only [slw, List.length_cons, List.length_nil]
      rw [rr8]
      exact cond_f (decide_eq_false (by omega)) rfl
  · cases h

end Go.Proofs.Ytgebgjhjegadpaa

namespace Go.Proofs.Ytgebgjhjegadpaa
open Go

def itN (v : Nat) : Nat → Nat
  | 0 => v
  | i + 1 => nx (itN v i)

def redF : Nat → Nat → Nat
  | 0, v => v
  | k + 1, v => if v < 1361129467683753853853498429727072845824 then v else redF k (nx v)

def red (v : Nat) : Nat := redF 4 v

theorem itN_succ (v : Nat) : ∀ i, itN v (i + 1) = itN (nx v) i
  | 0 => rfl
  | i + 1 => by rw [itN, itN_succ v i, itN]

theorem redF_spec : ∀ (k v : Nat), (∃ n, n < k ∧ (∀ i, i < n → 1361129467683753853853498429727072845824 ≤ itN v i) ∧ itN v n < 1361129467683753853853498429727072845824 ∧ redF k v = itN v n) ∨ (∀ i, i < k → 1361129467683753853853498429727072845824 ≤ itN v i)
  | 0, v => .inr fun i h => by omega
  | k + 1, v => by
    by_cases hv : v < 1361129467683753853853498429727072845824
    · exact .inl ⟨0, by omega, fun i h => by omega, hv, by rw [redF, if_pos hv]; rfl⟩
    · rcases redF_spec k (nx v) with ⟨n, h1, h2, h3, h4⟩ | h
      · refine .inl ⟨n + 1, by omega, fun i hi => ?_, by rw [itN_succ]; exact h3, by rw [redF, if_neg hv, itN_succ]; exact h4⟩
        cases i with
        | zero => simp only [itN]; omega
        | succ i => rw [itN_succ]; exact h2 i (by omega)
      · refine .inr fun i hi => ?_
        cases i with
        | zero => simp only [itN]; omega
        | succ i => rw [itN_succ]; exact h i (by omega)

theorem red_spec {v : Nat} (hv : v < 256 ^ 40) : ∃ n, (∀ i, i < n → 1361129467683753853853498429727072845824 ≤ itN v i) ∧ itN v n < 1361129467683753853853498429727072845824 ∧ red v = itN v n := by
  rcases redF_spec 4 v with ⟨n, _, h2, h3, h4⟩ | h
  · exact ⟨n, h2, h3, h4⟩
  · exfalso
    have h0 := h 0 (by omega)
    have h1 := h 1 (by omega)
    have h2 := h 2 (by omega)
    have h3 := h 3 (by omega)
    simp only [itN, nx] at h0 h1 h2 h3
    have p : (256 : Nat) ^ 40 = 2135987035920910082395021706169552114602704522356652769947041607822219725780640550022962086936576 := by decide
    rw [p] at hv
    omega

theorem nx_lt {v : Nat} (hv : v < 256 ^ 40) : nx v < 256 ^ 40 := by
  unfold nx
  have p : (256 : Nat) ^ 40 = 2135987035920910082395021706169552114602704522356652769947041607822219725780640550022962086936576 := by decide
  rw [p] at *
  omega

theorem itN_lt {v : Nat} (hv : v < 256 ^ 40) : ∀ i, itN v i < 256 ^ 40
  | 0 => hv
  | i + 1 => nx_lt (itN_lt hv i)

def stN (xs : List Nat) : Nat → List Nat
  | 0 => xs
  | i + 1 => nextD (leN (stN xs i))

theorem stN_spec {xs : List Nat} (h40 : xs.length = 40) (hB : allB 36028797018963968 xs = true) (hv : leN xs < 256 ^ 40) : ∀ i, (stN xs i).length = 40 ∧ allB 36028797018963968 (stN xs i) = true ∧ leN (stN xs i) = itN (leN xs) i
  | 0 => ⟨h40, hB, rfl⟩
  | i + 1 => by
    obtain ⟨h1, h2, h3⟩ := stN_spec h40 hB hv i
    have hlt := itN_lt hv i
    rw [← h3] at hlt
    obtain ⟨g1, g2, g3, _, _⟩ := round_spec hlt
    refine ⟨g3, allB_of fun j => ?_, ?_⟩
    · show (nextD (leN (stN xs i))).getD j 0 < _
      have := g2 j; omega
    · show leN (nextD (leN (stN xs i))) = nx (itN (leN xs) i)
      rw [g1, h3]

def R0 : LSem := ⟨[0], [0], fun args hin => match args, hin with
  | [.s (.sl .whole 0 0 40 1)], [[.ints .i64 40 xs]] =>
    some (Tr.needs [decide (xs.length = 40), allB 36028797018963968 xs, decide (leN xs < 256 ^ 40)] (.leaf (.normal, [slw 0], [some [.ints .i64 40 (digs 40 (red (leN xs)))]])))
  | _, _ => none⟩

set_option maxRecDepth 100000 in
theorem rr0 (xs : List Nat) : runR Try.prog [] [] .nat 7 [(2, R2), (4, R4), (6, R6)] Try.f39 0 R0 1 [.s (.sl .whole 0 0 40 1)] [some [.ints .i64 40 xs]] =
(nd [decide (xs.length = 40), allB 36028797018963968 xs]
 (cond (!ovN (carN xs 39) 24)
 (some (Ex.exit 0, [AV.s (SV.sl LK.whole 0 0 40 1)], [some [Ch.ints IntKind.i64 40 (loN (carN xs 39) 24)]]))
 (nd [decide ((loN (carN xs 39) 24).length = 40), allB 36028797018963968 (loN (carN xs 39) 24), allB 36028797018963968 (hiN (carN xs 39) (List.replicate 40 0) 24)]
 (some (Ex.normal, [AV.s (SV.sl LK.whole 0 0 40 1)], [some [Ch.ints IntKind.i64 40 (dnN (loN (carN xs 39) 24) (hiN (carN xs 39) (List.replicate 40 0) 24) 24)]]))))) := by kernel_rfl

theorem loopsR0 : LoopsOk Try.prog ⟨Try.f39.ntmps, 7, [(2, R2), (4, R4), (6, R6)]⟩ (lb 0 Try.f39) := by
  refine loopsOk_of ?_
  have e : loopsIn [(2, R2), (4, R4), (6, R6)] (lb 0 Try.f39) = [(2, .loop (lb 2 Try.f39), R2), (4, .loop (lb 4 Try.f39), R4), (6, .loop (lb 6 Try.f39), R6)] := by kernel_rfl
  simp only [e]
  intro x hx
  simp only [List.mem_cons, List.not_mem_nil, or_false] at hx
  rcases hx with rfl | rfl | rfl
  · exact lokR2
  · exact lokR4
  · exact lokR6

theorem lowHigh_lt {v : Nat} : allB 36028797018963968 (lowD v) = true ∧ allB 36028797018963968 (highD v) = true ∧ (lowD v).length = 40 := by
  have h40 : (digs 40 v).length = 40 := digs_len 40 v
  have hd : ∀ i, (digs 40 v).getD i 0 < 256 := fun i => by rw [digs_get]; split <;> omega
  refine ⟨allB_of fun i => ?_, allB_of fun i => ?_, by rw [lowD, loN_len, h40]⟩
  · rw [lowD, loN_get h40 (by omega)]
    have := hd i
    split <;> omega
  · rw [highD, hiN_get (hs := zs40) h40 (List.length_replicate) (Nat.le_refl 24), zs40_get]
    have := hd i
    have := hx_le (digs 40 v) i
    split <;> omega

theorem lokR0 : LOk Try.prog Try.f39.ntmps (.block 0 (.loop (lb 0 Try.f39))) R0 := by
  refine lokR (fs := []) (xs := []) (m := .nat) (fuel := 7) (sums := [(2, R2), (4, R4), (6, R6)]) .nil mixedP loopsR0 ?_
  intro args hin t e vs hout h hg
  unfold R0 at h
  simp only at h
  split at h
  · rename_i xs
    simp only [Option.some.injEq] at h
    subst h
    obtain ⟨hc, hgt⟩ := Tr.needs_get hg
    clear hg
    have e1 : xs.length = 40 := of_decide_eq_true (hc _ (by simp))
    have e2 : allB 36028797018963968 xs = true := hc (allB 36028797018963968 xs) (by simp)
    have e3 : leN xs < 256 ^ 40 := of_decide_eq_true (hc (decide (leN xs < 256 ^ 40)) (by simp))
    clear hc
    obtain ⟨n, n1, n2, n3⟩ := red_spec e3
    rw [n3] at hgt
    cases hgt
    refine ⟨n, fun i => ([slw 0], [some [.ints .i64 40 (stN xs i)]]), .exit 0, rfl, fun i hi => ?_, ?_, rfl⟩
    · obtain ⟨g1, g2, g3⟩ := stN_spec e1 e2 e3 i
      have hlt := itN_lt e3 i
      rw [← g3] at hlt
      simp only [slw, List.length_cons, List.length_nil]
      rw [rr0, carN_digs (n := 39) g1 hlt]
      have hov := (round_spec hlt).2.2.2.1.2 (by rw [g3]; exact n1 i hi)
      rw [show 39 + 1 = 40 from rfl, hov]
      refine nd_of ?_ (cond_f rfl (nd_of ?_ rfl))
      · simp only [List.mem_cons, List.not_mem_nil, or_false, forall_eq_or_imp, forall_eq, decide_eq_true_eq]; exact ⟨g1, g2⟩
      · simp only [List.mem_cons, List.not_mem_nil, or_false, forall_eq_or_imp, forall_eq, decide_eq_true_eq]
        have := @lowHigh_lt (leN (stN xs i))
        exact ⟨this.2.2, this.1, this.2.1⟩
    · obtain ⟨g1, g2, g3⟩ := stN_spec e1 e2 e3 n
      have hlt := itN_lt e3 n
      rw [← g3] at hlt
      simp only [slw, List.length_cons, List.length_nil]
      rw [rr0, carN_digs (n := 39) g1 hlt]
      obtain ⟨_, _, _, h4, h5⟩ := round_spec hlt
      have hov : ovN (digs 40 (leN (stN xs n))) 24 = false := by
        rw [← Bool.not_eq_true, h4, g3]; omega
      have hlo := h5 (by rw [g3]; exact n2)
      unfold lowD at hlo
      rw [show 39 + 1 = 40 from rfl, hov, hlo, g3]
      refine nd_of ?_ (cond_t rfl rfl)
      simp only [List.mem_cons, List.not_mem_nil, or_false, forall_eq_or_imp, forall_eq, decide_eq_true_eq]; exact ⟨g1, g2⟩
  · cases h

theorem red_lt {v : Nat} (hv : v < 256 ^ 40) : red v < 1361129467683753853853498429727072845824 := by
  obtain ⟨n, _, n2, n3⟩ := red_spec hv
  rw [n3]; exact n2

theorem nx_mod (v : Nat) : nx v % 1361129467683753853853498429727072845819 = v % 1361129467683753853853498429727072845819 := by
  unfold nx; omega

theorem itN_mod (v : Nat) : ∀ i, itN v i % 1361129467683753853853498429727072845819 = v % 1361129467683753853853498429727072845819
  | 0 => rfl
  | i + 1 => by rw [itN, nx_mod, itN_mod v i]

theorem red_mod {v : Nat} (hv : v < 256 ^ 40) : red v % 1361129467683753853853498429727072845819 = v % 1361129467683753853853498429727072845819 := by
  obtain ⟨n, _, _, n3⟩ := red_spec hv
  rw [n3, itN_mod]

theorem leN8_iff (b : Bool) (xs : List Nat) : ∀ j, leN8 b xs j = true ↔ b = true ∧ ∀ i, i < j → xs.getD (1 + i) 0 = 255
  | 0 => by simp [leN8]
  | j + 1 => by
    have ih := leN8_iff b xs j
    rw [leN8]
    cases hb : leN8 b xs j with
    | true =>
      obtain ⟨h1, h2⟩ := ih.1 hb
      rw [cond_true, decide_eq_true_eq]
      constructor
      · intro h
        refine ⟨h1, fun i hi => ?_⟩
        by_cases e : i = j
        · rw [e]; exact h
        · exact h2 i (by omega)
      · exact fun h => h.2 j (by omega)
    | false =>
      rw [cond_false]
      refine ⟨fun h => (by cases h), fun h => ?_⟩
      have := ih.2 ⟨h.1, fun i hi => h.2 i (by omega)⟩
      rw [hb] at this; exact this

theorem least_iff {v : Nat} (hv : v < 1361129467683753853853498429727072845824) :
    ((digs 40 v).getD 16 0 = 3 ∧ leN8 (decide (251 ≤ (digs 40 v).getD 0 0)) (digs 40 v) 15 = true) ↔ 1361129467683753853853498429727072845819 ≤ v := by
  rw [leN8_iff, decide_eq_true_eq]
  have hall : (∀ i, i < 15 → (digs 40 v).getD (1 + i) 0 = 255) ↔ v / 256 % 256 ^ 15 = 256 ^ 15 - 1 := by
    constructor
    · intro h
      have e : digs 15 (v / 256) = List.replicate 15 255 := by
        apply List.ext_getElem (by rw [digs_len, List.length_replicate])
        intro i g1 g2
        have h1 := digs_get 15 (v / 256) i
        rw [List.getD, List.getElem?_eq_getElem g1, Option.getD_some, if_pos (by rw [digs_len] at g1; exact g1)] at h1
        have h2 := h i (by rw [digs_len] at g1; exact g1)
        rw [digs_get, if_pos (by rw [digs_len] at g1; omega), Nat.add_comm 1 i, Nat.pow_succ, Nat.mul_comm, ← Nat.div_div_eq_div_mul] at h2
        rw [h1, List.getElem_replicate, h2]
      have := leN_digs 15 (v / 256)
      rw [e] at this
      rw [← this]
      decide
    · intro h i hi
      rw [digs_get, if_pos (by omega), Nat.add_comm 1 i, Nat.pow_succ, Nat.mul_comm, ← Nat.div_div_eq_div_mul]
      have h1 := digs_get 15 (v / 256) i
      rw [if_pos hi] at h1
      rw [← h1]
      have h2 : digs 15 (v / 256) = digs 15 (v / 256 % 256 ^ 15) := by
        have g := digs_leN (digs_lt 15 (v / 256))
        rw [digs_len, leN_digs] at g
        exact g.symm
      rw [h2, h]
      have : i = 0 ∨ i = 1 ∨ i = 2 ∨ i = 3 ∨ i = 4 ∨ i = 5 ∨ i = 6 ∨ i = 7 ∨ i = 8 ∨ i = 9 ∨ i = 10 ∨ i = 11 ∨ i = 12 ∨ i = 13 ∨ i = 14 := by omega
      rcases this with rfl | rfl | rfl | rfl | rfl | rfl | rfl | rfl | rfl | rfl | rfl | rfl | rfl | rfl | rfl <;> decide
  rw [hall, digs_get, digs_get, if_pos (by omega), if_pos (by omega)]
  have p15 : (256 : Nat) ^ 15 = 1329227995784915872903807060280344576 := by decide
  have p16 : (256 : Nat) ^ 16 = 340282366920938463463374607431768211456 := by decide
  rw [p15, p16, Nat.pow_zero, Nat.div_one]
  omega

theorem digs_zero : ∀ n, digs n 0 = List.replicate n 0
  | 0 => rfl
  | n + 1 => by simp [digs, digs_zero n, List.replicate_succ]

theorem least_digs {v : Nat} (hv : v < 1361129467683753853853498429727072845824) (h : 1361129467683753853853498429727072845819 ≤ v) :
    (List.replicate 40 0).set 0 ((digs 40 v).getD 0 0 - 251) = digs 40 (v - 1361129467683753853853498429727072845819) ∧ 251 ≤ (digs 40 v).getD 0 0 := by
  have e : (digs 40 v).getD 0 0 = v % 256 := by rw [digs_get, if_pos (by omega), Nat.pow_zero, Nat.div_one]
  rw [e]
  refine ⟨?_, by omega⟩
  rw [show (40 : Nat) = 39 + 1 from rfl, List.replicate_succ, List.set_cons_zero, digs, show (v - 1361129467683753853853498429727072845819) / 256 = 0 by omega, digs_zero, show v % 256 - 251 = (v - 1361129467683753853853498429727072845819) % 256 by omega]

def canP (v : Nat) : Nat := if 1361129467683753853853498429727072845819 ≤ red v then red v - 1361129467683753853853498429727072845819 else red v

theorem canP_eq {v : Nat} (hv : v < 256 ^ 40) : canP v = v % 1361129467683753853853498429727072845819 := by
  have h1 := red_lt hv
  have h2 := red_mod hv
  unfold canP
  split <;> omega

def F39 : FSem := ⟨false, fun args hin => match args, hin with
  | [.s (.sl .whole 0 0 40 1)], [[.ints .i64 40 xs]] =>
    some (Tr.needs [decide (xs.length = 40), allB 36028797018963968 xs, decide (leN xs < 256 ^ 40)]
      (.br (decide (1361129467683753853853498429727072845819 ≤ red (leN xs))) (.leaf (slw 1, [some [.ints .i64 40 (digs 40 (red (leN xs)))], some [.ints .i64 40 (digs 40 (canP (leN xs)))]]))
        (.leaf (slw 0, [some [.ints .i64 40 (digs 40 (canP (leN xs)))]]))))
  | _, _ => none⟩

theorem fn39 : Fn Try.prog 39 Try.f39 := ⟨mixedP, Try.func39, by kernel_rfl, of_decide_eq_true (by kernel_rfl)⟩

theorem loops39 : LoopsOk Try.prog ⟨Try.f39.ntmps, 7, [(0, R0), (8, R8)]⟩ (bodyOf Try.f39) := by
  refine loopsOk_of ?_
  have e : loopsIn [(0, R0), (8, R8)] (bodyOf Try.f39) = [(0, .loop (lb 0 Try.f39), R0), (8, .loop (lb 8 Try.f39), R8)] := by kernel_rfl
  simp only [e]
  intro x hx
  simp only [List.mem_cons, List.not_mem_nil, or_false] at hx
  rcases hx with rfl | rfl
  · exact lokR0
  · exact lokR8

set_option maxRecDepth 100000 in
theorem r39 (xs : List Nat) : runL Try.prog [] [] .nat 7 [(0, R0), (8, R8)] Try.f39 [.s (.sl .whole 0 0 40 1)] [[.ints .i64 40 xs]] =
(nd [decide (xs.length = 40), allB 36028797018963968 xs, decide (leN xs < 256 ^ 40)]
(cond (decide ((digs 40 (red (leN xs))).getD 16 0 = 3))
 (cond (leN8 (decide (251 ≤ (digs 40 (red (leN xs))).getD 0 0)) (digs 40 (red (leN xs))) 15)
 (nd [decide (251 ≤ (digs 40 (red (leN xs))).getD 0 0)]
 (some (AV.s (SV.sl LK.whole 1 0 40 1), [some [Ch.ints IntKind.i64 40 (digs 40 (red (leN xs)))], some [Ch.ints IntKind.i64 40 ((List.replicate 40 0).set 0 ((digs 40 (red (leN xs))).getD 0 0 - 251))]])))
 (some (AV.s (SV.sl LK.whole 0 0 40 1), [some [Ch.ints IntKind.i64 40 (digs 40 (red (leN xs)))]])))
 (some (AV.s (SV.sl LK.whole 0 0 40 1), [some [Ch.ints IntKind.i64 40 (digs 40 (red (leN xs)))]])))) := by kernel_rfl

theorem ok39 : FOk Try.prog 39 F39 := by
  refine fokL (fs := []) (xs := []) (m := .nat) (fuel := 7) (sums := [(0, R0), (8, R8)]) .nil fn39 loops39 ?_
  intro args hin t r h hg
  unfold F39 at h
  simp only at h
  split at h
  · rename_i xs
    cases h
    obtain ⟨hc, hgt⟩ := Tr.needs_get hg
    clear hg
    have e1 : xs.length = 40 := of_decide_eq_true (hc _ (by simp))
    have e2 : allB 36028797018963968 xs = true := hc (allB 36028797018963968 xs) (by simp)
    have e3 : leN xs < 256 ^ 40 := of_decide_eq_true (hc (decide (leN xs < 256 ^ 40)) (by simp))
    clear hc
    have hv := red_lt e3
    have hi := least_iff hv
    rw [r39]
    refine nd_of ?_ ?_
    · simp only [List.mem_cons, List.not_mem_nil, or_false, forall_eq_or_imp, forall_eq, decide_eq_true_eq]; exact ⟨e1, e2, e3⟩
    simp only [Tr.get] at hgt
    unfold canP at hgt
    by_cases hp : 1361129467683753853853498429727072845819 ≤ red (leN xs)
    · rw [decide_eq_true hp, if_pos hp] at hgt
      cases hgt
      obtain ⟨g1, g2⟩ := hi.2 hp
      obtain ⟨k1, k2⟩ := least_digs hv hp
      rw [k1]
      refine cond_t (decide_eq_true g1) (cond_t g2 (nd_of ?_ rfl))
      simp only [List.mem_cons, List.not_mem_nil, or_false, forall_eq, decide_eq_true_eq]
      exact k2
    · rw [decide_eq_false hp, if_neg hp] at hgt
      cases hgt
      by_cases h16 : (digs 40 (red (leN xs))).getD 16 0 = 3
      · refine cond_t (decide_eq_true h16) (cond_f ?_ rfl)
        rw [← Bool.not_eq_true]
        exact fun h => hp (hi.1 ⟨h16, h⟩)
      · exact cond_f (decide_eq_false h16) rfl
  · cases h

end Go.Proofs.Ytgebgjhjegadpaa

namespace Go.Proofs.Ytgebgjhjegadpaa
open Go

def adN (s a : List Nat) (l : Nat) : Nat → List Nat
  | 0 => a
  | n + 1 => (adN s a l n).set n ((adN s a l n).getD n 0 + s.getD (l + n) 0)

def mkN (a r : List Nat) (i : Nat) (d : List Nat) : Nat → List Nat
  | 0 => d
  | k + 1 => (mkN a r i d k).set (i + k) ((mkN a r i d k).getD (i + k) 0 + a.getD i 0 * r.getD k 0)

def miN (a r d : List Nat) : Nat → List Nat
  | 0 => d
  | i + 1 => mkN a r i (miN a r d i) 16

theorem adN_len (s a : List Nat) (l : Nat) : ∀ n, (adN s a l n).length = a.length
  | 0 => rfl
  | n + 1 => by simp [adN, adN_len s a l n]

theorem mkN_len (a r : List Nat) (i : Nat) (d : List Nat) : ∀ n, (mkN a r i d n).length = d.length
  | 0 => rfl
  | n + 1 => by simp [mkN, mkN_len a r i d n]

theorem miN_len (a r d : List Nat) : ∀ n, (miN a r d n).length = d.length
  | 0 => rfl
  | n + 1 => by rw [miN, mkN_len, miN_len a r d n]

theorem adN_get {s a : List Nat} {l : Nat} : ∀ {n : Nat}, n ≤ a.length → ∀ j, (adN s a l n).getD j 0 = if j < n then a.getD j 0 + s.getD (l + j) 0 else a.getD j 0
  | 0, _, j => by rw [if_neg (by omega)]; rfl
  | n + 1, h, j => by
    have ih := adN_get (s := s) (a := a) (l := l) (n := n) (by omega)
    have hl := adN_len s a l n
    rw [adN, getD_set, ih n, if_neg (Nat.lt_irrefl n)]
    by_cases e : n = j
    · subst e; rw [if_pos ⟨rfl, by omega⟩, if_pos (by omega)]
    · rw [if_neg (fun h => e h.1), ih j]
      by_cases hc : j < n
      · rw [if_pos hc, if_pos (by omega)]
      · rw [if_neg hc, if_neg (by omega)]

theorem adN_leN {s a : List Nat} {l : Nat} : ∀ {n : Nat}, n ≤ a.length → leN (adN s a l n) = leN a + sumW (fun j => s.getD (l + j) 0) n
  | 0, _ => rfl
  | n + 1, h => by
    have hl := adN_len s a l n
    rw [adN, leN_addAt (by omega), adN_leN (by omega), sumW]
    omega

theorem mkN_get {a r d : List Nat} {i C : Nat} (hC : ∀ k, a.getD i 0 * r.getD k 0 ≤ C) : ∀ {k : Nat}, i + k ≤ d.length → (∀ j, (mkN a r i d k).getD j 0 ≤ d.getD j 0 + C) ∧ (∀ j, i + k ≤ j → (mkN a r i d k).getD j 0 = d.getD j 0)
  | 0, _ => ⟨fun j => by simp only [mkN]; omega, fun j _ => rfl⟩
  | k + 1, h => by
    obtain ⟨h1, h2⟩ := mkN_get (d := d) hC (k := k) (by omega)
    have hl := mkN_len a r i d k
    have hc := hC k
    have hk := h2 (i + k) (Nat.le_refl _)
    refine ⟨fun j => ?_, fun j hj => ?_⟩
    · rw [mkN, getD_set]
      have := h1 j
      split
      · rename_i e; rw [← e.1]; omega
      · exact this
    · rw [mkN, getD_set, if_neg (by omega)]
      exact h2 j (by omega)

theorem mkN_leN {a r d : List Nat} {i : Nat} : ∀ {k : Nat}, i + k ≤ d.length → leN (mkN a r i d k) = leN d + a.getD i 0 * 256 ^ i * sumW (fun k => r.getD k 0) k
  | 0, _ => by simp [mkN, sumW]
  | k + 1, h => by
    have hl := mkN_len a r i d k
    rw [mkN, leN_addAt (by omega), mkN_leN (by omega), sumW, Nat.mul_add, Nat.pow_add, Nat.add_assoc]
    congr 2
    rw [Nat.mul_assoc, Nat.mul_assoc, Nat.mul_left_comm (r.getD k 0)]

theorem miN_get {a r d : List Nat} {C : Nat} (hd : d.length = 40) (hC : ∀ i k, a.getD i 0 * r.getD k 0 ≤ C) : ∀ {i : Nat}, i ≤ 18 → ∀ j, (miN a r d i).getD j 0 ≤ d.getD j 0 + i * C
  | 0, _, j => by simp [miN]
  | i + 1, h, j => by
    have h1 := miN_get hd hC (i := i) (by omega) j
    have h2 := (mkN_get (d := miN a r d i) (hC i) (k := 16) (by rw [miN_len, hd]; omega)).1 j
    rw [miN, Nat.succ_mul]
    omega

theorem miN_leN {a r d : List Nat} (hd : d.length = 40) : ∀ {i : Nat}, i ≤ 18 → leN (miN a r d i) = leN d + sumW (fun i => a.getD i 0) i * sumW (fun k => r.getD k 0) 16
  | 0, _ => by simp [miN, sumW]
  | i + 1, h => by
    rw [miN, mkN_leN (by rw [miN_len, hd]; omega), miN_leN hd (by omega), show sumW (fun i => a.getD i 0) (i + 1) = sumW (fun i => a.getD i 0) i + a.getD i 0 * 256 ^ i from rfl, Nat.add_mul, Nat.add_assoc]

def lenAt (s : List Nat) (l : Nat) : Nat := min 16 (s.length - l)

def Ta : LSem := ⟨[7, 8, 1, 9], [7, 8, 1, 9], fun args hin => match args, hin with
  | [.s (.sl .whole 0 0 40 1), .s (.nat .i64 l), .s (.str s), .s (.nat .i64 0)], [[.ints .i64 40 a]] =>
    some (Tr.needs [decide (a.length = 40), allB 36028797018963968 a, allB 256 s, decide (l ≤ s.length), decide (s.length < 4611686018427387904)]
      (.leaf (.normal, [slw 0, .s (.nat .i64 l), .s (.str s), .s (.nat .i64 (lenAt s l))], [some [.ints .i64 40 (adN s a l (lenAt s l))]])))
  | _, _ => none⟩

set_option maxRecDepth 100000 in
theorem rTa (a s : List Nat) (l j : Nat) : runR Try.prog [] [] .nat 7 [] Try.f26 4 Ta 1 [.s (.sl .whole 0 0 40 1), .s (.nat .i64 l), .s (.str s), .s (.nat .i64 j)] [some [.ints .i64 40 a]] =
(cond (decide (j < 16))
 (nd [decide (l + j < 9223372036854775808), decide (s.length < 9223372036854775808)]
 (cond (decide (l + j < s.length))
 (nd [decide (j < 40), decide (j < 40), decide (l + j < 9223372036854775808), decide (l + j < s.length), decide (a.getD (j) 0 + s.getD (l + j) 0 < 9223372036854775808), decide (j < 40), decide (j < 40), decide (j + 1 < 9223372036854775808)]
 (some (Ex.normal, [AV.s (SV.sl LK.whole 0 0 40 1), AV.s (SV.nat IntKind.i64 l), AV.s (SV.str s), AV.s (SV.nat IntKind.i64 (j + 1))], [some [Ch.ints IntKind.i64 40 (a.set (j) (a.getD (j) 0 + s.getD (l + j) 0))]])))
 (some (Ex.exit 4, [AV.s (SV.sl LK.whole 0 0 40 1), AV.s (SV.nat IntKind.i64 l), AV.s (SV.str s), AV.s (SV.nat IntKind.i64 j)], [some [Ch.ints IntKind.i64 40 a]]))))
 (some (Ex.exit 4, [AV.s (SV.sl LK.whole 0 0 40 1), AV.s (SV.nat IntKind.i64 l), AV.s (SV.str s), AV.s (SV.nat IntKind.i64 j)], [some [Ch.ints IntKind.i64 40 a]]))) := by kernel_rfl

theorem lokTa : LOk Try.prog Try.f26.ntmps (.block 4 (.loop (lb 4 Try.f26))) Ta := by
  refine lokR (fs := []) (xs := []) (m := .nat) (fuel := 7) (sums := []) .nil mixedP (loopsOk_none rfl _) ?_
  intro args hin t e vs hout h hg
  unfold Ta at h
  simp only at h
  split at h
  · rename_i l s a
    simp only [Option.some.injEq] at h
    subst h
    obtain ⟨hc, hgt⟩ := Tr.needs_get hg
    clear hg
    have e1 : a.length = 40 := of_decide_eq_true (hc _ (by simp))
    have e2 : allB 36028797018963968 a = true := hc (allB 36028797018963968 a) (by simp)
    have e3 : allB 256 s = true := hc (allB 256 s) (by simp)
    have e4 : l ≤ s.length := of_decide_eq_true (hc (decide (l ≤ s.length)) (by simp))
    have e5 : s.length < 4611686018427387904 := of_decide_eq_true (hc (decide (s.length < 4611686018427387904)) (by simp))
    clear hc
    cases hgt
    have hL : lenAt s l = min 16 (s.length - l) := rfl
    refine ⟨lenAt s l, fun i => ([slw 0, .s (.nat .i64 l), .s (.str s), .s (.nat .i64 i)], [some [.ints .i64 40 (adN s a l i)]]), .exit 4, rfl, fun i hi => ?_, ?_, rfl⟩
    · simp only [slw, List.length_cons, List.length_nil]
      rw [rTa]
      have g1 := adN_get (s := s) (a := a) (l := l) (n := i) (by omega) i
      rw [if_neg (Nat.lt_irrefl i)] at g1
      have g2 := allB_get (by omega) e2 i
      have g3 := allB_get (by omega) e3 (l + i)
      refine cond_t (decide_eq_true (by omega)) (nd_of ?_ (cond_t (decide_eq_true (by omega)) (nd_of ?_ rfl)))
      · simp only [List.mem_cons, List.not_mem_nil, or_false, forall_eq_or_imp, forall_eq, decide_eq_true_eq, true_and, and_true]; omega
      · simp only [List.mem_cons, List.not_mem_nil, or_false, forall_eq_or_imp, forall_eq, decide_eq_true_eq, true_and, and_true]; omega
    · simp only [slw, List.length_cons, List.length_nil]
      rw [rTa]
      by_cases h16 : lenAt s l < 16
      · refine cond_t (decide_eq_true h16) (nd_of ?_ (cond_f (decide_eq_false (by omega)) rfl))
        simp only [List.mem_cons, List.not_mem_nil, or_false, forall_eq_or_imp, forall_eq, decide_eq_true_eq, true_and, and_true]; omega
      · exact cond_f (decide_eq_false h16) rfl
  · cases h

def Tb : LSem := ⟨[10, 11, 12, 7, 5], [10, 11, 7, 5], fun args hin => match args, hin with
  | [.s (.sl .whole 0 0 40 1), .s (.nat .i64 i), .s (.nat .i64 0), .s (.sl .whole 1 0 40 1), .s (.sl .whole 2 0 16 1)], [[.ints .i64 40 d], [.ints .i64 40 a], [.ints .i64 16 r]] =>
    some (Tr.needs [decide (d.length = 40), decide (i < 18), allB 1125899906842624 d, allB 65536 a, allB 256 r]
      (.leaf (.normal, [slw 0, .s (.nat .i64 i), slw 1, .s (.sl .whole 2 0 16 1)], [some [.ints .i64 40 (mkN a r i d 16)], some [.ints .i64 40 a], some [.ints .i64 16 r]])))
  | _, _ => none⟩

set_option maxRecDepth 100000 in
theorem rTb (d a r : List Nat) (i j : Nat) : runR Try.prog [] [] .nat 7 [] Try.f26 8 Tb 3 [.s (.sl .whole 0 0 40 1), .s (.nat .i64 i), .s (.nat .i64 j), .s (.sl .whole 1 0 40 1), .s (.sl .whole 2 0 16 1)] [some [.ints .i64 40 d], some [.ints .i64 40 a], some [.ints .i64 16 r]] =
(cond (decide (j < 16))
 (nd [decide (i + j < 9223372036854775808), decide (i + j < 40), decide ((i + j) < 40), decide (i < 40), decide (i < 40), decide (j < 16), decide (j < 16), decide (a.getD (i) 0 * r.getD (j) 0 < 9223372036854775808), decide (d.getD (i + j) 0 + a.getD (i) 0 * r.getD (j) 0 < 9223372036854775808), decide (i + j < 40), decide ((i + j) < 40), decide (j + 1 < 9223372036854775808)]
 (some (Ex.normal, [AV.s (SV.sl LK.whole 0 0 40 1), AV.s (SV.nat IntKind.i64 i), AV.s (SV.nat IntKind.i64 (j + 1)), AV.s (SV.sl LK.whole 1 0 40 1), AV.s (SV.sl LK.whole (2) 0 16 1)], [some [Ch.ints IntKind.i64 40 (d.set (i + j) (d.getD (i + j) 0 + a.getD (i) 0 * r.getD (j) 0))], some [Ch.ints IntKind.i64 40 a], some [Ch.ints IntKind.i64 16 r]])))
 (some (Ex.exit 8, [AV.s (SV.sl LK.whole 0 0 40 1), AV.s (SV.nat IntKind.i64 i), AV.s (SV.sl LK.whole 1 0 40 1), AV.s (SV.sl LK.whole (2) 0 16 1)], [some [Ch.ints IntKind.i64 40 d], some [Ch.ints IntKind.i64 40 a], some [Ch.ints IntKind.i64 16 r]]))) := by kernel_rfl

theorem prod_le {a r : List Nat} (ha : allB 65536 a = true) (hr : allB 256 r = true) (i k : Nat) : a.getD i 0 * r.getD k 0 ≤ 16711425 := by
  have h1 := allB_get (by omega) ha i
  have h2 := allB_get (by omega) hr k
  exact Nat.le_trans (Nat.mul_le_mul (by omega : a.getD i 0 ≤ 65535) (by omega : r.getD k 0 ≤ 255)) (by omega)

theorem lokTb : LOk Try.prog Try.f26.ntmps (.block 8 (.loop (lb 8 Try.f26))) Tb := by
  refine lokR (fs := []) (xs := []) (m := .nat) (fuel := 7) (sums := []) .nil mixedP (loopsOk_none rfl _) ?_
  intro args hin t e vs hout h hg
  unfold Tb at h
  simp only at h
  split at h
  · rename_i i d a r
    simp only [Option.some.injEq] at h
    subst h
    obtain ⟨hc, hgt⟩ := Tr.needs_get hg
    clear hg
    have e1 : d.length = 40 := of_decide_eq_true (hc _ (by simp))
    have e2 : i < 18 := of_decide_eq_true (hc (decide (i < 18)) (by simp))
    have e3 : allB 1125899906842624 d = true := hc (allB 1125899906842624 d) (by simp)
    have e4 : allB 65536 a = true := hc (allB 65536 a) (by simp)
    have e5 : allB 256 r = true := hc (allB 256 r) (by simp)
    clear hc
    cases hgt
    refine ⟨16, fun j => ([slw 0, .s (.nat .i64 i), .s (.nat .i64 j), slw 1, .s (.sl .whole 2 0 16 1)], [some [.ints .i64 40 (mkN a r i d j)], some [.ints .i64 40 a], some [.ints .i64 16 r]]), .exit 8, rfl, fun j hj => ?_, ?_, rfl⟩
    · simp only [slw, List.length_cons, List.length_nil]
      rw [rTb]
      have g1 := (mkN_get (d := d) (prod_le e4 e5 i) (k := j) (by omega)).2 (i + j) (Nat.le_refl _)
      have g2 := allB_get (by omega) e3 (i + j)
      have g3 := prod_le e4 e5 i j
      refine cond_t (decide_eq_true (by omega)) (nd_of ?_ rfl)
      simp only [List.mem_cons, List.not_mem_nil, or_false, forall_eq_or_imp, forall_eq, decide_eq_true_eq, true_and, and_true]; omega
    · simp only [slw, List.length_cons, List.length_nil]
      rw [rTb]
      exact cond_f (decide_eq_false (by omega)) rfl
  · cases h

end Go.Proofs.Ytgebgjhjegadpaa

namespace Go.Proofs.Ytgebgjhjegadpaa
open Go

def Tc : LSem := ⟨[10, 11, 7, 5], [10, 7, 5], fun args hin => match args, hin with
  | [.s (.sl .whole 0 0 40 1), .s (.nat .i64 0), .s (.sl .whole 1 0 40 1), .s (.sl .whole 2 0 16 1)], [[.ints .i64 40 d], [.ints .i64 40 a], [.ints .i64 16 r]] =>
    some (Tr.needs [decide (d = zs40), allB 65536 a, allB 256 r]
      (.leaf (.normal, [slw 0, slw 1, .s (.sl .whole 2 0 16 1)], [some [.ints .i64 40 (miN a r zs40 18)], some [.ints .i64 40 a], some [.ints .i64 16 r]])))
  | _, _ => none⟩

set_option maxRecDepth 100000 in
theorem rTc (d a r : List Nat) (i : Nat) : runR Try.prog [] [] .nat 7 [(8, Tb)] Try.f26 6 Tc 3 [.s (.sl .whole 0 0 40 1), .s (.nat .i64 i), .s (.sl .whole 1 0 40 1), .s (.sl .whole 2 0 16 1)] [some [.ints .i64 40 d], some [.ints .i64 40 a], some [.ints .i64 16 r]] =
(cond (decide (i < 18))
 (nd [decide (d.length = 40), decide (i < 18), allB 1125899906842624 d, allB 65536 a, allB 256 r, decide (i + 1 < 9223372036854775808)]
 (some (Ex.normal, [AV.s (SV.sl LK.whole 0 0 40 1), AV.s (SV.nat IntKind.i64 (i + 1)), AV.s (SV.sl LK.whole 1 0 40 1), AV.s (SV.sl LK.whole (2) 0 16 1)], [some [Ch.ints IntKind.i64 40 (mkN a r i d 16)], some [Ch.ints IntKind.i64 40 a], some [Ch.ints IntKind.i64 16 r]])))
 (some (Ex.exit 6, [AV.s (SV.sl LK.whole 0 0 40 1), AV.s (SV.sl LK.whole 1 0 40 1), AV.s (SV.sl LK.whole (2) 0 16 1)], [some [Ch.ints IntKind.i64 40 d], some [Ch.ints IntKind.i64 40 a], some [Ch.ints IntKind.i64 16 r]]))) := by kernel_rfl

theorem loopsTc : LoopsOk Try.prog ⟨Try.f26.ntmps, 7, [(8, Tb)]⟩ (lb 6 Try.f26) := by
  refine loopsOk_of ?_
  have e : loopsIn [(8, Tb)] (lb 6 Try.f26) = [(8, .loop (lb 8 Try.f26), Tb)] := by kernel_rfl
  simp only [e]
  intro x hx
  simp only [List.mem_cons, List.not_mem_nil, or_false] at hx
  subst hx
  exact lokTb

theorem zs40_len : zs40.length = 40 := List.length_replicate

theorem lokTc : LOk Try.prog Try.f26.ntmps (.block 6 (.loop (lb 6 Try.f26))) Tc := by
  refine lokR (fs := []) (xs := []) (m := .nat) (fuel := 7) (sums := [(8, Tb)]) .nil mixedP loopsTc ?_
  intro args hin t e vs hout h hg
  unfold Tc at h
  simp only at h
  split at h
  · rename_i d a r
    simp only [Option.some.injEq] at h
    subst h
    obtain ⟨hc, hgt⟩ := Tr.needs_get hg
    clear hg
    have e1 : d = zs40 := of_decide_eq_true (hc _ (by simp))
    have e4 : allB 65536 a = true := hc (allB 65536 a) (by simp)
    have e5 : allB 256 r = true := hc (allB 256 r) (by simp)
    clear hc
    subst e1
    cases hgt
    refine ⟨18, fun i => ([slw 0, .s (.nat .i64 i), slw 1, .s (.sl .whole 2 0 16 1)], [some [.ints .i64 40 (miN a r zs40 i)], some [.ints .i64 40 a], some [.ints .i64 16 r]]), .exit 6, rfl, fun i hi => ?_, ?_, rfl⟩
    · simp only [slw, List.length_cons, List.length_nil]
      rw [rTc]
      have g1 : allB 1125899906842624 (miN a r zs40 i) = true := allB_of fun j => by
        have := miN_get zs40_len (prod_le e4 e5) (i := i) (by omega) j
        rw [zs40_get] at this
        have : i * 16711425 ≤ 18 * 16711425 := Nat.mul_le_mul_right _ (by omega)
        omega
      have g2 : (miN a r zs40 i).length = 40 := by rw [miN_len, zs40_len]
      refine cond_t (decide_eq_true hi) (nd_of ?_ rfl)
      simp only [List.mem_cons, List.not_mem_nil, or_false, forall_eq_or_imp, forall_eq, decide_eq_true_eq, true_and, and_true]
      exact ⟨g2, hi, g1, e4, e5, by omega⟩
    · simp only [slw, List.length_cons, List.length_nil]
      rw [rTc]
      exact cond_f (decide_eq_false (by omega)) rfl
  · cases h

/-- A block put to what is there. -/
def addB (s a : List Nat) (l : Nat) : List Nat := (adN s a l (lenAt s l)).set (lenAt s l) ((adN s a l (lenAt s l)).getD (lenAt s l) 0 + 1)

def aV (r s : List Nat) : Nat → Nat
  | 0 => 0
  | i + 1 => canP (leN (miN (addB s (digs 40 (aV r s i)) (16 * i)) r zs40 18))

def nBl (s : List Nat) : Nat := (s.length + 15) / 16

/-- A block's number with the one behind it. -/
def blV (s : List Nat) (l : Nat) : Nat := sumW (fun j => s.getD (l + j) 0) (lenAt s l) + 256 ^ lenAt s l

theorem addB_spec {s : List Nat} {v l : Nat} (hv : v < 1361129467683753853853498429727072845824) (hs : allB 256 s = true) :
    allB 65536 (addB s (digs 40 v) l) = true ∧ leN (addB s (digs 40 v) l) = v + blV s l ∧ (addB s (digs 40 v) l).length = 40 ∧ (∀ i, 18 ≤ i → (addB s (digs 40 v) l).getD i 0 = 0) ∧ (adN s (digs 40 v) l (lenAt s l)).getD (lenAt s l) 0 < 512 := by
  have hl : (digs 40 v).length = 40 := digs_len 40 v
  have hn : lenAt s l ≤ 16 := by unfold lenAt; omega
  have hd : ∀ i, (digs 40 v).getD i 0 < 256 := fun i => by rw [digs_get]; split <;> omega
  have hg := adN_get (s := s) (a := digs 40 v) (l := l) (n := lenAt s l) (by omega)
  have hlen := adN_len s (digs 40 v) l (lenAt s l)
  have hb : ∀ i, (adN s (digs 40 v) l (lenAt s l)).getD i 0 < 512 := fun i => by
    rw [hg]
    have := hd i
    have := allB_get (by omega) hs (l + i)
    split <;> omega
  refine ⟨allB_of fun i => ?_, ?_, ?_, fun i hi => ?_, hb _⟩
  · unfold addB
    rw [getD_set]
    have := hb i
    have := hb (lenAt s l)
    split <;> omega
  · unfold addB
    rw [leN_addAt (by omega), adN_leN (by omega), leN_digs, Nat.mod_eq_of_lt (Nat.lt_trans hv (by decide)), blV]
    omega
  · unfold addB
    rw [List.length_set, hlen, hl]
  · unfold addB
    rw [getD_set, if_neg (by omega), hg, if_neg (by omega), digs_get]
    split
    · have : v / 256 ^ i = 0 := Nat.div_eq_of_lt (Nat.lt_of_lt_of_le hv (Nat.le_trans (by decide : _ ≤ 256 ^ 18) (Nat.pow_le_pow_right (by omega) hi)))
      rw [this]
    · rfl

theorem miN_val {s r : List Nat} {v l : Nat} (hv : v < 1361129467683753853853498429727072845824) (hs : allB 256 s = true) (hr : r.length = 16) (hrB : allB 256 r = true) :
    leN (miN (addB s (digs 40 v) l) r zs40 18) = (v + blV s l) * leN r ∧ leN (miN (addB s (digs 40 v) l) r zs40 18) < 256 ^ 40 := by
  obtain ⟨h1, h2, h3, h4, h5⟩ := addB_spec (l := l) hv hs
  have e1 : sumW (fun i => (addB s (digs 40 v) l).getD i 0) 18 = v + blV s l := by
    rw [← h2, leN_sumW, h3, show 40 = 18 + 22 from rfl, sumW_split, sumW_zero (n := 22) fun i hi => h4 (18 + i) (by omega)]
    omega
  have e2 : sumW (fun k => r.getD k 0) 16 = leN r := by rw [leN_sumW r, hr]
  have e3 : leN (miN (addB s (digs 40 v) l) r zs40 18) = (v + blV s l) * leN r := by
    rw [miN_leN zs40_len (Nat.le_refl 18), e1, e2, show leN zs40 = 0 from leN_zero 40, Nat.zero_add]
  refine ⟨e3, ?_⟩
  rw [e3]
  have b1 : leN r < 256 ^ 16 := by
    rw [← e2]; exact sumW_lt (fun i => allB_get (by omega) hrB i) 16
  have b2 : blV s l < 256 ^ 17 := by
    unfold blV
    have hn : lenAt s l ≤ 16 := by unfold lenAt; omega
    have g1 := sumW_lt (f := fun j => s.getD (l + j) 0) (fun i => allB_get (by omega) hs (l + i)) (lenAt s l)
    have g2 : 256 ^ lenAt s l ≤ 256 ^ 16 := Nat.pow_le_pow_right (by omega) hn
    rw [show (256 : Nat) ^ 17 = 256 ^ 16 * 256 from rfl]
    omega
  have b3 : v + blV s l < 256 ^ 20 := by
    have : (1361129467683753853853498429727072845824 : Nat) + 256 ^ 17 < 256 ^ 20 := by decide
    omega
  calc (v + blV s l) * leN r ≤ 256 ^ 20 * 256 ^ 16 := Nat.mul_le_mul (Nat.le_of_lt b3) (Nat.le_of_lt b1)
    _ < 256 ^ 40 := by decide

theorem aV_lt {r s : List Nat} (hs : allB 256 s = true) (hr : r.length = 16) (hrB : allB 256 r = true) : ∀ i, aV r s i < 1361129467683753853853498429727072845819
  | 0 => by simp [aV]
  | i + 1 => by
    have h := aV_lt hs hr hrB i
    rw [aV, canP_eq (miN_val (by omega) hs hr hrB).2]
    exact Nat.mod_lt _ (by omega)

theorem aV_succ {r s : List Nat} (hs : allB 256 s = true) (hr : r.length = 16) (hrB : allB 256 r = true) (i : Nat) : aV r s (i + 1) = (aV r s i + blV s (16 * i)) * leN r % 1361129467683753853853498429727072845819 := by
  have h := aV_lt hs hr hrB i
  have hm := miN_val (s := s) (r := r) (v := aV r s i) (l := 16 * i) (by omega) hs hr hrB
  rw [aV, canP_eq hm.2, hm.1]

def Td : LSem := ⟨[5, 7, 8, 1], [7], fun args hin => match args, hin with
  | [.s (.sl .whole 0 0 16 1), .s (.sl .whole 1 0 40 1), .s (.nat .i64 0), .s (.str s)], [[.ints .i64 16 r], [.ints .i64 40 a]] =>
    some (Tr.needs [decide (a = zs40), allB 256 r, decide (r.length = 16), allB 256 s, decide (s.length < 4611686018427387904)]
      (.br (decide (s.length = 0)) (.leaf (.normal, [slw 1], [some [.ints .i64 16 r], some [.ints .i64 40 a]]))
       (.leaf (.normal, [slw 2], [some [.ints .i64 16 r], some [.ints .i64 40 (addB s zs40 0)], some [.ints .i64 40 (digs 40 (aV r s (nBl s)))]]))))
  | _, _ => none⟩

set_option maxRecDepth 100000 in
theorem rTd0 (a r s : List Nat) (l : Nat) : runR Try.prog [(39, F39)] [] .nat 7 [(4, Ta), (6, Tc)] Try.f26 2 Td 2 [.s (.sl .whole 0 0 16 1), .s (.sl .whole 1 0 40 1), .s (.nat .i64 l), .s (.str s)] [some [.ints .i64 16 r], some [.ints .i64 40 a]] =
(nd [decide (s.length < 9223372036854775808)]
 (cond (decide (l < s.length))
 (nd [decide (a.length = 40), allB 36028797018963968 a, allB 256 s, decide (l ≤ s.length), decide (s.length < 4611686018427387904), decide (lenAt s l < 40), decide ((lenAt s l) < 40), decide ((adN s a l (lenAt s l)).getD (lenAt s l) 0 + 1 < 9223372036854775808), decide (lenAt s l < 40), decide ((lenAt s l) < 40), decide (zs40 = zs40), allB 65536 (addB s a l), allB 256 r, allB 36028797018963968 (miN (addB s a l) r zs40 18), decide (leN (miN (addB s a l) r zs40 18) < 256 ^ 40)]
 (cond (decide (1361129467683753853853498429727072845819 ≤ red (leN (miN (addB s a l) r zs40 18))))
 (nd [decide (l + 16 < 9223372036854775808)]
 (some (Ex.normal, [AV.s (SV.sl LK.whole 0 0 16 1), AV.s (SV.sl LK.whole (2) 0 40 1), AV.s (SV.nat IntKind.i64 (l + 16)), AV.s (SV.str s)], [some [Ch.ints IntKind.i64 16 r], some [Ch.ints IntKind.i64 40 (addB s a l)], some [Ch.ints IntKind.i64 40 (digs 40 (canP (leN (miN (addB s a l) r zs40 18))))]])))
 (nd [decide (l + 16 < 9223372036854775808)]
 (some (Ex.normal, [AV.s (SV.sl LK.whole 0 0 16 1), AV.s (SV.sl LK.whole (2) 0 40 1), AV.s (SV.nat IntKind.i64 (l + 16)), AV.s (SV.str s)], [some [Ch.ints IntKind.i64 16 r], some [Ch.ints IntKind.i64 40 (addB s a l)], some [Ch.ints IntKind.i64 40 (digs 40 (canP (leN (miN (addB s a l) r zs40 18))))]])))))
 (some (Ex.exit 2, [AV.s (SV.sl LK.whole 1 0 40 1)], [some [Ch.ints IntKind.i64 16 r], some [Ch.ints IntKind.i64 40 a]])))) := by kernel_rfl

set_option maxRecDepth 100000 in
theorem rTd1 (a b r s : List Nat) (l : Nat) : runR Try.prog [(39, F39)] [] .nat 7 [(4, Ta), (6, Tc)] Try.f26 2 Td 2 [.s (.sl .whole 0 0 16 1), .s (.sl .whole 2 0 40 1), .s (.nat .i64 l), .s (.str s)] [some [.ints .i64 16 r], some [.ints .i64 40 a], some [.ints .i64 40 b]] =
(nd [decide (s.length < 9223372036854775808)]
 (cond (decide (l < s.length))
 (nd [decide (b.length = 40), allB 36028797018963968 b, allB 256 s, decide (l ≤ s.length), decide (s.length < 4611686018427387904), decide (lenAt s l < 40), decide ((lenAt s l) < 40), decide ((adN s b l (lenAt s l)).getD (lenAt s l) 0 + 1 < 9223372036854775808), decide (lenAt s l < 40), decide ((lenAt s l) < 40), decide (zs40 = zs40), allB 65536 (addB s b l), allB 256 r, allB 36028797018963968 (miN (addB s b l) r zs40 18), decide (leN (miN (addB s b l) r zs40 18) < 256 ^ 40)]
 (cond (decide (1361129467683753853853498429727072845819 ≤ red (leN (miN (addB s b l) r zs40 18))))
 (nd [decide (l + 16 < 9223372036854775808)]
 (some (Ex.normal, [AV.s (SV.sl LK.whole 0 0 16 1), AV.s (SV.sl LK.whole (2) 0 40 1), AV.s (SV.nat IntKind.i64 (l + 16)), AV.s (SV.str s)], [some [Ch.ints IntKind.i64 16 r], some [Ch.ints IntKind.i64 40 a], some [Ch.ints IntKind.i64 40 (digs 40 (canP (leN (miN (addB s b l) r zs40 18))))]])))
 (nd [decide (l + 16 < 9223372036854775808)]
 (some (Ex.normal, [AV.s (SV.sl LK.whole 0 0 16 1), AV.s (SV.sl LK.whole (2) 0 40 1), AV.s (SV.nat IntKind.i64 (l + 16)), AV.s (SV.str s)], [some [Ch.ints IntKind.i64 16 r], some [Ch.ints IntKind.i64 40 a], some [Ch.ints IntKind.i64 40 (digs 40 (canP (leN (miN (addB s b l) r zs40 18))))]])))))
 (some (Ex.exit 2, [AV.s (SV.sl LK.whole (2) 0 40 1)], [some [Ch.ints IntKind.i64 16 r], some [Ch.ints IntKind.i64 40 a], some [Ch.ints IntKind.i64 40 b]])))) := by kernel_rfl

theorem loopsTd : LoopsOk Try.prog ⟨Try.f26.ntmps, 7, [(4, Ta), (6, Tc)]⟩ (lb 2 Try.f26) := by
  refine loopsOk_of ?_
  have e : loopsIn [(4, Ta), (6, Tc)] (lb 2 Try.f26) = [(4, .loop (lb 4 Try.f26), Ta), (6, .loop (lb 6 Try.f26), Tc)] := by kernel_rfl
  simp only [e]
  intro x hx
  simp only [List.mem_cons, List.not_mem_nil, or_false] at hx
  rcases hx with rfl | rfl
  · exact lokTa
  · exact lokTc

theorem digs40_zero : digs 40 0 = zs40 := digs_zero 40

def Ad (r s : List Nat) : Nat → List AV × List (Option Blk)
  | 0 => ([.s (.sl .whole 0 0 16 1), slw 1, .s (.nat .i64 0), .s (.str s)], [some [.ints .i64 16 r], some [.ints .i64 40 zs40]])
  | i + 1 => ([.s (.sl .whole 0 0 16 1), slw 2, .s (.nat .i64 (16 * (i + 1))), .s (.str s)], [some [.ints .i64 16 r], some [.ints .i64 40 (addB s zs40 0)], some [.ints .i64 40 (digs 40 (aV r s (i + 1)))]])

theorem stepTd {r s : List Nat} (hs : allB 256 s = true) (hr : r.length = 16) (hrB : allB 256 r = true) (hl : s.length < 4611686018427387904) (i : Nat) (hi : i < nBl s) :
    runR Try.prog [(39, F39)] [] .nat 7 [(4, Ta), (6, Tc)] Try.f26 2 Td 2 (Ad r s i).1 (Ad r s i).2 = some (.normal, Ad r s (i + 1)) := by
  have hi' : 16 * i < s.length := by unfold nBl at hi; omega
  have hv := aV_lt hs hr hrB i
  obtain ⟨h1, h2, h3, h4, h5⟩ := addB_spec (s := s) (v := aV r s i) (l := 16 * i) (by omega) hs
  obtain ⟨g1, g2⟩ := miN_val (s := s) (r := r) (v := aV r s i) (l := 16 * i) (by omega) hs hr hrB
  have hB : allB 36028797018963968 (miN (addB s (digs 40 (aV r s i)) (16 * i)) r zs40 18) = true := allB_of fun j => by
    have := miN_get zs40_len (prod_le h1 hrB) (i := 18) (by omega) j
    rw [zs40_get] at this
    omega
  have hD : allB 36028797018963968 (digs 40 (aV r s i)) = true := allB_of fun j => by rw [digs_get]; split <;> omega
  have hL : lenAt s (16 * i) ≤ 16 := by unfold lenAt; omega
  cases i with
  | zero =>
    simp only [Ad, slw]
    have e0 : digs 40 (aV r s 0) = zs40 := digs40_zero
    rw [e0] at h1 h2 h3 h4 h5 g1 g2 hB hD
    rw [Nat.mul_zero] at h1 h5 g2 hB hL
    rw [rTd0]
    refine nd_of ?_ (cond_t (decide_eq_true (by omega)) (nd_of ?_ ?_))
    · simp only [List.mem_cons, List.not_mem_nil, or_false, forall_eq_or_imp, forall_eq, decide_eq_true_eq, true_and, and_true]; omega
    · simp only [List.mem_cons, List.not_mem_nil, or_false, forall_eq_or_imp, forall_eq, decide_eq_true_eq, true_and, and_true]
      exact ⟨zs40_len, hD, hs, by omega, hl, by omega, by omega, by omega, by omega, by omega, h1, hrB, hB, g2⟩
    · have e1 : aV r s (0 + 1) = canP (leN (miN (addB s zs40 0) r zs40 18)) := by rw [aV, e0]
      rw [e1]
      by_cases hp : 1361129467683753853853498429727072845819 ≤ red (leN (miN (addB s zs40 0) r zs40 18))
      · refine cond_t (decide_eq_true hp) (nd_of ?_ rfl)
        simp only [List.mem_cons, List.not_mem_nil, or_false, forall_eq_or_imp, forall_eq, decide_eq_true_eq, true_and, and_true]; omega
      · refine cond_f (decide_eq_false hp) (nd_of ?_ rfl)
        simp only [List.mem_cons, List.not_mem_nil, or_false, forall_eq_or_imp, forall_eq, decide_eq_true_eq, true_and, and_true]; omega
  | succ i =>
    simp only [Ad, slw]
    rw [rTd1]
    refine nd_of ?_ (cond_t (decide_eq_true hi') (nd_of ?_ ?_))
    · simp only [List.mem_cons, List.not_mem_nil, or_false, forall_eq_or_imp, forall_eq, decide_eq_true_eq, true_and, and_true]; omega
    · simp only [List.mem_cons, List.not_mem_nil, or_false, forall_eq_or_imp, forall_eq, decide_eq_true_eq, true_and, and_true]
      exact ⟨digs_len _ _, hD, hs, by omega, hl, by omega, by omega, by omega, by omega, by omega, h1, hrB, hB, g2⟩
    · rw [show aV r s (i + 1 + 1) = canP (leN (miN (addB s (digs 40 (aV r s (i + 1))) (16 * (i + 1))) r zs40 18)) from rfl, show 16 * (i + 1 + 1) = 16 * (i + 1) + 16 by omega]
      by_cases hp : 1361129467683753853853498429727072845819 ≤ red (leN (miN (addB s (digs 40 (aV r s (i + 1))) (16 * (i + 1))) r zs40 18))
      · refine cond_t (decide_eq_true hp) (nd_of ?_ rfl)
        simp only [List.mem_cons, List.not_mem_nil, or_false, forall_eq_or_imp, forall_eq, decide_eq_true_eq, true_and, and_true]; omega
      · refine cond_f (decide_eq_false hp) (nd_of ?_ rfl)
        simp only [List.mem_cons, List.not_mem_nil, or_false, forall_eq_or_imp, forall_eq, decide_eq_true_eq, true_and, and_true]; omega

theorem lokTd : LOk Try.prog Try.f26.ntmps (.block 2 (.loop (lb 2 Try.f26))) Td := by
  refine lokR (fs := [(39, F39)]) (xs := []) (m := .nat) (fuel := 7) (sums := [(4, Ta), (6, Tc)]) (.cons ok39 .nil) mixedP loopsTd ?_
  intro args hin t e vs hout h hg
  unfold Td at h
  simp only at h
  split at h
  · rename_i s r a
    simp only [Option.some.injEq] at h
    subst h
    obtain ⟨hc, hgt⟩ := Tr.needs_get hg
    clear hg
    have e1 : a = zs40 := of_decide_eq_true (hc _ (by simp))
    have e2 : allB 256 r = true := hc (allB 256 r) (by simp)
    have e3 : r.length = 16 := of_decide_eq_true (hc (decide (r.length = 16)) (by simp))
    have e4 : allB 256 s = true := hc (allB 256 s) (by simp)
    have e5 : s.length < 4611686018427387904 := of_decide_eq_true (hc (decide (s.length < 4611686018427387904)) (by simp))
    clear hc
    subst e1
    refine ⟨nBl s, Ad r s, .exit 2, rfl, fun i hi => stepTd e4 e3 e2 e5 i hi, ?_, ?_⟩
    · show _ = some (Ex.exit 2, vs, hout)
      simp only [Tr.get] at hgt
      by_cases hz : s.length = 0
      · rw [decide_eq_true hz] at hgt
        cases hgt
        have : nBl s = 0 := by unfold nBl; omega
        rw [this]
        simp only [Ad, slw, List.length_cons, List.length_nil]
        rw [rTd0]
        refine nd_of ?_ (cond_f (decide_eq_false (by omega)) rfl)
        simp only [List.mem_cons, List.not_mem_nil, or_false, forall_eq_or_imp, forall_eq, decide_eq_true_eq, true_and, and_true]; omega
      · rw [decide_eq_false hz] at hgt
        cases hgt
        obtain ⟨m, hm⟩ : ∃ m, nBl s = m + 1 := ⟨nBl s - 1, by unfold nBl; omega⟩
        have hm' : ¬ 16 * (m + 1) < s.length := by unfold nBl at hm; omega
        rw [hm]
        simp only [Ad, slw, List.length_cons, List.length_nil]
        rw [rTd1]
        refine nd_of ?_ (cond_f (decide_eq_false hm') rfl)
        simp only [List.mem_cons, List.not_mem_nil, or_false, forall_eq_or_imp, forall_eq, decide_eq_true_eq, true_and, and_true]; omega
    · simp only [Tr.get] at hgt
      cases hz : decide (s.length = 0) <;> rw [hz] at hgt <;> cases hgt <;> rfl
  · cases h

end Go.Proofs.Ytgebgjhjegadpaa

namespace Go.Proofs.Ytgebgjhjegadpaa
open Go

def rDig (key : List Nat) (i : Nat) : Nat := match Nat.beq (i % 4) 3 with
  | true => key.getD i 0 % 16
  | false => match Nat.blt 0 i && Nat.beq (i % 4) 0 with
    | true => key.getD i 0 - key.getD i 0 % 4
    | false => key.getD i 0

def rRow (key : List Nat) : Nat → Nat → List Nat
  | 0, _ => []
  | n + 1, i => rDig key i :: rRow key n (i + 1)

def go (a key : List Nat) : Nat → Nat
  | 0 => 0
  | i + 1 => (go a key i + (a.getD i 0 + key.getD (16 + i) 0)) / 256

def gt (a key : List Nat) (i : Nat) : Nat := (go a key i + (a.getD i 0 + key.getD (16 + i) 0)) % 256 % 256

def gcs (a key : List Nat) : Nat → Nat → List Bool
  | 0, _ => []
  | n + 1, i => decide (a.getD i 0 + key.getD (16 + i) 0 < 9223372036854775808) :: decide (go a key i + (a.getD i 0 + key.getD (16 + i) 0) < 9223372036854775808) :: gcs a key n (i + 1)

def gts (a key : List Nat) : Nat → Nat → List Nat
  | 0, _ => []
  | n + 1, i => gt a key i :: gts a key n (i + 1)

def tagR (key s : List Nat) : List Nat := gts (digs 40 (aV (rRow key 16 0) s (nBl s))) key 16 0

def F26 : FSem := ⟨false, fun args hin => match args, hin with
  | [.agg [.ints .u8 32 key], .s (.str s)], [] => some (Tr.needs [okKey key, allB 256 s, decide (s.length < 4611686018427387904)] (.leaf (.agg [.ints .u8 16 (tagR key s)], [])))
  | _, _ => none⟩

theorem fn26 : Fn Try.prog 26 Try.f26 := ⟨mixedP, Try.func26, by kernel_rfl, of_decide_eq_true (by kernel_rfl)⟩

theorem loops26 : LoopsOk Try.prog ⟨Try.f26.ntmps, 17, [(2, Td)]⟩ (bodyOf Try.f26) := by
  refine loopsOk_of ?_
  have e : loopsIn [(2, Td)] (bodyOf Try.f26) = [(2, .loop (lb 2 Try.f26), Td)] := by kernel_rfl
  simp only [e]
  intro x hx
  simp only [List.mem_cons, List.not_mem_nil, or_false] at hx
  subst hx
  exact lokTd

set_option maxRecDepth 100000 in
theorem r26 (key s : List Nat) : runL Try.prog [(39, F39)] [] .nat 17 [(2, Td)] Try.f26 [.agg [.ints .u8 32 key], .s (.str s)] [] =
    nd [decide (key.getD 4 0 % 4 ≤ key.getD 4 0), decide (key.getD 8 0 % 4 ≤ key.getD 8 0), decide (key.getD 12 0 % 4 ≤ key.getD 12 0), decide (zs40 = zs40), allB 256 (rRow key 16 0), decide ((rRow key 16 0).length = 16), allB 256 s, decide (s.length < 4611686018427387904)]
      (cond (decide (s.length = 0)) (nd (gcs zs40 key 16 0) (some (.agg [.ints .u8 16 (gts zs40 key 16 0)], [])))
        (nd (gcs (digs 40 (aV (rRow key 16 0) s (nBl s))) key 16 0) (some (.agg [.ints .u8 16 (gts (digs 40 (aV (rRow key 16 0) s (nBl s))) key 16 0)], [])))) := by kernel_rfl

theorem go_lt {a key : List Nat} (ha : ∀ i, a.getD i 0 < 256) (h : okKey key = true) : ∀ i, go a key i < 256
  | 0 => by simp [go]
  | i + 1 => by
    have h1 := go_lt ha h i
    have h2 := key_lt h (16 + i)
    have h3 := ha i
    unfold go
    omega

theorem gcs_ok {a key : List Nat} (ha : ∀ i, a.getD i 0 < 256) (h : okKey key = true) : ∀ n i, ∀ c ∈ gcs a key n i, c = true
  | 0, i, c, hc => by cases hc
  | n + 1, i, c, hc => by
    have h1 := go_lt ha h i
    have h2 := key_lt h (16 + i)
    have h3 := ha i
    simp only [gcs, List.mem_cons] at hc
    rcases hc with rfl | rfl | hc
    · exact decide_eq_true (by omega)
    · exact decide_eq_true (by omega)
    · exact gcs_ok ha h n (i + 1) c hc

theorem rDig_lt {key : List Nat} (h : okKey key = true) (i : Nat) : rDig key i < 256 := by
  have := key_lt h i
  unfold rDig
  split
  · omega
  · split <;> omega

theorem rRow_lt {key : List Nat} (h : okKey key = true) : ∀ n i, ∀ x ∈ rRow key n i, x < 256
  | 0, i, x, hx => by cases hx
  | n + 1, i, x, hx => by
    simp only [rRow, List.mem_cons] at hx
    rcases hx with rfl | hx
    · exact rDig_lt h i
    · exact rRow_lt h n (i + 1) x hx

theorem rRow_all {key : List Nat} (h : okKey key = true) : allB 256 (rRow key 16 0) = true :=
  List.all_eq_true.2 fun x hx => decide_eq_true (rRow_lt h 16 0 x hx)

theorem ok26 : FOk Try.prog 26 F26 := by
  refine fokL (fs := [(39, F39)]) (xs := []) (m := .nat) (fuel := 17) (sums := [(2, Td)]) (.cons ok39 .nil) fn26 loops26 ?_
  intro args hin t r h hg
  unfold F26 at h
  simp only at h
  split at h
  · rename_i key s
    cases h
    obtain ⟨hc, hgt⟩ := Tr.needs_get hg
    cases hgt
    have h1 : okKey key = true := hc (okKey key) (by simp)
    have h2 : allB 256 s = true := hc (allB 256 s) (by simp)
    have h3 : s.length < 4611686018427387904 := of_decide_eq_true (hc (decide (s.length < 4611686018427387904)) (by simp))
    rw [r26]
    refine nd_of ?_ ?_
    · simp only [List.mem_cons, List.not_mem_nil, or_false, forall_eq_or_imp, forall_eq, decide_eq_true_eq, true_and, and_true]
      exact ⟨Nat.mod_le _ _, Nat.mod_le _ _, Nat.mod_le _ _, rRow_all h1, rfl, h2, h3⟩
    · by_cases hz : s.length = 0
      · refine cond_t (decide_eq_true hz) (nd_of (gcs_ok (fun i => by rw [zs40_get]; omega) h1 16 0) ?_)
        have : nBl s = 0 := by unfold nBl; omega
        unfold tagR
        rw [this, aV, digs40_zero]
      · refine cond_f (decide_eq_false hz) (nd_of (gcs_ok (fun i => by rw [digs_get]; split <;> omega) h1 16 0) rfl)
  · cases h

end Go.Proofs.Ytgebgjhjegadpaa

namespace Go.Proofs.Ytgebgjhjegadpaa
open Go

def parts (V : Nat) : List Nat := [V % 67108864, V / 67108864 % 67108864, V / 4503599627370496 % 67108864, V / 302231454903657293676544 % 67108864, V / 20282409603651670423947251286016]

theorem numS0 (l0 l1 l2 l3 l4 v : Nat) : numStep [l0, l1, l2, l3, l4] 0 v = [(l0 ||| (v * 2 ^ 0 % 18446744073709551616 &&& 67108863)), l1, l2, l3, l4] := rfl
theorem numS1 (l0 l1 l2 l3 l4 v : Nat) : numStep [l0, l1, l2, l3, l4] 1 v = [(l0 ||| (v * 2 ^ 8 % 18446744073709551616 &&& 67108863)), l1, l2, l3, l4] := rfl
theorem numS2 (l0 l1 l2 l3 l4 v : Nat) : numStep [l0, l1, l2, l3, l4] 2 v = [(l0 ||| (v * 2 ^ 16 % 18446744073709551616 &&& 67108863)), l1, l2, l3, l4] := rfl
theorem numS3 (l0 l1 l2 l3 l4 v : Nat) : numStep [l0, l1, l2, l3, l4] 3 v = [(l0 ||| (v * 2 ^ 24 % 18446744073709551616 &&& 67108863)), (l1 ||| v / 2 ^ 2), l2, l3, l4] := rfl
theorem numS4 (l0 l1 l2 l3 l4 v : Nat) : numStep [l0, l1, l2, l3, l4] 4 v = [l0, (l1 ||| (v * 2 ^ 6 % 18446744073709551616 &&& 67108863)), l2, l3, l4] := rfl
theorem numS5 (l0 l1 l2 l3 l4 v : Nat) : numStep [l0, l1, l2, l3, l4] 5 v = [l0, (l1 ||| (v * 2 ^ 14 % 18446744073709551616 &&& 67108863)), l2, l3, l4] := rfl
theorem numS6 (l0 l1 l2 l3 l4 v : Nat) : numStep [l0, l1, l2, l3, l4] 6 v = [l0, (l1 ||| (v * 2 ^ 22 % 18446744073709551616 &&& 67108863)), (l2 ||| v / 2 ^ 4), l3, l4] := rfl
theorem numS7 (l0 l1 l2 l3 l4 v : Nat) : numStep [l0, l1, l2, l3, l4] 7 v = [l0, l1, (l2 ||| (v * 2 ^ 4 % 18446744073709551616 &&& 67108863)), l3, l4] := rfl
theorem numS8 (l0 l1 l2 l3 l4 v : Nat) : numStep [l0, l1, l2, l3, l4] 8 v = [l0, l1, (l2 ||| (v * 2 ^ 12 % 18446744073709551616 &&& 67108863)), l3, l4] := rfl
theorem numS9 (l0 l1 l2 l3 l4 v : Nat) : numStep [l0, l1, l2, l3, l4] 9 v = [l0, l1, (l2 ||| (v * 2 ^ 20 % 18446744073709551616 &&& 67108863)), (l3 ||| v / 2 ^ 6), l4] := rfl
theorem numS10 (l0 l1 l2 l3 l4 v : Nat) : numStep [l0, l1, l2, l3, l4] 10 v = [l0, l1, l2, (l3 ||| (v * 2 ^ 2 % 18446744073709551616 &&& 67108863)), l4] := rfl
theorem numS11 (l0 l1 l2 l3 l4 v : Nat) : numStep [l0, l1, l2, l3, l4] 11 v = [l0, l1, l2, (l3 ||| (v * 2 ^ 10 % 18446744073709551616 &&& 67108863)), l4] := rfl
theorem numS12 (l0 l1 l2 l3 l4 v : Nat) : numStep [l0, l1, l2, l3, l4] 12 v = [l0, l1, l2, (l3 ||| (v * 2 ^ 18 % 18446744073709551616 &&& 67108863)), l4] := rfl
theorem numS13 (l0 l1 l2 l3 l4 v : Nat) : numStep [l0, l1, l2, l3, l4] 13 v = [l0, l1, l2, l3, (l4 ||| (v * 2 ^ 0 % 18446744073709551616 &&& 67108863))] := rfl
theorem numS14 (l0 l1 l2 l3 l4 v : Nat) : numStep [l0, l1, l2, l3, l4] 14 v = [l0, l1, l2, l3, (l4 ||| (v * 2 ^ 8 % 18446744073709551616 &&& 67108863))] := rfl
theorem numS15 (l0 l1 l2 l3 l4 v : Nat) : numStep [l0, l1, l2, l3, l4] 15 v = [l0, l1, l2, l3, (l4 ||| (v * 2 ^ 16 % 18446744073709551616 &&& 67108863))] := rfl
theorem numS16 (l0 l1 l2 l3 l4 v : Nat) : numStep [l0, l1, l2, l3, l4] 16 v = [l0, l1, l2, l3, (l4 ||| (v * 2 ^ 24 % 18446744073709551616 &&& 67108863))] := rfl

theorem or1 {a v s : Nat} (ha : a < 2 ^ s) (hs : s ≤ 26) (hv : v < 256) : a ||| (v * 2 ^ s % 18446744073709551616 &&& 67108863) = a + v * 2 ^ s % 67108864 := by
  have h1 : v * 2 ^ s < 18446744073709551616 := by
    have : 2 ^ s ≤ 2 ^ 26 := Nat.pow_le_pow_right (by omega) hs
    have : v * 2 ^ s ≤ 256 * 2 ^ 26 := Nat.mul_le_mul (by omega) this
    omega
  have h2 : v * 2 ^ s % 67108864 = 2 ^ s * (v % 2 ^ (26 - s)) := by
    rw [show (67108864 : Nat) = 2 ^ s * 2 ^ (26 - s) by rw [← Nat.pow_add, show s + (26 - s) = 26 by omega], Nat.mul_comm v, Nat.mul_mod_mul_left]
  rw [Nat.mod_eq_of_lt h1, and26, h2, Nat.or_comm, ← Nat.two_pow_add_eq_or_of_lt ha, Nat.add_comm]

theorem list5 {a b c d e a' b' c' d' e' : Nat} (h0 : a = a') (h1 : b = b') (h2 : c = c') (h3 : d = d') (h4 : e = e') : [a, b, c, d, e] = [a', b', c', d', e'] := by
  rw [h0, h1, h2, h3, h4]

theorem numStep_val {V v j : Nat} (hj : j < 17) (hV : V < 256 ^ j) (hv : v < 256) (h16 : j = 16 → v < 4) : numStep (parts V) j v = parts (V + v * 256 ^ j) := by
  have : j = 0 ∨ j = 1 ∨ j = 2 ∨ j = 3 ∨ j = 4 ∨ j = 5 ∨ j = 6 ∨ j = 7 ∨ j = 8 ∨ j = 9 ∨ j = 10 ∨ j = 11 ∨ j = 12 ∨ j = 13 ∨ j = 14 ∨ j = 15 ∨ j = 16 := by omega
  unfold parts
  rcases this with rfl | rfl | rfl | rfl | rfl | rfl | rfl | rfl | rfl | rfl | rfl | rfl | rfl | rfl | rfl | rfl | rfl
  · rw [show (256 : Nat) ^ 0 = 1 from rfl] at *
    rw [numS0, or1 (a := V % 67108864) (s := 0) (by omega) (by omega) hv]
    simp only [Nat.reducePow]
    refine list5 ?_ ?_ ?_ ?_ ?_ <;> omega
  · rw [show (256 : Nat) ^ 1 = 256 from rfl] at *
    rw [numS1, or1 (a := V % 67108864) (s := 8) (by omega) (by omega) hv]
    simp only [Nat.reducePow]
    refine list5 ?_ ?_ ?_ ?_ ?_ <;> omega
  · rw [show (256 : Nat) ^ 2 = 65536 from rfl] at *
    rw [numS2, or1 (a := V % 67108864) (s := 16) (by omega) (by omega) hv]
    simp only [Nat.reducePow]
    refine list5 ?_ ?_ ?_ ?_ ?_ <;> omega
  · rw [show (256 : Nat) ^ 3 = 16777216 from rfl] at *
    rw [numS3, or1 (a := V % 67108864) (s := 24) (by omega) (by omega) hv]
    rw [show V / 67108864 % 67108864 = 0 by omega, Nat.zero_or]
    simp only [Nat.reducePow]
    refine list5 ?_ ?_ ?_ ?_ ?_ <;> omega
  · rw [show (256 : Nat) ^ 4 = 4294967296 from rfl] at *
    rw [numS4, or1 (a := V / 67108864 % 67108864) (s := 6) (by omega) (by omega) hv]
    simp only [Nat.reducePow]
    refine list5 ?_ ?_ ?_ ?_ ?_ <;> omega
  · rw [show (256 : Nat) ^ 5 = 1099511627776 from rfl] at *
    rw [numS5, or1 (a := V / 67108864 % 67108864) (s := 14) (by omega) (by omega) hv]
    simp only [Nat.reducePow]
    refine list5 ?_ ?_ ?_ ?_ ?_ <;> omega
  · rw [show (256 : Nat) ^ 6 = 281474976710656 from rfl] at *
    rw [numS6, or1 (a := V / 67108864 % 67108864) (s := 22) (by omega) (by omega) hv]
    rw [show V / 4503599627370496 % 67108864 = 0 by omega, Nat.zero_or]
    simp only [Nat.reducePow]
    refine list5 ?_ ?_ ?_ ?_ ?_ <;> omega
  · rw [show (256 : Nat) ^ 7 = 72057594037927936 from rfl] at *
    rw [numS7, or1 (a := V / 4503599627370496 % 67108864) (s := 4) (by omega) (by omega) hv]
    simp only [Nat.reducePow]
    refine list5 ?_ ?_ ?_ ?_ ?_ <;> omega
  · rw [show (256 : Nat) ^ 8 = 18446744073709551616 from rfl] at *
    rw [numS8, or1 (a := V / 4503599627370496 % 67108864) (s := 12) (by omega) (by omega) hv]
    simp only [Nat.reducePow]
    refine list5 ?_ ?_ ?_ ?_ ?_ <;> omega
  · rw [show (256 : Nat) ^ 9 = 4722366482869645213696 from rfl] at *
    rw [numS9, or1 (a := V / 4503599627370496 % 67108864) (s := 20) (by omega) (by omega) hv]
    rw [show V / 302231454903657293676544 % 67108864 = 0 by omega, Nat.zero_or]
    simp only [Nat.reducePow]
    refine list5 ?_ ?_ ?_ ?_ ?_ <;> omega
  · rw [show (256 : Nat) ^ 10 = 1208925819614629174706176 from rfl] at *
    rw [numS10, or1 (a := V / 302231454903657293676544 % 67108864) (s := 2) (by omega) (by omega) hv]
    simp only [Nat.reducePow]
    refine list5 ?_ ?_ ?_ ?_ ?_ <;> omega
  · rw [show (256 : Nat) ^ 11 = 309485009821345068724781056 from rfl] at *
    rw [numS11, or1 (a := V / 302231454903657293676544 % 67108864) (s := 10) (by omega) (by omega) hv]
    simp only [Nat.reducePow]
    refine list5 ?_ ?_ ?_ ?_ ?_ <;> omega
  · rw [show (256 : Nat) ^ 12 = 79228162514264337593543950336 from rfl] at *
    rw [numS12, or1 (a := V / 302231454903657293676544 % 67108864) (s := 18) (by omega) (by omega) hv]
    simp only [Nat.reducePow]
    refine list5 ?_ ?_ ?_ ?_ ?_ <;> omega
  · rw [show (256 : Nat) ^ 13 = 20282409603651670423947251286016 from rfl] at *
    rw [numS13, or1 (a := V / 20282409603651670423947251286016) (s := 0) (by omega) (by omega) hv]
    simp only [Nat.reducePow]
    refine list5 ?_ ?_ ?_ ?_ ?_ <;> omega
  · rw [show (256 : Nat) ^ 14 = 5192296858534827628530496329220096 from rfl] at *
    rw [numS14, or1 (a := V / 20282409603651670423947251286016) (s := 8) (by omega) (by omega) hv]
    simp only [Nat.reducePow]
    refine list5 ?_ ?_ ?_ ?_ ?_ <;> omega
  · rw [show (256 : Nat) ^ 15 = 1329227995784915872903807060280344576 from rfl] at *
    rw [numS15, or1 (a := V / 20282409603651670423947251286016) (s := 16) (by omega) (by omega) hv]
    simp only [Nat.reducePow]
    refine list5 ?_ ?_ ?_ ?_ ?_ <;> omega
  · rw [show (256 : Nat) ^ 16 = 340282366920938463463374607431768211456 from rfl] at *
    rw [numS16, or1 (a := V / 20282409603651670423947251286016) (s := 24) (by omega) (by omega) hv]
    have := h16 rfl
    simp only [Nat.reducePow]
    refine list5 ?_ ?_ ?_ ?_ ?_ <;> omega

theorem numN_val {xs : List Nat} (hx : ∀ i, xs.getD i 0 < 256) (h16 : xs.getD 16 0 < 4) : ∀ {j : Nat}, j ≤ 17 → numN xs j = parts (sumW (fun i => xs.getD i 0) j)
  | 0, _ => by simp [numN, sumW, parts]
  | j + 1, h => by
    rw [numN, numN_val hx h16 (by omega), numStep_val (by omega) (sumW_lt hx j) (hx j) (fun e => e ▸ h16), sumW]

theorem parts_v5 (V : Nat) : v5 (parts V) = V := by
  unfold parts
  rw [v5_mk]
  omega

theorem parts_lim {V : Nat} (h : V < 1361129467683753853853498429727072845824) : lim5 67108864 (parts V) :=
  lim5_mk (by omega) (by omega) (by omega) (by omega) (by omega)

theorem numb_val {xs : List Nat} (hx : ∀ i, xs.getD i 0 < 256) (h16 : xs.getD 16 0 < 4) (hl : xs.length ≤ 17) : v5 (numb xs) = leN xs ∧ lim5 67108864 (numb xs) := by
  have e : numb xs = parts (leN xs) := by rw [numb, numN_val hx h16 hl, ← leN_sumW]
  rw [e]
  refine ⟨parts_v5 _, parts_lim ?_⟩
  rw [leN_sumW]
  by_cases h : xs.length ≤ 16
  · exact Nat.lt_of_lt_of_le (sumW_lt hx _) (Nat.le_trans (Nat.pow_le_pow_right (by omega) h) (by decide))
  · rw [show xs.length = 16 + 1 by omega, sumW]
    have h1 := sumW_lt hx 16
    have h2 : xs.getD 16 0 * 256 ^ 16 ≤ 3 * 256 ^ 16 := Nat.mul_le_mul_right _ (by omega)
    rw [show (256 : Nat) ^ 16 = 340282366920938463463374607431768211456 from rfl] at *
    omega

end Go.Proofs.Ytgebgjhjegadpaa

namespace Go.Proofs.Ytgebgjhjegadpaa
open Go

theorem or2 {a b s : Nat} (ha : a < 2 ^ s) (hb : b * 2 ^ s < 18446744073709551616) : a ||| b * 2 ^ s % 18446744073709551616 = a + b * 2 ^ s := by
  rw [Nat.mod_eq_of_lt hb, Nat.or_comm, Nat.mul_comm b, ← Nat.two_pow_add_eq_or_of_lt ha, Nat.add_comm]

theorem fx_val {y : List Nat} (hy : lim5 67108864 y) {i : Nat} (hi : i < 16) : fx y i % 256 = v5 y / 256 ^ i % 256 := by
  obtain ⟨a, b, c, d, e, rfl⟩ := five hy.1
  have h0 : a < _ := hy.2 0
  have h1 : b < _ := hy.2 1
  have h2 : c < _ := hy.2 2
  have h3 : d < _ := hy.2 3
  have h4 : e < _ := hy.2 4
  rw [v5_mk]
  have : i = 0 ∨ i = 1 ∨ i = 2 ∨ i = 3 ∨ i = 4 ∨ i = 5 ∨ i = 6 ∨ i = 7 ∨ i = 8 ∨ i = 9 ∨ i = 10 ∨ i = 11 ∨ i = 12 ∨ i = 13 ∨ i = 14 ∨ i = 15 := by omega
  rcases this with rfl | rfl | rfl | rfl | rfl | rfl | rfl | rfl | rfl | rfl | rfl | rfl | rfl | rfl | rfl | rfl
  · rw [show fx [a, b, c, d, e] 0 = a / 2 ^ 0 from rfl]
    simp only [Nat.reducePow]
    omega
  · rw [show fx [a, b, c, d, e] 1 = a / 2 ^ 8 from rfl]
    simp only [Nat.reducePow]
    omega
  · rw [show fx [a, b, c, d, e] 2 = a / 2 ^ 16 from rfl]
    simp only [Nat.reducePow]
    omega
  · rw [show fx [a, b, c, d, e] 3 = a / 2 ^ 24 ||| b * 2 ^ 2 % 18446744073709551616 from rfl, or2 (a := a / 2 ^ 24) (b := b) (s := 2) (by omega) (by omega)]
    simp only [Nat.reducePow]
    omega
  · rw [show fx [a, b, c, d, e] 4 = b / 2 ^ 6 from rfl]
    simp only [Nat.reducePow]
    omega
  · rw [show fx [a, b, c, d, e] 5 = b / 2 ^ 14 from rfl]
    simp only [Nat.reducePow]
    omega
  · rw [show fx [a, b, c, d, e] 6 = b / 2 ^ 22 ||| c * 2 ^ 4 % 18446744073709551616 from rfl, or2 (a := b / 2 ^ 22) (b := c) (s := 4) (by omega) (by omega)]
    simp only [Nat.reducePow]
    omega
  · rw [show fx [a, b, c, d, e] 7 = c / 2 ^ 4 from rfl]
    simp only [Nat.reducePow]
    omega
  · rw [show fx [a, b, c, d, e] 8 = c / 2 ^ 12 from rfl]
    simp only [Nat.reducePow]
    omega
  · rw [show fx [a, b, c, d, e] 9 = c / 2 ^ 20 ||| d * 2 ^ 6 % 18446744073709551616 from rfl, or2 (a := c / 2 ^ 20) (b := d) (s := 6) (by omega) (by omega)]
    simp only [Nat.reducePow]
    omega
  · rw [show fx [a, b, c, d, e] 10 = d / 2 ^ 2 from rfl]
    simp only [Nat.reducePow]
    omega
  · rw [show fx [a, b, c, d, e] 11 = d / 2 ^ 10 from rfl]
    simp only [Nat.reducePow]
    omega
  · rw [show fx [a, b, c, d, e] 12 = d / 2 ^ 18 from rfl]
    simp only [Nat.reducePow]
    omega
  · rw [show fx [a, b, c, d, e] 13 = e / 2 ^ 0 from rfl]
    simp only [Nat.reducePow]
    omega
  · rw [show fx [a, b, c, d, e] 14 = e / 2 ^ 8 from rfl]
    simp only [Nat.reducePow]
    omega
  · rw [show fx [a, b, c, d, e] 15 = e / 2 ^ 16 from rfl]
    simp only [Nat.reducePow]
    omega

theorem fin_two {x : List Nat} (h : lim5 67108870 x) : ∃ k, lim5 67108864 (carr (carr x)) ∧ v5 x = v5 (carr (carr x)) + k * P130 := by
  obtain ⟨a, b, c, d, e, rfl⟩ := five h.1
  have h0 : a < _ := h.2 0
  have h1 : b < _ := h.2 1
  have h2 : c < _ := h.2 2
  have h3 : d < _ := h.2 3
  have h4 : e < _ := h.2 4
  obtain ⟨c0, c1, c2, c3, c4, e0, e1, e2, e3, e4, hc⟩ := carr_mk (a := a) (b := b) (c := c) (d := d) (e := e) (by omega) (by omega) (by omega) (by omega) (by omega)
  have q0 : c0 ≤ 1 := by omega
  have q1 : c1 ≤ 1 := by omega
  have q2 : c2 ≤ 1 := by omega
  have q3 : c3 ≤ 1 := by omega
  have q4 : c4 ≤ 1 := by omega
  obtain ⟨d0, d1, d2, d3, d4, f0, f1, f2, f3, f4, hd⟩ := carr_mk (a := a % 67108864 + 5 * c4) (b := (b + c0) % 67108864) (c := (c + c1) % 67108864) (d := (d + c2) % 67108864) (e := (e + c3) % 67108864) (by omega) (by omega) (by omega) (by omega) (by omega)
  rw [hc, hd]
  refine ⟨c4 + d4, lim5_mk ?_ (Nat.mod_lt _ (by omega)) (Nat.mod_lt _ (by omega)) (Nat.mod_lt _ (by omega)) (Nat.mod_lt _ (by omega)), ?_⟩
  · have : (a % 67108864 + 5 * c4) < 67108864 + 5 := by omega
    have : d4 = 0 ∨ d0 = 1 := by omega
    rcases this with h | h <;> omega
  · rw [v5_mk, v5_mk]
    show _ = _ + (c4 + d4) * 1361129467683753853853498429727072845819
    omega

theorem least_val {x : List Nat} (h : lim5 67108864 x) : lim5 67108864 (least x) ∧ v5 (least x) = v5 x % P130 := by
  obtain ⟨a, b, c, d, e, rfl⟩ := five h.1
  have h0 : a < _ := h.2 0
  have h1 : b < _ := h.2 1
  have h2 : c < _ := h.2 2
  have h3 : d < _ := h.2 3
  have h4 : e < _ := h.2 4
  have ho : ∃ q, over5 a b c d e = q ∧ q = (v5 [a, b, c, d, e] + 5) / 1361129467683753853853498429727072845824 := by
    refine ⟨_, rfl, ?_⟩
    unfold over5 ct
    rw [v5_mk]
    simp only [Nat.reducePow]
    rw [Nat.mod_eq_of_lt (a := a + 5) (by omega)]
    generalize hq0 : (a + 5) / 67108864 = q0
    rw [Nat.mod_eq_of_lt (a := b + q0) (by omega)]
    generalize hq1 : (b + q0) / 67108864 = q1
    rw [Nat.mod_eq_of_lt (a := c + q1) (by omega)]
    generalize hq2 : (c + q1) / 67108864 = q2
    rw [Nat.mod_eq_of_lt (a := d + q2) (by omega)]
    generalize hq3 : (d + q2) / 67108864 = q3
    rw [Nat.mod_eq_of_lt (a := e + q3) (by omega)]
    omega
  obtain ⟨q, hq, hq2⟩ := ho
  rw [v5_mk] at hq2
  have hq1 : q ≤ 1 := by omega
  have e1 : least [a, b, c, d, e] = least5 a b c d e := rfl
  rw [e1]
  unfold least5 carrL ct
  simp only [and26, Nat.reducePow, hq]
  rw [Nat.mod_eq_of_lt (a := 5 * q) (by omega), Nat.mod_eq_of_lt (a := a + 5 * q) (by omega), Nat.add_zero, Nat.mod_eq_of_lt (a := a + 5 * q) (by omega)]
  generalize hc0 : (a + 5 * q) / 67108864 = c0
  rw [Nat.mod_eq_of_lt (a := b + c0) (by omega)]
  generalize hc1 : (b + c0) / 67108864 = c1
  rw [Nat.mod_eq_of_lt (a := c + c1) (by omega)]
  generalize hc2 : (c + c1) / 67108864 = c2
  rw [Nat.mod_eq_of_lt (a := d + c2) (by omega)]
  generalize hc3 : (d + c2) / 67108864 = c3
  rw [Nat.mod_eq_of_lt (a := e + c3) (by omega)]
  refine ⟨lim5_mk (Nat.mod_lt _ (by omega)) (Nat.mod_lt _ (by omega)) (Nat.mod_lt _ (by omega)) (Nat.mod_lt _ (by omega)) (Nat.mod_lt _ (by omega)), ?_⟩
  rw [v5_mk, v5_mk]
  show _ = _ % 1361129467683753853853498429727072845819
  generalize hc4 : (e + c3) / 67108864 = c4
  generalize hW : (a + 5 * q) % 67108864 + 67108864 * ((b + c0) % 67108864) + 4503599627370496 * ((c + c1) % 67108864) + 302231454903657293676544 * ((d + c2) % 67108864) + 20282409603651670423947251286016 * ((e + c3) % 67108864) = W
  generalize hV : a + 67108864 * b + 4503599627370496 * c + 302231454903657293676544 * d + 20282409603651670423947251286016 * e = V at *
  have k1 : W + 1361129467683753853853498429727072845824 * c4 = V + 5 * q := by omega
  have k2 : W < 1361129467683753853853498429727072845824 := by omega
  have k3 : V < 1361129467683753853853498429727072845824 := by omega
  clear hW hV hc0 hc1 hc2 hc3 hc4 hq e1 h h0 h1 h2 h3 h4
  rcases (by omega : q = 0 ∨ q = 1) with rfl | rfl
  · have : c4 = 0 := by omega
    subst this
    rw [Nat.mod_eq_of_lt (by omega)]
    omega
  · have : c4 = 1 := by omega
    subst this
    omega

/-! The two sums, from equal bytes. -/
theorem fo_go {y k' a key : List Nat} (h : ∀ i, i < 16 → fx y i % 256 = a.getD i 0) (hk : ∀ i, k'.getD (16 + i) 0 = key.getD (16 + i) 0) : ∀ {i : Nat}, i ≤ 16 → fo y k' i = go a key i
  | 0, _ => rfl
  | i + 1, hi => by rw [fo, go, fo_go h hk (by omega), h i (by omega), hk i]

theorem fts_gts {y k' a key : List Nat} (h : ∀ i, i < 16 → fx y i % 256 = a.getD i 0) (hk : ∀ i, k'.getD (16 + i) 0 = key.getD (16 + i) 0) : ∀ {n i : Nat}, i + n ≤ 16 → fts y k' n i = gts a key n i
  | 0, _, _ => rfl
  | n + 1, i, hi => by
    rw [fts, gts, fts_gts h hk (by omega), ft, gt, fo_go h hk (by omega), h i (by omega), hk i, Nat.mod_mod]

/-! One block more. -/
theorem addL_val {a x : List Nat} (ha : lim5 67108870 a) (hx : lim5 67108864 x) : lim5 268435456 (addL a x) ∧ v5 (addL a x) = v5 a + v5 x := by
  obtain ⟨a0, a1, a2, a3, a4, rfl⟩ := five ha.1
  obtain ⟨x0, x1, x2, x3, x4, rfl⟩ := five hx.1
  have h0 : a0 < _ := ha.2 0
  have h1 : a1 < _ := ha.2 1
  have h2 : a2 < _ := ha.2 2
  have h3 : a3 < _ := ha.2 3
  have h4 : a4 < _ := ha.2 4
  have g0 : x0 < _ := hx.2 0
  have g1 : x1 < _ := hx.2 1
  have g2 : x2 < _ := hx.2 2
  have g3 : x3 < _ := hx.2 3
  have g4 : x4 < _ := hx.2 4
  have e : addL [a0, a1, a2, a3, a4] [x0, x1, x2, x3, x4] = [a0 + x0, a1 + x1, a2 + x2, a3 + x3, a4 + x4] := by
    show [ct a0 x0, ct a1 x1, ct a2 x2, ct a3 x3, ct a4 x4] = _
    unfold ct
    refine list5 ?_ ?_ ?_ ?_ ?_ <;> exact Nat.mod_eq_of_lt (by omega)
  rw [e]
  refine ⟨lim5_mk (by omega) (by omega) (by omega) (by omega) (by omega), ?_⟩
  rw [v5_mk, v5_mk, v5_mk]
  omega

theorem step_val {r a ys : List Nat} (ha : lim5 67108870 a) (hr : lim5 67108864 r) (hb : ∀ i, ys.getD i 0 < 256) (hl : ys.length ≤ 16) :
    lim5 67108870 (stepC r a ys) ∧ v5 (stepC r a ys) % P130 = (v5 a + leN (ys ++ [1])) * v5 r % P130 := by
  have hx : ∀ i, (ys ++ [1]).getD i 0 < 256 := fun i => by
    rw [List.getD, List.getElem?_append]
    split
    · have := hb i; rwa [List.getD] at this
    · cases i - ys.length with
      | zero => simp
      | succ n => simp
  have h16 : (ys ++ [1]).getD 16 0 < 4 := by
    rw [List.getD, List.getElem?_append, if_neg (by omega)]
    cases 16 - ys.length with
    | zero => simp
    | succ n => simp
  obtain ⟨n1, n2⟩ := numb_val hx h16 (by simp; omega)
  obtain ⟨b1, b2⟩ := addL_val ha n2
  obtain ⟨k, c1, c2⟩ := times_val b1 hr
  obtain ⟨k', d1, d2⟩ := carr_both c1
  refine ⟨d1, ?_⟩
  unfold stepC
  rw [← n1, ← b2, c2, d2, Nat.add_mul_mod_self_right, Nat.add_mul_mod_self_right]

end Go.Proofs.Ytgebgjhjegadpaa

namespace Go.Proofs.Ytgebgjhjegadpaa
open Go

theorem blk_val {s : List Nat} (l : Nat) : leN ((s.drop l).take 16 ++ [1]) = blV s l := by
  have hl : ((s.drop l).take 16).length = lenAt s l := by rw [lenAt, List.length_take, List.length_drop]
  rw [leN_append, leN_sumW, hl, blV]
  congr 1
  · refine sumW_congr fun j hj => ?_
    rw [← hl, List.length_take] at hj
    rw [List.getD, List.getElem?_take, if_pos (by omega), List.getElem?_drop]
    rfl
  · simp [leN]

theorem sub_lt {s : List Nat} (hs : allB 256 s = true) (l : Nat) (i : Nat) : ((s.drop l).take 16).getD i 0 < 256 := by
  rw [List.getD, List.getElem?_take]
  split
  · rw [List.getElem?_drop]; exact allB_get (by omega) hs (l + i)
  · simp

theorem takes_val {r rr s : List Nat} (hr : lim5 67108864 r) (hrr : rr.length = 16) (hrB : allB 256 rr = true) (he : v5 r = leN rr) (hs : allB 256 s = true) :
    ∀ i, lim5 67108870 (takesC r [0, 0, 0, 0, 0] s i) ∧ v5 (takesC r [0, 0, 0, 0, 0] s i) % P130 = aV rr s i
  | 0 => ⟨lim5_mk (by omega) (by omega) (by omega) (by omega) (by omega), rfl⟩
  | i + 1 => by
    obtain ⟨h1, h2⟩ := takes_val hr hrr hrB he hs i
    obtain ⟨g1, g2⟩ := step_val (ys := (s.drop (16 * i)).take 16) h1 hr (sub_lt hs (16 * i)) (by rw [List.length_take]; omega)
    refine ⟨g1, ?_⟩
    rw [takesC, g2, blk_val, aV_succ hs hrr hrB, ← he, ← h2, Nat.mul_mod, Nat.add_mod, ← Nat.mod_mod (v5 (takesC r [0, 0, 0, 0, 0] s i)), ← Nat.add_mod, ← Nat.mul_mod]
    rw [Nat.mod_mod]

theorem and252 : ∀ x, x < 256 → x &&& 252 = x - x % 4 := by decide +kernel
theorem and15 (x : Nat) : x &&& 15 = x % 16 := Nat.and_two_pow_sub_one_eq_mod x 4

theorem clampM_get (key : List Nat) (i m j : Nat) : (clampM key i m).getD j 0 = if i = j ∧ j < key.length then key.getD i 0 &&& m else key.getD j 0 := getD_set _ _ _ _

theorem clampM_len (key : List Nat) (i m : Nat) : (clampM key i m).length = key.length := by simp [clampM]

theorem clampK_get {key : List Nat} (hl : key.length = 32) (hk : okKey key = true) (j : Nat) : (clampK key).getD j 0 = if j < 16 then rDig key j else key.getD j 0 := by
  unfold clampK
  simp only [clampM_get, clampM_len, hl]
  by_cases h : j < 16
  · rw [if_pos h]
    have b4 := and252 (key.getD 4 0) (key_lt hk 4)
    have b8 := and252 (key.getD 8 0) (key_lt hk 8)
    have b12 := and252 (key.getD 12 0) (key_lt hk 12)
    have : j = 0 ∨ j = 1 ∨ j = 2 ∨ j = 3 ∨ j = 4 ∨ j = 5 ∨ j = 6 ∨ j = 7 ∨ j = 8 ∨ j = 9 ∨ j = 10 ∨ j = 11 ∨ j = 12 ∨ j = 13 ∨ j = 14 ∨ j = 15 := by omega
    rcases this with rfl | rfl | rfl | rfl | rfl | rfl | rfl | rfl | rfl | rfl | rfl | rfl | rfl | rfl | rfl | rfl
    · rw [if_neg (by omega), if_neg (by omega), if_neg (by omega), if_neg (by omega), if_neg (by omega), if_neg (by omega), if_neg (by omega)]; rfl
    · rw [if_neg (by omega), if_neg (by omega), if_neg (by omega), if_neg (by omega), if_neg (by omega), if_neg (by omega), if_neg (by omega)]; rfl
    · rw [if_neg (by omega), if_neg (by omega), if_neg (by omega), if_neg (by omega), if_neg (by omega), if_neg (by omega), if_neg (by omega)]; rfl
    · rw [if_neg (by omega), if_neg (by omega), if_neg (by omega), if_neg (by omega), if_neg (by omega), if_neg (by omega), if_pos (by omega), and15]; rfl
    · rw [if_neg (by omega), if_neg (by omega), if_pos (by omega), if_neg (by omega), if_neg (by omega), if_neg (by omega), if_neg (by omega), b4]; rfl
    · rw [if_neg (by omega), if_neg (by omega), if_neg (by omega), if_neg (by omega), if_neg (by omega), if_neg (by omega), if_neg (by omega)]; rfl
    · rw [if_neg (by omega), if_neg (by omega), if_neg (by omega), if_neg (by omega), if_neg (by omega), if_neg (by omega), if_neg (by omega)]; rfl
    · rw [if_neg (by omega), if_neg (by omega), if_neg (by omega), if_neg (by omega), if_neg (by omega), if_pos (by omega), if_neg (by omega), and15]; rfl
    · rw [if_neg (by omega), if_pos (by omega), if_neg (by omega), if_neg (by omega), if_neg (by omega), if_neg (by omega), if_neg (by omega), b8]; rfl
    · rw [if_neg (by omega), if_neg (by omega), if_neg (by omega), if_neg (by omega), if_neg (by omega), if_neg (by omega), if_neg (by omega)]; rfl
    · rw [if_neg (by omega), if_neg (by omega), if_neg (by omega), if_neg (by omega), if_neg (by omega), if_neg (by omega), if_neg (by omega)]; rfl
    · rw [if_neg (by omega), if_neg (by omega), if_neg (by omega), if_neg (by omega), if_pos (by omega), if_neg (by omega), if_neg (by omega), and15]; rfl
    · rw [if_pos (by omega), if_neg (by omega), if_neg (by omega), if_neg (by omega), if_neg (by omega), if_neg (by omega), if_neg (by omega), b12]; rfl
    · rw [if_neg (by omega), if_neg (by omega), if_neg (by omega), if_neg (by omega), if_neg (by omega), if_neg (by omega), if_neg (by omega)]; rfl
    · rw [if_neg (by omega), if_neg (by omega), if_neg (by omega), if_neg (by omega), if_neg (by omega), if_neg (by omega), if_neg (by omega)]; rfl
    · rw [if_neg (by omega), if_neg (by omega), if_neg (by omega), if_pos (by omega), if_neg (by omega), if_neg (by omega), if_neg (by omega), and15]; rfl
  · rw [if_neg h]
    rw [if_neg (by omega), if_neg (by omega), if_neg (by omega), if_neg (by omega), if_neg (by omega), if_neg (by omega), if_neg (by omega)]

theorem rRow_get (key : List Nat) : ∀ n i j, (rRow key n i).getD j 0 = if j < n then rDig key (i + j) else 0
  | 0, i, j => by simp [rRow]
  | n + 1, i, 0 => by simp [rRow]
  | n + 1, i, j + 1 => by
    rw [rRow, List.getD_cons_succ, rRow_get key n (i + 1) j]
    by_cases h : j < n
    · rw [if_pos h, if_pos (by omega)]; congr 1; omega
    · rw [if_neg h, if_neg (by omega)]

theorem rRow_len (key : List Nat) : ∀ n i, (rRow key n i).length = n
  | 0, _ => rfl
  | n + 1, i => by simp [rRow, rRow_len key n]

theorem clampK_len (key : List Nat) : (clampK key).length = key.length := by unfold clampK; simp only [clampM_len]

theorem take_rRow {key : List Nat} (hl : key.length = 32) (hk : okKey key = true) : (clampK key).take 16 = rRow key 16 0 := by
  have l1 : ((clampK key).take 16).length = 16 := by rw [List.length_take, clampK_len, hl]; rfl
  apply List.ext_getElem (by rw [l1, rRow_len])
  intro i h1 h2
  have g1 := clampK_get hl hk i
  have g2 := rRow_get key 16 0 i
  rw [l1] at h1
  rw [List.getD, List.getElem?_eq_getElem (by rw [clampK_len]; omega), Option.getD_some, if_pos h1] at g1
  rw [List.getD, List.getElem?_eq_getElem h2, Option.getD_some, if_pos h1, Nat.zero_add] at g2
  rw [List.getElem_take, g1, g2]

theorem tag_eq {key s : List Nat} (hl : key.length = 32) (hk : okKey key = true) (hs : allB 256 s = true) : tagS key s = tagR key s := by
  have hrow := rRow_all hk
  obtain ⟨n1, n2⟩ := numb_val (xs := rRow key 16 0) (fun i => allB_get (by omega) hrow i) (by rw [rRow_get, if_neg (by omega)]; omega) (by rw [rRow_len]; omega)
  have hr : rK key = numb (rRow key 16 0) := by rw [rK, take_rRow hl hk]
  rw [← hr] at n1 n2
  obtain ⟨h1, h2⟩ := takes_val n2 (rRow_len key 16 0) hrow n1 hs (nBlk s)
  obtain ⟨k, f1, f2⟩ := fin_two h1
  obtain ⟨g1, g2⟩ := least_val f1
  have hv : v5 (least (carr (carr (takesC (rK key) [0, 0, 0, 0, 0] s (nBlk s))))) = aV (rRow key 16 0) s (nBl s) := by
    rw [f2, Nat.add_mul_mod_self_right] at h2
    rw [g2, h2]
    rfl
  unfold tagS tagR finL
  refine fts_gts (fun i hi => ?_) (fun i => ?_) (Nat.le_refl 16)
  · rw [fx_val g1 hi, hv, digs_get, if_pos (by omega)]
  · rw [clampK_get hl hk, if_neg (by omega)]

end Go.Proofs.Ytgebgjhjegadpaa

namespace Go.Proofs.Ytgebgjhjegadpaa
open Go

def F24 : FSem := ⟨false, fun args hin => match args, hin with
  | [], [] => some (.leaf (.s (.bool true), []))
  | _, _ => none⟩

theorem fn24 : Fn Try.prog 24 Try.f24 := ⟨mixedP, Try.func24, by kernel_rfl, of_decide_eq_true (by kernel_rfl)⟩

set_option maxRecDepth 100000 in
theorem r24 : runB Try.prog [(25, F25)] [] .nat 3 Try.f24 [] [] = some (.s (.bool true), []) := by kernel_rfl

theorem ok24 : FOk Try.prog 24 F24 := by
  refine fokB (fs := [(25, F25)]) (xs := []) (m := .nat) (fuel := 3) (.cons ok25 .nil) fn24 ?_
  intro args hin t r h hg
  unfold F24 at h
  simp only at h
  split at h
  · cases h; cases hg
    exact r24
  · cases h

end Go.Proofs.Ytgebgjhjegadpaa

namespace Go.Proofs.Ytgebgjhjegadpaa
open Go

theorem fn10 : Fn Try.prog 10 Try.f10 := ⟨mixedP, Try.func10, by kernel_rfl, of_decide_eq_true (by kernel_rfl)⟩

def okL (pss : List (List Nat)) : Bool := pss.all fun p => decide (p.length < 9223372036854775808)

def SP : LSem := ⟨[10, 11, 12, 5], [5], fun args hin => match args, hin with
  | [.s (.xsl (.bss pss)), .s (.nat .i64 n), .s (.nat .i64 0), .s .nil], [] =>
    some (Tr.needs [decide (n = pss.length), decide (n < 9223372036854775808), decide (lenN pss pss.length ≤ 4398046511104)]
      (.br (decide (pss.length = 0)) (.leaf (.normal, [.s .nil], [])) (.leaf (.normal, [.s (.sl .whole 0 0 (lenN pss pss.length) 1)], [some [.ints .u8 (lenN pss pss.length) (catN pss pss.length)]]))))
  | _, _ => none⟩

set_option maxRecDepth 100000 in
theorem rP0 (pss : List (List Nat)) (n : Nat) : runR Try.prog [] [] .nat 3 [] Try.f10 0 SP 0 [.s (.xsl (.bss pss)), .s (.nat .i64 n), .s (.nat .i64 0), .s .nil] [] =
    cond (decide (0 < n)) (nd [decide (0 < pss.length), decide (0 < pss.length), decide ((pss.getD 0 []).length ≤ 4398046511104)]
      (some (.normal, [.s (.xsl (.bss pss)), .s (.nat .i64 n), .s (.nat .i64 (0 + 1)), .s (.sl .whole 0 0 (pss.getD 0 []).length 1)], [some [.ints .u8 (pss.getD 0 []).length (pss.getD 0 [])]])))
      (some (.exit 0, [.s .nil], [])) := by kernel_rfl

set_option maxRecDepth 100000 in
theorem rP (pss : List (List Nat)) (n j l : Nat) (xs : List Nat) : runR Try.prog [] [] .nat 3 [] Try.f10 0 SP 0 [.s (.xsl (.bss pss)), .s (.nat .i64 n), .s (.nat .i64 j), .s (.sl .whole 0 0 l 1)] [some [.ints .u8 l xs]] =
    cond (decide (j < n)) (nd [decide (j < pss.length), decide (j < pss.length), decide (l = l), decide (l + (pss.getD j []).length ≤ 4398046511104), decide (j + 1 < 9223372036854775808)]
      (some (.normal, [.s (.xsl (.bss pss)), .s (.nat .i64 n), .s (.nat .i64 (j + 1)), .s (.sl .whole 0 0 (l + (pss.getD j []).length) 1)], [some [.ints .u8 (l + (pss.getD j []).length) (xs ++ pss.getD j [])]])))
      (some (.exit 0, [.s (.sl .whole 0 0 l 1)], [some [.ints .u8 l xs]])) := by kernel_rfl

theorem lenN_mono' (pss : List (List Nat)) {i j : Nat} (h : i ≤ j) : lenN pss i ≤ lenN pss j := by
  induction h with
  | refl => exact Nat.le_refl _
  | step _ ih => rw [lenN]; omega

def AP (pss : List (List Nat)) : Nat → List AV × List (Option Blk)
  | 0 => ([.s (.xsl (.bss pss)), .s (.nat .i64 pss.length), .s (.nat .i64 0), .s .nil], [])
  | i + 1 => ([.s (.xsl (.bss pss)), .s (.nat .i64 pss.length), .s (.nat .i64 (i + 1)), .s (.sl .whole 0 0 (lenN pss (i + 1)) 1)], [some [.ints .u8 (lenN pss (i + 1)) (catN pss (i + 1))]])

theorem lokP10 : LOk Try.prog Try.f10.ntmps (.block 0 (.loop (lb 0 Try.f10))) SP := by
  refine lokR (fs := []) (xs := []) (m := .nat) (fuel := 3) (sums := []) EnvOk.nil mixedP (loopsOk_none rfl _) ?_
  intro args hin t e vs hout h hg
  unfold SP at h
  simp only at h
  split at h
  rotate_left
  · cases h
  rename_i pss n
  simp only [Option.some.injEq] at h
  subst h
  obtain ⟨hc, hgt⟩ := Tr.needs_get hg
  clear hg
  have e1 : n = pss.length := of_decide_eq_true (hc _ (by simp))
  subst e1
  have hl : pss.length < 9223372036854775808 := of_decide_eq_true (hc (decide (pss.length < 9223372036854775808)) (by simp))
  have hk : lenN pss pss.length ≤ 4398046511104 := of_decide_eq_true (hc (decide (lenN pss pss.length ≤ 4398046511104)) (by simp))
  clear hc
  simp only [Tr.get] at hgt
  have hstep : ∀ i, i < pss.length → runR Try.prog [] [] .nat 3 [] Try.f10 0 SP 0 (AP pss i).1 (AP pss i).2 = some (.normal, AP pss (i + 1)) := fun i hi => by
    have hm := lenN_mono' pss (show i + 1 ≤ pss.length by omega)
    rw [lenN] at hm
    cases i with
    | zero =>
      simp only [AP]
      rw [rP0]
      refine cond_t (decide_eq_true hi) (nd_of ?_ ?_)
      · simp only [lenN] at hm
        simp only [List.mem_cons, List.not_mem_nil, or_false, forall_eq_or_imp, forall_eq, decide_eq_true_eq]
        exact ⟨hi, hi, by omega⟩
      · simp only [lenN, catN, Nat.zero_add, List.nil_append]
    | succ i =>
      simp only [AP]
      rw [rP]
      refine cond_t (decide_eq_true hi) (nd_of ?_ rfl)
      simp only [List.mem_cons, List.not_mem_nil, or_false, forall_eq_or_imp, forall_eq, decide_eq_true_eq]
      exact ⟨hi, hi, trivial, by omega, by omega⟩
  cases hz : decide (pss.length = 0) with
  | true =>
    have hz' := of_decide_eq_true hz
    rw [hz, cond_true] at hgt
    cases hgt
    refine ⟨pss.length, AP pss, .exit 0, rfl, hstep, ?_, rfl⟩
    rw [hz']
    simp only [AP, List.length_nil]
    rw [rP0]
    exact cond_f (decide_eq_false (by omega)) rfl
  | false =>
    have hz' := of_decide_eq_false hz
    rw [hz, cond_false] at hgt
    cases hgt
    refine ⟨pss.length, AP pss, .exit 0, rfl, hstep, ?_, rfl⟩
    obtain ⟨m, hm⟩ : ∃ m, pss.length = m + 1 := ⟨pss.length - 1, by omega⟩
    have e : ∀ q, q = m + 1 → AP pss q = ([.s (.xsl (.bss pss)), .s (.nat .i64 pss.length), .s (.nat .i64 q), .s (.sl .whole 0 0 (lenN pss q) 1)], [some [.ints .u8 (lenN pss q) (catN pss q)]]) := by
      rintro q rfl
      rfl
    have := e _ hm
    simp only [List.length_nil]
    rw [this]
    show runR Try.prog [] [] .nat 3 [] Try.f10 0 SP 0 _ _ = _
    rw [rP]
    exact cond_f (decide_eq_false (by omega)) rfl

theorem loops10 : LoopsOk Try.prog ⟨Try.f10.ntmps, 3, [(0, SP)]⟩ (bodyOf Try.f10) := by
  refine loopsOk_of ?_
  have e : loopsIn [(0, SP)] (bodyOf Try.f10) = [(0, .loop (lb 0 Try.f10), SP)] := by kernel_rfl
  simp only [e]
  intro x hx
  simp only [List.mem_cons, List.not_mem_nil, or_false] at hx
  rcases hx with rfl
  · exact lokP10

/-- The code's sum, left open. -/
structure OpsS where
  tag : List Nat → List (List Nat) → List Nat
  ok41 : List (List Nat) → Bool
  okK : List Nat → Bool
  cat : List (List Nat) → Nat → List Nat
  len : List (List Nat) → Nat → Nat
def opsS : OpsS := ⟨tagC, ok41, okKey, catN, lenN⟩
def O25 (o : OpsS) : FSem := ⟨true, fun args hin => match args, hin with
  | [.agg [.ints .u8 32 key], .s (.xsl (.bss pss))], [] => some (Tr.needs [decide (pss.length < 9223372036854775808), o.ok41 pss, o.okK key] (.leaf (.agg [.ints .u8 16 (o.tag key pss)], [])))
  | _, _ => none⟩
theorem oo25 : FOk Try.prog 25 (O25 opsS) := by
  have e : O25 opsS = F25 := by kernel_rfl
  rw [e]
  exact ok25

def SPo (o : OpsS) : LSem := ⟨[10, 11, 12, 5], [5], fun args hin => match args, hin with
  | [.s (.xsl (.bss pss)), .s (.nat .i64 n), .s (.nat .i64 0), .s .nil], [] =>
    some (Tr.needs [decide (n = pss.length), decide (n < 9223372036854775808), decide (o.len pss pss.length ≤ 4398046511104)]
      (.br (decide (pss.length = 0)) (.leaf (.normal, [.s .nil], [])) (.leaf (.normal, [.s (.sl .whole 0 0 (o.len pss pss.length) 1)], [some [.ints .u8 (o.len pss pss.length) (o.cat pss pss.length)]]))))
  | _, _ => none⟩
theorem spo_eq : SPo opsS = SP := by kernel_rfl

end Go.Proofs.Ytgebgjhjegadpaa

namespace Go.Proofs.Ytgebgjhjegadpaa
open Go

structure OpsA where
  blk : List Nat → List Nat → Nat → List Nat
  mix : List Nat → List Nat → Nat → List Nat → Nat → List Nat
  tag : List Nat → List (List Nat) → List Nat
  ok41 : List (List Nat) → Bool
  okK : List Nat → Bool
  okL : List (List Nat) → Bool
  cat : List (List Nat) → Nat → List Nat
  len : List (List Nat) → Nat → Nat
  eq : List Nat → List Nat → Bool

def opsA : OpsA := ⟨blk, mixC, tagC, ok41, okKey, okLens, catN, lenN, fun xs ys => decide (xs = ys)⟩

theorem opsA_blk : opsA.blk = blk := by kernel_rfl
theorem opsA_mix : opsA.mix = mixC := by kernel_rfl
theorem opsA_tag : opsA.tag = tagC := by kernel_rfl
theorem opsA_ok41 : opsA.ok41 = ok41 := by kernel_rfl
theorem opsA_okK : opsA.okK = okKey := by kernel_rfl
theorem opsA_okL : opsA.okL = okLens := by kernel_rfl
theorem opsA_cat : opsA.cat = catN := by kernel_rfl
theorem opsA_len : opsA.len = lenN := by kernel_rfl
theorem opsA_eq : opsA.eq = (fun xs ys => decide (xs = ys)) := by kernel_rfl

def Z20 (o : OpsA) : FSem := ⟨false, fun args hin => match args, hin with
  | [.agg [.ints .u8 32 key], .agg [.ints .u8 12 nonce], .s (.nat .u32 n)], [] => some (.leaf (.agg [.ints .u8 64 (o.blk key nonce n)], []))
  | _, _ => none⟩
theorem aa20 : FOk Try.prog 20 (Z20 opsA) := by
  have e : Z20 opsA = F20 := by kernel_rfl
  rw [e]
  exact ok20

def Z25 (o : OpsA) : FSem := ⟨true, fun args hin => match args, hin with
  | [.agg [.ints .u8 32 key], .s (.xsl (.bss pss))], [] => some (Tr.needs [decide (pss.length < 9223372036854775808), o.ok41 pss, o.okK key] (.leaf (.agg [.ints .u8 16 (o.tag key pss)], [])))
  | _, _ => none⟩
theorem aa25 : FOk Try.prog 25 (Z25 opsA) := by
  have e : Z25 opsA = F25 := by kernel_rfl
  rw [e]
  exact ok25

def Z22 (o : OpsA) : FSem := ⟨true, fun args hin => match args, hin with
  | [.agg [.ints .u8 32 key], .agg [.ints .u8 12 nonce], .s (.nat .u32 c), .s (.xsl (.bss pss))], [] =>
    some (Tr.needs [decide (pss.length < 9223372036854775808), o.okL pss]
      (.br (decide (o.len pss pss.length ≤ 16777216))
        (.br (decide (pss.length = 0)) (.leaf (.tup [.s .nil, .s (.nat .i64 0)], []))
          (.leaf (.tup [.s (.sl .whole 0 0 (o.len pss pss.length) 1), .s (.nat .i64 0)], [some [.ints .u8 (o.len pss pss.length) (o.mix key nonce c (o.cat pss pss.length) (o.len pss pss.length))]])))
        (.leaf (.tup [.s .nil, .s (.nat .i64 2)], []))))
  | _, _ => none⟩

/-! Noughts up to a multiple of sixteen. -/
theorem fn47 : Fn Try.prog 47 Try.f47 := ⟨mixed, Try.func47, by kernel_rfl, of_decide_eq_true (by kernel_rfl)⟩
theorem fn48 : Fn Try.prog 48 Try.f48 := ⟨mixed, Try.func48, by kernel_rfl, of_decide_eq_true (by kernel_rfl)⟩
theorem fn40 : Fn Try.prog 40 Try.f40 := ⟨mixed, Try.func40, by kernel_rfl, of_decide_eq_true (by kernel_rfl)⟩
theorem fn43 : Fn Try.prog 43 Try.f43 := ⟨mixed, Try.func43, by kernel_rfl, of_decide_eq_true (by kernel_rfl)⟩

def filN (n : Nat) : Nat := (16 - n % 16) % 16

def F47 : FSem := ⟨false, fun args hin => match args, hin with
  | [.s (.nat .i64 n)], [] => some (.leaf (.s (.sl .whole 0 0 (filN n) 1), [some [.ints .u8 (filN n) (List.replicate (filN n) 0)]]))
  | _, _ => none⟩

set_option maxRecDepth 100000 in
theorem r47 (n : Nat) : runB Try.prog [] [] .nat 7 Try.f47 [.s (.nat .i64 n)] [] =
(nd [decide (n % 16 ≤ 16), decide (filN n ≤ filN n), decide (filN n ≤ 4398046511104)]
 (some (AV.s (SV.sl LK.whole 0 0 (filN n) 1), [some [Ch.ints IntKind.u8 (filN n) (List.replicate (filN n) 0)]]))) := by kernel_rfl

theorem ok47 : FOk Try.prog 47 F47 := by
  refine fokB (fs := []) (xs := []) (m := .nat) (fuel := 7) EnvOk.nil fn47 ?_
  intro args hin t r h hg
  unfold F47 at h
  simp only at h
  split at h
  · rename_i n
    cases h
    cases hg
    rw [r47]
    refine nd_of ?_ rfl
    have : filN n < 16 := Nat.mod_lt _ (by decide)
    simp only [List.mem_cons, List.not_mem_nil, or_false, forall_eq_or_imp, forall_eq, decide_eq_true_eq]
    omega
  · cases h

def cnt8 (n : Nat) : List Nat := [n % 256, n / 256 % 256, n / 65536 % 256, n / 16777216 % 256, 0, 0, 0, 0]

def F48 : FSem := ⟨false, fun args hin => match args, hin with
  | [.s (.nat .i64 n)], [] => some (.leaf (.s (.sl .whole 0 0 8 1), [some [.ints .u8 8 (cnt8 n)]]))
  | _, _ => none⟩

set_option maxRecDepth 100000 in
theorem r48 (n : Nat) : runB Try.prog [] [] .nat 7 Try.f48 [.s (.nat .i64 n)] [] =
 (some (AV.s (SV.sl LK.whole 0 0 8 1), [some [Ch.ints IntKind.u8 8 [n / 2 ^ 0 % 256, n / 2 ^ 8 % 256, n / 2 ^ 16 % 256, n / 2 ^ 24 % 256, 0, 0, 0, 0]]])) := by kernel_rfl

theorem ok48 : FOk Try.prog 48 F48 := by
  refine fokB (fs := []) (xs := []) (m := .nat) (fuel := 7) EnvOk.nil fn48 ?_
  intro args hin t r h hg
  unfold F48 at h
  simp only at h
  split at h
  · rename_i n
    cases h
    cases hg
    rw [r48]
    unfold cnt8
    rw [Nat.pow_zero, Nat.div_one, show (2 : Nat) ^ 8 = 256 from rfl, show (2 : Nat) ^ 16 = 65536 from rfl, show (2 : Nat) ^ 24 = 16777216 from rfl]
  · cases h

/-! Is it too long? -/
def S40 : LSem := ⟨[6, 7, 8, 3, 2], [2], fun args hin => match args, hin with
  | [.s (.xsl (.bss pss)), .s (.nat .i64 n), .s (.nat .i64 0), .s (.nat .i64 0), .s (.bool false)], [] =>
    some (Tr.needs [decide (n = pss.length), decide (n < 9223372036854775808), okLens pss]
      (.br (decide (badAt 1048576 pss 0 = pss.length)) (.leaf (.normal, [.s (.bool false)], [])) (.leaf (.ret, [.s (.bool true)], []))))
  | _, _ => none⟩

set_option maxRecDepth 100000 in
theorem r40l (pss : List (List Nat)) (n j m : Nat) : runR Try.prog [] [] .nat 7 [] Try.f40 0 S40 0 [.s (.xsl (.bss pss)), .s (.nat .i64 n), .s (.nat .i64 j), .s (.nat .i64 m), .s (.bool false)] [] =
(cond (decide (j < n))
 (nd [decide (j < pss.length), decide (j < pss.length), decide ((pss.getD j []).length < 9223372036854775808), decide (m ≤ 1048576)]
 (cond (decide (1048576 - m < (pss.getD j []).length))
 (some (Ex.ret, [AV.s (SV.bool true)], []))
 (nd [decide ((pss.getD j []).length < 9223372036854775808), decide (m + (pss.getD j []).length < 9223372036854775808), decide (j + 1 < 9223372036854775808)]
 (some (Ex.normal, [AV.s (SV.xsl (XC.bss pss)), AV.s (SV.nat IntKind.i64 n), AV.s (SV.nat IntKind.i64 (j + 1)), AV.s (SV.nat IntKind.i64 (m + (pss.getD j []).length)), AV.s (SV.bool false)], [])))))
 (some (Ex.exit 0, [AV.s (SV.bool false)], []))) := by kernel_rfl

theorem lok40 : LOk Try.prog Try.f40.ntmps (.block 0 (.loop (lb 0 Try.f40))) S40 := by
  refine lokR (fs := []) (xs := []) (m := .nat) (fuel := 7) (sums := []) EnvOk.nil mixed (loopsOk_none rfl _) ?_
  intro args hin t e vs hout h hg
  unfold S40 at h
  simp only at h
  split at h
  rotate_left
  · cases h
  rename_i pss n
  simp only [Option.some.injEq] at h
  subst h
  obtain ⟨hc, hgt⟩ := Tr.needs_get hg
  clear hg
  have e1 : n = pss.length := of_decide_eq_true (hc _ (by simp))
  subst e1
  have hl : pss.length < 9223372036854775808 := of_decide_eq_true (hc (decide (pss.length < 9223372036854775808)) (by simp))
  have hk : okLens pss = true := hc _ (by simp)
  clear hc
  obtain ⟨h1, h2, h3, h4⟩ := badAt_spec 1048576 pss 0 (Nat.zero_le _)
  simp only [Tr.get] at hgt
  have hstep : ∀ i, i < badAt 1048576 pss 0 → runR Try.prog [] [] .nat 7 [] Try.f40 0 S40 0 [.s (.xsl (.bss pss)), .s (.nat .i64 pss.length), .s (.nat .i64 i), .s (.nat .i64 (lenN pss i)), .s (.bool false)] [] =
      some (.normal, [.s (.xsl (.bss pss)), .s (.nat .i64 pss.length), .s (.nat .i64 (i + 1)), .s (.nat .i64 (lenN pss (i + 1))), .s (.bool false)], []) := fun i hi => by
    have h5 := h4 i hi
    have h6 := okLens_get hk i
    have h7 := lenN_mono pss (show i + 1 ≤ badAt 1048576 pss 0 by omega)
    rw [lenN] at h7
    rw [r40l]
    refine cond_t (decide_eq_true (by omega)) (nd_of ?_ (cond_f (decide_eq_false (by omega)) (nd_of ?_ rfl)))
    · simp only [List.mem_cons, List.not_mem_nil, or_false, forall_eq_or_imp, forall_eq, decide_eq_true_eq]; omega
    · simp only [List.mem_cons, List.not_mem_nil, or_false, forall_eq_or_imp, forall_eq, decide_eq_true_eq]; omega
  cases hb : decide (badAt 1048576 pss 0 = pss.length) with
  | true =>
    have hb' := of_decide_eq_true hb
    rw [hb, cond_true] at hgt
    cases hgt
    refine ⟨badAt 1048576 pss 0, fun i => ([.s (.xsl (.bss pss)), .s (.nat .i64 pss.length), .s (.nat .i64 i), .s (.nat .i64 (lenN pss i)), .s (.bool false)], []), .exit 0, rfl, hstep, ?_, rfl⟩
    simp only [List.length_nil]
    rw [r40l]
    exact cond_f (decide_eq_false (by omega)) rfl
  | false =>
    have hb' := of_decide_eq_false hb
    rw [hb, cond_false] at hgt
    cases hgt
    refine ⟨badAt 1048576 pss 0, fun i => ([.s (.xsl (.bss pss)), .s (.nat .i64 pss.length), .s (.nat .i64 i), .s (.nat .i64 (lenN pss i)), .s (.bool false)], []), .ret, rfl, hstep, ?_, rfl⟩
    have h7 := h3 (by omega)
    have h6 := okLens_get hk (badAt 1048576 pss 0)
    simp only [List.length_nil]
    rw [r40l]
    refine cond_t (decide_eq_true (by omega)) (nd_of ?_ (cond_t (decide_eq_true (by omega)) rfl))
    simp only [List.mem_cons, List.not_mem_nil, or_false, forall_eq_or_imp, forall_eq, decide_eq_true_eq]; omega

def lonB (pss : List (List Nat)) : Bool := decide (1048576 < lenN pss pss.length)

def F40 : FSem := ⟨true, fun args hin => match args, hin with
  | [.s (.xsl (.bss pss))], [] => some (Tr.needs [decide (pss.length < 9223372036854775808), okLens pss] (.leaf (.s (.bool (lonB pss)), [])))
  | _, _ => none⟩

theorem loops40 : LoopsOk Try.prog ⟨Try.f40.ntmps, 7, [(0, S40)]⟩ (bodyOf Try.f40) := by
  refine loopsOk_of ?_
  have e : loopsIn [(0, S40)] (bodyOf Try.f40) = [(0, .loop (lb 0 Try.f40), S40)] := by kernel_rfl
  simp only [e]
  intro x hx
  simp only [List.mem_cons, List.not_mem_nil, or_false] at hx
  rcases hx with rfl
  · exact lok40

set_option maxRecDepth 100000 in
theorem r40 (pss : List (List Nat)) : runL Try.prog [] [] .nat 7 [(0, S40)] Try.f40 [.s (.xsl (.bss pss))] [] =
    nd [decide (pss.length < 9223372036854775808), decide (pss.length = pss.length), decide (pss.length < 9223372036854775808), okLens pss]
     (cond (decide (badAt 1048576 pss 0 = pss.length)) (some (.s (.bool false), [])) (some (.s (.bool true), []))) := by kernel_rfl

theorem ok40 : FOk Try.prog 40 F40 := by
  refine fokL (fs := []) (xs := []) (m := .nat) (fuel := 7) (sums := [(0, S40)]) EnvOk.nil fn40 loops40 ?_
  intro args hin t r h hg
  unfold F40 at h
  simp only at h
  split at h
  · rename_i pss
    simp only [Option.some.injEq] at h
    subst h
    obtain ⟨hc, hgt⟩ := Tr.needs_get hg
    cases hgt
    have hl : pss.length < 9223372036854775808 := of_decide_eq_true (hc _ (by simp))
    have hk : okLens pss = true := hc (okLens pss) (by simp)
    rw [r40]
    refine nd_of ?_ ?_
    · simp only [List.mem_cons, List.not_mem_nil, or_false, forall_eq_or_imp, forall_eq, decide_eq_true_eq]
      exact ⟨hl, trivial, hl, hk⟩
    · unfold lonB
      by_cases hs : lenN pss pss.length ≤ 1048576
      · rw [decide_eq_true ((badAt_all 1048576 pss).2 hs), decide_eq_false (by omega)]
        rfl
      · rw [decide_eq_false (fun e => hs ((badAt_all 1048576 pss).1 e)), decide_eq_true (by omega)]
        rfl
  · cases h

/-! Are they the same? -/
def xorN (xs ys : List Nat) : Nat → Nat
  | 0 => 0
  | j + 1 => xorN xs ys j ||| xs.getD j 0 ^^^ ys.getD j 0

def S43 : LSem := ⟨[0, 1, 5, 13, 14], [5], fun args hin => match args, hin with
  | [.s (.xsl (.ints .u8 xs)), .s (.xsl (.ints .u8 ys)), .s (.nat .u8 0), .s (.nat .i64 n), .s (.nat .i64 0)], [] =>
    some (Tr.needs [decide (n = xs.length), decide (n < 9223372036854775808), decide (xs.length = ys.length)] (.leaf (.normal, [.s (.nat .u8 (xorN xs ys xs.length))], [])))
  | _, _ => none⟩

set_option maxRecDepth 100000 in
theorem r43l (xs ys : List Nat) (n j m : Nat) : runR Try.prog [] [] .nat 7 [] Try.f43 0 S43 0 [.s (.xsl (.ints .u8 xs)), .s (.xsl (.ints .u8 ys)), .s (.nat .u8 m), .s (.nat .i64 n), .s (.nat .i64 j)] [] =
(cond (decide (j < n))
 (nd [decide (j < xs.length), decide (j < xs.length), decide (j < ys.length), decide (j < ys.length), decide (j + 1 < 9223372036854775808)]
 (some (Ex.normal, [AV.s (SV.xsl (XC.ints IntKind.u8 xs)), AV.s (SV.xsl (XC.ints IntKind.u8 ys)), AV.s (SV.nat IntKind.u8 (m ||| xs.getD j 0 ^^^ ys.getD j 0)), AV.s (SV.nat IntKind.i64 n), AV.s (SV.nat IntKind.i64 (j + 1))], [])))
 (some (Ex.exit 0, [AV.s (SV.nat IntKind.u8 m)], []))) := by kernel_rfl

theorem lok43 : LOk Try.prog Try.f43.ntmps (.block 0 (.loop (lb 0 Try.f43))) S43 := by
  refine lokR (fs := []) (xs := []) (m := .nat) (fuel := 7) (sums := []) EnvOk.nil mixed (loopsOk_none rfl _) ?_
  intro args hin t e vs hout h hg
  unfold S43 at h
  simp only at h
  split at h
  · rename_i xs ys n
    simp only [Option.some.injEq] at h
    subst h
    obtain ⟨hc, hgt⟩ := Tr.needs_get hg
    cases hgt
    have e1 : n = xs.length := of_decide_eq_true (hc _ (by simp))
    have e2 : n < 9223372036854775808 := of_decide_eq_true (hc (decide (n < 9223372036854775808)) (by simp))
    have e3 : xs.length = ys.length := of_decide_eq_true (hc (decide (xs.length = ys.length)) (by simp))
    clear hc hg
    subst e1
    refine ⟨xs.length, fun i => ([.s (.xsl (.ints .u8 xs)), .s (.xsl (.ints .u8 ys)), .s (.nat .u8 (xorN xs ys i)), .s (.nat .i64 xs.length), .s (.nat .i64 i)], []), .exit 0, rfl, fun i hi => ?_, ?_, rfl⟩
    · simp only [List.length_nil]
      rw [r43l]
      refine cond_t (decide_eq_true hi) (nd_of ?_ rfl)
      simp only [List.mem_cons, List.not_mem_nil, or_false, forall_eq_or_imp, forall_eq, decide_eq_true_eq]; omega
    · simp only [List.length_nil]
      rw [r43l]
      exact cond_f (decide_eq_false (by omega)) rfl
  · cases h

theorem or_zero {a b : Nat} : a ||| b = 0 ↔ a = 0 ∧ b = 0 := by
  constructor
  · intro h
    exact ⟨Nat.eq_zero_of_le_zero (h ▸ Nat.left_le_or), Nat.eq_zero_of_le_zero (h ▸ Nat.right_le_or)⟩
  · rintro ⟨rfl, rfl⟩
    rfl

theorem xor_zero_iff {a b : Nat} : a ^^^ b = 0 ↔ a = b := by
  constructor
  · intro h
    have : (a ^^^ b) ^^^ b = a := by rw [Nat.xor_assoc, Nat.xor_self, Nat.xor_zero]
    rw [← this, h, Nat.zero_xor]
  · rintro rfl
    exact Nat.xor_self a

theorem xorN_zero (xs ys : List Nat) : ∀ n, xorN xs ys n = 0 ↔ ∀ i, i < n → xs.getD i 0 = ys.getD i 0
  | 0 => ⟨fun _ i hi => by omega, fun _ => rfl⟩
  | n + 1 => by
    rw [xorN, or_zero, xorN_zero xs ys n, xor_zero_iff]
    constructor
    · rintro ⟨h1, h2⟩ i hi
      by_cases e : i = n
      · subst e; exact h2
      · exact h1 i (by omega)
    · intro h
      exact ⟨fun i hi => h i (by omega), h n (by omega)⟩

theorem list_getD {k l : List Nat} (hl : k.length = l.length) : (∀ i, i < k.length → k.getD i 0 = l.getD i 0) ↔ k = l := by
  constructor
  · intro h
    apply List.ext_getElem?
    intro i
    by_cases hi : i < k.length
    · have := h i hi
      rw [List.getD, List.getD, List.getElem?_eq_getElem hi, List.getElem?_eq_getElem (by omega)] at this
      rw [List.getElem?_eq_getElem hi, List.getElem?_eq_getElem (by omega)]
      exact congrArg some this
    · rw [List.getElem?_eq_none (by omega), List.getElem?_eq_none (by omega)]
  · rintro rfl i _
    rfl

def F43 : FSem := ⟨true, fun args hin => match args, hin with
  | [.s (.xsl (.ints .u8 xs)), .s (.xsl (.ints .u8 ys))], [] => some (Tr.needs [decide (xs.length < 9223372036854775808), decide (ys.length < 9223372036854775808)] (.leaf (.s (.bool (decide (xs = ys))), [])))
  | _, _ => none⟩

theorem loops43 : LoopsOk Try.prog ⟨Try.f43.ntmps, 7, [(0, S43)]⟩ (bodyOf Try.f43) := by
  refine loopsOk_of ?_
  have e : loopsIn [(0, S43)] (bodyOf Try.f43) = [(0, .loop (lb 0 Try.f43), S43)] := by kernel_rfl
  simp only [e]
  intro x hx
  simp only [List.mem_cons, List.not_mem_nil, or_false] at hx
  rcases hx with rfl
  · exact lok43

set_option maxRecDepth 100000 in
theorem r43 (xs ys : List Nat) : runL Try.prog [] [] .nat 7 [(0, S43)] Try.f43 [.s (.xsl (.ints .u8 xs)), .s (.xsl (.ints .u8 ys))] [] =
    nd [decide (xs.length < 9223372036854775808), decide (ys.length < 9223372036854775808)]
     (cond (!decide (xs.length = ys.length)) (some (.s (.bool false), []))
      (nd [decide (xs.length < 9223372036854775808), decide (xs.length = xs.length), decide (xs.length < 9223372036854775808), decide (xs.length = ys.length)]
       (some (.s (.bool (decide (xorN xs ys xs.length = 0))), [])))) := by kernel_rfl

theorem ok43 : FOk Try.prog 43 F43 := by
  refine fokL (fs := []) (xs := []) (m := .nat) (fuel := 7) (sums := [(0, S43)]) EnvOk.nil fn43 loops43 ?_
  intro args hin t r h hg
  unfold F43 at h
  simp only at h
  split at h
  · rename_i xs ys
    simp only [Option.some.injEq] at h
    subst h
    obtain ⟨hc, hgt⟩ := Tr.needs_get hg
    cases hgt
    have h1 : xs.length < 9223372036854775808 := of_decide_eq_true (hc _ (by simp))
    have h2 : ys.length < 9223372036854775808 := of_decide_eq_true (hc (decide (ys.length < 9223372036854775808)) (by simp))
    rw [r43]
    refine nd_of ?_ ?_
    · simp only [List.mem_cons, List.not_mem_nil, or_false, forall_eq_or_imp, forall_eq, decide_eq_true_eq]
      exact ⟨h1, h2⟩
    · by_cases hl : xs.length = ys.length
      · refine cond_f (by rw [decide_eq_true hl]; rfl) (nd_of ?_ ?_)
        · simp only [List.mem_cons, List.not_mem_nil, or_false, forall_eq_or_imp, forall_eq, decide_eq_true_eq]
          exact ⟨h1, trivial, h1, hl⟩
        · rw [decide_eq_decide.2 ((xorN_zero xs ys xs.length).trans (list_getD hl))]
      · refine cond_t (by rw [decide_eq_false hl]; rfl) ?_
        rw [decide_eq_false (fun e => hl (by rw [e]))]
  · cases h

end Go.Proofs.Ytgebgjhjegadpaa

namespace Go.Proofs.Ytgebgjhjegadpaa
open Go

theorem fn8 : Fn Try.prog 8 Try.f8 := ⟨mixedP, Try.func8, by kernel_rfl, of_decide_eq_true (by kernel_rfl)⟩

set_option maxRecDepth 100000 in
theorem r8 (key xs : List Nat) : runB Try.prog [(24, F24), (25, F25), (26, F26)] [] .nat 3 Try.f8 [.agg [.ints .u8 32 key], .s (.xsl (.ints .u8 xs))] [] =
(nd [decide (xs.length < 9223372036854775808), decide (min xs.length 400 < 9223372036854775808), decide (min xs.length 400 ≤ xs.length), ok41 [List.take (min xs.length 400) xs], okKey key, okKey key, allB 256 (List.take (min xs.length 400) xs), decide ((List.take (min xs.length 400) xs).length < 4611686018427387904)]
 (some (AV.s (SV.bool (decide (tagC key [List.take (min xs.length 400) xs] = tagR key (List.take (min xs.length 400) xs)))), []))) := by kernel_rfl

theorem okKey_of {key : List Nat} (h : ∀ x ∈ key, x < 256) : okKey key = true := List.all_eq_true.2 fun x hx => decide_eq_true (h x hx)
theorem allB_mem {B : Nat} {xs : List Nat} (h : ∀ x ∈ xs, x < B) : allB B xs = true := List.all_eq_true.2 fun x hx => decide_eq_true (h x hx)

theorem ctr8 {key xs : List Nat} (hl : key.length = 32) (hk : ∀ x ∈ key, x < 256) (h : xs.length < 9223372036854775808) (hx : ∀ x ∈ xs, x < 256) : Ctr Try.prog 8 [.agg [.ints .u8 32 key], .s (.xsl (.ints .u8 xs))] [] (.s (.bool true)) [] := by
  refine ctrB (fs := [(24, F24), (25, F25), (26, F26)]) (xs := []) (m := .nat) (fuel := 3) (.cons ok24 (.cons ok25 (.cons ok26 .nil))) fn8 ?_
  have hy : (xs.take (min xs.length 400)).length ≤ 400 := by simp; omega
  have hb : allB 256 (xs.take (min xs.length 400)) = true := allB_mem fun x hm => hx x (List.mem_of_mem_take hm)
  rw [r8, tagC_one, tag_eq hl (okKey_of hk) hb]
  refine nd_of ?_ ?_
  · simp only [List.mem_cons, List.not_mem_nil, or_false, forall_eq_or_imp, forall_eq, decide_eq_true_eq]
    exact ⟨h, by omega, by omega, by simp only [ok41, List.all_cons, List.all_nil, Bool.and_true, decide_eq_true_eq]; omega, okKey_of hk, okKey_of hk, hb, by omega⟩
  · simp

end Go.Proofs.Ytgebgjhjegadpaa

namespace Go.Proofs.Ytgebgjhjegadpaa
open Go

theorem fn41 : Fn Try.prog 41 Try.f41 := ⟨mixed, Try.func41, by kernel_rfl, of_decide_eq_true (by kernel_rfl)⟩

def S41 : LSem := ⟨[17, 18, 19, 8], [8], fun args hin => match args, hin with
  | [.s (.xsl (.bss pss)), .s (.nat .i64 n), .s (.nat .i64 0), .s .nil], [] =>
    some (Tr.needs [decide (n = pss.length), decide (n < 9223372036854775808), decide (lenN pss pss.length ≤ 4398046511104)]
      (.br (decide (pss.length = 0)) (.leaf (.normal, [.s .nil], [])) (.leaf (.normal, [.s (.sl .whole 0 0 (lenN pss pss.length) 1)], [some [.ints .u8 (lenN pss pss.length) (catN pss pss.length)]]))))
  | _, _ => none⟩

set_option maxRecDepth 100000 in
theorem r41a (pss : List (List Nat)) (n : Nat) : runR Try.prog [] [] .nat 7 [] Try.f41 0 S41 0 [.s (.xsl (.bss pss)), .s (.nat .i64 n), .s (.nat .i64 0), .s .nil] [] =
    cond (decide (0 < n)) (nd [decide (0 < pss.length), decide (0 < pss.length), decide ((pss.getD 0 []).length ≤ 4398046511104)]
      (some (.normal, [.s (.xsl (.bss pss)), .s (.nat .i64 n), .s (.nat .i64 (0 + 1)), .s (.sl .whole 0 0 (pss.getD 0 []).length 1)], [some [.ints .u8 (pss.getD 0 []).length (pss.getD 0 [])]])))
      (some (.exit 0, [.s .nil], [])) := by kernel_rfl

set_option maxRecDepth 100000 in
theorem r41b (pss : List (List Nat)) (n j l : Nat) (xs : List Nat) : runR Try.prog [] [] .nat 7 [] Try.f41 0 S41 0 [.s (.xsl (.bss pss)), .s (.nat .i64 n), .s (.nat .i64 j), .s (.sl .whole 0 0 l 1)] [some [.ints .u8 l xs]] =
    cond (decide (j < n)) (nd [decide (j < pss.length), decide (j < pss.length), decide (l = l), decide (l + (pss.getD j []).length ≤ 4398046511104), decide (j + 1 < 9223372036854775808)]
      (some (.normal, [.s (.xsl (.bss pss)), .s (.nat .i64 n), .s (.nat .i64 (j + 1)), .s (.sl .whole 0 0 (l + (pss.getD j []).length) 1)], [some [.ints .u8 (l + (pss.getD j []).length) (xs ++ pss.getD j [])]])))
      (some (.exit 0, [.s (.sl .whole 0 0 l 1)], [some [.ints .u8 l xs]])) := by kernel_rfl

def A41 (pss : List (List Nat)) : Nat → List AV × List (Option Blk)
  | 0 => ([.s (.xsl (.bss pss)), .s (.nat .i64 pss.length), .s (.nat .i64 0), .s .nil], [])
  | i + 1 => ([.s (.xsl (.bss pss)), .s (.nat .i64 pss.length), .s (.nat .i64 (i + 1)), .s (.sl .whole 0 0 (lenN pss (i + 1)) 1)], [some [.ints .u8 (lenN pss (i + 1)) (catN pss (i + 1))]])

theorem lok41 : LOk Try.prog Try.f41.ntmps (.block 0 (.loop (lb 0 Try.f41))) S41 := by
  refine lokR (fs := []) (xs := []) (m := .nat) (fuel := 7) (sums := []) EnvOk.nil mixed (loopsOk_none rfl _) ?_
  intro args hin t e vs hout h hg
  unfold S41 at h
  simp only at h
  split at h
  rotate_left
  · cases h
  rename_i pss n
  simp only [Option.some.injEq] at h
  subst h
  obtain ⟨hc, hgt⟩ := Tr.needs_get hg
  clear hg
  have e1 : n = pss.length := of_decide_eq_true (hc _ (by simp))
  subst e1
  have hl : pss.length < 9223372036854775808 := of_decide_eq_true (hc (decide (pss.length < 9223372036854775808)) (by simp))
  have hk : lenN pss pss.length ≤ 4398046511104 := of_decide_eq_true (hc (decide (lenN pss pss.length ≤ 4398046511104)) (by simp))
  clear hc
  simp only [Tr.get] at hgt
  have hstep : ∀ i, i < pss.length → runR Try.prog [] [] .nat 7 [] Try.f41 0 S41 0 (A41 pss i).1 (A41 pss i).2 = some (.normal, A41 pss (i + 1)) := fun i hi => by
    have hm := lenN_mono' pss (show i + 1 ≤ pss.length by omega)
    rw [lenN] at hm
    cases i with
    | zero =>
      simp only [A41]
      rw [r41a]
      refine cond_t (decide_eq_true hi) (nd_of ?_ ?_)
      · simp only [lenN] at hm
        simp only [List.mem_cons, List.not_mem_nil, or_false, forall_eq_or_imp, forall_eq, decide_eq_true_eq]
        exact ⟨hi, hi, by omega⟩
      · simp only [lenN, catN, Nat.zero_add, List.nil_append]
    | succ i =>
      simp only [A41]
      rw [r41b]
      refine cond_t (decide_eq_true hi) (nd_of ?_ rfl)
      simp only [List.mem_cons, List.not_mem_nil, or_false, forall_eq_or_imp, forall_eq, decide_eq_true_eq]
      exact ⟨hi, hi, trivial, by omega, by omega⟩
  cases hz : decide (pss.length = 0) with
  | true =>
    have hz' := of_decide_eq_true hz
    rw [hz, cond_true] at hgt
    cases hgt
    refine ⟨pss.length, A41 pss, .exit 0, rfl, hstep, ?_, rfl⟩
    rw [hz']
    simp only [A41, List.length_nil]
    rw [r41a]
    exact cond_f (decide_eq_false (by omega)) rfl
  | false =>
    have hz' := of_decide_eq_false hz
    rw [hz, cond_false] at hgt
    cases hgt
    refine ⟨pss.length, A41 pss, .exit 0, rfl, hstep, ?_, rfl⟩
    obtain ⟨m, hm⟩ : ∃ m, pss.length = m + 1 := ⟨pss.length - 1, by omega⟩
    have e : ∀ q, q = m + 1 → A41 pss q = ([.s (.xsl (.bss pss)), .s (.nat .i64 pss.length), .s (.nat .i64 q), .s (.sl .whole 0 0 (lenN pss q) 1)], [some [.ints .u8 (lenN pss q) (catN pss q)]]) := by
      rintro q rfl
      rfl
    have := e _ hm
    simp only [List.length_nil]
    rw [this]
    show runR Try.prog [] [] .nat 7 [] Try.f41 0 S41 0 _ _ = _
    rw [r41b]
    exact cond_f (decide_eq_false (by omega)) rfl

theorem loops41 : LoopsOk Try.prog ⟨Try.f41.ntmps, 7, [(0, S41)]⟩ (bodyOf Try.f41) := by
  refine loopsOk_of ?_
  have e : loopsIn [(0, S41)] (bodyOf Try.f41) = [(0, .loop (lb 0 Try.f41), S41)] := by kernel_rfl
  simp only [e]
  intro x hx
  simp only [List.mem_cons, List.not_mem_nil, or_false] at hx
  rcases hx with rfl
  · exact lok41


def S41o (o : OpsA) : LSem := ⟨[17, 18, 19, 8], [8], fun args hin => match args, hin with
  | [.s (.xsl (.bss pss)), .s (.nat .i64 n), .s (.nat .i64 0), .s .nil], [] =>
    some (Tr.needs [decide (n = pss.length), decide (n < 9223372036854775808), decide (o.len pss pss.length ≤ 4398046511104)]
      (.br (decide (pss.length = 0)) (.leaf (.normal, [.s .nil], [])) (.leaf (.normal, [.s (.sl .whole 0 0 (o.len pss pss.length) 1)], [some [.ints .u8 (o.len pss pss.length) (o.cat pss pss.length)]]))))
  | _, _ => none⟩
theorem s41o_eq : S41o opsA = S41 := by kernel_rfl

set_option maxRecDepth 100000 in
theorem r41 (o : OpsA) (key nonce xs : List Nat) (pss : List (List Nat)) : runL Try.prog [(20, Z20 o), (25, Z25 o), (47, F47), (48, F48)] [] .nat 7 [(0, S41o o)] Try.f41 [.agg [.ints .u8 32 key, .ints .u8 12 nonce], .s (.xsl (.ints .u8 xs)), .s (.xsl (.bss pss))] [] =
(nd [decide (pss.length < 9223372036854775808), decide (pss.length = pss.length), decide (pss.length < 9223372036854775808), decide (o.len pss pss.length ≤ 4398046511104)]
 (cond (decide (pss.length = 0))
 (nd [decide (xs.length < 9223372036854775808), decide (xs.length < 9223372036854775808), decide (filN xs.length = filN xs.length), o.ok41 [[], List.replicate (filN 0) 0, xs, List.replicate (filN xs.length) 0, cnt8 0, cnt8 xs.length], o.okK (List.take 32 (o.blk key nonce 0))]
 (some (AV.agg [Ch.ints IntKind.u8 16 (o.tag (List.take 32 (o.blk key nonce 0)) [[], List.replicate (filN 0) 0, xs, List.replicate (filN xs.length) 0, cnt8 0, cnt8 xs.length])], [])))
 (nd [decide (o.len pss pss.length < 9223372036854775808), decide (xs.length < 9223372036854775808), decide (xs.length < 9223372036854775808), decide (o.len pss pss.length = o.len pss pss.length), decide (filN (o.len pss pss.length) = filN (o.len pss pss.length)), decide (filN xs.length = filN xs.length), o.ok41 [o.cat pss pss.length, List.replicate (filN (o.len pss pss.length)) 0, xs, List.replicate (filN xs.length) 0, cnt8 (o.len pss pss.length), cnt8 xs.length], o.okK (List.take 32 (o.blk key nonce 0))]
 (some (AV.agg [Ch.ints IntKind.u8 16 (o.tag (List.take 32 (o.blk key nonce 0)) [o.cat pss pss.length, List.replicate (filN (o.len pss pss.length)) 0, xs, List.replicate (filN xs.length) 0, cnt8 (o.len pss pss.length), cnt8 xs.length])], []))))) := by kernel_rfl

/-- The parts of which the sum is. -/
def macP (xs bd : List Nat) : List (List Nat) := [bd, List.replicate (filN bd.length) 0, xs, List.replicate (filN xs.length) 0, cnt8 bd.length, cnt8 xs.length]
def macT (key nonce xs bd : List Nat) : List Nat := tagC (List.take 32 (blk key nonce 0)) (macP xs bd)

theorem upto_mem {f : Nat → Nat} {B : Nat} (hf : ∀ i, f i < B) : ∀ n i, ∀ x ∈ upto f n i, x < B
  | 0, _, x, hx => by cases hx
  | n + 1, i, x, hx => by
    rcases List.mem_cons.1 hx with rfl | h
    · exact hf i
    · exact upto_mem hf n (i + 1) x h

theorem upto_len (f : Nat → Nat) : ∀ n i, (upto f n i).length = n
  | 0, _ => rfl
  | n + 1, i => by rw [upto, List.length_cons, upto_len f n (i + 1)]

theorem outB_mem (x s : List Nat) : ∀ y ∈ outB x s, y < 256 := upto_mem (fun i => Nat.mod_lt _ (by decide)) 64 0
theorem outB_len (x s : List Nat) : (outB x s).length = 64 := upto_len _ 64 0
theorem blk_mem (key nonce : List Nat) (n : Nat) : ∀ x ∈ blk key nonce n, x < 256 := outB_mem _ _
theorem blk_len (key nonce : List Nat) (n : Nat) : (blk key nonce n).length = 64 := outB_len _ _

theorem once_ok (key nonce : List Nat) : okKey (List.take 32 (blk key nonce 0)) = true := okKey_of fun x hx => blk_mem key nonce 0 x (List.mem_of_mem_take hx)
theorem once_len (key nonce : List Nat) : (List.take 32 (blk key nonce 0)).length = 32 := by rw [List.length_take, blk_len]; rfl

theorem macP_ok {xs bd : List Nat} (h1 : xs.length ≤ 2199023255552) (h2 : bd.length ≤ 2199023255552) : ok41 (macP xs bd) = true := by
  have f : ∀ n, filN n ≤ 2199023255552 := fun n => Nat.le_trans (Nat.le_of_lt (Nat.mod_lt _ (by decide))) (by decide : 16 ≤ 2199023255552)
  simp only [ok41, macP, List.all_cons, List.all_nil, Bool.and_true, Bool.and_eq_true, decide_eq_true_eq, List.length_replicate]
  exact ⟨h2, f _, h1, f _, show 8 ≤ 2199023255552 by decide, show 8 ≤ 2199023255552 by decide⟩

def F41 : FSem := ⟨true, fun args hin => match args, hin with
  | [.agg [.ints .u8 32 key, .ints .u8 12 nonce], .s (.xsl (.ints .u8 xs)), .s (.xsl (.bss pss))], [] =>
    some (Tr.needs [decide (pss.length < 9223372036854775808), decide (lenN pss pss.length ≤ 2199023255552), decide (xs.length ≤ 2199023255552)] (.leaf (.agg [.ints .u8 16 (macT key nonce xs (catN pss pss.length))], [])))
  | _, _ => none⟩

theorem ok41f : FOk Try.prog 41 F41 := by
  have hlo := loops41
  rw [← s41o_eq] at hlo
  refine fokL (fs := [(20, Z20 opsA), (25, Z25 opsA), (47, F47), (48, F48)]) (xs := []) (m := .nat) (fuel := 7) (sums := [(0, S41o opsA)]) (.cons aa20 (.cons aa25 (.cons ok47 (.cons ok48 .nil)))) fn41 hlo ?_
  intro args hin t r h hg
  unfold F41 at h
  simp only at h
  split at h
  · rename_i key nonce xs pss
    simp only [Option.some.injEq] at h
    subst h
    obtain ⟨hc, hgt⟩ := Tr.needs_get hg
    cases hgt
    simp only [List.mem_cons, List.not_mem_nil, or_false, forall_eq_or_imp, forall_eq, decide_eq_true_eq] at hc
    obtain ⟨h1, h2, h3⟩ := hc
    have hcl := catN_len pss pss.length
    have hm := macP_ok (xs := xs) (bd := catN pss pss.length) h3 (by rw [hcl]; exact h2)
    have hk := once_ok key nonce
    rw [r41, opsA_len, opsA_cat, opsA_tag, opsA_ok41, opsA_okK, opsA_blk]
    unfold macT
    unfold macP at hm ⊢
    rw [hcl] at hm ⊢
    refine nd_of ?_ ?_
    · simp only [List.mem_cons, List.not_mem_nil, or_false, forall_eq_or_imp, forall_eq, decide_eq_true_eq]
      exact ⟨h1, trivial, h1, by omega⟩
    · by_cases hz : pss.length = 0
      · have e0 : catN pss pss.length = [] := by rw [hz]; rfl
        have e1 : lenN pss pss.length = 0 := by rw [hz]; rfl
        rw [e0, e1] at hm ⊢
        refine cond_t (decide_eq_true hz) (nd_of ?_ rfl)
        simp only [List.mem_cons, List.not_mem_nil, or_false, forall_eq_or_imp, forall_eq, decide_eq_true_eq]
        exact ⟨by omega, by omega, trivial, hm, hk⟩
      · refine cond_f (decide_eq_false hz) (nd_of ?_ rfl)
        simp only [List.mem_cons, List.not_mem_nil, or_false, forall_eq_or_imp, forall_eq, decide_eq_true_eq]
        exact ⟨by omega, by omega, by omega, trivial, trivial, trivial, hm, hk⟩
  · cases h

/-- With the sum left open. -/
structure OpsB extends OpsA where
  mac : List Nat → List Nat → List Nat → List Nat → List Nat
  lon : List (List Nat) → Bool
def opsB : OpsB := { toOpsA := opsA, mac := macT, lon := lonB }
theorem opsB_ops : opsB.toOpsA = opsA := by kernel_rfl
theorem opsB_mac : opsB.mac = macT := by kernel_rfl
theorem opsB_lon : opsB.lon = lonB := by kernel_rfl

def Z40 (o : OpsB) : FSem := ⟨true, fun args hin => match args, hin with
  | [.s (.xsl (.bss pss))], [] => some (Tr.needs [decide (pss.length < 9223372036854775808), o.okL pss] (.leaf (.s (.bool (o.lon pss)), [])))
  | _, _ => none⟩
theorem zz40 : FOk Try.prog 40 (Z40 opsB) := by
  have e : Z40 opsB = F40 := by kernel_rfl
  rw [e]
  exact ok40

def Z41 (o : OpsB) : FSem := ⟨true, fun args hin => match args, hin with
  | [.agg [.ints .u8 32 key, .ints .u8 12 nonce], .s (.xsl (.ints .u8 xs)), .s (.xsl (.bss pss))], [] =>
    some (Tr.needs [decide (pss.length < 9223372036854775808), decide (o.len pss pss.length ≤ 2199023255552), decide (xs.length ≤ 2199023255552)] (.leaf (.agg [.ints .u8 16 (o.mac key nonce xs (o.cat pss pss.length))], [])))
  | _, _ => none⟩
theorem zz41 : FOk Try.prog 41 (Z41 opsB) := by
  have e : Z41 opsB = F41 := by kernel_rfl
  rw [e]
  exact ok41f

theorem zz22 : FOk Try.prog 22 (Z22 opsA) := by
  have e : Z22 opsA = F22 := by kernel_rfl
  rw [e]
  exact ok22

def Z43 (o : OpsA) : FSem := ⟨true, fun args hin => match args, hin with
  | [.s (.xsl (.ints .u8 xs)), .s (.xsl (.ints .u8 ys))], [] => some (Tr.needs [decide (xs.length < 9223372036854775808), decide (ys.length < 9223372036854775808)] (.leaf (.s (.bool (o.eq xs ys)), [])))
  | _, _ => none⟩
theorem zz43 : FOk Try.prog 43 (Z43 opsA) := by
  have e : Z43 opsA = F43 := by kernel_rfl
  rw [e]
  exact ok43

def envB (o : OpsB) : List (Nat × FSem) := [(40, Z40 o), (41, Z41 o), (22, Z22 o.toOpsA), (43, Z43 o.toOpsA), (20, Z20 o.toOpsA)]
theorem envB_ok : EnvOk ⟨Try.prog, envB opsB, []⟩ := .cons zz40 (.cons zz41 (.cons zz22 (.cons zz43 (.cons aa20 .nil))))

theorem fn28 : Fn Try.prog 28 Try.f28 := ⟨mixed, Try.func28, by kernel_rfl, of_decide_eq_true (by kernel_rfl)⟩
theorem fn30 : Fn Try.prog 30 Try.f30 := ⟨mixed, Try.func30, by kernel_rfl, of_decide_eq_true (by kernel_rfl)⟩

end Go.Proofs.Ytgebgjhjegadpaa

namespace Go.Proofs.Ytgebgjhjegadpaa
open Go

set_option maxRecDepth 100000 in
theorem r28 (o : OpsB) (key nonce xs : List Nat) (pss : List (List Nat)) : runB Try.prog (envB o) [] .nat 7 Try.f28 [.agg [.ints .u8 32 key, .ints .u8 12 nonce], .s (.xsl (.ints .u8 xs)), .s (.xsl (.bss pss))] [] =
(nd [decide (xs.length < 9223372036854775808)]
 (cond (decide (1048576 < xs.length))
 (some (AV.tup [AV.s SV.nil, AV.s (SV.nat IntKind.i64 2)], []))
 (nd [decide (pss.length < 9223372036854775808), o.okL pss]
 (cond (o.lon pss)
 (some (AV.tup [AV.s SV.nil, AV.s (SV.nat IntKind.i64 2)], []))
 (nd [o.okL [xs]]
 (cond (decide (o.len [xs] 1 ≤ 16777216))
 (nd [decide (o.len [xs] 1 = o.len [xs] 1), decide (pss.length < 9223372036854775808), decide (o.len pss pss.length ≤ 2199023255552), decide ((o.mix key nonce 1 (o.cat [xs] 1) (o.len [xs] 1)).length ≤ 2199023255552), decide (o.len [xs] 1 = o.len [xs] 1), decide (o.len [xs] 1 + 16 ≤ 4398046511104)]
 (some (AV.tup [AV.s (SV.sl LK.whole 0 0 (o.len [xs] 1 + 16) 1), AV.s (SV.nat IntKind.i64 0)], [some [Ch.ints IntKind.u8 (o.len [xs] 1 + 16) (o.mix key nonce 1 (o.cat [xs] 1) (o.len [xs] 1) ++ o.mac key nonce (o.mix key nonce 1 (o.cat [xs] 1) (o.len [xs] 1)) (o.cat pss pss.length))]])))
 (some (AV.tup [AV.s SV.nil, AV.s (SV.nat IntKind.i64 2)], [])))))))) := by kernel_rfl

set_option maxRecDepth 100000 in
theorem r30 (o : OpsB) (key nonce xs : List Nat) (pss : List (List Nat)) : runB Try.prog (envB o) [] .nat 7 Try.f30 [.agg [.ints .u8 32 key, .ints .u8 12 nonce], .s (.xsl (.ints .u8 xs)), .s (.xsl (.bss pss))] [] =
(nd [decide (xs.length < 9223372036854775808), decide (16 ≤ xs.length)]
 (cond (decide (1048576 < xs.length - 16))
 (some (AV.tup [AV.s SV.nil, AV.s (SV.nat IntKind.i64 2)], []))
 (nd [decide (pss.length < 9223372036854775808), o.okL pss]
 (cond (o.lon pss)
 (some (AV.tup [AV.s SV.nil, AV.s (SV.nat IntKind.i64 2)], []))
 (nd [decide (xs.length - 16 ≤ xs.length), decide (pss.length < 9223372036854775808), decide (o.len pss pss.length ≤ 2199023255552), decide ((List.take (xs.length - 16) xs).length ≤ 2199023255552), decide (xs.length - 16 ≤ xs.length), decide ((o.mac key nonce (List.take (xs.length - 16) xs) (o.cat pss pss.length)).length < 9223372036854775808), decide ((List.drop (xs.length - 16) xs).length < 9223372036854775808)]
 (cond (!o.eq (o.mac key nonce (List.take (xs.length - 16) xs) (o.cat pss pss.length)) (List.drop (xs.length - 16) xs))
 (some (AV.tup [AV.s SV.nil, AV.s (SV.nat IntKind.i64 100)], []))
 (nd [decide (xs.length - 16 ≤ xs.length), o.okL [List.take (xs.length - 16) xs]]
 (cond (decide (o.len [List.take (xs.length - 16) xs] 1 ≤ 16777216))
 (some (AV.tup [AV.s (SV.sl LK.whole 0 0 (o.len [List.take (xs.length - 16) xs] 1) 1), AV.s (SV.nat IntKind.i64 0)], [some [Ch.ints IntKind.u8 (o.len [List.take (xs.length - 16) xs] 1) (o.mix key nonce 1 (o.cat [List.take (xs.length - 16) xs] 1) (o.len [List.take (xs.length - 16) xs] 1))]]))
 (some (AV.tup [AV.s SV.nil, AV.s (SV.nat IntKind.i64 2)], [])))))))))) := by kernel_rfl

set_option maxRecDepth 100000 in
theorem r30i (o : OpsB) (key nonce xs : List Nat) (pss : List (List Nat)) : runB Try.prog (envB o) [] .int 7 Try.f30 [.agg [.ints .u8 32 key, .ints .u8 12 nonce], .s (.xsl (.ints .u8 xs)), .s (.xsl (.bss pss))] [] =
(nd [decide (xs.length < 9223372036854775808)]
 (cond (decide (Int.ofNat 1048576 < Int.ofNat xs.length - Int.ofNat 16))
 (some (AV.tup [AV.s SV.nil, AV.s (SV.nat IntKind.i64 2)], []))
 (nd [decide (pss.length < 9223372036854775808), o.okL pss]
 (cond (o.lon pss)
 (some (AV.tup [AV.s SV.nil, AV.s (SV.nat IntKind.i64 2)], []))
 (cond (decide (Int.ofNat xs.length - Int.ofNat 16 < Int.ofNat 0))
 (some (AV.tup [AV.s SV.nil, AV.s (SV.nat IntKind.i64 111)], []))
 (nd [decide (Int.ofNat 0 ≤ Int.ofNat xs.length - Int.ofNat 16), decide ((Int.ofNat xs.length - Int.ofNat 16).toNat ≤ xs.length), decide (pss.length < 9223372036854775808), decide (o.len pss pss.length ≤ 2199023255552), decide ((List.take (Int.ofNat xs.length - Int.ofNat 16).toNat xs).length ≤ 2199023255552), decide (Int.ofNat 0 ≤ Int.ofNat xs.length - Int.ofNat 16), decide ((Int.ofNat xs.length - Int.ofNat 16).toNat ≤ xs.length), decide ((o.mac key nonce (List.take (Int.ofNat xs.length - Int.ofNat 16).toNat xs) (o.cat pss pss.length)).length < 9223372036854775808), decide ((List.drop (Int.ofNat xs.length - Int.ofNat 16).toNat xs).length < 9223372036854775808)]
 (cond (!o.eq (o.mac key nonce (List.take (Int.ofNat xs.length - Int.ofNat 16).toNat xs) (o.cat pss pss.length)) (List.drop (Int.ofNat xs.length - Int.ofNat 16).toNat xs))
 (some (AV.tup [AV.s SV.nil, AV.s (SV.nat IntKind.i64 100)], []))
 (nd [decide (Int.ofNat 0 ≤ Int.ofNat xs.length - Int.ofNat 16), decide ((Int.ofNat xs.length - Int.ofNat 16).toNat ≤ xs.length), o.okL [List.take (Int.ofNat xs.length - Int.ofNat 16).toNat xs]]
 (cond (decide (o.len [List.take (Int.ofNat xs.length - Int.ofNat 16).toNat xs] 1 ≤ 16777216))
 (some (AV.tup [AV.s (SV.sl LK.whole 0 0 (o.len [List.take (Int.ofNat xs.length - Int.ofNat 16).toNat xs] 1) 1), AV.s (SV.nat IntKind.i64 0)], [some [Ch.ints IntKind.u8 (o.len [List.take (Int.ofNat xs.length - Int.ofNat 16).toNat xs] 1) (o.mix key nonce 1 (o.cat [List.take (Int.ofNat xs.length - Int.ofNat 16).toNat xs] 1) (o.len [List.take (Int.ofNat xs.length - Int.ofNat 16).toNat xs] 1))]]))
 (some (AV.tup [AV.s SV.nil, AV.s (SV.nat IntKind.i64 2)], []))))))))))) := by kernel_rfl

def mxT (key nonce xs : List Nat) : List Nat := mixC key nonce 1 xs xs.length
def slT (key nonce xs bd : List Nat) : List Nat := mxT key nonce xs ++ macT key nonce (mxT key nonce xs) bd

theorem mxT_len (key nonce xs : List Nat) : (mxT key nonce xs).length = xs.length := mixC_len _ _ _ _ _

theorem catN_1 (xs : List Nat) : catN [xs] 1 = xs := by simp [catN]
theorem lenN_1 (xs : List Nat) : lenN [xs] 1 = xs.length := by simp [lenN]

def F28 : FSem := ⟨true, fun args hin => match args, hin with
  | [.agg [.ints .u8 32 key, .ints .u8 12 nonce], .s (.xsl (.ints .u8 xs)), .s (.xsl (.bss pss))], [] =>
    some (Tr.needs [decide (xs.length < 9223372036854775808), decide (pss.length < 9223372036854775808), okLens pss]
      (.br (decide (1048576 < xs.length) || lonB pss) (.leaf (.tup [.s .nil, .s (.nat .i64 2)], []))
        (.leaf (.tup [.s (.sl .whole 0 0 (xs.length + 16) 1), .s (.nat .i64 0)], [some [.ints .u8 (xs.length + 16) (slT key nonce xs (catN pss pss.length))]]))))
  | _, _ => none⟩

theorem or_f {a b : Bool} (h : (a || b) = false) : a = false ∧ b = false := by
  cases a <;> cases b <;> simp_all

theorem lonB_f {pss : List (List Nat)} (h : lonB pss = false) : lenN pss pss.length ≤ 1048576 := by
  have := of_decide_eq_false h
  omega

theorem okL_1 {xs : List Nat} (h : xs.length < 9223372036854775808) : okLens [xs] = true := by
  simp only [okLens, List.all_cons, List.all_nil, Bool.and_true]
  exact decide_eq_true h

theorem ok28 : FOk Try.prog 28 F28 := by
  refine fokB (fs := envB opsB) (xs := []) (m := .nat) (fuel := 7) envB_ok fn28 ?_
  intro args hin t r h hg
  unfold F28 at h
  simp only at h
  split at h
  · rename_i key nonce xs pss
    simp only [Option.some.injEq] at h
    subst h
    obtain ⟨hc, hgt⟩ := Tr.needs_get hg
    simp only [List.mem_cons, List.not_mem_nil, or_false, forall_eq_or_imp, forall_eq, decide_eq_true_eq] at hc
    obtain ⟨h1, h2, h3⟩ := hc
    simp only [Tr.get] at hgt
    rw [r28, opsB_ops, opsB_mac, opsB_lon, opsA_okL, opsA_len, opsA_mix, opsA_cat, catN_1, lenN_1]
    have hx := okL_1 h1
    rw [show mixC key nonce 1 xs xs.length = mxT key nonce xs from rfl]
    have hml := mxT_len key nonce xs
    refine nd_of (by simpa using h1) ?_
    cases hb : (decide (1048576 < xs.length) || lonB pss) with
    | true =>
      rw [hb, cond_true] at hgt
      cases hgt
      by_cases hl : 1048576 < xs.length
      · exact cond_t (decide_eq_true hl) rfl
      · have hlon : lonB pss = true := by rwa [decide_eq_false hl, Bool.false_or] at hb
        refine cond_f (decide_eq_false hl) (nd_of ?_ (cond_t hlon rfl))
        simp only [List.mem_cons, List.not_mem_nil, or_false, forall_eq_or_imp, forall_eq, decide_eq_true_eq]
        exact ⟨h2, h3⟩
    | false =>
      rw [hb, cond_false] at hgt
      cases hgt
      obtain ⟨g1, g2⟩ := or_f hb
      have g1 := of_decide_eq_false g1
      have g3 := lonB_f g2
      refine cond_f (decide_eq_false g1) (nd_of ?_ (cond_f g2 (nd_of ?_ (cond_t (decide_eq_true (by omega)) (nd_of ?_ rfl)))))
      · simp only [List.mem_cons, List.not_mem_nil, or_false, forall_eq_or_imp, forall_eq, decide_eq_true_eq]
        exact ⟨h2, h3⟩
      · simpa using hx
      · simp only [List.mem_cons, List.not_mem_nil, or_false, forall_eq_or_imp, forall_eq, decide_eq_true_eq, hml]
        exact ⟨trivial, h2, by omega, by omega, trivial, by omega⟩
  · cases h

def opT (xs : List Nat) : List Nat := List.take (xs.length - 16) xs
def lsT (xs : List Nat) : List Nat := List.drop (xs.length - 16) xs

def F30 : FSem := ⟨true, fun args hin => match args, hin with
  | [.agg [.ints .u8 32 key, .ints .u8 12 nonce], .s (.xsl (.ints .u8 xs)), .s (.xsl (.bss pss))], [] =>
    some (Tr.needs [decide (xs.length < 9223372036854775808), decide (pss.length < 9223372036854775808), okLens pss]
      (.br (decide (1048592 < xs.length) || lonB pss) (.leaf (.tup [.s .nil, .s (.nat .i64 2)], []))
        (.br (decide (xs.length < 16)) (.leaf (.tup [.s .nil, .s (.nat .i64 111)], []))
          (.br (decide (macT key nonce (opT xs) (catN pss pss.length) = lsT xs))
            (.leaf (.tup [.s (.sl .whole 0 0 (xs.length - 16) 1), .s (.nat .i64 0)], [some [.ints .u8 (xs.length - 16) (mxT key nonce (opT xs))]]))
            (.leaf (.tup [.s .nil, .s (.nat .i64 100)], []))))))
  | _, _ => none⟩

theorem opT_len (xs : List Nat) : (opT xs).length = xs.length - 16 := by
  unfold opT
  rw [List.length_take]
  omega

theorem finL_len (x k : List Nat) : (finL x k).length = 16 := rfl
theorem macT_len (key nonce xs bd : List Nat) : (macT key nonce xs bd).length = 16 := finL_len _ _

theorem ok30 : FOk Try.prog 30 F30 := by
  refine ⟨⟨_, _, fn30.at_, fn30.body, fn30.name⟩, ?_⟩
  intro args hin t v hout h hg
  unfold F30 at h
  simp only at h
  split at h
  · rename_i key nonce xs pss
    simp only [Option.some.injEq] at h
    subst h
    obtain ⟨hc, hgt⟩ := Tr.needs_get hg
    simp only [List.mem_cons, List.not_mem_nil, or_false, forall_eq_or_imp, forall_eq, decide_eq_true_eq] at hc
    obtain ⟨h1, h2, h3⟩ := hc
    simp only [Tr.get] at hgt
    by_cases h16 : 16 ≤ xs.length
    · refine ctrB (fs := envB opsB) (xs := []) (m := .nat) (fuel := 7) envB_ok fn30 ?_
      rw [r30, opsB_ops, opsB_mac, opsB_lon, opsA_okL, opsA_len, opsA_mix, opsA_cat, opsA_eq, catN_1, lenN_1]
      rw [show List.take (xs.length - 16) xs = opT xs from rfl, show List.drop (xs.length - 16) xs = lsT xs from rfl, show mixC key nonce 1 (opT xs) (opT xs).length = mxT key nonce (opT xs) from rfl, opT_len, macT_len]
      have hls : (lsT xs).length = 16 := by
        unfold lsT
        rw [List.length_drop]
        omega
      rw [hls]
      have hx : okLens [opT xs] = true := okL_1 (by rw [opT_len]; omega)
      rw [hx]
      have hlt : ¬ xs.length < 16 := by omega
      refine nd_of (by simp only [List.mem_cons, List.not_mem_nil, or_false, forall_eq_or_imp, forall_eq, decide_eq_true_eq]; exact ⟨h1, h16⟩) ?_
      cases hb : (decide (1048592 < xs.length) || lonB pss) with
      | true =>
        rw [hb, cond_true] at hgt
        cases hgt
        by_cases hl : 1048576 < xs.length - 16
        · exact cond_t (decide_eq_true hl) rfl
        · have hlon : lonB pss = true := by rwa [decide_eq_false (by omega), Bool.false_or] at hb
          refine cond_f (decide_eq_false hl) (nd_of ?_ (cond_t hlon rfl))
          simp only [List.mem_cons, List.not_mem_nil, or_false, forall_eq_or_imp, forall_eq, decide_eq_true_eq]
          exact ⟨h2, h3⟩
      | false =>
        rw [hb, cond_false, decide_eq_false hlt, cond_false] at hgt
        obtain ⟨g1, g2⟩ := or_f hb
        have g1 := of_decide_eq_false g1
        have g3 := lonB_f g2
        refine cond_f (decide_eq_false (by omega)) (nd_of ?_ (cond_f g2 (nd_of ?_ ?_)))
        · simp only [List.mem_cons, List.not_mem_nil, or_false, forall_eq_or_imp, forall_eq, decide_eq_true_eq]
          exact ⟨h2, h3⟩
        · simp only [List.mem_cons, List.not_mem_nil, or_false, forall_eq_or_imp, forall_eq, decide_eq_true_eq]
          exact ⟨by omega, h2, by omega, by omega, by omega, by omega, by omega⟩
        · cases he : decide (macT key nonce (opT xs) (catN pss pss.length) = lsT xs) with
          | true =>
            rw [he, cond_true] at hgt
            cases hgt
            refine cond_f (by show (!decide (macT key nonce (opT xs) (catN pss pss.length) = lsT xs)) = false; rw [he]; rfl) (nd_of ?_ (cond_t (decide_eq_true (by omega)) rfl))
            simp only [List.mem_cons, List.not_mem_nil, or_false, forall_eq_or_imp, forall_eq, decide_eq_true_eq]
            exact ⟨by omega, trivial⟩
          | false =>
            rw [he, cond_false] at hgt
            cases hgt
            exact cond_t (by show (!decide (macT key nonce (opT xs) (catN pss pss.length) = lsT xs)) = true; rw [he]; rfl) rfl
    · refine ctrB (fs := envB opsB) (xs := []) (m := .int) (fuel := 7) envB_ok fn30 ?_
      rw [r30i, opsB_lon, opsB_ops, opsA_okL]
      rw [decide_eq_false (show ¬ 1048592 < xs.length by omega), Bool.false_or] at hgt
      refine nd_of (by simpa using h1) (cond_f (decide_eq_false (by simp only [Int.ofNat_eq_natCast]; omega)) (nd_of ?_ ?_))
      · simp only [List.mem_cons, List.not_mem_nil, or_false, forall_eq_or_imp, forall_eq, decide_eq_true_eq]
        exact ⟨h2, h3⟩
      · cases hl : lonB pss with
        | true =>
          rw [hl, cond_true] at hgt
          cases hgt
          exact cond_t rfl rfl
        | false =>
          rw [hl, cond_false, decide_eq_true (by omega), cond_true] at hgt
          cases hgt
          exact cond_f rfl (cond_t (decide_eq_true (by simp only [Int.ofNat_eq_natCast]; omega)) rfl)
  · cases h

end Go.Proofs.Ytgebgjhjegadpaa

namespace Go.Proofs.Ytgebgjhjegadpaa
open Go

structure OpsC where
  sl : List Nat → List Nat → List Nat → List Nat → List Nat
  mx : List Nat → List Nat → List Nat → List Nat
  mac : List Nat → List Nat → List Nat → List Nat → List Nat
  lg : List Nat → List (List Nat) → Bool
  lo : List Nat → List (List Nat) → Bool
  okL : List (List Nat) → Bool
  cat : List (List Nat) → Nat → List Nat
  op : List Nat → List Nat
  ls : List Nat → List Nat
  eq : List Nat → List Nat → Bool

def opsC : OpsC := ⟨slT, mxT, macT, fun xs pss => decide (1048576 < xs.length) || lonB pss, fun xs pss => decide (1048592 < xs.length) || lonB pss, okLens, catN, opT, lsT, fun a b => decide (a = b)⟩
theorem opsC_sl : opsC.sl = slT := by kernel_rfl
theorem opsC_mx : opsC.mx = mxT := by kernel_rfl
theorem opsC_mac : opsC.mac = macT := by kernel_rfl
theorem opsC_lg : opsC.lg = (fun xs pss => decide (1048576 < xs.length) || lonB pss) := by kernel_rfl
theorem opsC_lo : opsC.lo = (fun xs pss => decide (1048592 < xs.length) || lonB pss) := by kernel_rfl
theorem opsC_okL : opsC.okL = okLens := by kernel_rfl
theorem opsC_cat : opsC.cat = catN := by kernel_rfl
theorem opsC_op : opsC.op = opT := by kernel_rfl
theorem opsC_ls : opsC.ls = lsT := by kernel_rfl
theorem opsC_eq : opsC.eq = (fun a b => decide (a = b)) := by kernel_rfl

def Z28 (o : OpsC) : FSem := ⟨true, fun args hin => match args, hin with
  | [.agg [.ints .u8 32 key, .ints .u8 12 nonce], .s (.xsl (.ints .u8 xs)), .s (.xsl (.bss pss))], [] =>
    some (Tr.needs [decide (xs.length < 9223372036854775808), decide (pss.length < 9223372036854775808), o.okL pss]
      (.br (o.lg xs pss) (.leaf (.tup [.s .nil, .s (.nat .i64 2)], []))
        (.leaf (.tup [.s (.sl .whole 0 0 (xs.length + 16) 1), .s (.nat .i64 0)], [some [.ints .u8 (xs.length + 16) (o.sl key nonce xs (o.cat pss pss.length))]]))))
  | _, _ => none⟩
theorem zz28 : FOk Try.prog 28 (Z28 opsC) := by
  have e : Z28 opsC = F28 := by kernel_rfl
  rw [e]
  exact ok28

def Z30 (o : OpsC) : FSem := ⟨true, fun args hin => match args, hin with
  | [.agg [.ints .u8 32 key, .ints .u8 12 nonce], .s (.xsl (.ints .u8 xs)), .s (.xsl (.bss pss))], [] =>
    some (Tr.needs [decide (xs.length < 9223372036854775808), decide (pss.length < 9223372036854775808), o.okL pss]
      (.br (o.lo xs pss) (.leaf (.tup [.s .nil, .s (.nat .i64 2)], []))
        (.br (decide (xs.length < 16)) (.leaf (.tup [.s .nil, .s (.nat .i64 111)], []))
          (.br (o.eq (o.mac key nonce (o.op xs) (o.cat pss pss.length)) (o.ls xs))
            (.leaf (.tup [.s (.sl .whole 0 0 (xs.length - 16) 1), .s (.nat .i64 0)], [some [.ints .u8 (xs.length - 16) (o.mx key nonce (o.op xs))]]))
            (.leaf (.tup [.s .nil, .s (.nat .i64 100)], []))))))
  | _, _ => none⟩
theorem zz30 : FOk Try.prog 30 (Z30 opsC) := by
  have e : Z30 opsC = F30 := by kernel_rfl
  rw [e]
  exact ok30

def F27 : FSem := ⟨false, fun args hin => match args, hin with
  | [], [] => some (.leaf (.s (.bool true), []))
  | _, _ => none⟩

theorem fn27 : Fn Try.prog 27 Try.f27 := ⟨mixed, Try.func27, by kernel_rfl, of_decide_eq_true (by kernel_rfl)⟩
theorem fn15 : Fn Try.prog 15 Try.f15 := ⟨mixed, Try.func15, by kernel_rfl, of_decide_eq_true (by kernel_rfl)⟩
theorem fn16 : Fn Try.prog 16 Try.f16 := ⟨mixed, Try.func16, by kernel_rfl, of_decide_eq_true (by kernel_rfl)⟩
theorem fn17 : Fn Try.prog 17 Try.f17 := ⟨mixed, Try.func17, by kernel_rfl, of_decide_eq_true (by kernel_rfl)⟩

def envC (o : OpsC) : List (Nat × FSem) := [(27, F27), (28, Z28 o), (30, Z30 o)]

end Go.Proofs.Ytgebgjhjegadpaa

namespace Go.Proofs.Ytgebgjhjegadpaa
open Go

set_option maxRecDepth 1000000 in
theorem r27 : runB Try.prog [(28, Z28 opsC), (30, Z30 opsC)] [] .nat 7 Try.f27 [] [] = some (.s (.bool true), []) := by kernel_rfl

theorem ok27 : FOk Try.prog 27 F27 := by
  refine fokB (fs := [(28, Z28 opsC), (30, Z30 opsC)]) (xs := []) (m := .nat) (fuel := 7) (.cons zz28 (.cons zz30 .nil)) fn27 ?_
  intro args hin t r h hg
  unfold F27 at h
  simp only at h
  split at h
  · cases h; cases hg; exact r27
  · cases h

theorem envC_ok : EnvOk ⟨Try.prog, envC opsC, []⟩ := .cons ok27 (.cons zz28 (.cons zz30 .nil))

theorem slT_len (key nonce xs bd : List Nat) : (slT key nonce xs bd).length = xs.length + 16 := by
  rw [slT, List.length_append, mxT_len, macT_len]

theorem opT_slT (key nonce xs bd : List Nat) : opT (slT key nonce xs bd) = mxT key nonce xs := by
  unfold opT
  rw [slT_len, Nat.add_sub_cancel, slT, ← mxT_len key nonce xs, List.take_left' rfl]

theorem lsT_slT (key nonce xs bd : List Nat) : lsT (slT key nonce xs bd) = macT key nonce (mxT key nonce xs) bd := by
  unfold lsT
  rw [slT_len, Nat.add_sub_cancel, slT, ← mxT_len key nonce xs, List.drop_left' rfl]

theorem mx_mx (key nonce xs : List Nat) : mxT key nonce (mxT key nonce xs) = xs := by
  apply List.ext_getElem?
  intro i
  have hl := mxT_len key nonce xs
  have hl2 := mxT_len key nonce (mxT key nonce xs)
  by_cases hi : i < xs.length
  · have h1 := mixC_get key nonce 1 (mxT key nonce xs) (l := (mxT key nonce xs).length) (i := i) (by omega) (by omega)
    have h2 := mixC_get key nonce 1 xs (l := xs.length) (i := i) hi hi
    have h1' : (mxT key nonce (mxT key nonce xs)).getD i 0 = mixAt key nonce 1 (mxT key nonce xs) i := h1
    have h2' : (mxT key nonce xs).getD i 0 = mixAt key nonce 1 xs i := h2
    have h3 : (mxT key nonce (mxT key nonce xs)).getD i 0 = xs.getD i 0 := by
      rw [h1', mixAt, h2', mixAt, Nat.xor_assoc, Nat.xor_self, Nat.xor_zero]
    rw [List.getD, List.getD, List.getElem?_eq_getElem (by omega), List.getElem?_eq_getElem hi] at h3
    rw [List.getElem?_eq_getElem (by omega), List.getElem?_eq_getElem hi]
    exact congrArg some h3
  · rw [List.getElem?_eq_none (by omega), List.getElem?_eq_none (by omega)]

theorem lonB_small {pss : List (List Nat)} (h : lenN pss pss.length ≤ 1048576) : lonB pss = false := decide_eq_false (by omega)
theorem lg_small {xs : List Nat} {pss : List (List Nat)} (h1 : xs.length ≤ 1048576) (h2 : lenN pss pss.length ≤ 1048576) : opsC.lg xs pss = false := by
  rw [opsC_lg]
  show (decide (1048576 < xs.length) || lonB pss) = false
  rw [lonB_small h2, decide_eq_false (by omega)]
  rfl
theorem lo_small {xs : List Nat} {pss : List (List Nat)} (h1 : xs.length ≤ 1048592) (h2 : lenN pss pss.length ≤ 1048576) : opsC.lo xs pss = false := by
  rw [opsC_lo]
  show (decide (1048592 < xs.length) || lonB pss) = false
  rw [lonB_small h2, decide_eq_false (by omega)]
  rfl

theorem take_min (xs : List Nat) (n : Nat) : (List.take (min xs.length n) xs).length ≤ n := by
  rw [List.length_take]
  omega

theorem okL_of {pss : List (List Nat)} (h : ∀ p ∈ pss, p.length < 9223372036854775808) : okLens pss = true := List.all_eq_true.2 fun p hp => decide_eq_true (h p hp)

theorem eq_true' {a b : List Nat} (h : a = b) : opsC.eq a b = true := by
  rw [opsC_eq]
  exact decide_eq_true h

theorem len3 (a b c : List Nat) : lenN [a, b, c] 3 = a.length + b.length + c.length := by simp [lenN]
theorem cat3 (a b c : List Nat) : catN [a, b, c] 3 = a ++ b ++ c := by simp [catN]

end Go.Proofs.Ytgebgjhjegadpaa

namespace Go.Proofs.Ytgebgjhjegadpaa
open Go

theorem fn49 : Fn Try.prog 49 Try.f49 := ⟨mixed, Try.func49, by kernel_rfl, of_decide_eq_true (by kernel_rfl)⟩
theorem fn50 : Fn Try.prog 50 Try.f50 := ⟨mixed, Try.func50, by kernel_rfl, of_decide_eq_true (by kernel_rfl)⟩
theorem fn42 : Fn Try.prog 42 Try.f42 := ⟨mixed, Try.func42, by kernel_rfl, of_decide_eq_true (by kernel_rfl)⟩

def fil (s : List Nat) : List Nat := s ++ List.replicate (filN s.length) 0

def I49 : LSem := ⟨[0], [0], fun args hin => match args, hin with
  | [.s (.str s)], [] => some (.need (decide (s.length < 4611686018427387904)) (.leaf (.normal, [.s (.str (fil s))], [])))
  | _, _ => none⟩

set_option maxRecDepth 100000 in
theorem ri49 (s : List Nat) : runR Try.prog [] [] .nat 7 [] Try.f49 0 I49 0 [.s (.str s)] [] =
(nd [decide (s.length < 9223372036854775808)]
 (cond (!decide (s.length % 16 = 0))
 (nd [decide (s.length + 1 < 9223372036854775808)]
 (some (Ex.normal, [AV.s (SV.str (s ++ [0]))], [])))
 (some (Ex.exit 0, [AV.s (SV.str s)], [])))) := by kernel_rfl

theorem lok49 : LOk Try.prog Try.f49.ntmps (.block 0 (.loop (lb 0 Try.f49))) I49 := by
  refine lokR (fs := []) (xs := []) (m := .nat) (fuel := 7) (sums := []) EnvOk.nil mixed (loopsOk_none rfl _) ?_
  intro args hin t e vs hout h hg
  unfold I49 at h
  simp only at h
  split at h
  · rename_i s
    simp only [Option.some.injEq] at h
    subst h
    obtain ⟨hl, hg⟩ := Tr.need_get hg
    cases hg
    have hl := of_decide_eq_true hl
    have hf : filN s.length = (16 - s.length % 16) % 16 := rfl
    have hlen : ∀ k, (s ++ List.replicate k 0).length = s.length + k := fun k => by rw [List.length_append, List.length_replicate]
    refine ⟨filN s.length, fun k => ([.s (.str (s ++ List.replicate k 0))], []), .exit 0, by simp [someL], fun k hk => ?_, ?_, rfl⟩
    · simp only [List.length_nil]
      rw [ri49, hlen]
      have h1 : ¬ (s.length + k) % 16 = 0 := by omega
      refine nd_of ?_ (cond_t (by rw [decide_eq_false h1]; rfl) (nd_of ?_ ?_))
      · simp only [List.mem_cons, List.not_mem_nil, or_false, forall_eq, decide_eq_true_eq]; omega
      · simp only [List.mem_cons, List.not_mem_nil, or_false, forall_eq, decide_eq_true_eq]; omega
      · rw [List.append_assoc, show [0] = List.replicate 1 0 from rfl, List.replicate_append_replicate]
    · simp only [List.length_nil]
      rw [ri49, hlen]
      have h1 : (s.length + filN s.length) % 16 = 0 := by omega
      refine nd_of ?_ (cond_f (by rw [decide_eq_true h1]; rfl) rfl)
      simp only [List.mem_cons, List.not_mem_nil, or_false, forall_eq, decide_eq_true_eq]; omega
  · cases h

def F49 : FSem := ⟨false, fun args hin => match args, hin with
  | [.s (.str s)], [] => some (.need (decide (s.length < 4611686018427387904)) (.leaf (.s (.str (fil s)), [])))
  | _, _ => none⟩

theorem loops49 : LoopsOk Try.prog ⟨Try.f49.ntmps, 7, [(0, I49)]⟩ (bodyOf Try.f49) := by
  refine loopsOk_of ?_
  have e : loopsIn [(0, I49)] (bodyOf Try.f49) = [(0, .loop (lb 0 Try.f49), I49)] := by kernel_rfl
  simp only [e]
  intro x hx
  simp only [List.mem_cons, List.not_mem_nil, or_false] at hx
  rcases hx with rfl
  · exact lok49

set_option maxRecDepth 100000 in
theorem r49 (s : List Nat) : runL Try.prog [] [] .nat 7 [(0, I49)] Try.f49 [.s (.str s)] [] = nd [decide (s.length < 4611686018427387904)] (some (.s (.str (fil s)), [])) := by kernel_rfl

theorem ok49 : FOk Try.prog 49 F49 := by
  refine fokL (fs := []) (xs := []) (m := .nat) (fuel := 7) (sums := [(0, I49)]) EnvOk.nil fn49 loops49 ?_
  intro args hin t r h hg
  unfold F49 at h
  simp only at h
  split at h
  · cases h
    obtain ⟨hl, hg⟩ := Tr.need_get hg
    cases hg
    rw [r49, hl]
    rfl
  · cases h

def F50 : FSem := ⟨false, fun args hin => match args, hin with
  | [.s (.nat .i64 n)], [] => some (.need (decide (n < 4294967296)) (.leaf (.s (.str (cnt8 n)), [])))
  | _, _ => none⟩

set_option maxRecDepth 100000 in
theorem r50 (n : Nat) : runB Try.prog [] [] .nat 20 Try.f50 [.s (.nat .i64 n)] [] =
  (some (AV.s (SV.str [n % 256 % 256, n / 256 % 256 % 256, n / 256 / 256 % 256 % 256, n / 256 / 256 / 256 % 256 % 256, n / 256 / 256 / 256 / 256 % 256 % 256, n / 256 / 256 / 256 / 256 / 256 % 256 % 256, n / 256 / 256 / 256 / 256 / 256 / 256 % 256 % 256, n / 256 / 256 / 256 / 256 / 256 / 256 / 256 % 256 % 256]), [])) := by kernel_rfl

theorem ok50 : FOk Try.prog 50 F50 := by
  refine fokB (fs := []) (xs := []) (m := .nat) (fuel := 20) EnvOk.nil fn50 ?_
  intro args hin t r h hg
  unfold F50 at h
  simp only at h
  split at h
  · rename_i n
    cases h
    obtain ⟨hl, hg⟩ := Tr.need_get hg
    cases hg
    have hl := of_decide_eq_true hl
    rw [r50]
    unfold cnt8
    have e0 : n % 256 % 256 = n % 256 := by omega
    have e1 : n / 256 % 256 % 256 = n / 256 % 256 := by omega
    have e2 : n / 256 / 256 % 256 % 256 = n / 65536 % 256 := by omega
    have e3 : n / 256 / 256 / 256 % 256 % 256 = n / 16777216 % 256 := by omega
    have e4 : n / 256 / 256 / 256 / 256 = 0 := by omega
    rw [e0, e1, e2, e3, e4]
  · cases h

structure OpsT extends OpsR where
  tR : List Nat → List Nat → List Nat
  okK : List Nat → Bool
  aB : List Nat → Bool
  fil : List Nat → List Nat
def opsT : OpsT := { toOpsR := opsR, tR := tagR, okK := okKey, aB := allB 256, fil := fil }
theorem opsT_opsR : opsT.toOpsR = opsR := by kernel_rfl
theorem opsT_tR : opsT.tR = tagR := by kernel_rfl
theorem opsT_okK : opsT.okK = okKey := by kernel_rfl
theorem opsT_aB : opsT.aB = allB 256 := by kernel_rfl
theorem opsT_fil : opsT.fil = fil := by kernel_rfl

def Y26 (o : OpsT) : FSem := ⟨false, fun args hin => match args, hin with
  | [.agg [.ints .u8 32 key], .s (.str s)], [] => some (Tr.needs [o.okK key, o.aB s, decide (s.length < 4611686018427387904)] (.leaf (.agg [.ints .u8 16 (o.tR key s)], [])))
  | _, _ => none⟩
theorem yy26 : FOk Try.prog 26 (Y26 opsT) := by
  have e : Y26 opsT = F26 := by kernel_rfl
  rw [e]
  exact ok26

def Y49 (o : OpsT) : FSem := ⟨false, fun args hin => match args, hin with
  | [.s (.str s)], [] => some (.need (decide (s.length < 4611686018427387904)) (.leaf (.s (.str (o.fil s)), [])))
  | _, _ => none⟩
theorem yy49 : FOk Try.prog 49 (Y49 opsT) := by
  have e : Y49 opsT = F49 := by kernel_rfl
  rw [e]
  exact ok49

end Go.Proofs.Ytgebgjhjegadpaa

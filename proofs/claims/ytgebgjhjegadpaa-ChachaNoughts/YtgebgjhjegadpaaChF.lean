/-
  ChaCha: the code's blocks are the document's.
-/
import Derived.Test.YtgebgjhjegadpaaChE
namespace Go.Proofs.Ytgebgjhjegadpaa
open Go

def B32 (xs : List Nat) : Prop := ∀ x ∈ xs, x < 4294967296
def B8 (xs : List Nat) : Prop := ∀ x ∈ xs, x < 256

theorem getD_lt {xs : List Nat} {b : Nat} (hb : 0 < b) (h : ∀ x ∈ xs, x < b) (i : Nat) : xs.getD i 0 < b := by
  rw [List.getD]
  cases hi : xs[i]? with
  | none => exact hb
  | some x => exact h x (List.mem_of_getElem? hi)

theorem or_add {a b n : Nat} (h : b < 2 ^ n) : 2 ^ n * a ||| b = 2 ^ n * a + b := (Nat.two_pow_add_eq_or_of_lt h a).symm

theorem rl_eq {x n : Nat} (hx : x < 4294967296) (hn : okRot n = true) : rl64 x n = rl x n ∧ rl x n < 4294967296 := by
  rcases okRot_cases hn with rfl | rfl | rfl | rfl
  · have e : x * 2 ^ 16 % 4294967296 = 2 ^ 16 * (x % 65536) := by omega
    have hb : x / 2 ^ (32 - 16) < 2 ^ 16 := by omega
    have e0 : x * 2 ^ 16 % 18446744073709551616 = x * 2 ^ 16 := Nat.mod_eq_of_lt (by omega)
    unfold rl rl64
    rw [e0, e, or_add hb]
    omega
  · have e : x * 2 ^ 12 % 4294967296 = 2 ^ 12 * (x % 1048576) := by omega
    have hb : x / 2 ^ (32 - 12) < 2 ^ 12 := by omega
    have e0 : x * 2 ^ 12 % 18446744073709551616 = x * 2 ^ 12 := Nat.mod_eq_of_lt (by omega)
    unfold rl rl64
    rw [e0, e, or_add hb]
    omega
  · have e : x * 2 ^ 8 % 4294967296 = 2 ^ 8 * (x % 16777216) := by omega
    have hb : x / 2 ^ (32 - 8) < 2 ^ 8 := by omega
    have e0 : x * 2 ^ 8 % 18446744073709551616 = x * 2 ^ 8 := Nat.mod_eq_of_lt (by omega)
    unfold rl rl64
    rw [e0, e, or_add hb]
    omega
  · have e : x * 2 ^ 7 % 4294967296 = 2 ^ 7 * (x % 33554432) := by omega
    have hb : x / 2 ^ (32 - 7) < 2 ^ 7 := by omega
    have e0 : x * 2 ^ 7 % 18446744073709551616 = x * 2 ^ 7 := Nat.mod_eq_of_lt (by omega)
    unfold rl rl64
    rw [e0, e, or_add hb]
    omega

theorem B32.set {xs : List Nat} (h : B32 xs) (i : Nat) {v : Nat} (hv : v < 4294967296) : B32 (xs.set i v) := fun x hx => by
  rcases List.mem_or_eq_of_mem_set hx with h' | h'
  · exact h x h'
  · subst h'; exact hv

theorem mix1_eq {s : List Nat} (h : B32 s) (i j : Nat) : mix1r s i j = mix1 s i j ∧ B32 (mix1 s i j) := by
  have h1 := getD_lt (by omega) h i
  have h2 := getD_lt (by omega) h j
  unfold mix1r mix1
  generalize s.getD i 0 = u at *
  generalize s.getD j 0 = v at *
  refine ⟨by congr 1; omega, h.set i (by omega)⟩

theorem mix2_eq {s : List Nat} (h : B32 s) (i j : Nat) {n : Nat} (hn : okRot n = true) : mix2r s i j n = mix2 s i j n ∧ B32 (mix2 s i j n) := by
  have h1 := getD_lt (by omega) h i
  have h2 := getD_lt (by omega) h j
  have h3 : s.getD i 0 ^^^ s.getD j 0 < 4294967296 := Nat.xor_lt_two_pow (n := 32) h1 h2
  obtain ⟨h4, h5⟩ := rl_eq h3 hn
  exact ⟨by unfold mix2r mix2; rw [h4], h.set i h5⟩

theorem qr_eq {s : List Nat} (h : B32 s) (a b c d : Nat) : qrr s a b c d = qr s a b c d ∧ B32 (qr s a b c d) := by
  unfold qrr qr
  obtain ⟨e1, b1⟩ := mix1_eq h a b
  obtain ⟨e2, b2⟩ := mix2_eq b1 d a (n := 16) rfl
  obtain ⟨e3, b3⟩ := mix1_eq b2 c d
  obtain ⟨e4, b4⟩ := mix2_eq b3 b c (n := 12) rfl
  obtain ⟨e5, b5⟩ := mix1_eq b4 a b
  obtain ⟨e6, b6⟩ := mix2_eq b5 d a (n := 8) rfl
  obtain ⟨e7, b7⟩ := mix1_eq b6 c d
  obtain ⟨e8, b8⟩ := mix2_eq b7 b c (n := 7) rfl
  rw [e1, e2, e3, e4, e5, e6, e7, e8]
  exact ⟨rfl, b8⟩

theorem dr_eq {s : List Nat} (h : B32 s) : drr s = dr s ∧ B32 (dr s) := by
  unfold drr dr
  obtain ⟨e1, b1⟩ := qr_eq h 0 4 8 12
  obtain ⟨e2, b2⟩ := qr_eq b1 1 5 9 13
  obtain ⟨e3, b3⟩ := qr_eq b2 2 6 10 14
  obtain ⟨e4, b4⟩ := qr_eq b3 3 7 11 15
  obtain ⟨e5, b5⟩ := qr_eq b4 0 5 10 15
  obtain ⟨e6, b6⟩ := qr_eq b5 1 6 11 12
  obtain ⟨e7, b7⟩ := qr_eq b6 2 7 8 13
  obtain ⟨e8, b8⟩ := qr_eq b7 3 4 9 14
  rw [e1, e2, e3, e4, e5, e6, e7, e8]
  exact ⟨rfl, b8⟩

theorem rounds_eq {s : List Nat} (h : B32 s) : ∀ n, roundsR s n = rounds s n ∧ B32 (rounds s n)
  | 0 => ⟨rfl, h⟩
  | n + 1 => by
    obtain ⟨e1, b1⟩ := rounds_eq h n
    obtain ⟨e2, b2⟩ := dr_eq b1
    exact ⟨by rw [roundsR, rounds, e1, e2], b2⟩

set_option maxRecDepth 20000 in
theorem wd_eq {xs : List Nat} (h : B8 xs) (o : Nat) : wd xs o = wK xs o ∧ wd xs o < 4294967296 := by
  have h0 := getD_lt (by omega) h o
  have h1 := getD_lt (by omega) h (o + 1)
  have h2 := getD_lt (by omega) h (o + 2)
  have h3 := getD_lt (by omega) h (o + 3)
  unfold wd wK wR
  generalize xs.getD o 0 = b0 at *
  generalize xs.getD (o + 1) 0 = b1 at *
  generalize xs.getD (o + 2) 0 = b2 at *
  generalize xs.getD (o + 3) 0 = b3 at *
  have e1 : b1 * 2 ^ 8 % 4294967296 = 2 ^ 8 * b1 := by omega
  have e2 : b2 * 2 ^ 16 % 4294967296 = 2 ^ 16 * b2 := by omega
  have e3 : b3 * 2 ^ 24 % 4294967296 = 2 ^ 24 * b3 := (Nat.mod_eq_of_lt (Nat.lt_of_lt_of_le (Nat.mul_lt_mul_of_pos_right h3 (by decide)) (by decide))).trans (Nat.mul_comm _ _)
  rw [e1, e2, e3, Nat.or_comm b0, or_add (by omega), Nat.or_comm _ (2 ^ 16 * b2), or_add (by omega), Nat.or_comm _ (2 ^ 24 * b3), or_add (by omega)]
  omega

theorem st_eq {key nonce : List Nat} {n : Nat} (hk : B8 key) (hn : B8 nonce) (h : n < 4294967296) : stR key nonce n = st0 key nonce n ∧ B32 (st0 key nonce n) := by
  have hw : wR (n % 256 % 256) (n / 256 % 256 % 256) (n / 256 / 256 % 256 % 256) (n / 256 / 256 / 256 % 256 % 256) = n := by unfold wR; omega
  constructor
  · unfold stR st0
    rw [hw]
    simp only [(wd_eq hk _).1, (wd_eq hn _).1]
    rfl
  · intro x hx
    have hkk := fun o => (wd_eq hk o).2
    have hnn := fun o => (wd_eq hn o).2
    simp only [st0, List.mem_cons, List.not_mem_nil, or_false] at hx
    rcases hx with rfl | rfl | rfl | rfl | rfl | rfl | rfl | rfl | rfl | rfl | rfl | rfl | rfl | rfl | rfl | rfl <;> first | omega | exact hkk _ | exact hnn _

theorem out_eq {x s : List Nat} (hx : B32 x) (hs : B32 s) : outR x s = outB x s := by
  have key : ∀ i, outV ((x.getD i 0 + s.getD i 0) % 18446744073709551616 % 4294967296) [] =
      [(x.getD i 0 + s.getD i 0) % 4294967296 / 2 ^ (8 * 0) % 256, (x.getD i 0 + s.getD i 0) % 4294967296 / 2 ^ (8 * 1) % 256, (x.getD i 0 + s.getD i 0) % 4294967296 / 2 ^ (8 * 2) % 256, (x.getD i 0 + s.getD i 0) % 4294967296 / 2 ^ (8 * 3) % 256] := by
    intro i
    have h1 := getD_lt (by omega) hx i
    have h2 := getD_lt (by omega) hs i
    unfold outV
    generalize x.getD i 0 = u at *
    generalize s.getD i 0 = v at *
    have e : (u + v) % 18446744073709551616 % 4294967296 = (u + v) % 4294967296 := by omega
    rw [e]
    generalize (u + v) % 4294967296 = y at *
    congr 1
    · omega
    congr 1
    · omega
    congr 1
    · omega
    congr 1
    omega
  have app : ∀ v r, outV v r = outV v [] ++ r := fun v r => rfl
  unfold outR outB
  simp only [outs]
  rw [app _ (outV _ _)]
  repeat rw [key]
  have hrest : ∀ i r, outV ((x.getD i 0 + s.getD i 0) % 18446744073709551616 % 4294967296) r = [(x.getD i 0 + s.getD i 0) % 4294967296 / 2 ^ (8 * 0) % 256, (x.getD i 0 + s.getD i 0) % 4294967296 / 2 ^ (8 * 1) % 256, (x.getD i 0 + s.getD i 0) % 4294967296 / 2 ^ (8 * 2) % 256, (x.getD i 0 + s.getD i 0) % 4294967296 / 2 ^ (8 * 3) % 256] ++ r := fun i r => by rw [app, key]
  simp only [hrest]
  rfl

theorem blk_eq {key nonce : List Nat} {n : Nat} (hk : B8 key) (hn : B8 nonce) (h : n < 4294967296) : blkR key nonce n = blk key nonce n := by
  obtain ⟨e1, b1⟩ := st_eq hk hn h
  unfold blkR blk
  rw [e1]
  obtain ⟨e2, b2⟩ := rounds_eq b1 10
  rw [e2, out_eq b2 b1]

end Go.Proofs.Ytgebgjhjegadpaa

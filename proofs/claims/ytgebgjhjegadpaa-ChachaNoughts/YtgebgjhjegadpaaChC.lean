/-
  ChaCha: the code's blocks.
-/
import Derived.Test.YtgebgjhjegadpaaChB
namespace Go.Proofs.Ytgebgjhjegadpaa
open Go

def dr (s : List Nat) : List Nat :=
  qr (qr (qr (qr (qr (qr (qr (qr s 0 4 8 12) 1 5 9 13) 2 6 10 14) 3 7 11 15) 0 5 10 15) 1 6 11 12) 2 7 8 13) 3 4 9 14

def rounds (s : List Nat) : Nat → List Nat
  | 0 => s
  | n + 1 => dr (rounds s n)

def upto (f : Nat → Nat) : Nat → Nat → List Nat
  | 0, _ => []
  | n + 1, i => f i :: upto f n (i + 1)

def st0 (key nonce : List Nat) (n : Nat) : List Nat :=
  [1634760805, 857760878, 2036477234, 1797285236, wd key 0, wd key 4, wd key 8, wd key 12, wd key 16, wd key 20, wd key 24, wd key 28, n, wd nonce 0, wd nonce 4, wd nonce 8]

def outB (x s : List Nat) : List Nat := upto (fun i => (x.getD (i / 4) 0 + s.getD (i / 4) 0) % 4294967296 / 2 ^ (8 * (i % 4)) % 256) 64 0

def blk (key nonce : List Nat) (n : Nat) : List Nat := outB (rounds (st0 key nonce n) 10) (st0 key nonce n)

def F20 : FSem := ⟨false, fun args hin => match args, hin with
  | [.agg [.ints .u8 32 key], .agg [.ints .u8 12 nonce], .s (.nat .u32 n)], [] => some (.leaf (.agg [.ints .u8 64 (blk key nonce n)], []))
  | _, _ => none⟩

theorem fn20 : Fn Try.prog 20 Try.f20 := ⟨mixed, Try.func20, by kernel_rfl, of_decide_eq_true (by kernel_rfl)⟩

set_option maxRecDepth 100000 in
theorem r20 (key nonce : List Nat) (n : Nat) : runB Try.prog [(32, F32), (33, F33)] [] .nat 70 Try.f20 [.agg [.ints .u8 32 key], .agg [.ints .u8 12 nonce], .s (.nat .u32 n)] [] = some (.agg [.ints .u8 64 (blk key nonce n)], []) := by kernel_rfl

theorem ok20 : FOk Try.prog 20 F20 := by
  refine fokB (fs := [(32, F32), (33, F33)]) (xs := []) (m := .nat) (fuel := 70) (.cons ok32 (.cons ok33 .nil)) fn20 ?_
  intro args hin t r h hg
  unfold F20 at h
  simp only at h
  split at h
  · cases h; cases hg
    exact r20 _ _ _
  · cases h

end Go.Proofs.Ytgebgjhjegadpaa

/-
  ChaCha: the document's blocks.
-/
import Derived.Test.YtgebgjhjegadpaaChD
namespace Go.Proofs.Ytgebgjhjegadpaa
open Go

def drr (s : List Nat) : List Nat :=
  qrr (qrr (qrr (qrr (qrr (qrr (qrr (qrr s 0 4 8 12) 1 5 9 13) 2 6 10 14) 3 7 11 15) 0 5 10 15) 1 6 11 12) 2 7 8 13) 3 4 9 14

def roundsR (s : List Nat) : Nat → List Nat
  | 0 => s
  | n + 1 => drr (roundsR s n)

def wR (b0 b1 b2 b3 : Nat) : Nat :=
  (((b0 + 256 * b1 % 18446744073709551616) % 18446744073709551616 + 65536 * b2 % 18446744073709551616) % 18446744073709551616 + 16777216 * b3 % 18446744073709551616) % 18446744073709551616

def wK (xs : List Nat) (o : Nat) : Nat := wR (xs.getD o 0) (xs.getD (o + 1) 0) (xs.getD (o + 2) 0) (xs.getD (o + 3) 0)

def stR (key nonce : List Nat) (n : Nat) : List Nat :=
  [wR 101 120 112 97, wR 110 100 32 51, wR 50 45 98 121, wR 116 101 32 107, wK key 0, wK key 4, wK key 8, wK key 12, wK key 16, wK key 20, wK key 24, wK key 28,
    wR (n % 256 % 256) (n / 256 % 256 % 256) (n / 256 / 256 % 256 % 256) (n / 256 / 256 / 256 % 256 % 256), wK nonce 0, wK nonce 4, wK nonce 8]

def outV (v : Nat) (r : List Nat) : List Nat := v % 256 % 256 :: v / 256 % 256 % 256 :: v / 256 / 256 % 256 % 256 :: v / 256 / 256 / 256 % 256 % 256 :: r

def outs (x s : List Nat) : Nat → Nat → List Nat
  | 0, _ => []
  | n + 1, i => outV ((x.getD i 0 + s.getD i 0) % 18446744073709551616 % 4294967296) (outs x s n (i + 1))

def outR (x s : List Nat) : List Nat := outs x s 16 0

def blkR (key nonce : List Nat) (n : Nat) : List Nat := outR (roundsR (stR key nonce n) 10) (stR key nonce n)

def F21 : FSem := ⟨false, fun args hin => match args, hin with
  | [.agg [.ints .u8 32 key], .agg [.ints .u8 12 nonce], .s (.nat .u64 n)], [] => some (.leaf (.agg [.ints .u8 64 (blkR key nonce n)], []))
  | _, _ => none⟩

theorem fn21 : Fn Try.prog 21 Try.f21 := ⟨mixed, Try.func21, by kernel_rfl, of_decide_eq_true (by kernel_rfl)⟩

set_option maxRecDepth 100000 in
theorem r21 (key nonce : List Nat) (n : Nat) : runB Try.prog [(34, F34)] [] .nat 70 Try.f21 [.agg [.ints .u8 32 key], .agg [.ints .u8 12 nonce], .s (.nat .u64 n)] [] = some (.agg [.ints .u8 64 (blkR key nonce n)], []) := by kernel_rfl

theorem ok21 : FOk Try.prog 21 F21 := by
  refine fokB (fs := [(34, F34)]) (xs := []) (m := .nat) (fuel := 70) (.cons ok34 .nil) fn21 ?_
  intro args hin t r h hg
  unfold F21 at h
  simp only at h
  split at h
  · cases h; cases hg
    exact r21 _ _ _
  · cases h

end Go.Proofs.Ytgebgjhjegadpaa

/-
  ChaCha: the document's quarter rounds.
-/
import Derived.Test.YtgebgjhjegadpaaChC
namespace Go.Proofs.Ytgebgjhjegadpaa
open Go

def rl64 (x n : Nat) : Nat := (x * 2 ^ n % 18446744073709551616 % 4294967296 + x / 2 ^ (32 - n)) % 18446744073709551616

def mix1r (s : List Nat) (i j : Nat) : List Nat := s.set i ((s.getD i 0 + s.getD j 0) % 18446744073709551616 % 4294967296)
def mix2r (s : List Nat) (i j n : Nat) : List Nat := s.set i (rl64 (s.getD i 0 ^^^ s.getD j 0) n)

def qrr (s : List Nat) (a b c d : Nat) : List Nat :=
  mix2r (mix1r (mix2r (mix1r (mix2r (mix1r (mix2r (mix1r s a b) d a 16) c d) b c 12) a b) d a 8) c d) b c 7

def F45 : FSem := ⟨false, fun args hin => match args, hin with
  | [.s (.nat .u64 x), .s (.nat .i64 n)], [] => match okRot n with
    | true => some (.leaf (.s (.nat .u64 (rl64 x n)), []))
    | false => none
  | _, _ => none⟩

theorem fn45 : Fn Try.prog 45 Try.f45 := ⟨mixed, Try.func45, by kernel_rfl, of_decide_eq_true (by kernel_rfl)⟩
theorem fn34 : Fn Try.prog 34 Try.f34 := ⟨mixed, Try.func34, by kernel_rfl, of_decide_eq_true (by kernel_rfl)⟩

set_option maxRecDepth 100000 in
theorem r45_16 (x : Nat) : runB Try.prog [] [] .nat 20 Try.f45 [.s (.nat .u64 x), .s (.nat .i64 16)] [] = some (.s (.nat .u64 (rl64 x 16)), []) := by kernel_rfl
set_option maxRecDepth 100000 in
theorem r45_12 (x : Nat) : runB Try.prog [] [] .nat 20 Try.f45 [.s (.nat .u64 x), .s (.nat .i64 12)] [] = some (.s (.nat .u64 (rl64 x 12)), []) := by kernel_rfl
set_option maxRecDepth 100000 in
theorem r45_8 (x : Nat) : runB Try.prog [] [] .nat 20 Try.f45 [.s (.nat .u64 x), .s (.nat .i64 8)] [] = some (.s (.nat .u64 (rl64 x 8)), []) := by kernel_rfl
set_option maxRecDepth 100000 in
theorem r45_7 (x : Nat) : runB Try.prog [] [] .nat 20 Try.f45 [.s (.nat .u64 x), .s (.nat .i64 7)] [] = some (.s (.nat .u64 (rl64 x 7)), []) := by kernel_rfl

theorem ok45 : FOk Try.prog 45 F45 := by
  refine fokB (fs := []) (xs := []) (m := .nat) (fuel := 20) EnvOk.nil fn45 ?_
  intro args hin t r h hg
  unfold F45 at h
  simp only at h
  split at h
  · rename_i x n
    split at h
    · rename_i hn
      cases h; cases hg
      rcases okRot_cases hn with rfl | rfl | rfl | rfl
      · exact r45_16 x
      · exact r45_12 x
      · exact r45_8 x
      · exact r45_7 x
    · cases h
  · cases h

def F34 : FSem := ⟨false, fun args hin => match args, hin with
  | [.s (.sl .whole 0 0 16 1), .s (.nat .i64 a), .s (.nat .i64 b), .s (.nat .i64 c), .s (.nat .i64 d)], [[.ints .u64 16 xs]] => match okQ a b c d with
    | true => some (.leaf (.s (.sl .whole 1 0 16 1), [some [.ints .u64 16 xs], some [.ints .u64 16 (qrr xs a b c d)]]))
    | false => none
  | _, _ => none⟩

set_option maxRecDepth 100000 in
theorem q34_0 (xs : List Nat) : runB Try.prog [(45, F45)] [] .nat 3 Try.f34 [.s (.sl .whole 0 0 16 1), .s (.nat .i64 0), .s (.nat .i64 4), .s (.nat .i64 8), .s (.nat .i64 12)] [[.ints .u64 16 xs]] = some (.s (.sl .whole 1 0 16 1), [some [.ints .u64 16 xs], some [.ints .u64 16 (qrr xs 0 4 8 12)]]) := by kernel_rfl
set_option maxRecDepth 100000 in
theorem q34_1 (xs : List Nat) : runB Try.prog [(45, F45)] [] .nat 3 Try.f34 [.s (.sl .whole 0 0 16 1), .s (.nat .i64 1), .s (.nat .i64 5), .s (.nat .i64 9), .s (.nat .i64 13)] [[.ints .u64 16 xs]] = some (.s (.sl .whole 1 0 16 1), [some [.ints .u64 16 xs], some [.ints .u64 16 (qrr xs 1 5 9 13)]]) := by kernel_rfl
set_option maxRecDepth 100000 in
theorem q34_2 (xs : List Nat) : runB Try.prog [(45, F45)] [] .nat 3 Try.f34 [.s (.sl .whole 0 0 16 1), .s (.nat .i64 2), .s (.nat .i64 6), .s (.nat .i64 10), .s (.nat .i64 14)] [[.ints .u64 16 xs]] = some (.s (.sl .whole 1 0 16 1), [some [.ints .u64 16 xs], some [.ints .u64 16 (qrr xs 2 6 10 14)]]) := by kernel_rfl
set_option maxRecDepth 100000 in
theorem q34_3 (xs : List Nat) : runB Try.prog [(45, F45)] [] .nat 3 Try.f34 [.s (.sl .whole 0 0 16 1), .s (.nat .i64 3), .s (.nat .i64 7), .s (.nat .i64 11), .s (.nat .i64 15)] [[.ints .u64 16 xs]] = some (.s (.sl .whole 1 0 16 1), [some [.ints .u64 16 xs], some [.ints .u64 16 (qrr xs 3 7 11 15)]]) := by kernel_rfl
set_option maxRecDepth 100000 in
theorem q34_4 (xs : List Nat) : runB Try.prog [(45, F45)] [] .nat 3 Try.f34 [.s (.sl .whole 0 0 16 1), .s (.nat .i64 0), .s (.nat .i64 5), .s (.nat .i64 10), .s (.nat .i64 15)] [[.ints .u64 16 xs]] = some (.s (.sl .whole 1 0 16 1), [some [.ints .u64 16 xs], some [.ints .u64 16 (qrr xs 0 5 10 15)]]) := by kernel_rfl
set_option maxRecDepth 100000 in
theorem q34_5 (xs : List Nat) : runB Try.prog [(45, F45)] [] .nat 3 Try.f34 [.s (.sl .whole 0 0 16 1), .s (.nat .i64 1), .s (.nat .i64 6), .s (.nat .i64 11), .s (.nat .i64 12)] [[.ints .u64 16 xs]] = some (.s (.sl .whole 1 0 16 1), [some [.ints .u64 16 xs], some [.ints .u64 16 (qrr xs 1 6 11 12)]]) := by kernel_rfl
set_option maxRecDepth 100000 in
theorem q34_6 (xs : List Nat) : runB Try.prog [(45, F45)] [] .nat 3 Try.f34 [.s (.sl .whole 0 0 16 1), .s (.nat .i64 2), .s (.nat .i64 7), .s (.nat .i64 8), .s (.nat .i64 13)] [[.ints .u64 16 xs]] = some (.s (.sl .whole 1 0 16 1), [some [.ints .u64 16 xs], some [.ints .u64 16 (qrr xs 2 7 8 13)]]) := by kernel_rfl
set_option maxRecDepth 100000 in
theorem q34_7 (xs : List Nat) : runB Try.prog [(45, F45)] [] .nat 3 Try.f34 [.s (.sl .whole 0 0 16 1), .s (.nat .i64 3), .s (.nat .i64 4), .s (.nat .i64 9), .s (.nat .i64 14)] [[.ints .u64 16 xs]] = some (.s (.sl .whole 1 0 16 1), [some [.ints .u64 16 xs], some [.ints .u64 16 (qrr xs 3 4 9 14)]]) := by kernel_rfl

theorem ok34 : FOk Try.prog 34 F34 := by
  refine fokB (fs := [(45, F45)]) (xs := []) (m := .nat) (fuel := 3) (.cons ok45 .nil) fn34 ?_
  intro args hin t r h hg
  unfold F34 at h
  simp only at h
  split at h
  · rename_i a b c d xs
    split at h
    · rename_i hq
      cases h; cases hg
      have := okQ_cases hq
      simp only [List.mem_cons, Prod.mk.injEq, List.not_mem_nil, or_false] at this
      rcases this with ⟨rfl, rfl, rfl, rfl⟩ | ⟨rfl, rfl, rfl, rfl⟩ | ⟨rfl, rfl, rfl, rfl⟩ | ⟨rfl, rfl, rfl, rfl⟩ | ⟨rfl, rfl, rfl, rfl⟩ | ⟨rfl, rfl, rfl, rfl⟩ | ⟨rfl, rfl, rfl, rfl⟩ | ⟨rfl, rfl, rfl, rfl⟩
      · exact q34_0 xs
      · exact q34_1 xs
      · exact q34_2 xs
      · exact q34_3 xs
      · exact q34_4 xs
      · exact q34_5 xs
      · exact q34_6 xs
      · exact q34_7 xs
    · cases h
  · cases h

end Go.Proofs.Ytgebgjhjegadpaa

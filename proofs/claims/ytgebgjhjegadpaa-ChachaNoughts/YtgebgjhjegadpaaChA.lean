/-
  ChaCha: the words of the code and of the document: quarter rounds.
-/
import Derived.Test.YtgebgjhjegadpaaAcB
import Derived.Test.YtgebgjhjegadpaaRows
namespace Go.Proofs.Ytgebgjhjegadpaa
open Go

/-- Turned to the left by n. -/
def rl (x n : Nat) : Nat := x * 2 ^ n % 4294967296 ||| x / 2 ^ (32 - n)

def mix1 (s : List Nat) (i j : Nat) : List Nat := s.set i ((s.getD i 0 + s.getD j 0) % 4294967296)
def mix2 (s : List Nat) (i j n : Nat) : List Nat := s.set i (rl (s.getD i 0 ^^^ s.getD j 0) n)

def qr (s : List Nat) (a b c d : Nat) : List Nat :=
  mix2 (mix1 (mix2 (mix1 (mix2 (mix1 (mix2 (mix1 s a b) d a 16) c d) b c 12) a b) d a 8) c d) b c 7

def okRot (n : Nat) : Bool := Nat.beq n 16 || Nat.beq n 12 || Nat.beq n 8 || Nat.beq n 7

def okQ (a b c d : Nat) : Bool :=
  Nat.blt a 4 && (Nat.beq b (a + 4) && Nat.beq c (a + 8) && Nat.beq d (a + 12) || Nat.beq b ((a + 1) % 4 + 4) && Nat.beq c ((a + 2) % 4 + 8) && Nat.beq d ((a + 3) % 4 + 12))

def F44 : FSem := ⟨false, fun args hin => match args, hin with
  | [.s (.nat .u32 x), .s (.nat .i64 n)], [] => match okRot n with
    | true => some (.leaf (.s (.nat .u32 (rl x n)), []))
    | false => none
  | _, _ => none⟩

def F33 : FSem := ⟨false, fun args hin => match args, hin with
  | [.s (.ptr 0 0), .s (.nat .i64 a), .s (.nat .i64 b), .s (.nat .i64 c), .s (.nat .i64 d)], [[.ints .u32 16 xs]] => match okQ a b c d with
    | true => some (.leaf (.tup [], [some [.ints .u32 16 (qr xs a b c d)]]))
    | false => none
  | _, _ => none⟩

theorem mixed : Try.prog.follows .mixedOrders = true := by kernel_rfl
theorem fn44 : Fn Try.prog 44 Try.f44 := ⟨mixed, Try.func44, by kernel_rfl, of_decide_eq_true (by kernel_rfl)⟩
theorem fn33 : Fn Try.prog 33 Try.f33 := ⟨mixed, Try.func33, by kernel_rfl, of_decide_eq_true (by kernel_rfl)⟩

theorem okRot_cases {n : Nat} (h : okRot n = true) : n = 16 ∨ n = 12 ∨ n = 8 ∨ n = 7 := by
  simp only [okRot, Bool.or_eq_true, Nat.beq_eq] at h
  omega

set_option maxRecDepth 100000 in
theorem ok44 : FOk Try.prog 44 F44 := by
  refine fokB (fs := []) (xs := []) (m := .nat) (fuel := 1) EnvOk.nil fn44 ?_
  intro args hin t r h hg
  unfold F44 at h
  simp only at h
  split at h
  · rename_i x n
    split at h
    · rename_i hn
      cases h; cases hg
      rcases okRot_cases hn with rfl | rfl | rfl | rfl <;> kernel_rfl
    · cases h
  · cases h

theorem okQ_cases {a b c d : Nat} (h : okQ a b c d = true) : (a, b, c, d) ∈ [(0, 4, 8, 12), (1, 5, 9, 13), (2, 6, 10, 14), (3, 7, 11, 15), (0, 5, 10, 15), (1, 6, 11, 12), (2, 7, 8, 13), (3, 4, 9, 14)] := by
  simp only [okQ, Bool.and_eq_true, Bool.or_eq_true, Nat.beq_eq] at h
  obtain ⟨h1, h2⟩ := h
  have h1 : a < 4 := Nat.le_of_ble_eq_true h1
  rcases (by omega : a = 0 ∨ a = 1 ∨ a = 2 ∨ a = 3) with rfl | rfl | rfl | rfl <;> rcases h2 with ⟨⟨rfl, rfl⟩, rfl⟩ | ⟨⟨rfl, rfl⟩, rfl⟩ <;> decide

set_option maxRecDepth 100000 in
theorem q33_0 (xs : List Nat) : runB Try.prog [(44, F44)] [] .nat 3 Try.f33 [.s (.ptr 0 0), .s (.nat .i64 0), .s (.nat .i64 4), .s (.nat .i64 8), .s (.nat .i64 12)] [[.ints .u32 16 xs]] = some (.tup [], [some [.ints .u32 16 (qr xs 0 4 8 12)]]) := by kernel_rfl
set_option maxRecDepth 100000 in
theorem q33_1 (xs : List Nat) : runB Try.prog [(44, F44)] [] .nat 3 Try.f33 [.s (.ptr 0 0), .s (.nat .i64 1), .s (.nat .i64 5), .s (.nat .i64 9), .s (.nat .i64 13)] [[.ints .u32 16 xs]] = some (.tup [], [some [.ints .u32 16 (qr xs 1 5 9 13)]]) := by kernel_rfl
set_option maxRecDepth 100000 in
theorem q33_2 (xs : List Nat) : runB Try.prog [(44, F44)] [] .nat 3 Try.f33 [.s (.ptr 0 0), .s (.nat .i64 2), .s (.nat .i64 6), .s (.nat .i64 10), .s (.nat .i64 14)] [[.ints .u32 16 xs]] = some (.tup [], [some [.ints .u32 16 (qr xs 2 6 10 14)]]) := by kernel_rfl
set_option maxRecDepth 100000 in
theorem q33_3 (xs : List Nat) : runB Try.prog [(44, F44)] [] .nat 3 Try.f33 [.s (.ptr 0 0), .s (.nat .i64 3), .s (.nat .i64 7), .s (.nat .i64 11), .s (.nat .i64 15)] [[.ints .u32 16 xs]] = some (.tup [], [some [.ints .u32 16 (qr xs 3 7 11 15)]]) := by kernel_rfl
set_option maxRecDepth 100000 in
theorem q33_4 (xs : List Nat) : runB Try.prog [(44, F44)] [] .nat 3 Try.f33 [.s (.ptr 0 0), .s (.nat .i64 0), .s (.nat .i64 5), .s (.nat .i64 10), .s (.nat .i64 15)] [[.ints .u32 16 xs]] = some (.tup [], [some [.ints .u32 16 (qr xs 0 5 10 15)]]) := by kernel_rfl
set_option maxRecDepth 100000 in
theorem q33_5 (xs : List Nat) : runB Try.prog [(44, F44)] [] .nat 3 Try.f33 [.s (.ptr 0 0), .s (.nat .i64 1), .s (.nat .i64 6), .s (.nat .i64 11), .s (.nat .i64 12)] [[.ints .u32 16 xs]] = some (.tup [], [some [.ints .u32 16 (qr xs 1 6 11 12)]]) := by kernel_rfl
set_option maxRecDepth 100000 in
theorem q33_6 (xs : List Nat) : runB Try.prog [(44, F44)] [] .nat 3 Try.f33 [.s (.ptr 0 0), .s (.nat .i64 2), .s (.nat .i64 7), .s (.nat .i64 8), .s (.nat .i64 13)] [[.ints .u32 16 xs]] = some (.tup [], [some [.ints .u32 16 (qr xs 2 7 8 13)]]) := by kernel_rfl
set_option maxRecDepth 100000 in
theorem q33_7 (xs : List Nat) : runB Try.prog [(44, F44)] [] .nat 3 Try.f33 [.s (.ptr 0 0), .s (.nat .i64 3), .s (.nat .i64 4), .s (.nat .i64 9), .s (.nat .i64 14)] [[.ints .u32 16 xs]] = some (.tup [], [some [.ints .u32 16 (qr xs 3 4 9 14)]]) := by kernel_rfl

theorem ok33 : FOk Try.prog 33 F33 := by
  refine fokB (fs := [(44, F44)]) (xs := []) (m := .nat) (fuel := 3) (.cons ok44 .nil) fn33 ?_
  intro args hin t r h hg
  unfold F33 at h
  simp only at h
  split at h
  · rename_i a b c d xs
    split at h
    · rename_i hq
      cases h; cases hg
      have := okQ_cases hq
      simp only [List.mem_cons, Prod.mk.injEq, List.not_mem_nil, or_false] at this
      rcases this with ⟨rfl, rfl, rfl, rfl⟩ | ⟨rfl, rfl, rfl, rfl⟩ | ⟨rfl, rfl, rfl, rfl⟩ | ⟨rfl, rfl, rfl, rfl⟩ | ⟨rfl, rfl, rfl, rfl⟩ | ⟨rfl, rfl, rfl, rfl⟩ | ⟨rfl, rfl, rfl, rfl⟩ | ⟨rfl, rfl, rfl, rfl⟩
      · exact q33_0 xs
      · exact q33_1 xs
      · exact q33_2 xs
      · exact q33_3 xs
      · exact q33_4 xs
      · exact q33_5 xs
      · exact q33_6 xs
      · exact q33_7 xs
    · cases h
  · cases h

end Go.Proofs.Ytgebgjhjegadpaa

/-
  ChaCha: the code's mixing: the loop over the bytes.
-/
import Derived.Test.YtgebgjhjegadpaaChJ
namespace Go.Proofs.Ytgebgjhjegadpaa
open Go

/-- The block at hand and the bytes, j of them mixed. -/
def mcur (key nonce : List Nat) (c : Nat) (cur : List Nat) (j : Nat) : List Nat :=
  match decide (j % 64 = 0) with
  | true => blk key nonce ((c + j / 64 % 4294967296) % 4294967296)
  | false => cur

def mrun (key nonce : List Nat) (c : Nat) (cur xs : List Nat) : Nat → List Nat × List Nat
  | 0 => (cur, xs)
  | j + 1 => (mcur key nonce c (mrun key nonce c cur xs j).1 j, (mrun key nonce c cur xs j).2.set j ((mrun key nonce c cur xs j).2.getD j 0 ^^^ (mcur key nonce c (mrun key nonce c cur xs j).1 j).getD (j % 64) 0))

def S2 : LSem := ⟨[4, 5, 2, 13, 10, 32, 33], [10], fun args hin => match args, hin with
  | [.s (.ptr 0 0), .s (.ptr 1 0), .s (.nat .u32 c), .s (.ptr 2 0), .s (.sl .whole 3 0 l 1), .s (.nat .i64 n), .s (.nat .i64 0)], [[.ints .u8 32 key], [.ints .u8 12 nonce], [.ints .u8 64 cur], [.ints .u8 m xs]] =>
    some (Tr.needs [decide (n = l), decide (m = l), decide (l < 9223372036854775808)]
      (.leaf (.normal, [.s (.sl .whole 3 0 l 1)], [some [.ints .u8 32 key], some [.ints .u8 12 nonce], some [.ints .u8 64 (mrun key nonce c cur xs l).1], some [.ints .u8 l (mrun key nonce c cur xs l).2]])))
  | [.s (.ptr 0 0), .s (.ptr 1 0), .s (.nat .u32 _), .s (.ptr 2 0), .s .nil, .s (.nat .i64 0), .s (.nat .i64 0)], [[.ints .u8 32 key], [.ints .u8 12 nonce], [.ints .u8 64 cur]] =>
    some (.leaf (.normal, [.s .nil], [some [.ints .u8 32 key], some [.ints .u8 12 nonce], some [.ints .u8 64 cur]]))
  | _, _ => none⟩

set_option maxRecDepth 100000 in
theorem rB (key nonce cur xs : List Nat) (c n j l : Nat) : runR Try.prog [(20, F20)] [] .nat 3 [] Try.f22 2 S2 4 [.s (.ptr 0 0), .s (.ptr 1 0), .s (.nat .u32 c), .s (.ptr 2 0), .s (.sl .whole 3 0 l 1), .s (.nat .i64 n), .s (.nat .i64 j)] [some [.ints .u8 32 key], some [.ints .u8 12 nonce], some [.ints .u8 64 cur], some [.ints .u8 l xs]] =
    cond (decide (j < n)) (cond (decide (j % 64 = 0))
        (nd [decide (j < l), decide (j < l), decide (j % 64 < 64), decide (j % 64 < 64), decide (j < l), decide (j < l), decide (j + 1 < 9223372036854775808)]
          (some (.normal, [.s (.ptr 0 0), .s (.ptr 1 0), .s (.nat .u32 c), .s (.ptr 2 0), .s (.sl .whole 3 0 l 1), .s (.nat .i64 n), .s (.nat .i64 (j + 1))], [some [.ints .u8 32 key], some [.ints .u8 12 nonce], some [.ints .u8 64 (blk key nonce ((c + j / 64 % 4294967296) % 4294967296))],
            some [.ints .u8 l (xs.set j (xs.getD j 0 ^^^ (blk key nonce ((c + j / 64 % 4294967296) % 4294967296)).getD (j % 64) 0))]])))
        (nd [decide (j < l), decide (j < l), decide (j % 64 < 64), decide (j % 64 < 64), decide (j < l), decide (j < l), decide (j + 1 < 9223372036854775808)]
          (some (.normal, [.s (.ptr 0 0), .s (.ptr 1 0), .s (.nat .u32 c), .s (.ptr 2 0), .s (.sl .whole 3 0 l 1), .s (.nat .i64 n), .s (.nat .i64 (j + 1))], [some [.ints .u8 32 key], some [.ints .u8 12 nonce], some [.ints .u8 64 cur],
            some [.ints .u8 l (xs.set j (xs.getD j 0 ^^^ cur.getD (j % 64) 0))]]))))
      (some (.exit 2, [.s (.sl .whole 3 0 l 1)], [some [.ints .u8 32 key], some [.ints .u8 12 nonce], some [.ints .u8 64 cur], some [.ints .u8 l xs]])) := by kernel_rfl

set_option maxRecDepth 100000 in
theorem rB0 (key nonce cur : List Nat) (c : Nat) : runR Try.prog [(20, F20)] [] .nat 3 [] Try.f22 2 S2 3 [.s (.ptr 0 0), .s (.ptr 1 0), .s (.nat .u32 c), .s (.ptr 2 0), .s .nil, .s (.nat .i64 0), .s (.nat .i64 0)] [some [.ints .u8 32 key], some [.ints .u8 12 nonce], some [.ints .u8 64 cur]] =
    some (.exit 2, [.s .nil], [some [.ints .u8 32 key], some [.ints .u8 12 nonce], some [.ints .u8 64 cur]]) := by kernel_rfl

theorem nd7 {j l : Nat} (h : j < l) (hl : l < 9223372036854775808) {α : Type} (x : Option α) : nd [decide (j < l), decide (j < l), decide (j % 64 < 64), decide (j % 64 < 64), decide (j < l), decide (j < l), decide (j + 1 < 9223372036854775808)] x = x := by
  refine nd_true fun c hc => ?_
  simp only [List.mem_cons, List.not_mem_nil, or_false] at hc
  rcases hc with rfl | rfl | rfl | rfl | rfl | rfl | rfl <;> exact decide_eq_true (by omega)

def A22b (key nonce : List Nat) (c l : Nat) (cur xs : List Nat) (i : Nat) : List AV × List (Option Blk) :=
  ([.s (.ptr 0 0), .s (.ptr 1 0), .s (.nat .u32 c), .s (.ptr 2 0), .s (.sl .whole 3 0 l 1), .s (.nat .i64 l), .s (.nat .i64 i)],
    [some [.ints .u8 32 key], some [.ints .u8 12 nonce], some [.ints .u8 64 (mrun key nonce c cur xs i).1], some [.ints .u8 l (mrun key nonce c cur xs i).2]])

theorem lok2 : LOk Try.prog Try.f22.ntmps (.block 2 (.loop (lb 2 Try.f22))) S2 := by
  refine lokR (fs := [(20, F20)]) (xs := []) (m := .nat) (fuel := 3) (sums := []) (.cons ok20 .nil) mixed (loopsOk_none rfl _) ?_
  intro args hin t e vs hout h hg
  unfold S2 at h
  simp only at h
  split at h
  · rename_i c l n key nonce cur m xs
    simp only [Option.some.injEq] at h
    subst h
    obtain ⟨hc, hgt⟩ := Tr.needs_get hg
    clear hg
    have e1 : n = l := of_decide_eq_true (hc _ (by simp))
    have e2 : m = l := of_decide_eq_true (hc (decide (m = l)) (by simp))
    have hl : l < 9223372036854775808 := of_decide_eq_true (hc (decide (l < 9223372036854775808)) (by simp))
    clear hc
    subst e1; subst e2
    cases hgt
    refine ⟨m, A22b key nonce c m cur xs, .exit 2, rfl, fun i hi => ?_, ?_, rfl⟩
    · simp only [A22b, mrun, List.length_cons, List.length_nil]
      rw [rB, nd7 hi hl, nd7 hi hl, decide_eq_true hi, cond_true]
      unfold mcur
      cases decide (i % 64 = 0) <;> rfl
    · simp only [A22b, List.length_cons, List.length_nil]
      rw [rB, decide_eq_false (Nat.lt_irrefl _), cond_false]
  · rename_i c key nonce cur
    cases h
    cases hg
    exact ⟨0, fun _ => ([.s (.ptr 0 0), .s (.ptr 1 0), .s (.nat .u32 _), .s (.ptr 2 0), .s .nil, .s (.nat .i64 0), .s (.nat .i64 0)], [some [.ints .u8 32 key], some [.ints .u8 12 nonce], some [.ints .u8 64 cur]]), .exit 2, rfl, fun i hi => by omega, rB0 _ _ _ _, rfl⟩
  · cases h

end Go.Proofs.Ytgebgjhjegadpaa

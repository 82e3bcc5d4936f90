/-
  The law ChachaNoughts: noughts, mixed, are the blocks themselves.
-/
import Derived.Test.YtgebgjhjegadpaaChR
namespace Go.Proofs.Ytgebgjhjegadpaa
open Go

def streamAt (key nonce : List Nat) (c i : Nat) : Nat := (blk key nonce ((c + i / 64 % 4294967296) % 4294967296)).getD (i % 64) 0

def S7 : LSem := ⟨[7, 37, 38, 3, 4], [6], fun args hin => match args, hin with
  | [.s (.sl .whole 0 0 l 1), .s (.nat .i64 n), .s (.nat .i64 0), .s (.ptr 1 0), .s (.ptr 2 0)], [[.ints .u8 m xs], [.ints .u8 32 key], [.ints .u8 12 nonce]] =>
    some (Tr.needs [decide (n = l), decide (m = l), decide (l < 9223372036854775808), decide (∀ i, i < l → xs.getD i 0 = streamAt key nonce 5 i)]
      (.leaf (.normal, [.any], [some [.ints .u8 l xs], some [.ints .u8 32 key], some [.ints .u8 12 nonce]])))
  | _, _ => none⟩

set_option maxRecDepth 100000 in
theorem rS7 (key nonce xs : List Nat) (l n j : Nat) : runR Try.prog [(20, F20)] [] .nat 3 [] Try.f7 0 S7 3 [.s (.sl .whole 0 0 l 1), .s (.nat .i64 n), .s (.nat .i64 j), .s (.ptr 1 0), .s (.ptr 2 0)] [some [.ints .u8 l xs], some [.ints .u8 32 key], some [.ints .u8 12 nonce]] =
    cond (decide (j < n)) (nd [decide (j < l), decide (j < l), decide (j % 64 < 64), decide (j % 64 < 64)]
        (cond (!decide (xs.getD j 0 = streamAt key nonce 5 j)) (some (.ret, [.s (.bool false)], [some [.ints .u8 l xs], some [.ints .u8 32 key], some [.ints .u8 12 nonce]]))
          (nd [decide (j + 1 < 9223372036854775808)] (some (.normal, [.s (.sl .whole 0 0 l 1), .s (.nat .i64 n), .s (.nat .i64 (j + 1)), .s (.ptr 1 0), .s (.ptr 2 0)], [some [.ints .u8 l xs], some [.ints .u8 32 key], some [.ints .u8 12 nonce]])))))
      (some (.exit 0, [.any], [some [.ints .u8 l xs], some [.ints .u8 32 key], some [.ints .u8 12 nonce]])) := by kernel_rfl

def A7 (key nonce xs : List Nat) (l i : Nat) : List AV × List (Option Blk) :=
  ([.s (.sl .whole 0 0 l 1), .s (.nat .i64 l), .s (.nat .i64 i), .s (.ptr 1 0), .s (.ptr 2 0)], [some [.ints .u8 l xs], some [.ints .u8 32 key], some [.ints .u8 12 nonce]])

theorem lok7 : LOk Try.prog Try.f7.ntmps (.block 0 (.loop (lb 0 Try.f7))) S7 := by
  refine lokR (fs := [(20, F20)]) (xs := []) (m := .nat) (fuel := 3) (sums := []) (.cons ok20 .nil) mixed (loopsOk_none rfl _) ?_
  intro args hin t e vs hout h hg
  unfold S7 at h
  simp only at h
  split at h
  · rename_i l n m xs key nonce
    simp only [Option.some.injEq] at h
    subst h
    obtain ⟨hc, hgt⟩ := Tr.needs_get hg
    clear hg
    have e1 : n = l := of_decide_eq_true (hc _ (by simp))
    have e2 : m = l := of_decide_eq_true (hc (decide (m = l)) (by simp))
    have hl : l < 9223372036854775808 := of_decide_eq_true (hc (decide (l < 9223372036854775808)) (by simp))
    have hall : ∀ i, i < l → xs.getD i 0 = streamAt key nonce 5 i := of_decide_eq_true (hc (decide (∀ i, i < l → xs.getD i 0 = streamAt key nonce 5 i)) (by simp))
    clear hc
    subst e1; subst e2
    cases hgt
    refine ⟨m, A7 key nonce xs m, .exit 0, rfl, fun i hi => ?_, ?_, rfl⟩
    · simp only [A7, List.length_cons, List.length_nil]
      rw [rS7, nd_true, decide_eq_true hi, cond_true, decide_eq_true (hall i hi), Bool.not_true, cond_false, nd_true]
      · intro c hc
        simp only [List.mem_cons, List.not_mem_nil, or_false] at hc
        rw [hc]
        exact decide_eq_true (by omega)
      · intro c hc
        simp only [List.mem_cons, List.not_mem_nil, or_false] at hc
        rcases hc with h | h | h | h <;> rw [h] <;> exact decide_eq_true (by omega)
    · simp only [A7, List.length_cons, List.length_nil]
      rw [rS7, decide_eq_false (Nat.lt_irrefl _), cond_false]
  · cases h

theorem fn7 : Fn Try.prog 7 Try.f7 := ⟨mixed, Try.func7, by kernel_rfl, of_decide_eq_true (by kernel_rfl)⟩

theorem loops7 : LoopsOk Try.prog ⟨Try.f7.ntmps, 3, [(0, S7)]⟩ (bodyOf Try.f7) := by
  refine loopsOk_of ?_
  have e : loopsIn [(0, S7)] (bodyOf Try.f7) = [(0, .loop (lb 0 Try.f7), S7)] := by kernel_rfl
  simp only [e]
  intro x hx
  simp only [List.mem_cons, List.not_mem_nil, or_false] at hx
  subst hx
  exact lok7

end Go.Proofs.Ytgebgjhjegadpaa

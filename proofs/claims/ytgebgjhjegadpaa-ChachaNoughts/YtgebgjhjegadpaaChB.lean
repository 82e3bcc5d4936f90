/-
  ChaCha: the code's words and blocks.
-/
import Derived.Test.YtgebgjhjegadpaaChA
namespace Go.Proofs.Ytgebgjhjegadpaa
open Go

/-- Four bytes, the least first. -/
def wd (xs : List Nat) (o : Nat) : Nat :=
  ((xs.getD o 0 ||| xs.getD (o + 1) 0 * 2 ^ 8 % 4294967296) ||| xs.getD (o + 2) 0 * 2 ^ 16 % 4294967296) ||| xs.getD (o + 3) 0 * 2 ^ 24 % 4294967296

def okW (off len n : Nat) : Bool := Nat.ble 4 len && Nat.ble (off + 4) n

def F32 : FSem := ⟨false, fun args hin => match args, hin with
  | [.s (.sl _ 0 off len 1)], [[.ints .u8 n xs]] => match okW off len n with
    | true => some (.leaf (.s (.nat .u32 (wd xs off)), [some [.ints .u8 n xs]]))
    | false => none
  | _, _ => none⟩

theorem fn32 : Fn Try.prog 32 Try.f32 := ⟨mixed, Try.func32, by kernel_rfl, of_decide_eq_true (by kernel_rfl)⟩

def cs32 (off len n : Nat) : List Bool :=
  [decide (0 < len), decide (addOff off 0 < n), decide (1 < len), decide (addOff off 1 < n), decide (2 < len), decide (addOff off 2 < n), decide (3 < len), decide (addOff off 3 < n)]
def w32 (xs : List Nat) (off : Nat) : Nat :=
  ((xs.getD (addOff off 0) 0 ||| xs.getD (addOff off 1) 0 * 2 ^ 8 % 4294967296) ||| xs.getD (addOff off 2) 0 * 2 ^ 16 % 4294967296) ||| xs.getD (addOff off 3) 0 * 2 ^ 24 % 4294967296

set_option maxRecDepth 100000 in
theorem r32 (m : LK) (off len n : Nat) (xs : List Nat) : runB Try.prog [] [] .nat 1 Try.f32 [.s (.sl m 0 off len 1)] [[.ints .u8 n xs]] = nd (cs32 off len n) (some (.s (.nat .u32 (w32 xs off)), [some [.ints .u8 n xs]])) := by kernel_rfl

theorem ok32 : FOk Try.prog 32 F32 := by
  refine fokB (fs := []) (xs := []) (m := .nat) (fuel := 1) EnvOk.nil fn32 ?_
  intro args hin t r h hg
  unfold F32 at h
  simp only at h
  split at h
  · rename_i m off len n xs
    split at h
    · rename_i hq
      cases h; cases hg
      rw [r32, nd_true]
      · simp only [w32, wd, addOff_eq', Nat.add_zero]
      · simp only [okW, Bool.and_eq_true, Nat.ble_eq] at hq
        simp only [cs32, addOff_eq', List.mem_cons, List.not_mem_nil, or_false, forall_eq_or_imp, forall_eq, decide_eq_true_eq]
        omega
    · cases h
  · cases h

end Go.Proofs.Ytgebgjhjegadpaa

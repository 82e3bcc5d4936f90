/-
  ChaCha: the code's mixing: the parts put one behind the other.
-/
import Derived.Test.YtgebgjhjegadpaaChG
import Derived.Test.YtgebgjhjegadpaaAcC
namespace Go.Proofs.Ytgebgjhjegadpaa
open Go

/-- The first i parts, and how long they are. -/
def catN (pss : List (List Nat)) : Nat → List Nat
  | 0 => []
  | i + 1 => catN pss i ++ pss.getD i []

def lenN (pss : List (List Nat)) : Nat → Nat
  | 0 => 0
  | i + 1 => lenN pss i + (pss.getD i []).length

/-- How many parts go in, of which the sum is at most m. -/
def badAt (m : Nat) : List (List Nat) → Nat → Nat
  | [], _ => 0
  | p :: ps, l => match decide (m - l < p.length) with
    | true => 0
    | false => badAt m ps (l + p.length) + 1

theorem catN_len (pss : List (List Nat)) : ∀ i, (catN pss i).length = lenN pss i
  | 0 => rfl
  | i + 1 => by simp [catN, lenN, catN_len pss i]

theorem lenN_shift (p : List Nat) (ps : List (List Nat)) : ∀ i, lenN (p :: ps) (i + 1) = p.length + lenN ps i
  | 0 => by simp [lenN]
  | i + 1 => by
    rw [lenN, lenN_shift p ps i, lenN]
    simp; omega

theorem badAt_spec (m : Nat) : ∀ (ps : List (List Nat)) (l : Nat), l ≤ m → badAt m ps l ≤ ps.length ∧ l + lenN ps (badAt m ps l) ≤ m ∧ (badAt m ps l < ps.length → m - (l + lenN ps (badAt m ps l)) < (ps.getD (badAt m ps l) []).length) ∧
    ∀ i, i < badAt m ps l → ¬ (m - (l + lenN ps i) < (ps.getD i []).length)
  | [], l, h => by simp [badAt, lenN, h]
  | p :: ps, l, h => by
    unfold badAt
    split
    · rename_i hd
      have hd : m - l < p.length := of_decide_eq_true hd
      refine ⟨Nat.zero_le _, by simpa [lenN] using h, fun _ => by simpa [lenN] using hd, fun i hi => by omega⟩
    · rename_i hd
      have hd : ¬ m - l < p.length := of_decide_eq_false hd
      obtain ⟨h1, h2, h3, h4⟩ := badAt_spec m ps (l + p.length) (by omega)
      refine ⟨by simp; omega, by rw [lenN_shift]; omega, fun hlt => ?_, fun i hi => ?_⟩
      · rw [lenN_shift]
        have := h3 (by simp at hlt; omega)
        rw [List.getD_cons_succ]
        omega
      · cases i with
        | zero => simpa [lenN] using hd
        | succ i =>
          rw [lenN_shift, List.getD_cons_succ]
          have := h4 i (by omega)
          omega

theorem lenN_mono (ps : List (List Nat)) {i j : Nat} (h : i ≤ j) : lenN ps i ≤ lenN ps j := by
  induction j with
  | zero => have : i = 0 := by omega
            subst this; exact Nat.le_refl _
  | succ j ih =>
    rcases Nat.lt_or_ge i (j + 1) with h' | h'
    · exact Nat.le_trans (ih (by omega)) (by rw [lenN]; omega)
    · have : i = j + 1 := by omega
      subst this; exact Nat.le_refl _

/-- All go in just if their sum is at most m. -/
theorem badAt_all (m : Nat) (ps : List (List Nat)) : badAt m ps 0 = ps.length ↔ lenN ps ps.length ≤ m := by
  obtain ⟨h1, h2, h3, h4⟩ := badAt_spec m ps 0 (Nat.zero_le _)
  constructor
  · intro e; rw [e] at h2; omega
  · intro e
    rcases Nat.lt_or_ge (badAt m ps 0) ps.length with h | h
    · exfalso
      have := h3 h
      have := lenN_mono ps (show badAt m ps 0 + 1 ≤ ps.length by omega)
      rw [lenN] at this
      omega
    · omega

end Go.Proofs.Ytgebgjhjegadpaa

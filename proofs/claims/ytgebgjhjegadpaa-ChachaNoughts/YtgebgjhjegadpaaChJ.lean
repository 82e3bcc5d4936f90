/-
  ChaCha: the code's mixing: its two loops.
-/
import Derived.Test.YtgebgjhjegadpaaChI
namespace Go.Proofs.Ytgebgjhjegadpaa
open Go

def okLens (pss : List (List Nat)) : Bool := pss.all fun p => decide (p.length < 9223372036854775808)

def slN (pss : List (List Nat)) (i : Nat) : AV := .s (.sl .whole 0 0 (lenN pss i) 1)
def hsN (pss : List (List Nat)) (i : Nat) : List (Option Blk) := [some [.ints .u8 (lenN pss i) (catN pss i)]]

def S0 : LSem := ⟨[15, 16, 17, 10], [10, 8, 9], fun args hin => match args, hin with
  | [.s (.xsl (.bss pss)), .s (.nat .i64 n), .s (.nat .i64 0), .s .nil], [] =>
    some (Tr.needs [decide (n = pss.length), decide (n < 9223372036854775808), okLens pss]
      (.br (decide (badAt 16777216 pss 0 = pss.length))
        (.br (decide (pss.length = 0)) (.leaf (.normal, [.s .nil, .any, .any], [])) (.leaf (.normal, [.s (.sl .whole 0 0 (lenN pss pss.length) 1), .any, .any], [some [.ints .u8 (lenN pss pss.length) (catN pss pss.length)]])))
        (.br (decide (badAt 16777216 pss 0 = 0)) (.leaf (.ret, [.s .nil, .s .nil, .s (.nat .i64 2)], []))
          (.leaf (.ret, [.s (.sl .whole 0 0 (lenN pss (badAt 16777216 pss 0)) 1), .s .nil, .s (.nat .i64 2)], [some [.ints .u8 (lenN pss (badAt 16777216 pss 0)) (catN pss (badAt 16777216 pss 0))]])))))
  | _, _ => none⟩

set_option maxRecDepth 100000 in
theorem rA0 (pss : List (List Nat)) (n : Nat) : runR Try.prog [] [] .nat 3 [] Try.f22 0 S0 0 [.s (.xsl (.bss pss)), .s (.nat .i64 n), .s (.nat .i64 0), .s .nil] [] =
    cond (decide (0 < n)) (nd [decide (0 < pss.length), decide (0 < pss.length), decide ((pss.getD 0 []).length < 9223372036854775808)]
      (cond (decide (16777216 - 0 < (pss.getD 0 []).length)) (some (.ret, [.s .nil, .s .nil, .s (.nat .i64 2)], []))
        (nd [decide ((pss.getD 0 []).length ≤ 4398046511104)] (some (.normal, [.s (.xsl (.bss pss)), .s (.nat .i64 n), .s (.nat .i64 (0 + 1)), .s (.sl .whole 0 0 (pss.getD 0 []).length 1)], [some [.ints .u8 (pss.getD 0 []).length (pss.getD 0 [])]])))))
      (some (.exit 0, [.s .nil, .any, .any], [])) := by kernel_rfl

set_option maxRecDepth 100000 in
theorem rA (pss : List (List Nat)) (n j l : Nat) (xs : List Nat) : runR Try.prog [] [] .nat 3 [] Try.f22 0 S0 0 [.s (.xsl (.bss pss)), .s (.nat .i64 n), .s (.nat .i64 j), .s (.sl .whole 0 0 l 1)] [some [.ints .u8 l xs]] =
    cond (decide (j < n)) (nd [decide (j < pss.length), decide (j < pss.length), decide ((pss.getD j []).length < 9223372036854775808), decide (l < 9223372036854775808), decide (l ≤ 16777216)]
      (cond (decide (16777216 - l < (pss.getD j []).length)) (some (.ret, [.s (.sl .whole 0 0 l 1), .s .nil, .s (.nat .i64 2)], [some [.ints .u8 l xs]]))
        (nd [decide (l = l), decide (l + (pss.getD j []).length ≤ 4398046511104), decide (j + 1 < 9223372036854775808)]
          (some (.normal, [.s (.xsl (.bss pss)), .s (.nat .i64 n), .s (.nat .i64 (j + 1)), .s (.sl .whole 0 0 (l + (pss.getD j []).length) 1)], [some [.ints .u8 (l + (pss.getD j []).length) (xs ++ pss.getD j [])]])))))
      (some (.exit 0, [.s (.sl .whole 0 0 l 1), .any, .any], [some [.ints .u8 l xs]])) := by kernel_rfl

theorem okLens_get {pss : List (List Nat)} (h : okLens pss = true) (j : Nat) : (pss.getD j []).length < 9223372036854775808 := by
  rw [List.getD]
  cases hj : pss[j]? with
  | none => simp
  | some p =>
    have := List.all_eq_true.1 h p (List.mem_of_getElem? hj)
    simpa using this

def A22 (pss : List (List Nat)) : Nat → List AV × List (Option Blk)
  | 0 => ([.s (.xsl (.bss pss)), .s (.nat .i64 pss.length), .s (.nat .i64 0), .s .nil], [])
  | i + 1 => ([.s (.xsl (.bss pss)), .s (.nat .i64 pss.length), .s (.nat .i64 (i + 1)), slN pss (i + 1)], hsN pss (i + 1))

theorem stepA {pss : List (List Nat)} (hl : pss.length < 9223372036854775808) (hk : okLens pss = true) (i : Nat) (hi : i < badAt 16777216 pss 0) :
    runR Try.prog [] [] .nat 3 [] Try.f22 0 S0 0 (A22 pss i).1 (A22 pss i).2 = some (.normal, A22 pss (i + 1)) := by
  obtain ⟨h1, h2, h3, h4⟩ := badAt_spec 16777216 pss 0 (Nat.zero_le _)
  have h5 := h4 i hi
  have h6 := okLens_get hk i
  have h7 := lenN_mono pss (show i + 1 ≤ badAt 16777216 pss 0 by omega)
  rw [lenN] at h7
  cases i with
  | zero =>
    simp only [A22]
    rw [rA0, decide_eq_true (by omega : 0 < pss.length), cond_true, nd_true, decide_eq_false (by simp only [lenN] at h5; omega), cond_false, nd_true]
    · simp only [slN, hsN, lenN, catN, Nat.zero_add, List.nil_append]
    · intro c hc
      simp only [List.mem_cons, List.not_mem_nil, or_false] at hc
      subst hc
      simp only [lenN] at h5
      exact decide_eq_true (by omega)
    · intro c hc
      simp only [List.mem_cons, List.not_mem_nil, or_false] at hc
      rcases hc with rfl | rfl | rfl <;> first | rfl | exact decide_eq_true (by omega)
  | succ i =>
    simp only [A22, slN, hsN]
    rw [rA, decide_eq_true (by omega : i + 1 < pss.length), cond_true, nd_true, decide_eq_false (by omega : ¬ (16777216 - lenN pss (i + 1) < (pss.getD (i + 1) []).length)), cond_false, nd_true]
    · rfl
    · intro c hc
      simp only [List.mem_cons, List.not_mem_nil, or_false] at hc
      rcases hc with rfl | rfl | rfl <;> first | rfl | exact decide_eq_true (by omega)
    · intro c hc
      simp only [List.mem_cons, List.not_mem_nil, or_false] at hc
      rcases hc with rfl | rfl | rfl | rfl | rfl <;> first | rfl | exact decide_eq_true (by omega)

theorem lok0 : LOk Try.prog Try.f22.ntmps (.block 0 (.loop (lb 0 Try.f22))) S0 := by
  refine lokR (fs := []) (xs := []) (m := .nat) (fuel := 3) (sums := []) EnvOk.nil mixed (loopsOk_none rfl _) ?_
  intro args hin t e vs hout h hg
  unfold S0 at h
  simp only at h
  split at h
  rotate_left
  · cases h
  rename_i pss n
  simp only [Option.some.injEq] at h
  subst h
  obtain ⟨hc, hgt⟩ := Tr.needs_get hg
  clear hg
  have e1 : n = pss.length := of_decide_eq_true (hc _ (by simp))
  subst e1
  have hl : pss.length < 9223372036854775808 := of_decide_eq_true (hc (decide (pss.length < 9223372036854775808)) (by simp))
  have hk : okLens pss = true := hc _ (by simp)
  obtain ⟨h1, h2, h3, h4⟩ := badAt_spec 16777216 pss 0 (Nat.zero_le _)
  refine ⟨badAt 16777216 pss 0, A22 pss, ?_⟩
  simp only [List.length_nil]
  simp only [Tr.get] at hgt
  have hstep : ∀ i, i < badAt 16777216 pss 0 → runR Try.prog [] [] .nat 3 [] Try.f22 0 S0 0 (A22 pss i).1 (A22 pss i).2 = some (.normal, A22 pss (i + 1)) := fun i hi => stepA hl hk i hi
  have hlast : ∀ j, badAt 16777216 pss 0 = j + 1 → runR Try.prog [] [] .nat 3 [] Try.f22 0 S0 0 (A22 pss (badAt 16777216 pss 0)).1 (A22 pss (badAt 16777216 pss 0)).2 =
      cond (decide (badAt 16777216 pss 0 < pss.length)) (some (.ret, [slN pss (badAt 16777216 pss 0), .s .nil, .s (.nat .i64 2)], hsN pss (badAt 16777216 pss 0))) (some (.exit 0, [slN pss (badAt 16777216 pss 0), .any, .any], hsN pss (badAt 16777216 pss 0))) := by
    intro j hj
    rw [hj] at h1 h2 h3 ⊢
    simp only [A22, slN, hsN]
    rw [rA]
    by_cases hlt : j + 1 < pss.length
    · have h6 := okLens_get hk (j + 1)
      have h7 := h3 hlt
      rw [decide_eq_true hlt, cond_true, cond_true, nd_true, decide_eq_true (by omega : 16777216 - lenN pss (j + 1) < (pss.getD (j + 1) []).length), cond_true]
      intro c hc
      simp only [List.mem_cons, List.not_mem_nil, or_false] at hc
      rcases hc with rfl | rfl | rfl | rfl | rfl <;> first | rfl | exact decide_eq_true (by omega)
    · rw [decide_eq_false hlt, cond_false, cond_false]
  cases hb : decide (badAt 16777216 pss 0 = pss.length) with
  | true =>
    have hb := of_decide_eq_true hb
    rw [decide_eq_true hb, cond_true] at hgt
    cases hz : decide (pss.length = 0) with
    | true =>
      have hz' := of_decide_eq_true hz
      rw [hz, cond_true] at hgt
      cases hgt
      refine ⟨.exit 0, rfl, hstep, ?_, rfl⟩
      rw [hb, hz']
      simp only [A22]
      rw [rA0, decide_eq_false (by omega), cond_false]
    | false =>
      have hz' := of_decide_eq_false hz
      rw [hz, cond_false] at hgt
      cases hgt
      refine ⟨.exit 0, rfl, hstep, ?_, rfl⟩
      rw [hlast (pss.length - 1) (by omega), decide_eq_false (by omega), cond_false, hb]
      rfl
  | false =>
    have hb := of_decide_eq_false hb
    rw [decide_eq_false hb, cond_false] at hgt
    cases hz : decide (badAt 16777216 pss 0 = 0) with
    | true =>
      have hz' := of_decide_eq_true hz
      rw [hz, cond_true] at hgt
      cases hgt
      refine ⟨.ret, rfl, hstep, ?_, rfl⟩
      have h7 := h3 (by omega)
      rw [hz'] at h7 ⊢
      have h6 := okLens_get hk 0
      simp only [A22]
      simp only [lenN] at h7
      rw [rA0, decide_eq_true (by omega : 0 < pss.length), cond_true, nd_true, decide_eq_true (by omega : 16777216 - 0 < (pss.getD 0 []).length), cond_true]
      intro c hc
      simp only [List.mem_cons, List.not_mem_nil, or_false] at hc
      rcases hc with rfl | rfl | rfl <;> first | rfl | exact decide_eq_true (by omega)
    | false =>
      have hz' := of_decide_eq_false hz
      rw [hz, cond_false] at hgt
      cases hgt
      refine ⟨.ret, rfl, hstep, ?_, rfl⟩
      rw [hlast (badAt 16777216 pss 0 - 1) (by omega), decide_eq_true (by omega), cond_true]
      rfl

end Go.Proofs.Ytgebgjhjegadpaa

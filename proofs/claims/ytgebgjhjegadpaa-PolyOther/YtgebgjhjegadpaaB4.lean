/-
  Part 4 of what the last text stands on: The document's reduction modulo 2^130 - 5.
-/
import Derived.Test.YtgebgjhjegadpaaB3
import Derived.Test.YtgebgjhjegadpaaRows
import Derived.SizedLaws

set_option linter.unusedSimpArgs false
set_option linter.unusedVariables false

namespace Go.Proofs.Ytgebgjhjegadpaa
open Go

def itN (v : Nat) : Nat → Nat
  | 0 => v
  | i + 1 => nx (itN v i)

def redF : Nat → Nat → Nat
  | 0, v => v
  | k + 1, v => if v < 1361129467683753853853498429727072845824 then v else redF k (nx v)

def red (v : Nat) : Nat := redF 4 v

theorem itN_succ (v : Nat) : ∀ i, itN v (i + 1) = itN (nx v) i
  | 0 => rfl
  | i + 1 => by rw [itN, itN_succ v i, itN]

theorem redF_spec : ∀ (k v : Nat), (∃ n, n < k ∧ (∀ i, i < n → 1361129467683753853853498429727072845824 ≤ itN v i) ∧ itN v n < 1361129467683753853853498429727072845824 ∧ redF k v = itN v n) ∨ (∀ i, i < k → 1361129467683753853853498429727072845824 ≤ itN v i)
  | 0, v => .inr fun i h => by omega
  | k + 1, v => by
    by_cases hv : v < 1361129467683753853853498429727072845824
    · exact .inl ⟨0, by omega, fun i h => by omega, hv, by rw [redF, if_pos hv]; rfl⟩
    · rcases redF_spec k (nx v) with ⟨n, h1, h2, h3, h4⟩ | h
      · refine .inl ⟨n + 1, by omega, fun i hi => ?_, by rw [itN_succ]; exact h3, by rw [redF, if_neg hv, itN_succ]; exact h4⟩
        cases i with
        | zero => simp only [itN]; omega
        | succ i => rw [itN_succ]; exact h2 i (by omega)
      · refine .inr fun i hi => ?_
        cases i with
        | zero => simp only [itN]; omega
        | succ i => rw [itN_succ]; exact h i (by omega)

theorem red_spec {v : Nat} (hv : v < 256 ^ 40) : ∃ n, (∀ i, i < n → 1361129467683753853853498429727072845824 ≤ itN v i) ∧ itN v n < 1361129467683753853853498429727072845824 ∧ red v = itN v n := by
  rcases redF_spec 4 v with ⟨n, _, h2, h3, h4⟩ | h
  · exact ⟨n, h2, h3, h4⟩
  · exfalso
    have h0 := h 0 (by omega)
    have h1 := h 1 (by omega)
    have h2 := h 2 (by omega)
    have h3 := h 3 (by omega)
    simp only [itN, nx] at h0 h1 h2 h3
    have p : (256 : Nat) ^ 40 = 2135987035920910082395021706169552114602704522356652769947041607822219725780640550022962086936576 := by decide
    rw [p] at hv
    omega

theorem nx_lt {v : Nat} (hv : v < 256 ^ 40) : nx v < 256 ^ 40 := by
  unfold nx
  have p : (256 : Nat) ^ 40 = 2135987035920910082395021706169552114602704522356652769947041607822219725780640550022962086936576 := by decide
  rw [p] at *
  omega

theorem itN_lt {v : Nat} (hv : v < 256 ^ 40) : ∀ i, itN v i < 256 ^ 40
  | 0 => hv
  | i + 1 => nx_lt (itN_lt hv i)

def stN (xs : List Nat) : Nat → List Nat
  | 0 => xs
  | i + 1 => nextD (leN (stN xs i))

theorem stN_spec {xs : List Nat} (h40 : xs.length = 40) (hB : allB 36028797018963968 xs = true) (hv : leN xs < 256 ^ 40) : ∀ i, (stN xs i).length = 40 ∧ allB 36028797018963968 (stN xs i) = true ∧ leN (stN xs i) = itN (leN xs) i
  | 0 => ⟨h40, hB, rfl⟩
  | i + 1 => by
    obtain ⟨h1, h2, h3⟩ := stN_spec h40 hB hv i
    have hlt := itN_lt hv i
    rw [← h3] at hlt
    obtain ⟨g1, g2, g3, _, _⟩ := round_spec hlt
    refine ⟨g3, allB_of fun j => ?_, ?_⟩
    · show (nextD (leN (stN xs i))).getD j 0 < _
      have := g2 j; omega
    · show leN (nextD (leN (stN xs i))) = nx (itN (leN xs) i)
      rw [g1, h3]

def R0 : LSem := ⟨[0], [0], fun args hin => match args, hin with
  | [.s (.sl .whole 0 0 40 1)], [[.ints .i64 40 xs]] =>
    some (Tr.needs [decide (xs.length = 40), allB 36028797018963968 xs, decide (leN xs < 256 ^ 40)] (.leaf (.normal, [slw 0], [some [.ints .i64 40 (digs 40 (red (leN xs)))]])))
  | _, _ => none⟩

set_option maxRecDepth 100000 in
theorem rr0 (xs : List Nat) : runR Try.prog [] [] .nat 7 [(2, R2), (4, R4), (6, R6)] Try.f39 0 R0 1 [.s (.sl .whole 0 0 40 1)] [some [.ints .i64 40 xs]] =
(nd [decide (xs.length = 40), allB 36028797018963968 xs]
 (cond (!ovN (carN xs 39) 24)
 (some (Ex.exit 0, [AV.s (SV.sl LK.whole 0 0 40 1)], [some [Ch.ints IntKind.i64 40 (loN (carN xs 39) 24)]]))
 (nd [decide ((loN (carN xs 39) 24).length = 40), allB 36028797018963968 (loN (carN xs 39) 24), allB 36028797018963968 (hiN (carN xs 39) (List.replicate 40 0) 24)]
 (some (Ex.normal, [AV.s (SV.sl LK.whole 0 0 40 1)], [some [Ch.ints IntKind.i64 40 (dnN (loN (carN xs 39) 24) (hiN (carN xs 39) (List.replicate 40 0) 24) 24)]]))))) := by kernel_rfl

theorem loopsR0 : LoopsOk Try.prog ⟨Try.f39.ntmps, 7, [(2, R2), (4, R4), (6, R6)]⟩ (lb 0 Try.f39) := by
  refine loopsOk_of ?_
  have e : loopsIn [(2, R2), (4, R4), (6, R6)] (lb 0 Try.f39) = [(2, .loop (lb 2 Try.f39), R2), (4, .loop (lb 4 Try.f39), R4), (6, .loop (lb 6 Try.f39), R6)] := by kernel_rfl
  simp only [e]
  intro x hx
  simp only [List.mem_cons, List.not_mem_nil, or_false] at hx
  rcases hx with rfl | rfl | rfl
  · exact lokR2
  · exact lokR4
  · exact lokR6

theorem lowHigh_lt {v : Nat} : allB 36028797018963968 (lowD v) = true ∧ allB 36028797018963968 (highD v) = true ∧ (lowD v).length = 40 := by
  have h40 : (digs 40 v).length = 40 := digs_len 40 v
  have hd : ∀ i, (digs 40 v).getD i 0 < 256 := fun i => by rw [digs_get]; split <;> omega
  refine ⟨allB_of fun i => ?_, allB_of fun i => ?_, by rw [lowD, loN_len, h40]⟩
  · rw [lowD, loN_get h40 (by omega)]
    have := hd i
    split <;> omega
  · rw [highD, hiN_get (hs := zs40) h40 (List.length_replicate) (Nat.le_refl 24), zs40_get]
    have := hd i
    have := hx_le (digs 40 v) i
    split <;> omega

theorem lokR0 : LOk Try.prog Try.f39.ntmps (.block 0 (.loop (lb 0 Try.f39))) R0 := by
  refine lokR (fs := []) (xs := []) (m := .nat) (fuel := 7) (sums := [(2, R2), (4, R4), (6, R6)]) .nil mixedP loopsR0 ?_
  intro args hin t e vs hout h hg
  unfold R0 at h
  simp only at h
  split at h
  · rename_i xs
    simp only [Option.some.injEq] at h
    subst h
    obtain ⟨hc, hgt⟩ := Tr.needs_get hg
    clear hg
    have e1 : xs.length = 40 := of_decide_eq_true (hc _ (by simp))
    have e2 : allB 36028797018963968 xs = true := hc (allB 36028797018963968 xs) (by simp)
    have e3 : leN xs < 256 ^ 40 := of_decide_eq_true (hc (decide (leN xs < 256 ^ 40)) (by simp))
    clear hc
    obtain ⟨n, n1, n2, n3⟩ := red_spec e3
    rw [n3] at hgt
    cases hgt
    refine ⟨n, fun i => ([slw 0], [some [.ints .i64 40 (stN xs i)]]), .exit 0, rfl, fun i hi => ?_, ?_, rfl⟩
    · obtain ⟨g1, g2, g3⟩ := stN_spec e1 e2 e3 i
      have hlt := itN_lt e3 i
      rw [← g3] at hlt
      simp only [slw, List.length_cons, List.length_nil]
      rw [rr0, carN_digs (n := 39) g1 hlt]
      have hov := (round_spec hlt).2.2.2.1.2 (by rw [g3]; exact n1 i hi)
      rw [show 39 + 1 = 40 from rfl, hov]
      refine nd_of ?_ (cond_f rfl (nd_of ?_ rfl))
      · simp only [List.mem_cons, List.not_mem_nil, or_false, forall_eq_or_imp, forall_eq, decide_eq_true_eq]; exact ⟨g1, g2⟩
      · simp only [List.mem_cons, List.not_mem_nil, or_false, forall_eq_or_imp, forall_eq, decide_eq_true_eq]
        have := @lowHigh_lt (leN (stN xs i))
        exact ⟨this.2.2, this.1, this.2.1⟩
    · obtain ⟨g1, g2, g3⟩ := stN_spec e1 e2 e3 n
      have hlt := itN_lt e3 n
      rw [← g3] at hlt
      simp only [slw, List.length_cons, List.length_nil]
      rw [rr0, carN_digs (n := 39) g1 hlt]
      obtain ⟨_, _, _, h4, h5⟩ := round_spec hlt
      have hov : ovN (digs 40 (leN (stN xs n))) 24 = false := by
        rw [← Bool.not_eq_true, h4, g3]; omega
      have hlo := h5 (by rw [g3]; exact n2)
      unfold lowD at hlo
      rw [show 39 + 1 = 40 from rfl, hov, hlo, g3]
      refine nd_of ?_ (cond_t rfl rfl)
      simp only [List.mem_cons, List.not_mem_nil, or_false, forall_eq_or_imp, forall_eq, decide_eq_true_eq]; exact ⟨g1, g2⟩
  · cases h

theorem red_lt {v : Nat} (hv : v < 256 ^ 40) : red v < 1361129467683753853853498429727072845824 := by
  obtain ⟨n, _, n2, n3⟩ := red_spec hv
  rw [n3]; exact n2

theorem nx_mod (v : Nat) : nx v % 1361129467683753853853498429727072845819 = v % 1361129467683753853853498429727072845819 := by
  unfold nx; omega

theorem itN_mod (v : Nat) : ∀ i, itN v i % 1361129467683753853853498429727072845819 = v % 1361129467683753853853498429727072845819
  | 0 => rfl
  | i + 1 => by rw [itN, nx_mod, itN_mod v i]

theorem red_mod {v : Nat} (hv : v < 256 ^ 40) : red v % 1361129467683753853853498429727072845819 = v % 1361129467683753853853498429727072845819 := by
  obtain ⟨n, _, _, n3⟩ := red_spec hv
  rw [n3, itN_mod]

theorem leN8_iff (b : Bool) (xs : List Nat) : ∀ j, leN8 b xs j = true ↔ b = true ∧ ∀ i, i < j → xs.getD (1 + i) 0 = 255
  | 0 => by simp [leN8]
  | j + 1 => by
    have ih := leN8_iff b xs j
    rw [leN8]
    cases hb : leN8 b xs j with
    | true =>
      obtain ⟨h1, h2⟩ := ih.1 hb
      rw [cond_true, decide_eq_true_eq]
      constructor
      · intro h
        refine ⟨h1, fun i hi => ?_⟩
        by_cases e : i = j
        · rw [e]; exact h
        · exact h2 i (by omega)
      · exact fun h => h.2 j (by omega)
    | false =>
      rw [cond_false]
      refine ⟨fun h => (by cases h), fun h => ?_⟩
      have := ih.2 ⟨h.1, fun i hi => h.2 i (by omega)⟩
      rw [hb] at this; exact this

theorem least_iff {v : Nat} (hv : v < 1361129467683753853853498429727072845824) :
    ((digs 40 v).getD 16 0 = 3 ∧ leN8 (decide (251 ≤ (digs 40 v).getD 0 0)) (digs 40 v) 15 = true) ↔ 1361129467683753853853498429727072845819 ≤ v := by
  rw [leN8_iff, decide_eq_true_eq]
  have hall : (∀ i, i < 15 → (digs 40 v).getD (1 + i) 0 = 255) ↔ v / 256 % 256 ^ 15 = 256 ^ 15 - 1 := by
    constructor
    · intro h
      have e : digs 15 (v / 256) = List.replicate 15 255 := by
        apply List.ext_getElem (by rw [digs_len, List.length_replicate])
        intro i g1 g2
        have h1 := digs_get 15 (v / 256) i
        rw [List.getD, List.getElem?_eq_getElem g1, Option.getD_some, if_pos (by rw [digs_len] at g1; exact g1)] at h1
        have h2 := h i (by rw [digs_len] at g1; exact g1)
        rw [digs_get, if_pos (by rw [digs_len] at g1; omega), Nat.add_comm 1 i, Nat.pow_succ, Nat.mul_comm, ← Nat.div_div_eq_div_mul] at h2
        rw [h1, List.getElem_replicate, h2]
      have := leN_digs 15 (v / 256)
      rw [e] at this
      rw [← this]
      decide
    · intro h i hi
      rw [digs_get, if_pos (by omega), Nat.add_comm 1 i, Nat.pow_succ, Nat.mul_comm, ← Nat.div_div_eq_div_mul]
      have h1 := digs_get 15 (v / 256) i
      rw [if_pos hi] at h1
      rw [← h1]
      have h2 : digs 15 (v / 256) = digs 15 (v / 256 % 256 ^ 15) := by
        have g := digs_leN (digs_lt 15 (v / 256))
        rw [digs_len, leN_digs] at g
        exact g.symm
      rw [h2, h]
      have : i = 0 ∨ i = 1 ∨ i = 2 ∨ i = 3 ∨ i = 4 ∨ i = 5 ∨ i = 6 ∨ i = 7 ∨ i = 8 ∨ i = 9 ∨ i = 10 ∨ i = 11 ∨ i = 12 ∨ i = 13 ∨ i = 14 := by omega
      rcases this with rfl | rfl | rfl | rfl | rfl | rfl | rfl | rfl | rfl | rfl | rfl | rfl | rfl | rfl | rfl <;> decide
  rw [hall, digs_get, digs_get, if_pos (by omega), if_pos (by omega)]
  have p15 : (256 : Nat) ^ 15 = 1329227995784915872903807060280344576 := by decide
  have p16 : (256 : Nat) ^ 16 = 340282366920938463463374607431768211456 := by decide
  rw [p15, p16, Nat.pow_zero, Nat.div_one]
  omega

theorem digs_zero : ∀ n, digs n 0 = List.replicate n 0
  | 0 => rfl
  | n + 1 => by simp [digs, digs_zero n, List.replicate_succ]

theorem least_digs {v : Nat} (hv : v < 1361129467683753853853498429727072845824) (h : 1361129467683753853853498429727072845819 ≤ v) :
    (List.replicate 40 0).set 0 ((digs 40 v).getD 0 0 - 251) = digs 40 (v - 1361129467683753853853498429727072845819) ∧ 251 ≤ (digs 40 v).getD 0 0 := by
  have e : (digs 40 v).getD 0 0 = v % 256 := by rw [digs_get, if_pos (by omega), Nat.pow_zero, Nat.div_one]
  rw [e]
  refine ⟨?_, by omega⟩
  rw [show (40 : Nat) = 39 + 1 from rfl, List.replicate_succ, List.set_cons_zero, digs, show (v - 1361129467683753853853498429727072845819) / 256 = 0 by omega, digs_zero, show v % 256 - 251 = (v - 1361129467683753853853498429727072845819) % 256 by omega]

def canP (v : Nat) : Nat := if 1361129467683753853853498429727072845819 ≤ red v then red v - 1361129467683753853853498429727072845819 else red v

theorem canP_eq {v : Nat} (hv : v < 256 ^ 40) : canP v = v % 1361129467683753853853498429727072845819 := by
  have h1 := red_lt hv
  have h2 := red_mod hv
  unfold canP
  split <;> omega

def F39 : FSem := ⟨false, fun args hin => match args, hin with
  | [.s (.sl .whole 0 0 40 1)], [[.ints .i64 40 xs]] =>
    some (Tr.needs [decide (xs.length = 40), allB 36028797018963968 xs, decide (leN xs < 256 ^ 40)]
      (.br (decide (1361129467683753853853498429727072845819 ≤ red (leN xs))) (.leaf (slw 1, [some [.ints .i64 40 (digs 40 (red (leN xs)))], some [.ints .i64 40 (digs 40 (canP (leN xs)))]]))
        (.leaf (slw 0, [some [.ints .i64 40 (digs 40 (canP (leN xs)))]]))))
  | _, _ => none⟩

theorem fn39 : Fn Try.prog 39 Try.f39 := ⟨mixedP, Try.func39, by kernel_rfl, of_decide_eq_true (by kernel_rfl)⟩

theorem loops39 : LoopsOk Try.prog ⟨Try.f39.ntmps, 7, [(0, R0), (8, R8)]⟩ (bodyOf Try.f39) := by
  refine loopsOk_of ?_
  have e : loopsIn [(0, R0), (8, R8)] (bodyOf Try.f39) = [(0, .loop (lb 0 Try.f39), R0), (8, .loop (lb 8 Try.f39), R8)] := by kernel_rfl
  simp only [e]
  intro x hx
  simp only [List.mem_cons, List.not_mem_nil, or_false] at hx
  rcases hx with rfl | rfl
  · exact lokR0
  · exact lokR8

set_option maxRecDepth 100000 in
theorem r39 (xs : List Nat) : runL Try.prog [] [] .nat 7 [(0, R0), (8, R8)] Try.f39 [.s (.sl .whole 0 0 40 1)] [[.ints .i64 40 xs]] =
(nd [decide (xs.length = 40), allB 36028797018963968 xs, decide (leN xs < 256 ^ 40)]
(cond (decide ((digs 40 (red (leN xs))).getD 16 0 = 3))
 (cond (leN8 (decide (251 ≤ (digs 40 (red (leN xs))).getD 0 0)) (digs 40 (red (leN xs))) 15)
 (nd [decide (251 ≤ (digs 40 (red (leN xs))).getD 0 0)]
 (some (AV.s (SV.sl LK.whole 1 0 40 1), [some [Ch.ints IntKind.i64 40 (digs 40 (red (leN xs)))], some [Ch.ints IntKind.i64 40 ((List.replicate 40 0).set 0 ((digs 40 (red (leN xs))).getD 0 0 - 251))]])))
 (some (AV.s (SV.sl LK.whole 0 0 40 1), [some [Ch.ints IntKind.i64 40 (digs 40 (red (leN xs)))]])))
 (some (AV.s (SV.sl LK.whole 0 0 40 1), [some [Ch.ints IntKind.i64 40 (digs 40 (red (leN xs)))]])))) := by kernel_rfl

theorem ok39 : FOk Try.prog 39 F39 := by
  refine fokL (fs := []) (xs := []) (m := .nat) (fuel := 7) (sums := [(0, R0), (8, R8)]) .nil fn39 loops39 ?_
  intro args hin t r h hg
  unfold F39 at h
  simp only at h
  split at h
  · rename_i xs
    cases h
    obtain ⟨hc, hgt⟩ := Tr.needs_get hg
    clear hg
    have e1 : xs.length = 40 := of_decide_eq_true (hc _ (by simp))
    have e2 : allB 36028797018963968 xs = true := hc (allB 36028797018963968 xs) (by simp)
    have e3 : leN xs < 256 ^ 40 := of_decide_eq_true (hc (decide (leN xs < 256 ^ 40)) (by simp))
    clear hc
    have hv := red_lt e3
    have hi := least_iff hv
    rw [r39]
    refine nd_of ?_ ?_
    · simp only [List.mem_cons, List.not_mem_nil, or_false, forall_eq_or_imp, forall_eq, decide_eq_true_eq]; exact ⟨e1, e2, e3⟩
    simp only [Tr.get] at hgt
    unfold canP at hgt
    by_cases hp : 1361129467683753853853498429727072845819 ≤ red (leN xs)
    · rw [decide_eq_true hp, if_pos hp] at hgt
      cases hgt
      obtain ⟨g1, g2⟩ := hi.2 hp
      obtain ⟨k1, k2⟩ := least_digs hv hp
      rw [k1]
      refine cond_t (decide_eq_true g1) (cond_t g2 (nd_of ?_ rfl))
      simp only [List.mem_cons, List.not_mem_nil, or_false, forall_eq, decide_eq_true_eq]
      exact k2
    · rw [decide_eq_false hp, if_neg hp] at hgt
      cases hgt
      by_cases h16 : (digs 40 (red (leN xs))).getD 16 0 = 3
      · refine cond_t (decide_eq_true h16) (cond_f ?_ rfl)
        rw [← Bool.not_eq_true]
        exact fun h => hp (hi.1 ⟨h16, h⟩)
      · exact cond_f (decide_eq_false h16) rfl
  · cases h

end Go.Proofs.Ytgebgjhjegadpaa

namespace Go.Proofs.Ytgebgjhjegadpaa
open Go

def adN (s a : List Nat) (l : Nat) : Nat → List Nat
  | 0 => a
  | n + 1 => (adN s a l n).set n ((adN s a l n).getD n 0 + s.getD (l + n) 0)

def mkN (a r : List Nat) (i : Nat) (d : List Nat) : Nat → List Nat
  | 0 => d
  | k + 1 => (mkN a r i d k).set (i + k) ((mkN a r i d k).getD (i + k) 0 + a.getD i 0 * r.getD k 0)

def miN (a r d : List Nat) : Nat → List Nat
  | 0 => d
  | i + 1 => mkN a r i (miN a r d i) 16

theorem adN_len (s a : List Nat) (l : Nat) : ∀ n, (adN s a l n).length = a.length
  | 0 => rfl
  | n + 1 => by simp [adN, adN_len s a l n]

theorem mkN_len (a r : List Nat) (i : Nat) (d : List Nat) : ∀ n, (mkN a r i d n).length = d.length
  | 0 => rfl
  | n + 1 => by simp [mkN, mkN_len a r i d n]

theorem miN_len (a r d : List Nat) : ∀ n, (miN a r d n).length = d.length
  | 0 => rfl
  | n + 1 => by rw [miN, mkN_len, miN_len a r d n]

theorem adN_get {s a : List Nat} {l : Nat} : ∀ {n : Nat}, n ≤ a.length → ∀ j, (adN s a l n).getD j 0 = if j < n then a.getD j 0 + s.getD (l + j) 0 else a.getD j 0
  | 0, _, j => by rw [if_neg (by omega)]; rfl
  | n + 1, h, j => by
    have ih := adN_get (s := s) (a := a) (l := l) (n := n) (by omega)
    have hl := adN_len s a l n
    rw [adN, getD_set, ih n, if_neg (Nat.lt_irrefl n)]
    by_cases e : n = j
    · subst e; rw [if_pos ⟨rfl, by omega⟩, if_pos (by omega)]
    · rw [if_neg (fun h => e h.1), ih j]
      by_cases hc : j < n
      · rw [if_pos hc, if_pos (by omega)]
      · rw [if_neg hc, if_neg (by omega)]

theorem adN_leN {s a : List Nat} {l : Nat} : ∀ {n : Nat}, n ≤ a.length → leN (adN s a l n) = leN a + sumW (fun j => s.getD (l + j) 0) n
  | 0, _ => rfl
  | n + 1, h => by
    have hl := adN_len s a l n
    rw [adN, leN_addAt (by omega), adN_leN (by omega), sumW]
    omega

theorem mkN_get {a r d : List Nat} {i C : Nat} (hC : ∀ k, a.getD i 0 * r.getD k 0 ≤ C) : ∀ {k : Nat}, i + k ≤ d.length → (∀ j, (mkN a r i d k).getD j 0 ≤ d.getD j 0 + C) ∧ (∀ j, i + k ≤ j → (mkN a r i d k).getD j 0 = d.getD j 0)
  | 0, _ => ⟨fun j => by simp only [mkN]; omega, fun j _ => rfl⟩
  | k + 1, h => by
    obtain ⟨h1, h2⟩ := mkN_get (d := d) hC (k := k) (by omega)
    have hl := mkN_len a r i d k
    have hc := hC k
    have hk := h2 (i + k) (Nat.le_refl _)
    refine ⟨fun j => ?_, fun j hj => ?_⟩
    · rw [mkN, getD_set]
      have := h1 j
      split
      · rename_i e; rw [← e.1]; omega
      · exact this
    · rw [mkN, getD_set, if_neg (by omega)]
      exact h2 j (by omega)

theorem mkN_leN {a r d : List Nat} {i : Nat} : ∀ {k : Nat}, i + k ≤ d.length → leN (mkN a r i d k) = leN d + a.getD i 0 * 256 ^ i * sumW (fun k => r.getD k 0) k
  | 0, _ => by simp [mkN, sumW]
  | k + 1, h => by
    have hl := mkN_len a r i d k
    rw [mkN, leN_addAt (by omega), mkN_leN (by omega), sumW, Nat.mul_add, Nat.pow_add, Nat.add_assoc]
    congr 2
    rw [Nat.mul_assoc, Nat.mul_assoc, Nat.mul_left_comm (r.getD k 0)]

theorem miN_get {a r d : List Nat} {C : Nat} (hd : d.length = 40) (hC : ∀ i k, a.getD i 0 * r.getD k 0 ≤ C) : ∀ {i : Nat}, i ≤ 18 → ∀ j, (miN a r d i).getD j 0 ≤ d.getD j 0 + i * C
  | 0, _, j => by simp [miN]
  | i + 1, h, j => by
    have h1 := miN_get hd hC (i := i) (by omega) j
    have h2 := (mkN_get (d := miN a r d i) (hC i) (k := 16) (by rw [miN_len, hd]; omega)).1 j
    rw [miN, Nat.succ_mul]
    omega

theorem miN_leN {a r d : List Nat} (hd : d.length = 40) : ∀ {i : Nat}, i ≤ 18 → leN (miN a r d i) = leN d + sumW (fun i => a.getD i 0) i * sumW (fun k => r.getD k 0) 16
  | 0, _ => by simp [miN, sumW]
  | i + 1, h => by
    rw [miN, mkN_leN (by rw [miN_len, hd]; omega), miN_leN hd (by omega), show sumW (fun i => a.getD i 0) (i + 1) = sumW (fun i => a.getD i 0) i + a.getD i 0 * 256 ^ i from rfl, Nat.add_mul, Nat.add_assoc]

def lenAt (s : List Nat) (l : Nat) : Nat := min 16 (s.length - l)

def Ta : LSem := ⟨[7, 8, 1, 9], [7, 8, 1, 9], fun args hin => match args, hin with
  | [.s (.sl .whole 0 0 40 1), .s (.nat .i64 l), .s (.str s), .s (.nat .i64 0)], [[.ints .i64 40 a]] =>
    some (Tr.needs [decide (a.length = 40), allB 36028797018963968 a, allB 256 s, decide (l ≤ s.length), decide (s.length < 4611686018427387904)]
      (.leaf (.normal, [slw 0, .s (.nat .i64 l), .s (.str s), .s (.nat .i64 (lenAt s l))], [some [.ints .i64 40 (adN s a l (lenAt s l))]])))
  | _, _ => none⟩

set_option maxRecDepth 100000 in
theorem rTa (a s : List Nat) (l j : Nat) : runR Try.prog [] [] .nat 7 [] Try.f26 4 Ta 1 [.s (.sl .whole 0 0 40 1), .s (.nat .i64 l), .s (.str s), .s (.nat .i64 j)] [some [.ints .i64 40 a]] =
(cond (decide (j < 16))
 (nd [decide (l + j < 9223372036854775808), decide (s.length < 9223372036854775808)]
 (cond (decide (l + j < s.length))
 (nd [decide (j < 40), decide (j < 40), decide (l + j < 9223372036854775808), decide (l + j < s.length), decide (a.getD (j) 0 + s.getD (l + j) 0 < 9223372036854775808), decide (j < 40), decide (j < 40), decide (j + 1 < 9223372036854775808)]
 (some (Ex.normal, [AV.s (SV.sl LK.whole 0 0 40 1), AV.s (SV.nat IntKind.i64 l), AV.s (SV.str s), AV.s (SV.nat IntKind.i64 (j + 1))], [some [Ch.ints IntKind.i64 40 (a.set (j) (a.getD (j) 0 + s.getD (l + j) 0))]])))
 (some (Ex.exit 4, [AV.s (SV.sl LK.whole 0 0 40 1), AV.s (SV.nat IntKind.i64 l), AV.s (SV.str s), AV.s (SV.nat IntKind.i64 j)], [some [Ch.ints IntKind.i64 40 a]]))))
 (some (Ex.exit 4, [AV.s (SV.sl LK.whole 0 0 40 1), AV.s (SV.nat IntKind.i64 l), AV.s (SV.str s), AV.s (SV.nat IntKind.i64 j)], [some [Ch.ints IntKind.i64 40 a]]))) := by kernel_rfl

theorem lokTa : LOk Try.prog Try.f26.ntmps (.block 4 (.loop (lb 4 Try.f26))) Ta := by
  refine lokR (fs := []) (xs := []) (m := .nat) (fuel := 7) (sums := []) .nil mixedP (loopsOk_none rfl _) ?_
  intro args hin t e vs hout h hg
  unfold Ta at h
  simp only at h
  split at h
  · rename_i l s a
    simp only [Option.some.injEq] at h
    subst h
    obtain ⟨hc, hgt⟩ := Tr.needs_get hg
    clear hg
    have e1 : a.length = 40 := of_decide_eq_true (hc _ (by simp))
    have e2 : allB 36028797018963968 a = true := hc (allB 36028797018963968 a) (by simp)
    have e3 : allB 256 s = true := hc (allB 256 s) (by simp)
    have e4 : l ≤ s.length := of_decide_eq_true (hc (decide (l ≤ s.length)) (by simp))
    have e5 : s.length < 4611686018427387904 := of_decide_eq_true (hc (decide (s.length < 4611686018427387904)) (by simp))
    clear hc
    cases hgt
    have hL : lenAt s l = min 16 (s.length - l) := rfl
    refine ⟨lenAt s l, fun i => ([slw 0, .s (.nat .i64 l), .s (.str s), .s (.nat .i64 i)], [some [.ints .i64 40 (adN s a l i)]]), .exit 4, rfl, fun i hi => ?_, ?_, rfl⟩
    · simp only [slw, List.length_cons, List.length_nil]
      rw [rTa]
      have g1 := adN_get (s := s) (a := a) (l := l) (n := i) (by omega) i
      rw [if_neg (Nat.lt_irrefl i)] at g1
      have g2 := allB_get (by omega) e2 i
      have g3 := allB_get (by omega) e3 (l + i)
      refine cond_t (decide_eq_true (by omega)) (nd_of ?_ (cond_t (decide_eq_true (by omega)) (nd_of ?_ rfl)))
      · simp only [List.mem_cons, List.not_mem_nil, or_false, forall_eq_or_imp, forall_eq, decide_eq_true_eq, true_and, and_true]; omega
      · simp only [List.mem_cons, List.not_mem_nil, or_false, forall_eq_or_imp, forall_eq, decide_eq_true_eq, true_and, and_true]; omega
    · simp only [slw, List.length_cons, List.length_nil]
      rw [rTa]
      by_cases h16 : lenAt s l < 16
      · refine cond_t (decide_eq_true h16) (nd_of ?_ (cond_f (decide_eq_false (by omega)) rfl))
        simp only [List.mem_cons, List.not_mem_nil, or_false, forall_eq_or_imp, forall_eq, decide_eq_true_eq, true_and, and_true]; omega
      · exact cond_f (decide_eq_false h16) rfl
  · cases h

def Tb : LSem := ⟨[10, 11, 12, 7, 5], [10, 11, 7, 5], fun args hin => match args, hin with
  | [.s (.sl .whole 0 0 40 1), .s (.nat .i64 i), .s (.nat .i64 0), .s (.sl .whole 1 0 40 1), .s (.sl .whole 2 0 16 1)], [[.ints .i64 40 d], [.ints .i64 40 a], [.ints .i64 16 r]] =>
    some (Tr.needs [decide (d.length = 40), decide (i < 18), allB 1125899906842624 d, allB 65536 a, allB 256 r]
      (.leaf (.normal, [slw 0, .s (.nat .i64 i), slw 1, .s (.sl .whole 2 0 16 1)], [some [.ints .i64 40 (mkN a r i d 16)], some [.ints .i64 40 a], some [.ints .i64 16 r]])))
  | _, _ => none⟩

set_option maxRecDepth 100000 in
theorem rTb (d a r : List Nat) (i j : Nat) : runR Try.prog [] [] .nat 7 [] Try.f26 8 Tb 3 [.s (.sl .whole 0 0 40 1), .s (.nat .i64 i), .s (.nat .i64 j), .s (.sl .whole 1 0 40 1), .s (.sl .whole 2 0 16 1)] [some [.ints .i64 40 d], some [.ints .i64 40 a], some [.ints .i64 16 r]] =
(cond (decide (j < 16))
 (nd [decide (i + j < 9223372036854775808), decide (i + j < 40), decide ((i + j) < 40), decide (i < 40), decide (i < 40), decide (j < 16), decide (j < 16), decide (a.getD (i) 0 * r.getD (j) 0 < 9223372036854775808), decide (d.getD (i + j) 0 + a.getD (i) 0 * r.getD (j) 0 < 9223372036854775808), decide (i + j < 40), decide ((i + j) < 40), decide (j + 1 < 9223372036854775808)]
 (some (Ex.normal, [AV.s (SV.sl LK.whole 0 0 40 1), AV.s (SV.nat IntKind.i64 i), AV.s (SV.nat IntKind.i64 (j + 1)), AV.s (SV.sl LK.whole 1 0 40 1), AV.s (SV.sl LK.whole (2) 0 16 1)], [some [Ch.ints IntKind.i64 40 (d.set (i + j) (d.getD (i + j) 0 + a.getD (i) 0 * r.getD (j) 0))], some [Ch.ints IntKind.i64 40 a], some [Ch.ints IntKind.i64 16 r]])))
 (some (Ex.exit 8, [AV.s (SV.sl LK.whole 0 0 40 1), AV.s (SV.nat IntKind.i64 i), AV.s (SV.sl LK.whole 1 0 40 1), AV.s (SV.sl LK.whole (2) 0 16 1)], [some [Ch.ints IntKind.i64 40 d], some [Ch.ints IntKind.i64 40 a], some [Ch.ints IntKind.i64 16 r]]))) := by kernel_rfl

theorem prod_le {a r : List Nat} (ha : allB 65536 a = true) (hr : allB 256 r = true) (i k : Nat) : a.getD i 0 * r.getD k 0 ≤ 16711425 := by
  have h1 := allB_get (by omega) ha i
  have h2 := allB_get (by omega) hr k
  exact Nat.le_trans (Nat.mul_le_mul (by omega : a.getD i 0 ≤ 65535) (by omega : r.getD k 0 ≤ 255)) (by omega)

theorem lokTb : LOk Try.prog Try.f26.ntmps (.block 8 (.loop (lb 8 Try.f26))) Tb := by
  refine lokR (fs := []) (xs := []) (m := .nat) (fuel := 7) (sums := []) .nil mixedP (loopsOk_none rfl _) ?_
  intro args hin t e vs hout h hg
  unfold Tb at h
  simp only at h
  split at h
  · rename_i i d a r
    simp only [Option.some.injEq] at h
    subst h
    obtain ⟨hc, hgt⟩ := Tr.needs_get hg
    clear hg
    have e1 : d.length = 40 := of_decide_eq_true (hc _ (by simp))
    have e2 : i < 18 := of_decide_eq_true (hc (decide (i < 18)) (by simp))
    have e3 : allB 1125899906842624 d = true := hc (allB 1125899906842624 d) (by simp)
    have e4 : allB 65536 a = true := hc (allB 65536 a) (by simp)
    have e5 : allB 256 r = true := hc (allB 256 r) (by simp)
    clear hc
    cases hgt
    refine ⟨16, fun j => ([slw 0, .s (.nat .i64 i), .s (.nat .i64 j), slw 1, .s (.sl .whole 2 0 16 1)], [some [.ints .i64 40 (mkN a r i d j)], some [.ints .i64 40 a], some [.ints .i64 16 r]]), .exit 8, rfl, fun j hj => ?_, ?_, rfl⟩
    · simp only [slw, List.length_cons, List.length_nil]
      rw [rTb]
      have g1 := (mkN_get (d := d) (prod_le e4 e5 i) (k := j) (by omega)).2 (i + j) (Nat.le_refl _)
      have g2 := allB_get (by omega) e3 (i + j)
      have g3 := prod_le e4 e5 i j
      refine cond_t (decide_eq_true (by omega)) (nd_of ?_ rfl)
      simp only [List.mem_cons, List.not_mem_nil, or_false, forall_eq_or_imp, forall_eq, decide_eq_true_eq, true_and, and_true]; omega
    · simp only [slw, List.length_cons, List.length_nil]
      rw [rTb]
      exact cond_f (decide_eq_false (by omega)) rfl
  · cases h

end Go.Proofs.Ytgebgjhjegadpaa

namespace Go.Proofs.Ytgebgjhjegadpaa
open Go

def Tc : LSem := ⟨[10, 11, 7, 5], [10, 7, 5], fun args hin => match args, hin with
  | [.s (.sl .whole 0 0 40 1), .s (.nat .i64 0), .s (.sl .whole 1 0 40 1), .s (.sl .whole 2 0 16 1)], [[.ints .i64 40 d], [.ints .i64 40 a], [.ints .i64 16 r]] =>
    some (Tr.needs [decide (d = zs40), allB 65536 a, allB 256 r]
      (.leaf (.normal, [slw 0, slw 1, .s (.sl .whole 2 0 16 1)], [some [.ints .i64 40 (miN a r zs40 18)], some [.ints .i64 40 a], some [.ints .i64 16 r]])))
  | _, _ => none⟩

set_option maxRecDepth 100000 in
theorem rTc (d a r : List Nat) (i : Nat) : runR Try.prog [] [] .nat 7 [(8, Tb)] Try.f26 6 Tc 3 [.s (.sl .whole 0 0 40 1), .s (.nat .i64 i), .s (.sl .whole 1 0 40 1), .s (.sl .whole 2 0 16 1)] [some [.ints .i64 40 d], some [.ints .i64 40 a], some [.ints .i64 16 r]] =
(cond (decide (i < 18))
 (nd [decide (d.length = 40), decide (i < 18), allB 1125899906842624 d, allB 65536 a, allB 256 r, decide (i + 1 < 9223372036854775808)]
 (some (Ex.normal, [AV.s (SV.sl LK.whole 0 0 40 1), AV.s (SV.nat IntKind.i64 (i + 1)), AV.s (SV.sl LK.whole 1 0 40 1), AV.s (SV.sl LK.whole (2) 0 16 1)], [some [Ch.ints IntKind.i64 40 (mkN a r i d 16)], some [Ch.ints IntKind.i64 40 a], some [Ch.ints IntKind.i64 16 r]])))
 (some (Ex.exit 6, [AV.s (SV.sl LK.whole 0 0 40 1), AV.s (SV.sl LK.whole 1 0 40 1), AV.s (SV.sl LK.whole (2) 0 16 1)], [some [Ch.ints IntKind.i64 40 d], some [Ch.ints IntKind.i64 40 a], some [Ch.ints IntKind.i64 16 r]]))) := by kernel_rfl

theorem loopsTc : LoopsOk Try.prog ⟨Try.f26.ntmps, 7, [(8, Tb)]⟩ (lb 6 Try.f26) := by
  refine loopsOk_of ?_
  have e : loopsIn [(8, Tb)] (lb 6 Try.f26) = [(8, .loop (lb 8 Try.f26), Tb)] := by kernel_rfl
  simp only [e]
  intro x hx
  simp only [List.mem_cons, List.not_mem_nil, or_false] at hx
  subst hx
  exact lokTb

theorem zs40_len : zs40.length = 40 := List.length_replicate

theorem lokTc : LOk Try.prog Try.f26.ntmps (.block 6 (.loop (lb 6 Try.f26))) Tc := by
  refine lokR (fs := []) (xs := []) (m := .nat) (fuel := 7) (sums := [(8, Tb)]) .nil mixedP loopsTc ?_
  intro args hin t e vs hout h hg
  unfold Tc at h
  simp only at h
  split at h
  · rename_i d a r
    simp only [Option.some.injEq] at h
    subst h
    obtain ⟨hc, hgt⟩ := Tr.needs_get hg
    clear hg
    have e1 : d = zs40 := of_decide_eq_true (hc _ (by simp))
    have e4 : allB 65536 a = true := hc (allB 65536 a) (by simp)
    have e5 : allB 256 r = true := hc (allB 256 r) (by simp)
    clear hc
    subst e1
    cases hgt
    refine ⟨18, fun i => ([slw 0, .s (.nat .i64 i), slw 1, .s (.sl .whole 2 0 16 1)], [some [.ints .i64 40 (miN a r zs40 i)], some [.ints .i64 40 a], some [.ints .i64 16 r]]), .exit 6, rfl, fun i hi => ?_, ?_, rfl⟩
    · simp only [slw, List.length_cons, List.length_nil]
      rw [rTc]
      have g1 : allB 1125899906842624 (miN a r zs40 i) = true := allB_of fun j => by
        have := miN_get zs40_len (prod_le e4 e5) (i := i) (by omega) j
        rw [zs40_get] at this
        have : i * 16711425 ≤ 18 * 16711425 := Nat.mul_le_mul_right _ (by omega)
        omega
      have g2 : (miN a r zs40 i).length = 40 := by rw [miN_len, zs40_len]
      refine cond_t (decide_eq_true hi) (nd_of ?_ rfl)
      simp only [List.mem_cons, List.not_mem_nil, or_false, forall_eq_or_imp, forall_eq, decide_eq_true_eq, true_and, and_true]
      exact ⟨g2, hi, g1, e4, e5, by omega⟩
    · simp only [slw, List.length_cons, List.length_nil]
      rw [rTc]
      exact cond_f (decide_eq_false (by omega)) rfl
  · cases h

/-- A block put to what is there. -/
def addB (s a : List Nat) (l : Nat) : List Nat := (adN s a l (lenAt s l)).set (lenAt s l) ((adN s a l (lenAt s l)).getD (lenAt s l) 0 + 1)

def aV (r s : List Nat) : Nat → Nat
  | 0 => 0
  | i + 1 => canP (leN (miN (addB s (digs 40 (aV r s i)) (16 * i)) r zs40 18))

def nBl (s : List Nat) : Nat := (s.length + 15) / 16

/-- A block's number with the one behind it. -/
def blV (s : List Nat) (l : Nat) : Nat := sumW (fun j => s.getD (l + j) 0) (lenAt s l) + 256 ^ lenAt s l

theorem addB_spec {s : List Nat} {v l : Nat} (hv : v < 1361129467683753853853498429727072845824) (hs : allB 256 s = true) :
    allB 65536 (addB s (digs 40 v) l) = true ∧ leN (addB s (digs 40 v) l) = v + blV s l ∧ (addB s (digs 40 v) l).length = 40 ∧ (∀ i, 18 ≤ i → (addB s (digs 40 v) l).getD i 0 = 0) ∧ (adN s (digs 40 v) l (lenAt s l)).getD (lenAt s l) 0 < 512 := by
  have hl : (digs 40 v).length = 40 := digs_len 40 v
  have hn : lenAt s l ≤ 16 := by unfold lenAt; omega
  have hd : ∀ i, (digs 40 v).getD i 0 < 256 := fun i => by rw [digs_get]; split <;> omega
  have hg := adN_get (s := s) (a := digs 40 v) (l := l) (n := lenAt s l) (by omega)
  have hlen := adN_len s (digs 40 v) l (lenAt s l)
  have hb : ∀ i, (adN s (digs 40 v) l (lenAt s l)).getD i 0 < 512 := fun i => by
    rw [hg]
    have := hd i
    have := allB_get (by omega) hs (l + i)
    split <;> omega
  refine ⟨allB_of fun i => ?_, ?_, ?_, fun i hi => ?_, hb _⟩
  · unfold addB
    rw [getD_set]
    have := hb i
    have := hb (lenAt s l)
    split <;> omega
  · unfold addB
    rw [leN_addAt (by omega), adN_leN (by omega), leN_digs, Nat.mod_eq_of_lt (Nat.lt_trans hv (by decide)), blV]
    omega
  · unfold addB
    rw [List.length_set, hlen, hl]
  · unfold addB
    rw [getD_set, if_neg (by omega), hg, if_neg (by omega), digs_get]
    split
    · have : v / 256 ^ i = 0 := Nat.div_eq_of_lt (Nat.lt_of_lt_of_le hv (Nat.le_trans (by decide : _ ≤ 256 ^ 18) (Nat.pow_le_pow_right (by omega) hi)))
      rw [this]
    · rfl

theorem miN_val {s r : List Nat} {v l : Nat} (hv : v < 1361129467683753853853498429727072845824) (hs : allB 256 s = true) (hr : r.length = 16) (hrB : allB 256 r = true) :
    leN (miN (addB s (digs 40 v) l) r zs40 18) = (v + blV s l) * leN r ∧ leN (miN (addB s (digs 40 v) l) r zs40 18) < 256 ^ 40 := by
  obtain ⟨h1, h2, h3, h4, h5⟩ := addB_spec (l := l) hv hs
  have e1 : sumW (fun i => (addB s (digs 40 v) l).getD i 0) 18 = v + blV s l := by
    rw [← h2, leN_sumW, h3, show 40 = 18 + 22 from rfl, sumW_split, sumW_zero (n := 22) fun i hi => h4 (18 + i) (by omega)]
    omega
  have e2 : sumW (fun k => r.getD k 0) 16 = leN r := by rw [leN_sumW r, hr]
  have e3 : leN (miN (addB s (digs 40 v) l) r zs40 18) = (v + blV s l) * leN r := by
    rw [miN_leN zs40_len (Nat.le_refl 18), e1, e2, show leN zs40 = 0 from leN_zero 40, Nat.zero_add]
  refine ⟨e3, ?_⟩
  rw [e3]
  have b1 : leN r < 256 ^ 16 := by
    rw [← e2]; exact sumW_lt (fun i => allB_get (by omega) hrB i) 16
  have b2 : blV s l < 256 ^ 17 := by
    unfold blV
    have hn : lenAt s l ≤ 16 := by unfold lenAt; omega
    have g1 := sumW_lt (f := fun j => s.getD (l + j) 0) (fun i => allB_get (by omega) hs (l + i)) (lenAt s l)
    have g2 : 256 ^ lenAt s l ≤ 256 ^ 16 := Nat.pow_le_pow_right (by omega) hn
    rw [show (256 : Nat) ^ 17 = 256 ^ 16 * 256 from rfl]
    omega
  have b3 : v + blV s l < 256 ^ 20 := by
    have : (1361129467683753853853498429727072845824 : Nat) + 256 ^ 17 < 256 ^ 20 := by decide
    omega
  calc (v + blV s l) * leN r ≤ 256 ^ 20 * 256 ^ 16 := Nat.mul_le_mul (Nat.le_of_lt b3) (Nat.le_of_lt b1)
    _ < 256 ^ 40 := by decide

theorem aV_lt {r s : List Nat} (hs : allB 256 s = true) (hr : r.length = 16) (hrB : allB 256 r = true) : ∀ i, aV r s i < 1361129467683753853853498429727072845819
  | 0 => by simp [aV]
  | i + 1 => by
    have h := aV_lt hs hr hrB i
    rw [aV, canP_eq (miN_val (by omega) hs hr hrB).2]
    exact Nat.mod_lt _ (by omega)

theorem aV_succ {r s : List Nat} (hs : allB 256 s = true) (hr : r.length = 16) (hrB : allB 256 r = true) (i : Nat) : aV r s (i + 1) = (aV r s i + blV s (16 * i)) * leN r % 1361129467683753853853498429727072845819 := by
  have h := aV_lt hs hr hrB i
  have hm := miN_val (s := s) (r := r) (v := aV r s i) (l := 16 * i) (by omega) hs hr hrB
  rw [aV, canP_eq hm.2, hm.1]

def Td : LSem := ⟨[5, 7, 8, 1], [7], fun args hin => match args, hin with
  | [.s (.sl .whole 0 0 16 1), .s (.sl .whole 1 0 40 1), .s (.nat .i64 0), .s (.str s)], [[.ints .i64 16 r], [.ints .i64 40 a]] =>
    some (Tr.needs [decide (a = zs40), allB 256 r, decide (r.length = 16), allB 256 s, decide (s.length < 4611686018427387904)]
      (.br (decide (s.length = 0)) (.leaf (.normal, [slw 1], [some [.ints .i64 16 r], some [.ints .i64 40 a]]))
       (.leaf (.normal, [slw 2], [some [.ints .i64 16 r], some [.ints .i64 40 (addB s zs40 0)], some [.ints .i64 40 (digs 40 (aV r s (nBl s)))]]))))
  | _, _ => none⟩

set_option maxRecDepth 100000 in
theorem rTd0 (a r s : List Nat) (l : Nat) : runR Try.prog [(39, F39)] [] .nat 7 [(4, Ta), (6, Tc)] Try.f26 2 Td 2 [.s (.sl .whole 0 0 16 1), .s (.sl .whole 1 0 40 1), .s (.nat .i64 l), .s (.str s)] [some [.ints .i64 16 r], some [.ints .i64 40 a]] =
(nd [decide (s.length < 9223372036854775808)]
 (cond (decide (l < s.length))
 (nd [decide (a.length = 40), allB 36028797018963968 a, allB 256 s, decide (l ≤ s.length), decide (s.length < 4611686018427387904), decide (lenAt s l < 40), decide ((lenAt s l) < 40), decide ((adN s a l (lenAt s l)).getD (lenAt s l) 0 + 1 < 9223372036854775808), decide (lenAt s l < 40), decide ((lenAt s l) < 40), decide (zs40 = zs40), allB 65536 (addB s a l), allB 256 r, allB 36028797018963968 (miN (addB s a l) r zs40 18), decide (leN (miN (addB s a l) r zs40 18) < 256 ^ 40)]
 (cond (decide (1361129467683753853853498429727072845819 ≤ red (leN (miN (addB s a l) r zs40 18))))
 (nd [decide (l + 16 < 9223372036854775808)]
 (some (Ex.normal, [AV.s (SV.sl LK.whole 0 0 16 1), AV.s (SV.sl LK.whole (2) 0 40 1), AV.s (SV.nat IntKind.i64 (l + 16)), AV.s (SV.str s)], [some [Ch.ints IntKind.i64 16 r], some [Ch.ints IntKind.i64 40 (addB s a l)], some [Ch.ints IntKind.i64 40 (digs 40 (canP (leN (miN (addB s a l) r zs40 18))))]])))
 (nd [decide (l + 16 < 9223372036854775808)]
 (some (Ex.normal, [AV.s (SV.sl LK.whole 0 0 16 1), AV.s (SV.sl LK.whole (2) 0 40 1), AV.s (SV.nat IntKind.i64 (l + 16)), AV.s (SV.str s)], [some [Ch.ints IntKind.i64 16 r], some [Ch.ints IntKind.i64 40 (addB s a l)], some [Ch.ints IntKind.i64 40 (digs 40 (canP (leN (miN (addB s a l) r zs40 18))))]])))))
 (some (Ex.exit 2, [AV.s (SV.sl LK.whole 1 0 40 1)], [some [Ch.ints IntKind.i64 16 r], some [Ch.ints IntKind.i64 40 a]])))) := by kernel_rfl

set_option maxRecDepth 100000 in
theorem rTd1 (a b r s : List Nat) (l : Nat) : runR Try.prog [(39, F39)] [] .nat 7 [(4, Ta), (6, Tc)] Try.f26 2 Td 2 [.s (.sl .whole 0 0 16 1), .s (.sl .whole 2 0 40 1), .s (.nat .i64 l), .s (.str s)] [some [.ints .i64 16 r], some [.ints .i64 40 a], some [.ints .i64 40 b]] =
(nd [decide (s.length < 9223372036854775808)]
 (cond (decide (l < s.length))
 (nd [decide (b.length = 40), allB 36028797018963968 b, allB 256 s, decide (l ≤ s.length), decide (s.length < 4611686018427387904), decide (lenAt s l < 40), decide ((lenAt s l) < 40), decide ((adN s b l (lenAt s l)).getD (lenAt s l) 0 + 1 < 9223372036854775808), decide (lenAt s l < 40), decide ((lenAt s l) < 40), decide (zs40 = zs40), allB 65536 (addB s b l), allB 256 r, allB 36028797018963968 (miN (addB s b l) r zs40 18), decide (leN (miN (addB s b l) r zs40 18) < 256 ^ 40)]
 (cond (decide (1361129467683753853853498429727072845819 ≤ red (leN (miN (addB s b l) r zs40 18))))
 (nd [decide (l + 16 < 9223372036854775808)]
 (some (Ex.normal, [AV.s (SV.sl LK.whole 0 0 16 1), AV.s (SV.sl LK.whole (2) 0 40 1), AV.s (SV.nat IntKind.i64 (l + 16)), AV.s (SV.str s)], [some [Ch.ints IntKind.i64 16 r], some [Ch.ints IntKind.i64 40 a], some [Ch.ints IntKind.i64 40 (digs 40 (canP (leN (miN (addB s b l) r zs40 18))))]])))
 (nd [decide (l + 16 < 9223372036854775808)]
 (some (Ex.normal, [AV.s (SV.sl LK.whole 0 0 16 1), AV.s (SV.sl LK.whole (2) 0 40 1), AV.s (SV.nat IntKind.i64 (l + 16)), AV.s (SV.str s)], [some [Ch.ints IntKind.i64 16 r], some [Ch.ints IntKind.i64 40 a], some [Ch.ints IntKind.i64 40 (digs 40 (canP (leN (miN (addB s b l) r zs40 18))))]])))))
 (some (Ex.exit 2, [AV.s (SV.sl LK.whole (2) 0 40 1)], [some [Ch.ints IntKind.i64 16 r], some [Ch.ints IntKind.i64 40 a], some [Ch.ints IntKind.i64 40 b]])))) := by kernel_rfl

theorem loopsTd : LoopsOk Try.prog ⟨Try.f26.ntmps, 7, [(4, Ta), (6, Tc)]⟩ (lb 2 Try.f26) := by
  refine loopsOk_of ?_
  have e : loopsIn [(4, Ta), (6, Tc)] (lb 2 Try.f26) = [(4, .loop (lb 4 Try.f26), Ta), (6, .loop (lb 6 Try.f26), Tc)] := by kernel_rfl
  simp only [e]
  intro x hx
  simp only [List.mem_cons, List.not_mem_nil, or_false] at hx
  rcases hx with rfl | rfl
  · exact lokTa
  · exact lokTc

theorem digs40_zero : digs 40 0 = zs40 := digs_zero 40

def Ad (r s : List Nat) : Nat → List AV × List (Option Blk)
  | 0 => ([.s (.sl .whole 0 0 16 1), slw 1, .s (.nat .i64 0), .s (.str s)], [some [.ints .i64 16 r], some [.ints .i64 40 zs40]])
  | i + 1 => ([.s (.sl .whole 0 0 16 1), slw 2, .s (.nat .i64 (16 * (i + 1))), .s (.str s)], [some [.ints .i64 16 r], some [.ints .i64 40 (addB s zs40 0)], some [.ints .i64 40 (digs 40 (aV r s (i + 1)))]])

theorem stepTd {r s : List Nat} (hs : allB 256 s = true) (hr : r.length = 16) (hrB : allB 256 r = true) (hl : s.length < 4611686018427387904) (i : Nat) (hi : i < nBl s) :
    runR Try.prog [(39, F39)] [] .nat 7 [(4, Ta), (6, Tc)] Try.f26 2 Td 2 (Ad r s i).1 (Ad r s i).2 = some (.normal, Ad r s (i + 1)) := by
  have hi' : 16 * i < s.length := by unfold nBl at hi; omega
  have hv := aV_lt hs hr hrB i
  obtain ⟨h1, h2, h3, h4, h5⟩ := addB_spec (s := s) (v := aV r s i) (l := 16 * i) (by omega) hs
  obtain ⟨g1, g2⟩ := miN_val (s := s) (r := r) (v := aV r s i) (l := 16 * i) (by omega) hs hr hrB
  have hB : allB 36028797018963968 (miN (addB s (digs 40 (aV r s i)) (16 * i)) r zs40 18) = true := allB_of fun j => by
    have := miN_get zs40_len (prod_le h1 hrB) (i := 18) (by omega) j
    rw [zs40_get] at this
    omega
  have hD : allB 36028797018963968 (digs 40 (aV r s i)) = true := allB_of fun j => by rw [digs_get]; split <;> omega
  have hL : lenAt s (16 * i) ≤ 16 := by unfold lenAt; omega
  cases i with
  | zero =>
    simp only [Ad, slw]
    have e0 : digs 40 (aV r s 0) = zs40 := digs40_zero
    rw [e0] at h1 h2 h3 h4 h5 g1 g2 hB hD
    rw [Nat.mul_zero] at h1 h5 g2 hB hL
    rw [rTd0]
    refine nd_of ?_ (cond_t (decide_eq_true (by omega)) (nd_of ?_ ?_))
    · simp only [List.mem_cons, List.not_mem_nil, or_false, forall_eq_or_imp, forall_eq, decide_eq_true_eq, true_and, and_true]; omega
    · simp only [List.mem_cons, List.not_mem_nil, or_false, forall_eq_or_imp, forall_eq, decide_eq_true_eq, true_and, and_true]
      exact ⟨zs40_len, hD, hs, by omega, hl, by omega, by omega, by omega, by omega, by omega, h1, hrB, hB, g2⟩
    · have e1 : aV r s (0 + 1) = canP (leN (miN (addB s zs40 0) r zs40 18)) := by rw [aV, e0]
      rw [e1]
      by_cases hp : 1361129467683753853853498429727072845819 ≤ red (leN (miN (addB s zs40 0) r zs40 18))
      · refine cond_t (decide_eq_true hp) (nd_of ?_ rfl)
        simp only [List.mem_cons, List.not_mem_nil, or_false, forall_eq_or_imp, forall_eq, decide_eq_true_eq, true_and, and_true]; omega
      · refine cond_f (decide_eq_false hp) (nd_of ?_ rfl)
        simp only [List.mem_cons, List.not_mem_nil, or_false, forall_eq_or_imp, forall_eq, decide_eq_true_eq, true_and, and_true]; omega
  | succ i =>
    simp only [Ad, slw]
    rw [rTd1]
    refine nd_of ?_ (cond_t (decide_eq_true hi') (nd_of ?_ ?_))
    · simp only [List.mem_cons, List.not_mem_nil, or_false, forall_eq_or_imp, forall_eq, decide_eq_true_eq, true_and, and_true]; omega
    · simp only [List.mem_cons, List.not_mem_nil, or_false, forall_eq_or_imp, forall_eq, decide_eq_true_eq, true_and, and_true]
      exact ⟨digs_len _ _, hD, hs, by omega, hl, by omega, by omega, by omega, by omega, by omega, h1, hrB, hB, g2⟩
    · rw [show aV r s (i + 1 + 1) = canP (leN (miN (addB s (digs 40 (aV r s (i + 1))) (16 * (i + 1))) r zs40 18)) from rfl, show 16 * (i + 1 + 1) = 16 * (i + 1) + 16 by omega]
      by_cases hp : 1361129467683753853853498429727072845819 ≤ red (leN (miN (addB s (digs 40 (aV r s (i + 1))) (16 * (i + 1))) r zs40 18))
      · refine cond_t (decide_eq_true hp) (nd_of ?_ rfl)
        simp only [List.mem_cons, List.not_mem_nil, or_false, forall_eq_or_imp, forall_eq, decide_eq_true_eq, true_and, and_true]; omega
      · refine cond_f (decide_eq_false hp) (nd_of ?_ rfl)
        simp only [List.mem_cons, List.not_mem_nil, or_false, forall_eq_or_imp, forall_eq, decide_eq_true_eq, true_and, and_true]; omega

theorem lokTd : LOk Try.prog Try.f26.ntmps (.block 2 (.loop (lb 2 Try.f26))) Td := by
  refine lokR (fs := [(39, F39)]) (xs := []) (m := .nat) (fuel := 7) (sums := [(4, Ta), (6, Tc)]) (.cons ok39 .nil) mixedP loopsTd ?_
  intro args hin t e vs hout h hg
  unfold Td at h
  simp only at h
  split at h
  · rename_i s r a
    simp only [Option.some.injEq] at h
    subst h
    obtain ⟨hc, hgt⟩ := Tr.needs_get hg
    clear hg
    have e1 : a = zs40 := of_decide_eq_true (hc _ (by simp))
    have e2 : allB 256 r = true := hc (allB 256 r) (by simp)
    have e3 : r.length = 16 := of_decide_eq_true (hc (decide (r.length = 16)) (by simp))
    have e4 : allB 256 s = true := hc (allB 256 s) (by simp)
    have e5 : s.length < 4611686018427387904 := of_decide_eq_true (hc (decide (s.length < 4611686018427387904)) (by simp))
    clear hc
    subst e1
    refine ⟨nBl s, Ad r s, .exit 2, rfl, fun i hi => stepTd e4 e3 e2 e5 i hi, ?_, ?_⟩
    · show _ = some (Ex.exit 2, vs, hout)
      simp only [Tr.get] at hgt
      by_cases hz : s.length = 0
      · rw [decide_eq_true hz] at hgt
        cases hgt
        have : nBl s = 0 := by unfold nBl; omega
        rw [this]
        simp only [Ad, slw, List.length_cons, List.length_nil]
        rw [rTd0]
        refine nd_of ?_ (cond_f (decide_eq_false (by omega)) rfl)
        simp only [List.mem_cons, List.not_mem_nil, or_false, forall_eq_or_imp, forall_eq, decide_eq_true_eq, true_and, and_true]; omega
      · rw [decide_eq_false hz] at hgt
        cases hgt
        obtain ⟨m, hm⟩ : ∃ m, nBl s = m + 1 := ⟨nBl s - 1, by unfold nBl; omega⟩
        have hm' : ¬ 16 * (m + 1) < s.length := by unfold nBl at hm; omega
        rw [hm]
        simp only [Ad, slw, List.length_cons, List.length_nil]
        rw [rTd1]
        refine nd_of ?_ (cond_f (decide_eq_false hm') rfl)
        simp only [List.mem_cons, List.not_mem_nil, or_false, forall_eq_or_imp, forall_eq, decide_eq_true_eq, true_and, and_true]; omega
    · simp only [Tr.get] at hgt
      cases hz : decide (s.length = 0) <;> rw [hz] at hgt <;> cases hgt <;> rfl
  · cases h

end Go.Proofs.Ytgebgjhjegadpaa

namespace Go.Proofs.Ytgebgjhjegadpaa
open Go

def rDig (key : List Nat) (i : Nat) : Nat := match Nat.beq (i % 4) 3 with
  | true => key.getD i 0 % 16
  | false => match Nat.blt 0 i && Nat.beq (i % 4) 0 with
    | true => key.getD i 0 - key.getD i 0 % 4
    | false => key.getD i 0

def rRow (key : List Nat) : Nat → Nat → List Nat
  | 0, _ => []
  | n + 1, i => rDig key i :: rRow key n (i + 1)

def go (a key : List Nat) : Nat → Nat
  | 0 => 0
  | i + 1 => (go a key i + (a.getD i 0 + key.getD (16 + i) 0)) / 256

def gt (a key : List Nat) (i : Nat) : Nat := (go a key i + (a.getD i 0 + key.getD (16 + i) 0)) % 256 % 256

def gcs (a key : List Nat) : Nat → Nat → List Bool
  | 0, _ => []
  | n + 1, i => decide (a.getD i 0 + key.getD (16 + i) 0 < 9223372036854775808) :: decide (go a key i + (a.getD i 0 + key.getD (16 + i) 0) < 9223372036854775808) :: gcs a key n (i + 1)

def gts (a key : List Nat) : Nat → Nat → List Nat
  | 0, _ => []
  | n + 1, i => gt a key i :: gts a key n (i + 1)

def tagR (key s : List Nat) : List Nat := gts (digs 40 (aV (rRow key 16 0) s (nBl s))) key 16 0

def F26 : FSem := ⟨false, fun args hin => match args, hin with
  | [.agg [.ints .u8 32 key], .s (.str s)], [] => some (Tr.needs [okKey key, allB 256 s, decide (s.length < 4611686018427387904)] (.leaf (.agg [.ints .u8 16 (tagR key s)], [])))
  | _, _ => none⟩

theorem fn26 : Fn Try.prog 26 Try.f26 := ⟨mixedP, Try.func26, by kernel_rfl, of_decide_eq_true (by kernel_rfl)⟩

theorem loops26 : LoopsOk Try.prog ⟨Try.f26.ntmps, 17, [(2, Td)]⟩ (bodyOf Try.f26) := by
  refine loopsOk_of ?_
  have e : loopsIn [(2, Td)] (bodyOf Try.f26) = [(2, .loop (lb 2 Try.f26), Td)] := by kernel_rfl
  simp only [e]
  intro x hx
  simp only [List.mem_cons, List.not_mem_nil, or_false] at hx
  subst hx
  exact lokTd

set_option maxRecDepth 100000 in
theorem r26 (key s : List Nat) : runL Try.prog [(39, F39)] [] .nat 17 [(2, Td)] Try.f26 [.agg [.ints .u8 32 key], .s (.str s)] [] =
    nd [decide (key.getD 4 0 % 4 ≤ key.getD 4 0), decide (key.getD 8 0 % 4 ≤ key.getD 8 0), decide (key.getD 12 0 % 4 ≤ key.getD 12 0), decide (zs40 = zs40), allB 256 (rRow key 16 0), decide ((rRow key 16 0).length = 16), allB 256 s, decide (s.length < 4611686018427387904)]
      (cond (decide (s.length = 0)) (nd (gcs zs40 key 16 0) (some (.agg [.ints .u8 16 (gts zs40 key 16 0)], [])))
        (nd (gcs (digs 40 (aV (rRow key 16 0) s (nBl s))) key 16 0) (some (.agg [.ints .u8 16 (gts (digs 40 (aV (rRow key 16 0) s (nBl s))) key 16 0)], [])))) := by kernel_rfl

theorem go_lt {a key : List Nat} (ha : ∀ i, a.getD i 0 < 256) (h : okKey key = true) : ∀ i, go a key i < 256
  | 0 => by simp [go]
  | i + 1 => by
    have h1 := go_lt ha h i
    have h2 := key_lt h (16 + i)
    have h3 := ha i
    unfold go
    omega

theorem gcs_ok {a key : List Nat} (ha : ∀ i, a.getD i 0 < 256) (h : okKey key = true) : ∀ n i, ∀ c ∈ gcs a key n i, c = true
  | 0, i, c, hc => by cases hc
  | n + 1, i, c, hc => by
    have h1 := go_lt ha h i
    have h2 := key_lt h (16 + i)
    have h3 := ha i
    simp only [gcs, List.mem_cons] at hc
    rcases hc with rfl | rfl | hc
    · exact decide_eq_true (by omega)
    · exact decide_eq_true (by omega)
    · exact gcs_ok ha h n (i + 1) c hc

theorem rDig_lt {key : List Nat} (h : okKey key = true) (i : Nat) : rDig key i < 256 := by
  have := key_lt h i
  unfold rDig
  split
  · omega
  · split <;> omega

theorem rRow_lt {key : List Nat} (h : okKey key = true) : ∀ n i, ∀ x ∈ rRow key n i, x < 256
  | 0, i, x, hx => by cases hx
  | n + 1, i, x, hx => by
    simp only [rRow, List.mem_cons] at hx
    rcases hx with rfl | hx
    · exact rDig_lt h i
    · exact rRow_lt h n (i + 1) x hx

theorem rRow_all {key : List Nat} (h : okKey key = true) : allB 256 (rRow key 16 0) = true :=
  List.all_eq_true.2 fun x hx => decide_eq_true (rRow_lt h 16 0 x hx)

theorem ok26 : FOk Try.prog 26 F26 := by
  refine fokL (fs := [(39, F39)]) (xs := []) (m := .nat) (fuel := 17) (sums := [(2, Td)]) (.cons ok39 .nil) fn26 loops26 ?_
  intro args hin t r h hg
  unfold F26 at h
  simp only at h
  split at h
  · rename_i key s
    cases h
    obtain ⟨hc, hgt⟩ := Tr.needs_get hg
    cases hgt
    have h1 : okKey key = true := hc (okKey key) (by simp)
    have h2 : allB 256 s = true := hc (allB 256 s) (by simp)
    have h3 : s.length < 4611686018427387904 := of_decide_eq_true (hc (decide (s.length < 4611686018427387904)) (by simp))
    rw [r26]
    refine nd_of ?_ ?_
    · simp only [List.mem_cons, List.not_mem_nil, or_false, forall_eq_or_imp, forall_eq, decide_eq_true_eq, true_and, and_true]
      exact ⟨Nat.mod_le _ _, Nat.mod_le _ _, Nat.mod_le _ _, rRow_all h1, rfl, h2, h3⟩
    · by_cases hz : s.length = 0
      · refine cond_t (decide_eq_true hz) (nd_of (gcs_ok (fun i => by rw [zs40_get]; omega) h1 16 0) ?_)
        have : nBl s = 0 := by unfold nBl; omega
        unfold tagR
        rw [this, aV, digs40_zero]
      · refine cond_f (decide_eq_false hz) (nd_of (gcs_ok (fun i => by rw [digs_get]; split <;> omega) h1 16 0) rfl)
  · cases h

end Go.Proofs.Ytgebgjhjegadpaa

namespace Go.Proofs.Ytgebgjhjegadpaa
open Go

def parts (V : Nat) : List Nat := [V % 67108864, V / 67108864 % 67108864, V / 4503599627370496 % 67108864, V / 302231454903657293676544 % 67108864, V / 20282409603651670423947251286016]

theorem numS0 (l0 l1 l2 l3 l4 v : Nat) : numStep [l0, l1, l2, l3, l4] 0 v = [(l0 ||| (v * 2 ^ 0 % 18446744073709551616 &&& 67108863)), l1, l2, l3, l4] := rfl
theorem numS1 (l0 l1 l2 l3 l4 v : Nat) : numStep [l0, l1, l2, l3, l4] 1 v = [(l0 ||| (v * 2 ^ 8 % 18446744073709551616 &&& 67108863)), l1, l2, l3, l4] := rfl
theorem numS2 (l0 l1 l2 l3 l4 v : Nat) : numStep [l0, l1, l2, l3, l4] 2 v = [(l0 ||| (v * 2 ^ 16 % 18446744073709551616 &&& 67108863)), l1, l2, l3, l4] := rfl
theorem numS3 (l0 l1 l2 l3 l4 v : Nat) : numStep [l0, l1, l2, l3, l4] 3 v = [(l0 ||| (v * 2 ^ 24 % 18446744073709551616 &&& 67108863)), (l1 ||| v / 2 ^ 2), l2, l3, l4] := rfl
theorem numS4 (l0 l1 l2 l3 l4 v : Nat) : numStep [l0, l1, l2, l3, l4] 4 v = [l0, (l1 ||| (v * 2 ^ 6 % 18446744073709551616 &&& 67108863)), l2, l3, l4] := rfl
theorem numS5 (l0 l1 l2 l3 l4 v : Nat) : numStep [l0, l1, l2, l3, l4] 5 v = [l0, (l1 ||| (v * 2 ^ 14 % 18446744073709551616 &&& 67108863)), l2, l3, l4] := rfl
theorem numS6 (l0 l1 l2 l3 l4 v : Nat) : numStep [l0, l1, l2, l3, l4] 6 v = [l0, (l1 ||| (v * 2 ^ 22 % 18446744073709551616 &&& 67108863)), (l2 ||| v / 2 ^ 4), l3, l4] := rfl
theorem numS7 (l0 l1 l2 l3 l4 v : Nat) : numStep [l0, l1, l2, l3, l4] 7 v = [l0, l1, (l2 ||| (v * 2 ^ 4 % 18446744073709551616 &&& 67108863)), l3, l4] := rfl
theorem numS8 (l0 l1 l2 l3 l4 v : Nat) : numStep [l0, l1, l2, l3, l4] 8 v = [l0, l1, (l2 ||| (v * 2 ^ 12 % 18446744073709551616 &&& 67108863)), l3, l4] := rfl
theorem numS9 (l0 l1 l2 l3 l4 v : Nat) : numStep [l0, l1, l2, l3, l4] 9 v = [l0, l1, (l2 ||| (v * 2 ^ 20 % 18446744073709551616 &&& 67108863)), (l3 ||| v / 2 ^ 6), l4] := rfl
theorem numS10 (l0 l1 l2 l3 l4 v : Nat) : numStep [l0, l1, l2, l3, l4] 10 v = [l0, l1, l2, (l3 ||| (v * 2 ^ 2 % 18446744073709551616 &&& 67108863)), l4] := rfl
theorem numS11 (l0 l1 l2 l3 l4 v : Nat) : numStep [l0, l1, l2, l3, l4] 11 v = [l0, l1, l2, (l3 ||| (v * 2 ^ 10 % 18446744073709551616 &&& 67108863)), l4] := rfl
theorem numS12 (l0 l1 l2 l3 l4 v : Nat) : numStep [l0, l1, l2, l3, l4] 12 v = [l0, l1, l2, (l3 ||| (v * 2 ^ 18 % 18446744073709551616 &&& 67108863)), l4] := rfl
theorem numS13 (l0 l1 l2 l3 l4 v : Nat) : numStep [l0, l1, l2, l3, l4] 13 v = [l0, l1, l2, l3, (l4 ||| (v * 2 ^ 0 % 18446744073709551616 &&& 67108863))] := rfl
theorem numS14 (l0 l1 l2 l3 l4 v : Nat) : numStep [l0, l1, l2, l3, l4] 14 v = [l0, l1, l2, l3, (l4 ||| (v * 2 ^ 8 % 18446744073709551616 &&& 67108863))] := rfl
theorem numS15 (l0 l1 l2 l3 l4 v : Nat) : numStep [l0, l1, l2, l3, l4] 15 v = [l0, l1, l2, l3, (l4 ||| (v * 2 ^ 16 % 18446744073709551616 &&& 67108863))] := rfl
theorem numS16 (l0 l1 l2 l3 l4 v : Nat) : numStep [l0, l1, l2, l3, l4] 16 v = [l0, l1, l2, l3, (l4 ||| (v * 2 ^ 24 % 18446744073709551616 &&& 67108863))] := rfl

theorem or1 {a v s : Nat} (ha : a < 2 ^ s) (hs : s ≤ 26) (hv : v < 256) : a ||| (v * 2 ^ s % 18446744073709551616 &&& 67108863) = a + v * 2 ^ s % 67108864 := by
  have h1 : v * 2 ^ s < 18446744073709551616 := by
    have : 2 ^ s ≤ 2 ^ 26 := Nat.pow_le_pow_right (by omega) hs
    have : v * 2 ^ s ≤ 256 * 2 ^ 26 := Nat.mul_le_mul (by omega) this
    omega
  have h2 : v * 2 ^ s % 67108864 = 2 ^ s * (v % 2 ^ (26 - s)) := by
    rw [show (67108864 : Nat) = 2 ^ s * 2 ^ (26 - s) by rw [← Nat.pow_add, show s + (26 - s) = 26 by omega], Nat.mul_comm v, Nat.mul_mod_mul_left]
  rw [Nat.mod_eq_of_lt h1, and26, h2, Nat.or_comm, ← Nat.two_pow_add_eq_or_of_lt ha, Nat.add_comm]

theorem list5 {a b c d e a' b' c' d' e' : Nat} (h0 : a = a') (h1 : b = b') (h2 : c = c') (h3 : d = d') (h4 : e = e') : [a, b, c, d, e] = [a', b', c', d', e'] := by
  rw [h0, h1, h2, h3, h4]

theorem numStep_val {V v j : Nat} (hj : j < 17) (hV : V < 256 ^ j) (hv : v < 256) (h16 : j = 16 → v < 4) : numStep (parts V) j v = parts (V + v * 256 ^ j) := by
  have : j = 0 ∨ j = 1 ∨ j = 2 ∨ j = 3 ∨ j = 4 ∨ j = 5 ∨ j = 6 ∨ j = 7 ∨ j = 8 ∨ j = 9 ∨ j = 10 ∨ j = 11 ∨ j = 12 ∨ j = 13 ∨ j = 14 ∨ j = 15 ∨ j = 16 := by omega
  unfold parts
  rcases this with rfl | rfl | rfl | rfl | rfl | rfl | rfl | rfl | rfl | rfl | rfl | rfl | rfl | rfl | rfl | rfl | rfl
  · rw [show (256 : Nat) ^ 0 = 1 from rfl] at *
    rw [numS0, or1 (a := V % 67108864) (s := 0) (by omega) (by omega) hv]
    simp only [Nat.reducePow]
    refine list5 ?_ ?_ ?_ ?_ ?_ <;> omega
  · rw [show (256 : Nat) ^ 1 = 256 from rfl] at *
    rw [numS1, or1 (a := V % 67108864) (s := 8) (by omega) (by omega) hv]
    simp only [Nat.reducePow]
    refine list5 ?_ ?_ ?_ ?_ ?_ <;> omega
  · rw [show (256 : Nat) ^ 2 = 65536 from rfl] at *
    rw [numS2, or1 (a := V % 67108864) (s := 16) (by omega) (by omega) hv]
    simp only [Nat.reducePow]
    refine list5 ?_ ?_ ?_ ?_ ?_ <;> omega
  · rw [show (256 : Nat) ^ 3 = 16777216 from rfl] at *
    rw [numS3, or1 (a := V % 67108864) (s := 24) (by omega) (by omega) hv]
    rw [show V / 67108864 % 67108864 = 0 by omega, Nat.zero_or]
    simp only [Nat.reducePow]
    refine list5 ?_ ?_ ?_ ?_ ?_ <;> omega
  · rw [show (256 : Nat) ^ 4 = 4294967296 from rfl] at *
    rw [numS4, or1 (a := V / 67108864 % 67108864) (s := 6) (by omega) (by omega) hv]
    simp only [Nat.reducePow]
    refine list5 ?_ ?_ ?_ ?_ ?_ <;> omega
  · rw [show (256 : Nat) ^ 5 = 1099511627776 from rfl] at *
    rw [numS5, or1 (a := V / 67108864 % 67108864) (s := 14) (by omega) (by omega) hv]
    simp only [Nat.reducePow]
    refine list5 ?_ ?_ ?_ ?_ ?_ <;> omega
  · rw [show (256 : Nat) ^ 6 = 281474976710656 from rfl] at *
    rw [numS6, or1 (a := V / 67108864 % 67108864) (s := 22) (by omega) (by omega) hv]
    rw [show V / 4503599627370496 % 67108864 = 0 by omega, Nat.zero_or]
    simp only [Nat.reducePow]
    refine list5 ?_ ?_ ?_ ?_ ?_ <;> omega
  · rw [show (256 : Nat) ^ 7 = 72057594037927936 from rfl] at *
    rw [numS7, or1 (a := V / 4503599627370496 % 67108864) (s := 4) (by omega) (by omega) hv]
    simp only [Nat.reducePow]
    refine list5 ?_ ?_ ?_ ?_ ?_ <;> omega
  · rw [show (256 : Nat) ^ 8 = 18446744073709551616 from rfl] at *
    rw [numS8, or1 (a := V / 4503599627370496 % 67108864) (s := 12) (by omega) (by omega) hv]
    simp only [Nat.reducePow]
    refine list5 ?_ ?_ ?_ ?_ ?_ <;> omega
  · rw [show (256 : Nat) ^ 9 = 4722366482869645213696 from rfl] at *
    rw [numS9, or1 (a := V / 4503599627370496 % 67108864) (s := 20) (by omega) (by omega) hv]
    rw [show V / 302231454903657293676544 % 67108864 = 0 by omega, Nat.zero_or]
    simp only [Nat.reducePow]
    refine list5 ?_ ?_ ?_ ?_ ?_ <;> omega
  · rw [show (256 : Nat) ^ 10 = 1208925819614629174706176 from rfl] at *
    rw [numS10, or1 (a := V / 302231454903657293676544 % 67108864) (s := 2) (by omega) (by omega) hv]
    simp only [Nat.reducePow]
    refine list5 ?_ ?_ ?_ ?_ ?_ <;> omega
  · rw [show (256 : Nat) ^ 11 = 309485009821345068724781056 from rfl] at *
    rw [numS11, or1 (a := V / 302231454903657293676544 % 67108864) (s := 10) (by omega) (by omega) hv]
    simp only [Nat.reducePow]
    refine list5 ?_ ?_ ?_ ?_ ?_ <;> omega
  · rw [show (256 : Nat) ^ 12 = 79228162514264337593543950336 from rfl] at *
    rw [numS12, or1 (a := V / 302231454903657293676544 % 67108864) (s := 18) (by omega) (by omega) hv]
    simp only [Nat.reducePow]
    refine list5 ?_ ?_ ?_ ?_ ?_ <;> omega
  · rw [show (256 : Nat) ^ 13 = 20282409603651670423947251286016 from rfl] at *
    rw [numS13, or1 (a := V / 20282409603651670423947251286016) (s := 0) (by omega) (by omega) hv]
    simp only [Nat.reducePow]
    refine list5 ?_ ?_ ?_ ?_ ?_ <;> omega
  · rw [show (256 : Nat) ^ 14 = 5192296858534827628530496329220096 from rfl] at *
    rw [numS14, or1 (a := V / 20282409603651670423947251286016) (s := 8) (by omega) (by omega) hv]
    simp only [Nat.reducePow]
    refine list5 ?_ ?_ ?_ ?_ ?_ <;> omega
  · rw [show (256 : Nat) ^ 15 = 1329227995784915872903807060280344576 from rfl] at *
    rw [numS15, or1 (a := V / 20282409603651670423947251286016) (s := 16) (by omega) (by omega) hv]
    simp only [Nat.reducePow]
    refine list5 ?_ ?_ ?_ ?_ ?_ <;> omega
  · rw [show (256 : Nat) ^ 16 = 340282366920938463463374607431768211456 from rfl] at *
    rw [numS16, or1 (a := V / 20282409603651670423947251286016) (s := 24) (by omega) (by omega) hv]
    have := h16 rfl
    simp only [Nat.reducePow]
    refine list5 ?_ ?_ ?_ ?_ ?_ <;> omega

theorem numN_val {xs : List Nat} (hx : ∀ i, xs.getD i 0 < 256) (h16 : xs.getD 16 0 < 4) : ∀ {j : Nat}, j ≤ 17 → numN xs j = parts (sumW (fun i => xs.getD i 0) j)
  | 0, _ => by simp [numN, sumW, parts]
  | j + 1, h => by
    rw [numN, numN_val hx h16 (by omega), numStep_val (by omega) (sumW_lt hx j) (hx j) (fun e => e ▸ h16), sumW]

theorem parts_v5 (V : Nat) : v5 (parts V) = V := by
  unfold parts
  rw [v5_mk]
  omega

theorem parts_lim {V : Nat} (h : V < 1361129467683753853853498429727072845824) : lim5 67108864 (parts V) :=
  lim5_mk (by omega) (by omega) (by omega) (by omega) (by omega)

theorem numb_val {xs : List Nat} (hx : ∀ i, xs.getD i 0 < 256) (h16 : xs.getD 16 0 < 4) (hl : xs.length ≤ 17) : v5 (numb xs) = leN xs ∧ lim5 67108864 (numb xs) := by
  have e : numb xs = parts (leN xs) := by rw [numb, numN_val hx h16 hl, ← leN_sumW]
  rw [e]
  refine ⟨parts_v5 _, parts_lim ?_⟩
  rw [leN_sumW]
  by_cases h : xs.length ≤ 16
  · exact Nat.lt_of_lt_of_le (sumW_lt hx _) (Nat.le_trans (Nat.pow_le_pow_right (by omega) h) (by decide))
  · rw [show xs.length = 16 + 1 by omega, sumW]
    have h1 := sumW_lt hx 16
    have h2 : xs.getD 16 0 * 256 ^ 16 ≤ 3 * 256 ^ 16 := Nat.mul_le_mul_right _ (by omega)
    rw [show (256 : Nat) ^ 16 = 340282366920938463463374607431768211456 from rfl] at *
    omega

end Go.Proofs.Ytgebgjhjegadpaa

namespace Go.Proofs.Ytgebgjhjegadpaa
open Go

theorem or2 {a b s : Nat} (ha : a < 2 ^ s) (hb : b * 2 ^ s < 18446744073709551616) : a ||| b * 2 ^ s % 18446744073709551616 = a + b * 2 ^ s := by
  rw [Nat.mod_eq_of_lt hb, Nat.or_comm, Nat.mul_comm b, ← Nat.two_pow_add_eq_or_of_lt ha, Nat.add_comm]

theorem fx_val {y : List Nat} (hy : lim5 67108864 y) {i : Nat} (hi : i < 16) : fx y i % 256 = v5 y / 256 ^ i % 256 := by
  obtain ⟨a, b, c, d, e, rfl⟩ := five hy.1
  have h0 : a < _ := hy.2 0
  have h1 : b < _ := hy.2 1
  have h2 : c < _ := hy.2 2
  have h3 : d < _ := hy.2 3
  have h4 : e < _ := hy.2 4
  rw [v5_mk]
  have : i = 0 ∨ i = 1 ∨ i = 2 ∨ i = 3 ∨ i = 4 ∨ i = 5 ∨ i = 6 ∨ i = 7 ∨ i = 8 ∨ i = 9 ∨ i = 10 ∨ i = 11 ∨ i = 12 ∨ i = 13 ∨ i = 14 ∨ i = 15 := by omega
  rcases this with rfl | rfl | rfl | rfl | rfl | rfl | rfl | rfl | rfl | rfl | rfl | rfl | rfl | rfl | rfl | rfl
  · rw [show fx [a, b, c, d, e] 0 = a / 2 ^ 0 from rfl]
    simp only [Nat.reducePow]
    omega
  · rw [show fx [a, b, c, d, e] 1 = a / 2 ^ 8 from rfl]
    simp only [Nat.reducePow]
    omega
  · rw [show fx [a, b, c, d, e] 2 = a / 2 ^ 16 from rfl]
    simp only [Nat.reducePow]
    omega
  · rw [show fx [a, b, c, d, e] 3 = a / 2 ^ 24 ||| b * 2 ^ 2 % 18446744073709551616 from rfl, or2 (a := a / 2 ^ 24) (b := b) (s := 2) (by omega) (by omega)]
    simp only [Nat.reducePow]
    omega
  · rw [show fx [a, b, c, d, e] 4 = b / 2 ^ 6 from rfl]
    simp only [Nat.reducePow]
    omega
  · rw [show fx [a, b, c, d, e] 5 = b / 2 ^ 14 from rfl]
    simp only [Nat.reducePow]
    omega
  · rw [show fx [a, b, c, d, e] 6 = b / 2 ^ 22 ||| c * 2 ^ 4 % 18446744073709551616 from rfl, or2 (a := b / 2 ^ 22) (b := c) (s := 4) (by omega) (by omega)]
    simp only [Nat.reducePow]
    omega
  · rw [show fx [a, b, c, d, e] 7 = c / 2 ^ 4 from rfl]
    simp only [Nat.reducePow]
    omega
  · rw [show fx [a, b, c, d, e] 8 = c / 2 ^ 12 from rfl]
    simp only [Nat.reducePow]
    omega
  · rw [show fx [a, b, c, d, e] 9 = c / 2 ^ 20 ||| d * 2 ^ 6 % 18446744073709551616 from rfl, or2 (a := c / 2 ^ 20) (b := d) (s := 6) (by omega) (by omega)]
    simp only [Nat.reducePow]
    omega
  · rw [show fx [a, b, c, d, e] 10 = d / 2 ^ 2 from rfl]
    simp only [Nat.reducePow]
    omega
  · rw [show fx [a, b, c, d, e] 11 = d / 2 ^ 10 from rfl]
    simp only [Nat.reducePow]
    omega
  · rw [show fx [a, b, c, d, e] 12 = d / 2 ^ 18 from rfl]
    simp only [Nat.reducePow]
    omega
  · rw [show fx [a, b, c, d, e] 13 = e / 2 ^ 0 from rfl]
    simp only [Nat.reducePow]
    omega
  · rw [show fx [a, b, c, d, e] 14 = e / 2 ^ 8 from rfl]
    simp only [Nat.reducePow]
    omega
  · rw [show fx [a, b, c, d, e] 15 = e / 2 ^ 16 from rfl]
    simp only [Nat.reducePow]
    omega

theorem fin_two {x : List Nat} (h : lim5 67108870 x) : ∃ k, lim5 67108864 (carr (carr x)) ∧ v5 x = v5 (carr (carr x)) + k * P130 := by
  obtain ⟨a, b, c, d, e, rfl⟩ := five h.1
  have h0 : a < _ := h.2 0
  have h1 : b < _ := h.2 1
  have h2 : c < _ := h.2 2
  have h3 : d < _ := h.2 3
  have h4 : e < _ := h.2 4
  obtain ⟨c0, c1, c2, c3, c4, e0, e1, e2, e3, e4, hc⟩ := carr_mk (a := a) (b := b) (c := c) (d := d) (e := e) (by omega) (by omega) (by omega) (by omega) (by omega)
  have q0 : c0 ≤ 1 := by omega
  have q1 : c1 ≤ 1 := by omega
  have q2 : c2 ≤ 1 := by omega
  have q3 : c3 ≤ 1 := by omega
  have q4 : c4 ≤ 1 := by omega
  obtain ⟨d0, d1, d2, d3, d4, f0, f1, f2, f3, f4, hd⟩ := carr_mk (a := a % 67108864 + 5 * c4) (b := (b + c0) % 67108864) (c := (c + c1) % 67108864) (d := (d + c2) % 67108864) (e := (e + c3) % 67108864) (by omega) (by omega) (by omega) (by omega) (by omega)
  rw [hc, hd]
  refine ⟨c4 + d4, lim5_mk ?_ (Nat.mod_lt _ (by omega)) (Nat.mod_lt _ (by omega)) (Nat.mod_lt _ (by omega)) (Nat.mod_lt _ (by omega)), ?_⟩
  · have : (a % 67108864 + 5 * c4) < 67108864 + 5 := by omega
    have : d4 = 0 ∨ d0 = 1 := by omega
    rcases this with h | h <;> omega
  · rw [v5_mk, v5_mk]
    show _ = _ + (c4 + d4) * 1361129467683753853853498429727072845819
    omega

theorem least_val {x : List Nat} (h : lim5 67108864 x) : lim5 67108864 (least x) ∧ v5 (least x) = v5 x % P130 := by
  obtain ⟨a, b, c, d, e, rfl⟩ := five h.1
  have h0 : a < _ := h.2 0
  have h1 : b < _ := h.2 1
  have h2 : c < _ := h.2 2
  have h3 : d < _ := h.2 3
  have h4 : e < _ := h.2 4
  have ho : ∃ q, over5 a b c d e = q ∧ q = (v5 [a, b, c, d, e] + 5) / 1361129467683753853853498429727072845824 := by
    refine ⟨_, rfl, ?_⟩
    unfold over5 ct
    rw [v5_mk]
    simp only [Nat.reducePow]
    rw [Nat.mod_eq_of_lt (a := a + 5) (by omega)]
    generalize hq0 : (a + 5) / 67108864 = q0
    rw [Nat.mod_eq_of_lt (a := b + q0) (by omega)]
    generalize hq1 : (b + q0) / 67108864 = q1
    rw [Nat.mod_eq_of_lt (a := c + q1) (by omega)]
    generalize hq2 : (c + q1) / 67108864 = q2
    rw [Nat.mod_eq_of_lt (a := d + q2) (by omega)]
    generalize hq3 : (d + q2) / 67108864 = q3
    rw [Nat.mod_eq_of_lt (a := e + q3) (by omega)]
    omega
  obtain ⟨q, hq, hq2⟩ := ho
  rw [v5_mk] at hq2
  have hq1 : q ≤ 1 := by omega
  have e1 : least [a, b, c, d, e] = least5 a b c d e := rfl
  rw [e1]
  unfold least5 carrL ct
  simp only [and26, Nat.reducePow, hq]
  rw [Nat.mod_eq_of_lt (a := 5 * q) (by omega), Nat.mod_eq_of_lt (a := a + 5 * q) (by omega), Nat.add_zero, Nat.mod_eq_of_lt (a := a + 5 * q) (by omega)]
  generalize hc0 : (a + 5 * q) / 67108864 = c0
  rw [Nat.mod_eq_of_lt (a := b + c0) (by omega)]
  generalize hc1 : (b + c0) / 67108864 = c1
  rw [Nat.mod_eq_of_lt (a := c + c1) (by omega)]
  generalize hc2 : (c + c1) / 67108864 = c2
  rw [Nat.mod_eq_of_lt (a := d + c2) (by omega)]
  generalize hc3 : (d + c2) / 67108864 = c3
  rw [Nat.mod_eq_of_lt (a := e + c3) (by omega)]
  refine ⟨lim5_mk (Nat.mod_lt _ (by omega)) (Nat.mod_lt _ (by omega)) (Nat.mod_lt _ (by omega)) (Nat.mod_lt _ (by omega)) (Nat.mod_lt _ (by omega)), ?_⟩
  rw [v5_mk, v5_mk]
  show _ = _ % 1361129467683753853853498429727072845819
  generalize hc4 : (e + c3) / 67108864 = c4
  generalize hW : (a + 5 * q) % 67108864 + 67108864 * ((b + c0) % 67108864) + 4503599627370496 * ((c + c1) % 67108864) + 302231454903657293676544 * ((d + c2) % 67108864) + 20282409603651670423947251286016 * ((e + c3) % 67108864) = W
  generalize hV : a + 67108864 * b + 4503599627370496 * c + 302231454903657293676544 * d + 20282409603651670423947251286016 * e = V at *
  have k1 : W + 1361129467683753853853498429727072845824 * c4 = V + 5 * q := by omega
  have k2 : W < 1361129467683753853853498429727072845824 := by omega
  have k3 : V < 1361129467683753853853498429727072845824 := by omega
  clear hW hV hc0 hc1 hc2 hc3 hc4 hq e1 h h0 h1 h2 h3 h4
  rcases (by omega : q = 0 ∨ q = 1) with rfl | rfl
  · have : c4 = 0 := by omega
    subst this
    rw [Nat.mod_eq_of_lt (by omega)]
    omega
  · have : c4 = 1 := by omega
    subst this
    omega

/-! The two sums, from equal bytes. -/
theorem fo_go {y k' a key : List Nat} (h : ∀ i, i < 16 → fx y i % 256 = a.getD i 0) (hk : ∀ i, k'.getD (16 + i) 0 = key.getD (16 + i) 0) : ∀ {i : Nat}, i ≤ 16 → fo y k' i = go a key i
  | 0, _ => rfl
  | i + 1, hi => by rw [fo, go, fo_go h hk (by omega), h i (by omega), hk i]

theorem fts_gts {y k' a key : List Nat} (h : ∀ i, i < 16 → fx y i % 256 = a.getD i 0) (hk : ∀ i, k'.getD (16 + i) 0 = key.getD (16 + i) 0) : ∀ {n i : Nat}, i + n ≤ 16 → fts y k' n i = gts a key n i
  | 0, _, _ => rfl
  | n + 1, i, hi => by
    rw [fts, gts, fts_gts h hk (by omega), ft, gt, fo_go h hk (by omega), h i (by omega), hk i, Nat.mod_mod]

/-! One block more. -/
theorem addL_val {a x : List Nat} (ha : lim5 67108870 a) (hx : lim5 67108864 x) : lim5 268435456 (addL a x) ∧ v5 (addL a x) = v5 a + v5 x := by
  obtain ⟨a0, a1, a2, a3, a4, rfl⟩ := five ha.1
  obtain ⟨x0, x1, x2, x3, x4, rfl⟩ := five hx.1
  have h0 : a0 < _ := ha.2 0
  have h1 : a1 < _ := ha.2 1
  have h2 : a2 < _ := ha.2 2
  have h3 : a3 < _ := ha.2 3
  have h4 : a4 < _ := ha.2 4
  have g0 : x0 < _ := hx.2 0
  have g1 : x1 < _ := hx.2 1
  have g2 : x2 < _ := hx.2 2
  have g3 : x3 < _ := hx.2 3
  have g4 : x4 < _ := hx.2 4
  have e : addL [a0, a1, a2, a3, a4] [x0, x1, x2, x3, x4] = [a0 + x0, a1 + x1, a2 + x2, a3 + x3, a4 + x4] := by
    show [ct a0 x0, ct a1 x1, ct a2 x2, ct a3 x3, ct a4 x4] = _
    unfold ct
    refine list5 ?_ ?_ ?_ ?_ ?_ <;> exact Nat.mod_eq_of_lt (by omega)
  rw [e]
  refine ⟨lim5_mk (by omega) (by omega) (by omega) (by omega) (by omega), ?_⟩
  rw [v5_mk, v5_mk, v5_mk]
  omega

theorem step_val {r a ys : List Nat} (ha : lim5 67108870 a) (hr : lim5 67108864 r) (hb : ∀ i, ys.getD i 0 < 256) (hl : ys.length ≤ 16) :
    lim5 67108870 (stepC r a ys) ∧ v5 (stepC r a ys) % P130 = (v5 a + leN (ys ++ [1])) * v5 r % P130 := by
  have hx : ∀ i, (ys ++ [1]).getD i 0 < 256 := fun i => by
    rw [List.getD, List.getElem?_append]
    split
    · have := hb i; rwa [List.getD] at this
    · cases i - ys.length with
      | zero => simp
      | succ n => simp
  have h16 : (ys ++ [1]).getD 16 0 < 4 := by
    rw [List.getD, List.getElem?_append, if_neg (by omega)]
    cases 16 - ys.length with
    | zero => simp
    | succ n => simp
  obtain ⟨n1, n2⟩ := numb_val hx h16 (by simp; omega)
  obtain ⟨b1, b2⟩ := addL_val ha n2
  obtain ⟨k, c1, c2⟩ := times_val b1 hr
  obtain ⟨k', d1, d2⟩ := carr_both c1
  refine ⟨d1, ?_⟩
  unfold stepC
  rw [← n1, ← b2, c2, d2, Nat.add_mul_mod_self_right, Nat.add_mul_mod_self_right]

end Go.Proofs.Ytgebgjhjegadpaa

namespace Go.Proofs.Ytgebgjhjegadpaa
open Go

theorem blk_val {s : List Nat} (l : Nat) : leN ((s.drop l).take 16 ++ [1]) = blV s l := by
  have hl : ((s.drop l).take 16).length = lenAt s l := by rw [lenAt, List.length_take, List.length_drop]
  rw [leN_append, leN_sumW, hl, blV]
  congr 1
  · refine sumW_congr fun j hj => ?_
    rw [← hl, List.length_take] at hj
    rw [List.getD, List.getElem?_take, if_pos (by omega), List.getElem?_drop]
    rfl
  · simp [leN]

theorem sub_lt {s : List Nat} (hs : allB 256 s = true) (l : Nat) (i : Nat) : ((s.drop l).take 16).getD i 0 < 256 := by
  rw [List.getD, List.getElem?_take]
  split
  · rw [List.getElem?_drop]; exact allB_get (by omega) hs (l + i)
  · simp

theorem takes_val {r rr s : List Nat} (hr : lim5 67108864 r) (hrr : rr.length = 16) (hrB : allB 256 rr = true) (he : v5 r = leN rr) (hs : allB 256 s = true) :
    ∀ i, lim5 67108870 (takesC r [0, 0, 0, 0, 0] s i) ∧ v5 (takesC r [0, 0, 0, 0, 0] s i) % P130 = aV rr s i
  | 0 => ⟨lim5_mk (by omega) (by omega) (by omega) (by omega) (by omega), rfl⟩
  | i + 1 => by
    obtain ⟨h1, h2⟩ := takes_val hr hrr hrB he hs i
    obtain ⟨g1, g2⟩ := step_val (ys := (s.drop (16 * i)).take 16) h1 hr (sub_lt hs (16 * i)) (by rw [List.length_take]; omega)
    refine ⟨g1, ?_⟩
    rw [takesC, g2, blk_val, aV_succ hs hrr hrB, ← he, ← h2, Nat.mul_mod, Nat.add_mod, ← Nat.mod_mod (v5 (takesC r [0, 0, 0, 0, 0] s i)), ← Nat.add_mod, ← Nat.mul_mod]
    rw [Nat.mod_mod]

theorem and252 : ∀ x, x < 256 → x &&& 252 = x - x % 4 := by decide +kernel
theorem and15 (x : Nat) : x &&& 15 = x % 16 := Nat.and_two_pow_sub_one_eq_mod x 4

theorem clampM_get (key : List Nat) (i m j : Nat) : (clampM key i m).getD j 0 = if i = j ∧ j < key.length then key.getD i 0 &&& m else key.getD j 0 := getD_set _ _ _ _

theorem clampM_len (key : List Nat) (i m : Nat) : (clampM key i m).length = key.length := by simp [clampM]

theorem clampK_get {key : List Nat} (hl : key.length = 32) (hk : okKey key = true) (j : Nat) : (clampK key).getD j 0 = if j < 16 then rDig key j else key.getD j 0 := by
  unfold clampK
  simp only [clampM_get, clampM_len, hl]
  by_cases h : j < 16
  · rw [if_pos h]
    have b4 := and252 (key.getD 4 0) (key_lt hk 4)
    have b8 := and252 (key.getD 8 0) (key_lt hk 8)
    have b12 := and252 (key.getD 12 0) (key_lt hk 12)
    have : j = 0 ∨ j = 1 ∨ j = 2 ∨ j = 3 ∨ j = 4 ∨ j = 5 ∨ j = 6 ∨ j = 7 ∨ j = 8 ∨ j = 9 ∨ j = 10 ∨ j = 11 ∨ j = 12 ∨ j = 13 ∨ j = 14 ∨ j = 15 := by omega
    rcases this with rfl | rfl | rfl | rfl | rfl | rfl | rfl | rfl | rfl | rfl | rfl | rfl | rfl | rfl | rfl | rfl
    · rw [if_neg (by omega), if_neg (by omega), if_neg (by omega), if_neg (by omega), if_neg (by omega), if_neg (by omega), if_neg (by omega)]; rfl
    · rw [if_neg (by omega), if_neg (by omega), if_neg (by omega), if_neg (by omega), if_neg (by omega), if_neg (by omega), if_neg (by omega)]; rfl
    · rw [if_neg (by omega), if_neg (by omega), if_neg (by omega), if_neg (by omega), if_neg (by omega), if_neg (by omega), if_neg (by omega)]; rfl
    · rw [if_neg (by omega), if_neg (by omega), if_neg (by omega), if_neg (by omega), if_neg (by omega), if_neg (by omega), if_pos (by omega), and15]; rfl
    · rw [if_neg (by omega), if_neg (by omega), if_pos (by omega), if_neg (by omega), if_neg (by omega), if_neg (by omega), if_neg (by omega), b4]; rfl
    · rw [if_neg (by omega), if_neg (by omega), if_neg (by omega), if_neg (by omega), if_neg (by omega), if_neg (by omega), if_neg (by omega)]; rfl
    · rw [if_neg (by omega), if_neg (by omega), if_neg (by omega), if_neg (by omega), if_neg (by omega), if_neg (by omega), if_neg (by omega)]; rfl
    · rw [if_neg (by omega), if_neg (by omega), if_neg (by omega), if_neg (by omega), if_neg (by omega), if_pos (by omega), if_neg (by omega), and15]; rfl
    · rw [if_neg (by omega), if_pos (by omega), if_neg (by omega), if_neg (by omega), if_neg (by omega), if_neg (by omega), if_neg (by omega), b8]; rfl
    · rw [if_neg (by omega), if_neg (by omega), if_neg (by omega), if_neg (by omega), if_neg (by omega), if_neg (by omega), if_neg (by omega)]; rfl
    · rw [if_neg (by omega), if_neg (by omega), if_neg (by omega), if_neg (by omega), if_neg (by omega), if_neg (by omega), if_neg (by omega)]; rfl
    · rw [if_neg (by omega), if_neg (by omega), if_neg (by omega), if_neg (by omega), if_pos (by omega), if_neg (by omega), if_neg (by omega), and15]; rfl
    · rw [if_pos (by omega), if_neg (by omega), if_neg (by omega), if_neg (by omega), if_neg (by omega), if_neg (by omega), if_neg (by omega), b12]; rfl
    · rw [if_neg (by omega), if_neg (by omega), if_neg (by omega), if_neg (by omega), if_neg (by omega), if_neg (by omega), if_neg (by omega)]; rfl
    · rw [if_neg (by omega), if_neg (by omega), if_neg (by omega), if_neg (by omega), if_neg (by omega), if_neg (by omega), if_neg (by omega)]; rfl
    · rw [if_neg (by omega), if_neg (by omega), if_neg (by omega), if_pos (by omega), if_neg (by omega), if_neg (by omega), if_neg (by omega), and15]; rfl
  · rw [if_neg h]
    rw [if_neg (by omega), if_neg (by omega), if_neg (by omega), if_neg (by omega), if_neg (by omega), if_neg (by omega), if_neg (by omega)]

theorem rRow_get (key : List Nat) : ∀ n i j, (rRow key n i).getD j 0 = if j < n then rDig key (i + j) else 0
  | 0, i, j => by simp [rRow]
  | n + 1, i, 0 => by simp [rRow]
  | n + 1, i, j + 1 => by
    rw [rRow, List.getD_cons_succ, rRow_get key n (i + 1) j]
    by_cases h : j < n
    · rw [if_pos h, if_pos (by omega)]; congr 1; omega
    · rw [if_neg h, if_neg (by omega)]

theorem rRow_len (key : List Nat) : ∀ n i, (rRow key n i).length = n
  | 0, _ => rfl
  | n + 1, i => by simp [rRow, rRow_len key n]

theorem clampK_len (key : List Nat) : (clampK key).length = key.length := by unfold clampK; simp only [clampM_len]

theorem take_rRow {key : List Nat} (hl : key.length = 32) (hk : okKey key = true) : (clampK key).take 16 = rRow key 16 0 := by
  have l1 : ((clampK key).take 16).length = 16 := by rw [List.length_take, clampK_len, hl]; rfl
  apply List.ext_getElem (by rw [l1, rRow_len])
  intro i h1 h2
  have g1 := clampK_get hl hk i
  have g2 := rRow_get key 16 0 i
  rw [l1] at h1
  rw [List.getD, List.getElem?_eq_getElem (by rw [clampK_len]; omega), Option.getD_some, if_pos h1] at g1
  rw [List.getD, List.getElem?_eq_getElem h2, Option.getD_some, if_pos h1, Nat.zero_add] at g2
  rw [List.getElem_take, g1, g2]

theorem tag_eq {key s : List Nat} (hl : key.length = 32) (hk : okKey key = true) (hs : allB 256 s = true) : tagS key s = tagR key s := by
  have hrow := rRow_all hk
  obtain ⟨n1, n2⟩ := numb_val (xs := rRow key 16 0) (fun i => allB_get (by omega) hrow i) (by rw [rRow_get, if_neg (by omega)]; omega) (by rw [rRow_len]; omega)
  have hr : rK key = numb (rRow key 16 0) := by rw [rK, take_rRow hl hk]
  rw [← hr] at n1 n2
  obtain ⟨h1, h2⟩ := takes_val n2 (rRow_len key 16 0) hrow n1 hs (nBlk s)
  obtain ⟨k, f1, f2⟩ := fin_two h1
  obtain ⟨g1, g2⟩ := least_val f1
  have hv : v5 (least (carr (carr (takesC (rK key) [0, 0, 0, 0, 0] s (nBlk s))))) = aV (rRow key 16 0) s (nBl s) := by
    rw [f2, Nat.add_mul_mod_self_right] at h2
    rw [g2, h2]
    rfl
  unfold tagS tagR finL
  refine fts_gts (fun i hi => ?_) (fun i => ?_) (Nat.le_refl 16)
  · rw [fx_val g1 hi, hv, digs_get, if_pos (by omega)]
  · rw [clampK_get hl hk, if_neg (by omega)]

end Go.Proofs.Ytgebgjhjegadpaa

namespace Go.Proofs.Ytgebgjhjegadpaa
open Go

def F24 : FSem := ⟨false, fun args hin => match args, hin with
  | [], [] => some (.leaf (.s (.bool true), []))
  | _, _ => none⟩

theorem fn24 : Fn Try.prog 24 Try.f24 := ⟨mixedP, Try.func24, by kernel_rfl, of_decide_eq_true (by kernel_rfl)⟩

set_option maxRecDepth 100000 in
theorem r24 : runB Try.prog [(25, F25)] [] .nat 3 Try.f24 [] [] = some (.s (.bool true), []) := by kernel_rfl

theorem ok24 : FOk Try.prog 24 F24 := by
  refine fokB (fs := [(25, F25)]) (xs := []) (m := .nat) (fuel := 3) (.cons ok25 .nil) fn24 ?_
  intro args hin t r h hg
  unfold F24 at h
  simp only at h
  split at h
  · cases h; cases hg
    exact r24
  · cases h

end Go.Proofs.Ytgebgjhjegadpaa

namespace Go.Proofs.Ytgebgjhjegadpaa
open Go

theorem fn8 : Fn Try.prog 8 Try.f8 := ⟨mixedP, Try.func8, by kernel_rfl, of_decide_eq_true (by kernel_rfl)⟩

set_option maxRecDepth 100000 in
theorem r8 (key xs : List Nat) : runB Try.prog [(24, F24), (25, F25), (26, F26)] [] .nat 3 Try.f8 [.agg [.ints .u8 32 key], .s (.xsl (.ints .u8 xs))] [] =
(nd [decide (xs.length < 9223372036854775808), decide (min xs.length 400 < 9223372036854775808), decide (min xs.length 400 ≤ xs.length), ok41 [List.take (min xs.length 400) xs], okKey key, okKey key, allB 256 (List.take (min xs.length 400) xs), decide ((List.take (min xs.length 400) xs).length < 4611686018427387904)]
 (some (AV.s (SV.bool (decide (tagC key [List.take (min xs.length 400) xs] = tagR key (List.take (min xs.length 400) xs)))), []))) := by kernel_rfl

theorem okKey_of {key : List Nat} (h : ∀ x ∈ key, x < 256) : okKey key = true := List.all_eq_true.2 fun x hx => decide_eq_true (h x hx)
theorem allB_mem {B : Nat} {xs : List Nat} (h : ∀ x ∈ xs, x < B) : allB B xs = true := List.all_eq_true.2 fun x hx => decide_eq_true (h x hx)

theorem ctr8 {key xs : List Nat} (hl : key.length = 32) (hk : ∀ x ∈ key, x < 256) (h : xs.length < 9223372036854775808) (hx : ∀ x ∈ xs, x < 256) : Ctr Try.prog 8 [.agg [.ints .u8 32 key], .s (.xsl (.ints .u8 xs))] [] (.s (.bool true)) [] := by
  refine ctrB (fs := [(24, F24), (25, F25), (26, F26)]) (xs := []) (m := .nat) (fuel := 3) (.cons ok24 (.cons ok25 (.cons ok26 .nil))) fn8 ?_
  have hy : (xs.take (min xs.length 400)).length ≤ 400 := by simp; omega
  have hb : allB 256 (xs.take (min xs.length 400)) = true := allB_mem fun x hm => hx x (List.mem_of_mem_take hm)
  rw [r8, tagC_one, tag_eq hl (okKey_of hk) hb]
  refine nd_of ?_ ?_
  · simp only [List.mem_cons, List.not_mem_nil, or_false, forall_eq_or_imp, forall_eq, decide_eq_true_eq]
    exact ⟨h, by omega, by omega, ok41_one (by omega), okKey_of hk, okKey_of hk, hb, by omega⟩
  · simp

end Go.Proofs.Ytgebgjhjegadpaa

namespace Go.Proofs.Ytgebgjhjegadpaa
open Go

def half12 (p : Nat) : List Nat := [0, 0, 0, p * 2 ^ 4 % 256, p &&& 3, 0, 0, p * 2 ^ 4 % 256, p &&& 3, 0, 0, p * 2 ^ 4 % 256, p &&& 3, 0, 0, p * 2 ^ 4 % 256]

def key12 (p : Nat) (sec : List Nat) : List Nat := half12 p ++ (List.take 16 sec ++ [])

theorem fn12 : Fn Try.prog 12 Try.f12 := ⟨mixedP, Try.func12, by kernel_rfl, of_decide_eq_true (by kernel_rfl)⟩

set_option maxRecDepth 100000 in
theorem r12 (sec xs : List Nat) (p : Nat) : runB Try.prog [(24, F24), (25, F25), (26, F26)] [] .nat 7 Try.f12 [.agg [.ints .u8 16 sec], .s (.xsl (.ints .u8 xs)), .s (.nat .u8 p)] [] =
    nd [ok41 [xs], okKey (key12 p sec)] (some (.s (.bool (decide (tagC (key12 p sec) [xs] = sec))), [])) := by kernel_rfl

def zero5 : List Nat := [0, 0, 0, 0, 0]

theorem pl0 (x : Nat) : pl x 0 = 0 := by simp [pl]
theorem p50 (x : Nat) : p5 x 0 = 0 := by simp [p5]

theorem times0 (x : List Nat) : timesL x zero5 = zero5 := by
  show times5 _ _ _ _ _ 0 0 0 0 0 = _
  unfold times5
  simp only [pl0, p50]
  rfl

theorem step0 (a ys : List Nat) : stepC zero5 a ys = zero5 := by
  unfold stepC
  rw [times0]
  rfl

theorem takes0 (s : List Nat) : ∀ q, takesC zero5 zero5 s q = zero5
  | 0 => rfl
  | q + 1 => by rw [takesC, takes0 s q, step0]

theorem and16 (p : Nat) : p * 2 ^ 4 % 256 &&& 15 = 0 := by
  rw [and15]
  omega

theorem and4 : ∀ p, p < 256 → p &&& 3 &&& 252 = 0 := by decide +kernel

theorem len16 {x : List Nat} (h : x.length = 16) : ∃ a b c d e f g i j k l m n o p q, x = [a, b, c, d, e, f, g, i, j, k, l, m, n, o, p, q] := by
  match x, h with
  | [a, b, c, d, e, f, g, i, j, k, l, m, n, o, p, q], _ => exact ⟨a, b, c, d, e, f, g, i, j, k, l, m, n, o, p, q, rfl⟩

theorem rK12 {p : Nat} (hp : p < 256) (sec : List Nat) : rK (key12 p sec) = zero5 := by
  have e : (clampK (key12 p sec)).take 16 = [0, 0, 0, p * 2 ^ 4 % 256 &&& 15, p &&& 3 &&& 252, 0, 0, p * 2 ^ 4 % 256 &&& 15, p &&& 3 &&& 252, 0, 0, p * 2 ^ 4 % 256 &&& 15, p &&& 3 &&& 252, 0, 0, p * 2 ^ 4 % 256 &&& 15] := by kernel_rfl
  rw [rK, e, and16, and4 p hp]
  rfl

theorem key12_ok {p : Nat} {sec : List Nat} (hl : sec.length = 16) (hs : ∀ x ∈ sec, x < 256) (hp : p < 256) : okKey (key12 p sec) = true ∧ (key12 p sec).length = 32 ∧ ∀ i, i < 16 → (key12 p sec).getD (16 + i) 0 = sec.getD i 0 := by
  have e : key12 p sec = half12 p ++ sec := by
    unfold key12
    rw [List.append_nil, List.take_of_length_le (by omega)]
  rw [e]
  refine ⟨List.all_eq_true.2 fun x hx => ?_, ?_, fun i hi => ?_⟩
  · rcases List.mem_append.1 hx with hx | hx
    · have h1 : p * 2 ^ 4 % 256 < 256 := Nat.mod_lt _ (by omega)
      have h2 : p &&& 3 < 256 := Nat.lt_of_le_of_lt Nat.and_le_left hp
      refine decide_eq_true ?_
      unfold half12 at hx
      simp only [List.mem_cons, List.not_mem_nil, or_false] at hx
      omega
    · exact decide_eq_true (hs x hx)
  · rw [List.length_append, hl]; rfl
  · rw [List.getD, List.getElem?_append_right (by show 16 ≤ _; omega)]
    show (sec[16 + i - 16]?).getD 0 = _
    rw [show 16 + i - 16 = i by omega]
    rfl

theorem fo0 {y key : List Nat} (hy : ∀ i, i < 16 → fx y i % 256 = 0) (hk : okKey key = true) : ∀ {i : Nat}, i ≤ 16 → fo y key i = 0
  | 0, _ => rfl
  | i + 1, h => by
    have := key_lt hk (16 + i)
    rw [fo, fo0 hy hk (by omega), hy i (by omega)]
    omega

theorem fts0 {y key sec : List Nat} (hy : ∀ i, i < 16 → fx y i % 256 = 0) (hk : okKey key = true) (hs : ∀ i, i < 16 → key.getD (16 + i) 0 = sec.getD i 0) : ∀ {n i : Nat}, i + n ≤ 16 → fts y key n i = (List.range' i n).map fun j => sec.getD j 0
  | 0, _, _ => rfl
  | n + 1, i, h => by
    have := key_lt hk (16 + i)
    rw [fts, fts0 hy hk hs (by omega), ft, fo0 hy hk (by omega), hy i (by omega), List.range'_succ, List.map_cons]
    congr 1
    rw [← hs i (by omega)]
    omega

theorem tag12 {p : Nat} {sec : List Nat} (hl : sec.length = 16) (hs : ∀ x ∈ sec, x < 256) (hp : p < 256) (s : List Nat) : tagS (key12 p sec) s = sec := by
  obtain ⟨h1, h2, h3⟩ := key12_ok hl hs hp
  have h4 := okKey_clamp h1
  unfold tagS finL
  rw [rK12 hp, show ([0, 0, 0, 0, 0] : List Nat) = zero5 from rfl, takes0, show least (carr (carr zero5)) = zero5 from rfl]
  rw [fts0 (sec := sec) (fun i hi => ?_) h4 (fun i hi => ?_) (Nat.le_refl 16)]
  · obtain ⟨a, b, c, d, e, f, g, i, j, k, l, m, n, o, p, q, rfl⟩ := len16 hl
    rfl
  · have : i = 0 ∨ i = 1 ∨ i = 2 ∨ i = 3 ∨ i = 4 ∨ i = 5 ∨ i = 6 ∨ i = 7 ∨ i = 8 ∨ i = 9 ∨ i = 10 ∨ i = 11 ∨ i = 12 ∨ i = 13 ∨ i = 14 ∨ i = 15 := by omega
    rcases this with rfl | rfl | rfl | rfl | rfl | rfl | rfl | rfl | rfl | rfl | rfl | rfl | rfl | rfl | rfl | rfl <;> rfl
  · rw [clampK_get h2 h1, if_neg (by omega), h3 i hi]

theorem ctr12 {sec xs : List Nat} {p : Nat} (hl : sec.length = 16) (hs : ∀ x ∈ sec, x < 256) (hp : p < 256) (h : xs.length ≤ 140737488355328) : Ctr Try.prog 12 [.agg [.ints .u8 16 sec], .s (.xsl (.ints .u8 xs)), .s (.nat .u8 p)] [] (.s (.bool true)) [] := by
  refine ctrB (fs := [(24, F24), (25, F25), (26, F26)]) (xs := []) (m := .nat) (fuel := 7) (.cons ok24 (.cons ok25 (.cons ok26 .nil))) fn12 ?_
  rw [r12, tagC_one, tag12 hl hs hp]
  refine nd_of ?_ (by simp)
  simp only [List.mem_cons, List.not_mem_nil, or_false, forall_eq_or_imp, forall_eq, decide_eq_true_eq, true_and, and_true]
  exact ⟨ok41_one h, (key12_ok hl hs hp).1⟩

end Go.Proofs.Ytgebgjhjegadpaa

namespace Go.Proofs.Ytgebgjhjegadpaa
open Go

def setZ (key : List Nat) : Nat → Nat → List Nat
  | 0, _ => key
  | n + 1, i => setZ (key.set i 0) n (i + 1)

def plainK (key : List Nat) : List Nat := setZ key 16 16
def key11 (key oth : List Nat) : List Nat := List.take 16 key ++ (List.take 16 oth ++ List.drop 32 key)

def cN (b o : List Nat) : Nat → Nat
  | 0 => 0
  | i + 1 => (cN b o i + (b.getD i 0 + o.getD i 0)) / 256

def okOth (n : Nat) (b o t : List Nat) : Bool := decide (∀ i, i < n → t.getD i 0 = (cN b o i + (b.getD i 0 + o.getD i 0)) % 256 % 256)

def Sp : LSem := ⟨[33, 11, 9, 4, 10], [6], fun args hin => match args, hin with
  | [.s (.nat .i64 0), .s (.nat .i64 0), .s (.ptr 0 0), .s (.ptr 1 0), .s (.ptr 2 0)], [[.ints .u8 16 b], [.ints .u8 16 o], [.ints .u8 16 t]] =>
    some (Tr.needs [allB 256 b, allB 256 o, okOth 16 b o t] (.leaf (.normal, [.any], [some [.ints .u8 16 b], some [.ints .u8 16 o], some [.ints .u8 16 t]])))
  | _, _ => none⟩

set_option maxRecDepth 100000 in
theorem rp11 (b o t : List Nat) (c j : Nat) : runR Try.prog [] [] .nat 7 [] Try.f11 2 Sp 3 [.s (.nat .i64 j), .s (.nat .i64 c), .s (.ptr 0 0), .s (.ptr 1 0), .s (.ptr 2 0)] [some [.ints .u8 16 b], some [.ints .u8 16 o], some [.ints .u8 16 t]] =
(cond (decide (j < 16))
 (nd [decide (j < 16), decide (j < 16), decide (j < 16), decide (j < 16), decide (b.getD j 0 + o.getD j 0 < 9223372036854775808), decide (c + (b.getD j 0 + o.getD j 0) < 9223372036854775808), decide (j < 16), decide (j < 16)]
 (cond (!decide (t.getD j 0 = (c + (b.getD j 0 + o.getD j 0)) % 256 % 256))
 (some (Ex.ret, [AV.s (SV.bool false)], [some [Ch.ints IntKind.u8 16 b], some [Ch.ints IntKind.u8 16 o], some [Ch.ints IntKind.u8 16 t]]))
 (nd [decide (j + 1 < 9223372036854775808)]
 (some (Ex.normal, [AV.s (SV.nat IntKind.i64 (j + 1)), AV.s (SV.nat IntKind.i64 ((c + (b.getD j 0 + o.getD j 0)) / 256)), AV.s (SV.ptr 0 0), AV.s (SV.ptr 1 0), AV.s (SV.ptr 2 0)], [some [Ch.ints IntKind.u8 16 b], some [Ch.ints IntKind.u8 16 o], some [Ch.ints IntKind.u8 16 t]])))))
 (some (Ex.exit 2, [AV.any], [some [Ch.ints IntKind.u8 16 b], some [Ch.ints IntKind.u8 16 o], some [Ch.ints IntKind.u8 16 t]]))) := by kernel_rfl

theorem cN_lt {b o : List Nat} (hb : allB 256 b = true) (ho : allB 256 o = true) : ∀ i, cN b o i < 256
  | 0 => by simp [cN]
  | i + 1 => by
    have h1 := cN_lt hb ho i
    have h2 := allB_get (by omega) hb i
    have h3 := allB_get (by omega) ho i
    unfold cN
    omega

theorem lok11 : LOk Try.prog Try.f11.ntmps (.block 2 (.loop (lb 2 Try.f11))) Sp := by
  refine lokR (fs := []) (xs := []) (m := .nat) (fuel := 7) (sums := []) .nil mixedP (loopsOk_none rfl _) ?_
  intro args hin t e vs hout h hg
  unfold Sp at h
  simp only at h
  split at h
  · rename_i b o s
    simp only [Option.some.injEq] at h
    subst h
    obtain ⟨hc, hgt⟩ := Tr.needs_get hg
    clear hg
    have e1 : allB 256 b = true := hc (allB 256 b) (by simp)
    have e2 : allB 256 o = true := hc (allB 256 o) (by simp)
    have e3 : ∀ i, i < 16 → s.getD i 0 = (cN b o i + (b.getD i 0 + o.getD i 0)) % 256 % 256 := of_decide_eq_true (hc (okOth 16 b o s) (by simp))
    clear hc
    cases hgt
    refine ⟨16, fun i => ([.s (.nat .i64 i), .s (.nat .i64 (cN b o i)), .s (.ptr 0 0), .s (.ptr 1 0), .s (.ptr 2 0)], [some [.ints .u8 16 b], some [.ints .u8 16 o], some [.ints .u8 16 s]]), .exit 2, rfl, fun i hi => ?_, ?_, rfl⟩
    · simp only [List.length_cons, List.length_nil]
      rw [rp11]
      have g1 := cN_lt e1 e2 i
      have g2 := allB_get (by omega) e1 i
      have g3 := allB_get (by omega) e2 i
      refine cond_t (decide_eq_true hi) (nd_of ?_ (cond_f ?_ (nd_of ?_ rfl)))
      · simp only [List.mem_cons, List.not_mem_nil, or_false, forall_eq_or_imp, forall_eq, decide_eq_true_eq, true_and, and_true]; omega
      · rw [decide_eq_true (e3 i hi)]; rfl
      · simp only [List.mem_cons, List.not_mem_nil, or_false, forall_eq_or_imp, forall_eq, decide_eq_true_eq, true_and, and_true]; omega
    · simp only [List.length_cons, List.length_nil]
      rw [rp11]
      exact cond_f (decide_eq_false (by omega)) rfl
  · cases h

theorem fn11 : Fn Try.prog 11 Try.f11 := ⟨mixedP, Try.func11, by kernel_rfl, of_decide_eq_true (by kernel_rfl)⟩

theorem loops11 : LoopsOk Try.prog ⟨Try.f11.ntmps, 17, [(2, Sp)]⟩ (bodyOf Try.f11) := by
  refine loopsOk_of ?_
  have e : loopsIn [(2, Sp)] (bodyOf Try.f11) = [(2, .loop (lb 2 Try.f11), Sp)] := by kernel_rfl
  simp only [e]
  intro x hx
  simp only [List.mem_cons, List.not_mem_nil, or_false] at hx
  subst hx
  exact lok11

set_option maxRecDepth 100000 in
theorem r11 (key oth xs : List Nat) : runL Try.prog [(24, F24), (25, F25), (26, F26)] [] .nat 17 [(2, Sp)] Try.f11 [.agg [.ints .u8 32 key], .agg [.ints .u8 16 oth], .s (.xsl (.ints .u8 xs))] [] =
    nd [ok41 [xs], okKey (plainK key), ok41 [xs], okKey (key11 key oth), allB 256 (tagC (plainK key) [xs]), allB 256 oth,
        okOth 16 (tagC (plainK key) [xs]) oth (tagC (key11 key oth) [xs])]
      (some (.s (.bool true), [])) := by kernel_rfl

theorem setZ_get : ∀ (n i : Nat) (key : List Nat) (j : Nat), (setZ key n i).getD j 0 = if i ≤ j ∧ j < i + n then 0 else key.getD j 0
  | 0, i, key, j => by rw [if_neg (by omega)]; rfl
  | n + 1, i, key, j => by
    rw [setZ, setZ_get n (i + 1), getD_set]
    by_cases h : i + 1 ≤ j ∧ j < i + 1 + n
    · rw [if_pos h, if_pos (by omega)]
    · rw [if_neg h]
      by_cases e : i = j
      · subst e
        rw [if_pos (by omega : i ≤ i ∧ i < i + (n + 1))]
        split
        · rfl
        · rename_i hc
          rw [List.getD, List.getElem?_eq_none (by omega)]
          rfl
      · rw [if_neg (fun h => e h.1), if_neg (by omega)]

theorem setZ_ok : ∀ (n i : Nat) {key : List Nat}, okKey key = true → okKey (setZ key n i) = true ∧ (setZ key n i).length = key.length
  | 0, i, key, h => ⟨h, rfl⟩
  | n + 1, i, key, h => by
    obtain ⟨h1, h2⟩ := setZ_ok n (i + 1) (okKey_set h i (v := 0) (by omega))
    exact ⟨h1, by rw [setZ, h2, List.length_set]⟩

theorem key11_ok {key oth : List Nat} (hl : key.length = 32) (hk : okKey key = true) (hl2 : oth.length = 16) (ho : ∀ x ∈ oth, x < 256) : okKey (key11 key oth) = true ∧ (key11 key oth).length = 32 ∧ (∀ i, i < 16 → (key11 key oth).getD (16 + i) 0 = oth.getD i 0) ∧ ∀ i, i < 16 → (key11 key oth).getD i 0 = key.getD i 0 := by
  have e : key11 key oth = key.take 16 ++ oth := by
    unfold key11
    rw [List.take_of_length_le (l := oth) (by omega), List.drop_of_length_le (by omega), List.append_nil]
  rw [e]
  refine ⟨List.all_eq_true.2 fun x hx => ?_, by rw [List.length_append, List.length_take, hl, hl2]; rfl, fun i hi => ?_, fun i hi => ?_⟩
  · rcases List.mem_append.1 hx with hx | hx
    · exact List.all_eq_true.1 hk x (List.mem_of_mem_take hx)
    · exact decide_eq_true (ho x hx)
  · rw [List.getD, List.getElem?_append_right (by rw [List.length_take]; omega), List.length_take, hl, show 16 + i - min 16 32 = i by omega]
    rfl
  · rw [List.getD, List.getElem?_append_left (by rw [List.length_take]; omega), List.getElem?_take, if_pos hi]
    rfl

theorem rK_same {k1 k2 : List Nat} (h1 : k1.length = 32) (h2 : k2.length = 32) (o1 : okKey k1 = true) (o2 : okKey k2 = true) (h : ∀ i, i < 16 → k1.getD i 0 = k2.getD i 0) : rK k1 = rK k2 := by
  rw [rK, rK, take_rRow h1 o1, take_rRow h2 o2]
  congr 1
  apply List.ext_getElem (by rw [rRow_len, rRow_len])
  intro i g1 g2
  have e1 := rRow_get k1 16 0 i
  have e2 := rRow_get k2 16 0 i
  rw [rRow_len] at g1
  rw [List.getD, List.getElem?_eq_getElem (by rw [rRow_len]; omega), Option.getD_some, if_pos g1, Nat.zero_add] at e1
  rw [List.getD, List.getElem?_eq_getElem g2, Option.getD_some, if_pos g1, Nat.zero_add] at e2
  rw [e1, e2]
  unfold rDig
  rw [h i g1]

theorem fts_get (y key : List Nat) : ∀ n i j, (fts y key n i).getD j 0 = if j < n then ft y key (i + j) else 0
  | 0, i, j => by simp [fts]
  | n + 1, i, 0 => by simp [fts]
  | n + 1, i, j + 1 => by
    rw [fts, List.getD_cons_succ, fts_get y key n (i + 1) j]
    by_cases h : j < n
    · rw [if_pos h, if_pos (by omega)]; congr 1; omega
    · rw [if_neg h, if_neg (by omega)]

theorem fo_plain {y key : List Nat} (hk : ∀ i, i < 16 → key.getD (16 + i) 0 = 0) : ∀ {i : Nat}, i ≤ 16 → fo y key i = 0
  | 0, _ => rfl
  | i + 1, h => by
    have : fx y i % 256 < 256 := Nat.mod_lt _ (by omega)
    rw [fo, fo_plain hk (by omega), hk i (by omega)]
    omega

theorem other_eq {key oth : List Nat} (hl : key.length = 32) (hk : okKey key = true) (hl2 : oth.length = 16) (ho : ∀ x ∈ oth, x < 256) (s : List Nat) :
    (∀ i, (tagS (plainK key) s).getD i 0 < 256) ∧ ∀ i, i < 16 → (tagS (key11 key oth) s).getD i 0 = (cN (tagS (plainK key) s) oth i + ((tagS (plainK key) s).getD i 0 + oth.getD i 0)) % 256 % 256 := by
  have p1 : okKey (plainK key) = true := (setZ_ok 16 16 hk).1
  have p2 : (plainK key).length = 32 := by rw [plainK, (setZ_ok 16 16 hk).2, hl]
  obtain ⟨q1, q2, q3, q4⟩ := key11_ok hl hk hl2 ho
  have hr : rK (key11 key oth) = rK (plainK key) := rK_same q2 p2 q1 p1 fun i hi => by rw [q4 i hi, plainK, setZ_get, if_neg (by omega)]
  unfold tagS finL
  rw [hr]
  generalize least (carr (carr (takesC (rK (plainK key)) [0, 0, 0, 0, 0] s (nBlk s)))) = y
  have hz : ∀ i, i < 16 → (clampK (plainK key)).getD (16 + i) 0 = 0 := fun i hi => by
    rw [clampK_get p2 p1, if_neg (by omega), plainK, setZ_get, if_pos (by omega)]
  have ho' : ∀ i, i < 16 → (clampK (key11 key oth)).getD (16 + i) 0 = oth.getD i 0 := fun i hi => by
    rw [clampK_get q2 q1, if_neg (by omega), q3 i hi]
  have hb : ∀ i, i < 16 → (fts y (clampK (plainK key)) 16 0).getD i 0 = fx y i % 256 := fun i hi => by
    rw [fts_get, if_pos hi, Nat.zero_add, ft, fo_plain hz (by omega), hz i hi]
    omega
  have hc : ∀ i, i ≤ 16 → cN (fts y (clampK (plainK key)) 16 0) oth i = fo y (clampK (key11 key oth)) i := by
    intro i
    induction i with
    | zero => intro _; rfl
    | succ i ih =>
      intro hi
      rw [cN, ih (by omega), hb i (by omega), fo, ho' i (by omega)]
  refine ⟨fun i => ?_, fun i hi => ?_⟩
  · by_cases hi : i < 16
    · rw [hb i hi]; exact Nat.mod_lt _ (by omega)
    · rw [fts_get, if_neg hi]; omega
  · rw [hc i (by omega), hb i hi, fts_get, if_pos hi, Nat.zero_add, ft, ho' i hi, Nat.mod_mod]

theorem ctr11 {key oth xs : List Nat} (hl : key.length = 32) (hk : ∀ x ∈ key, x < 256) (hl2 : oth.length = 16) (ho : ∀ x ∈ oth, x < 256) (h : xs.length ≤ 140737488355328) : Ctr Try.prog 11 [.agg [.ints .u8 32 key], .agg [.ints .u8 16 oth], .s (.xsl (.ints .u8 xs))] [] (.s (.bool true)) [] := by
  refine ctrL (fs := [(24, F24), (25, F25), (26, F26)]) (xs := []) (m := .nat) (fuel := 17) (sums := [(2, Sp)]) (.cons ok24 (.cons ok25 (.cons ok26 .nil))) fn11 loops11 ?_
  obtain ⟨g1, g2⟩ := other_eq hl (okKey_of hk) hl2 ho xs
  have h41 : ok41 [xs] = true := ok41_one h
  rw [r11, tagC_one, tagC_one]
  refine nd_of ?_ rfl
  simp only [List.mem_cons, List.not_mem_nil, or_false, forall_eq_or_imp, forall_eq, decide_eq_true_eq, true_and, and_true]
  exact ⟨h41, (setZ_ok 16 16 (okKey_of hk)).1, h41, (key11_ok hl (okKey_of hk) hl2 ho).1, allB_of g1, allB_mem ho, decide_eq_true g2⟩

end Go.Proofs.Ytgebgjhjegadpaa

namespace Go.Proofs.Ytgebgjhjegadpaa
open Go Go.ChangeShapes Go.WideShapes Go.ChangeAt Go.RowKit

theorem own : ownKnob Try.prog.godebug = none := by kernel_rfl
theorem laidOut : laidOutB Try.prog = true := by kernel_rfl
theorem u3 : Try.prog.underlying 3 = some (.int .i64) := by kernel_rfl
theorem u4 : Try.prog.underlying 4 = some .bool := by kernel_rfl
theorem u5 : Try.prog.underlying 5 = some (.int .u8) := by kernel_rfl
theorem u26 : Try.prog.underlying 26 = some (.int .u32) := by kernel_rfl
theorem u23 : Try.prog.underlying 23 = some (.array 32 5) := by kernel_rfl
theorem u25 : Try.prog.underlying 25 = some (.array 12 5) := by kernel_rfl
theorem u44 : Try.prog.underlying 44 = some (.array 16 5) := by kernel_rfl
theorem u33 : Try.prog.underlying 33 = some (.slice 34) := by kernel_rfl
theorem c44 : Try.prog.cellsOf 44 = 16 := by kernel_rfl
theorem u34 : Try.prog.underlying 34 = some (.slice 5) := by kernel_rfl
theorem c5 : Try.prog.cellsOf 5 = 1 := by kernel_rfl
theorem c23 : Try.prog.cellsOf 23 = 32 := by kernel_rfl
theorem c25 : Try.prog.cellsOf 25 = 12 := by kernel_rfl

theorem law_of {s : ChangeSpec} (h : s.vars = [] ∧ ∀ (H : Type) (d1 d2 d3 : DataW H), (s.fn H [d1, d2, d3]) = { results := [.lit (.bool true)], args := [d1, d2, d3] }) : Law s 3 := by
  refine ⟨h.1, fun H ds hl => ?_⟩
  match ds, hl with
  | [d1, d2, d3], _ => rw [h.2]; exact ⟨rfl, rfl, rfl⟩

theorem law_of2 {s : ChangeSpec} (h : s.vars = [] ∧ ∀ (H : Type) (d1 d2 : DataW H), (s.fn H [d1, d2]) = { results := [.lit (.bool true)], args := [d1, d2] }) : Law s 2 := by
  refine ⟨h.1, fun H ds hl => ?_⟩
  match ds, hl with
  | [d1, d2], _ => rw [h.2]; exact ⟨rfl, rfl, rfl⟩

end Go.Proofs.Ytgebgjhjegadpaa

namespace Go.Proofs.Ytgebgjhjegadpaa
open Go Go.ChangeShapes Go.WideShapes Go.ChangeAt Go.RowKit

section
variable {H : Type} {enc : TypeId × Value → H} {P : Program} {W : World} {r : Reach} {b0 base : Nat} {spare : Nat → Bool} {held : Bool} {t e : TypeId} {k : IntKind} {v : Value} {d : DataW H} {ps : List MemPlace}

theorem relX_lenS {cx : Cx} {xs : List Nat} {len cap : Nat} {a : Addr} (h : RelX cx (.ints k xs) (.slice (some a) len cap)) : xs.length = len := by
  rcases h with ⟨_, h⟩ | ⟨b, o, c, h, _, _⟩
  · cases h
  · cases h; rfl

/-- A slice of numbers with what it reads as. -/
theorem open_rowS (hk : isU k = true) (he : P.underlying e = some (.int k)) (hce : P.cellsOf e = 1) (ht : P.underlying t = some (.slice e)) (hval : Value.okWide P W r b0 t v) (hd : DataW.Trod enc P W base spare held t v d ps) :
    ∃ xs : List Nat, (xs.length = 0 ∨ ∃ el sp : List (DataW H), d = .slice el sp ∧ xs.length ≤ el.length + sp.length) ∧ (∀ x ∈ xs, x < lim k) ∧ RelX (now W (allX W)) (.ints k xs) v := by
  obtain ⟨xs, _, h2, h3⟩ := open_rowV hk he hce ht hval hd
  refine ⟨xs, ?_, h2, h3⟩
  obtain ⟨fuel, hd⟩ := hd
  have hok := hval
  simp only [Value.okWide, ht, Cell.okWide, Cell.ok] at hok
  have hcell : v.cells.toList = [v] := by
    cases v <;> simp_all [Value.cells]
  rw [hcell] at hd
  rcases open_ints ht he hce hd with ⟨h1, _⟩ | ⟨a, len, cap, zs, h1, _, g2, g3, g4, g5, _, _⟩
  · simp only [List.cons.injEq, and_true] at h1
    subst h1
    left
    rcases h3 with ⟨h, _⟩ | ⟨b, o, c, h, _, _⟩
    · exact h
    · cases h
  · simp only [List.cons.injEq, and_true] at h1
    subst h1
    right
    have e1 := relX_lenS h3
    simp only [Prod.mk.injEq] at g5
    refine ⟨_, _, g5.1, ?_⟩
    have hlen : len ≤ zs.length := by rw [g4]; split <;> omega
    simp [lits]
    omega

/-- Its length, by the reach. -/
theorem row_reach {ts : List TypeId} {ds : List (DataW H)} (h : (DataW.weightsEach P ts ds).all (· ≤ reachBytes) = true) {j : Nat} (ht : ts[j]? = some t) (hd : ds[j]? = some d) (hu : P.underlying t = some (.slice e)) (hb : P.bytesOf e = 1)
    {xs : List Nat} (hx : xs.length = 0 ∨ ∃ el sp : List (DataW H), d = .slice el sp ∧ xs.length ≤ el.length + sp.length) : xs.length ≤ 140737488355328 := by
  rcases hx with hx | ⟨el, sp, rfl, hx⟩
  · omega
  · have h1 := sized_slice h ht hd hu
    rw [hb, Nat.mul_one] at h1
    have h2 : reachBytes < 140737488355328 := by decide
    omega
end
theorem by5 : Try.prog.bytesOf 5 = 1 := by kernel_rfl

end Go.Proofs.Ytgebgjhjegadpaa

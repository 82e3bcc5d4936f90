/-
  Part 4 of what the last text stands on: The document's reduction modulo 2^130 - 5.
-/
import Derived.Test.YtgebgjhjegadpaaB3
import Derived.Test.YtgebgjhjegadpaaRows

set_option linter.unusedSimpArgs false
set_option linter.unusedVariables false

namespace Go.Proofs.Ytgebgjhjegadpaa
open Go

def itN (v : Nat) : Nat → Nat
  | 0 => v
  | i + 1 => nx (itN v i)

def redF : Nat → Nat → Nat
  | 0, v => v
  | k + 1, v => if v < 1361129467683753853853498429727072845824 then v else redF k (nx v)

def red (v : Nat) : Nat := redF 4 v

theorem itN_succ (v : Nat) : ∀ i, itN v (i + 1) = itN (nx v) i
  | 0 => rfl
  | i + 1 => by rw [itN, itN_succ v i, itN]

theorem redF_spec : ∀ (k v : Nat), (∃ n, n < k ∧ (∀ i, i < n → 1361129467683753853853498429727072845824 ≤ itN v i) ∧ itN v n < 1361129467683753853853498429727072845824 ∧ redF k v = itN v n) ∨ (∀ i, i < k → 1361129467683753853853498429727072845824 ≤ itN v i)
  | 0, v => .inr fun i h => by omega
  | k + 1, v => by
    by_cases hv : v < 1361129467683753853853498429727072845824
    · exact .inl ⟨0, by omega, fun i h => by omega, hv, by rw [redF, if_pos hv]; rfl⟩
    · rcases redF_spec k (nx v) with ⟨n, h1, h2, h3, h4⟩ | h
      · refine .inl ⟨n + 1, by omega, fun i hi => ?_, by rw [itN_succ]; exact h3, by rw [redF, if_neg hv, itN_succ]; exact h4⟩
        cases i with
        | zero => simp only [itN]; omega
        | succ i => rw [itN_succ]; exact h2 i (by omega)
      · refine .inr fun i hi => ?_
        cases i with
        | zero => simp only [itN]; omega
        | succ i => rw [itN_succ]; exact h i (by omega)

theorem red_spec {v : Nat} (hv : v < 256 ^ 40) : ∃ n, (∀ i, i < n → 1361129467683753853853498429727072845824 ≤ itN v i) ∧ itN v n < 1361129467683753853853498429727072845824 ∧ red v = itN v n := by
  rcases redF_spec 4 v with ⟨n, _, h2, h3, h4⟩ | h
  · exact ⟨n, h2, h3, h4⟩
  · exfalso
    have h0 := h 0 (by omega)
    have h1 := h 1 (by omega)
    have h2 := h 2 (by omega)
    have h3 := h 3 (by omega)
    simp only [itN, nx] at h0 h1 h2 h3
    have p : (256 : Nat) ^ 40 = 2135987035920910082395021706169552114602704522356652769947041607822219725780640550022962086936576 := by decide
    rw [p] at hv
    omega

theorem nx_lt {v : Nat} (hv : v < 256 ^ 40) : nx v < 256 ^ 40 := by
  unfold nx
  have p : (256 : Nat) ^ 40 = 2135987035920910082395021706169552114602704522356652769947041607822219725780640550022962086936576 := by decide
  rw [p] at *
  omega

theorem itN_lt {v : Nat} (hv : v < 256 ^ 40) : ∀ i, itN v i < 256 ^ 40
  | 0 => hv
  | i + 1 => nx_lt (itN_lt hv i)

def stN (xs : List Nat) : Nat → List Nat
  | 0 => xs
  | i + 1 => nextD (leN (stN xs i))

theorem stN_spec {xs : List Nat} (h40 : xs.length = 40) (hB : allB 36028797018963968 xs = true) (hv : leN xs < 256 ^ 40) : ∀ i, (stN xs i).length = 40 ∧ allB 36028797018963968 (stN xs i) = true ∧ leN (stN xs i) = itN (leN xs) i
  | 0 => ⟨h40, hB, rfl⟩
  | i + 1 => by
    obtain ⟨h1, h2, h3⟩ := stN_spec h40 hB hv i
    have hlt := itN_lt hv i
    rw [← h3] at hlt
    obtain ⟨g1, g2, g3, _, _⟩ := round_spec hlt
    refine ⟨g3, allB_of fun j => ?_, ?_⟩
    · show (nextD (leN (stN xs i))).getD j 0 < _
      have := g2 j; omega
    · show leN (nextD (leN (stN xs i))) = nx (itN (leN xs) i)
      rw [g1, h3]

def R0 : LSem := ⟨[0], [0], fun args hin => match args, hin with
  | [.s (.sl .whole 0 0 40 1)], [[.ints .i64 40 xs]] =>
    some (Tr.needs [decide (xs.length = 40), allB 36028797018963968 xs, decide (leN xs < 256 ^ 40)] (.leaf (.normal, [slw 0], [some [.ints .i64 40 (digs 40 (red (leN xs)))]])))
  | _, _ => none⟩

set_option maxRecDepth 100000 in
theorem rr0 (xs : List Nat) : runR Try.prog [] [] .nat 7 [(2, R2), (4, R4), (6, R6)] Try.f39 0 R0 1 [.s (.sl .whole 0 0 40 1)] [some [.ints .i64 40 xs]] =
(nd [decide (xs.length = 40), allB 36028797018963968 xs]
 (cond (!ovN (carN xs 39) 24)
 (some (Ex.exit 0, [AV.s (SV.sl LK.whole 0 0 40 1)], [some [Ch.ints IntKind.i64 40 (loN (carN xs 39) 24)]]))
 (nd [decide ((loN (carN xs 39) 24).length = 40), allB 36028797018963968 (loN (carN xs 39) 24), allB 36028797018963968 (hiN (carN xs 39) (List.replicate 40 0) 24)]
 (some (Ex.normal, [AV.s (SV.sl LK.whole 0 0 40 1)], [some [Ch.ints IntKind.i64 40 (dnN (loN (carN xs 39) 24) (hiN (carN xs 39) (List.replicate 40 0) 24) 24)]]))))) := by kernel_rfl

theorem loopsR0 : LoopsOk Try.prog ⟨Try.f39.ntmps, 7, [(2, R2), (4, R4), (6, R6)]⟩ (lb 0 Try.f39) := by
  refine loopsOk_of ?_
  have e : loopsIn [(2, R2), (4, R4), (6, R6)] (lb 0 Try.f39) = [(2, .loop (lb 2 Try.f39), R2), (4, .loop (lb 4 Try.f39), R4), (6, .loop (lb 6 Try.f39), R6)] := by kernel_rfl
  simp only [e]
  intro x hx
  simp only [List.mem_cons, List.not_mem_nil, or_false] at hx
  rcases hx with rfl | rfl | rfl
  · exact lokR2
  · exact lokR4
  · exact lokR6

theorem lowHigh_lt {v : Nat} : allB 36028797018963968 (lowD v) = true ∧ allB 36028797018963968 (highD v) = true ∧ (lowD v).length = 40 := by
  have h40 : (digs 40 v).length = 40 := digs_len 40 v
  have hd : ∀ i, (digs 40 v).getD i 0 < 256 := fun i => by rw [digs_get]; split <;> omega
  refine ⟨allB_of fun i => ?_, allB_of fun i => ?_, by rw [lowD, loN_len, h40]⟩
  · rw [lowD, loN_get h40 (by omega)]
    have := hd i
    split <;> omega
  · rw [highD, hiN_get (hs := zs40) h40 (List.length_replicate) (Nat.le_refl 24), zs40_get]
    have := hd i
    have := hx_le (digs 40 v) i
    split <;> omega

theorem lokR0 : LOk Try.prog Try.f39.ntmps (.block 0 (.loop (lb 0 Try.f39))) R0 := by
  refine lokR (fs := []) (xs := []) (m := .nat) (fuel := 7) (sums := [(2, R2), (4, R4), (6, R6)]) .nil mixedP loopsR0 ?_
  intro args hin t e vs hout h hg
  unfold R0 at h
  simp only at h
  split at h
  · rename_i xs
    simp only [Option.some.injEq] at h
    subst h
    obtain ⟨hc, hgt⟩ := Tr.needs_get hg
    clear hg
    have e1 : xs.length = 40 := of_decide_eq_true (hc _ (by simp))
    have e2 : allB 36028797018963968 xs = true := hc (allB 36028797018963968 xs) (by simp)
    have e3 : leN xs < 256 ^ 40 := of_decide_eq_true (hc (decide (leN xs < 256 ^ 40)) (by simp))
    clear hc
    obtain ⟨n, n1, n2, n3⟩ := red_spec e3
    rw [n3] at hgt
    cases hgt
    refine ⟨n, fun i => ([slw 0], [some [.ints .i64 40 (stN xs i)]]), .exit 0, rfl, fun i hi => ?_, ?_, rfl⟩
    · obtain ⟨g1, g2, g3⟩ := stN_spec e1 e2 e3 i
      have hlt := itN_lt e3 i
      rw [← g3] at hlt
      simp only [slw, List.length_cons, List.length_nil]
      rw [rr0, carN_digs (n := 39) g1 hlt]
      have hov := (round_spec hlt).2.2.2.1.2 (by rw [g3]; exact n1 i hi)
      rw [show 39 + 1 = 40 from rfl, hov]
      refine nd_of ?_ (cond_f rfl (nd_of ?_ rfl))
      · simp only [List.mem_cons, List.not_mem_nil, or_false, forall_eq_or_imp, forall_eq, decide_eq_true_eq]; exact ⟨g1, g2⟩
      · simp only [List.mem_cons, List.not_mem_nil, or_false, forall_eq_or_imp, forall_eq, decide_eq_true_eq]
        have := @lowHigh_lt (leN (stN xs i))
        exact ⟨this.2.2, this.1, this.2.1⟩
    · obtain ⟨g1, g2, g3⟩ := stN_spec e1 e2 e3 n
      have hlt := itN_lt e3 n
      rw [← g3] at hlt
      simp only [slw, List.length_cons, List.length_nil]
      rw [rr0, carN_digs (n := 39) g1 hlt]
      obtain ⟨_, _, _, h4, h5⟩ := round_spec hlt
      have hov : ovN (digs 40 (leN (stN xs n))) 24 = false := by
        rw [← Bool.not_eq_true, h4, g3]; omega
      have hlo := h5 (by rw [g3]; exact n2)
      unfold lowD at hlo
      rw [show 39 + 1 = 40 from rfl, hov, hlo, g3]
      refine nd_of ?_ (cond_t rfl rfl)
      simp only [List.mem_cons, List.not_mem_nil, or_false, forall_eq_or_imp, forall_eq, decide_eq_true_eq]; exact ⟨g1, g2⟩
  · cases h

theorem red_lt {v : Nat} (hv : v < 256 ^ 40) : red v < 1361129467683753853853498429727072845824 := by
  obtain ⟨n, _, n2, n3⟩ := red_spec hv
  rw [n3]; exact n2

theorem nx_mod (v : Nat) : nx v % 1361129467683753853853498429727072845819 = v % 1361129467683753853853498429727072845819 := by
  unfold nx; omega

theorem itN_mod (v : Nat) : ∀ i, itN v i % 1361129467683753853853498429727072845819 = v % 1361129467683753853853498429727072845819
  | 0 => rfl
  | i + 1 => by rw [itN, nx_mod, itN_mod v i]

theorem red_mod {v : Nat} (hv : v < 256 ^ 40) : red v % 1361129467683753853853498429727072845819 = v % 1361129467683753853853498429727072845819 := by
  obtain ⟨n, _, _, n3⟩ := red_spec hv
  rw [n3, itN_mod]

theorem leN8_iff (b : Bool) (xs : List Nat) : ∀ j, leN8 b xs j = true ↔ b = true ∧ ∀ i, i < j → xs.getD (1 + i) 0 = 255
  | 0 => by simp [leN8]
  | j + 1 => by
    have ih := leN8_iff b xs j
    rw [leN8]
    cases hb : leN8 b xs j with
    | true =>
      obtain ⟨h1, h2⟩ := ih.1 hb
      rw [cond_true, decide_eq_true_eq]
      constructor
      · intro h
        refine ⟨h1, fun i hi => ?_⟩
        by_cases e : i = j
        · rw [e]; exact h
        · exact h2 i (by omega)
      · exact fun h => h.2 j (by omega)
    | false =>
      rw [cond_false]
      refine ⟨fun h => (by cases h), fun h => ?_⟩
      have := ih.2 ⟨h.1, fun i hi => h.2 i (by omega)⟩
      rw [hb] at this; exact this

theorem least_iff {v : Nat} (hv : v < 1361129467683753853853498429727072845824) :
    ((digs 40 v).getD 16 0 = 3 ∧ leN8 (decide (251 ≤ (digs 40 v).getD 0 0)) (digs 40 v) 15 = true) ↔ 1361129467683753853853498429727072845819 ≤ v := by
  rw [leN8_iff, decide_eq_true_eq]
  have hall : (∀ i, i < 15 → (digs 40 v).getD (1 + i) 0 = 255) ↔ v / 256 % 256 ^ 15 = 256 ^ 15 - 1 := by
    constructor
    · intro h
      have e : digs 15 (v / 256) = List.replicate 15 255 := by
        apply List.ext_getElem (by rw [digs_len, List.length_replicate])
        intro i g1 g2
        have h1 := digs_get 15 (v / 256) i
        rw [List.getD, List.getElem?_eq_getElem g1, Option.getD_some, if_pos (by rw [digs_len] at g1; exact g1)] at h1
        have h2 := h i (by rw [digs_len] at g1; exact g1)
        rw [digs_get, if_pos (by rw [digs_len] at g1; omega), Nat.add_comm 1 i, Nat.pow_succ, Nat.mul_comm, ← Nat.div_div_eq_div_mul] at h2
        rw [h1, List.getElem_replicate, h2]
      have := leN_digs 15 (v / 256)
      rw [e] at this
      rw [← this]
      decide
    · intro h i hi
      rw [digs_get, if_pos (by omega), Nat.add_comm 1 i, Nat.pow_succ, Nat.mul_comm, ← Nat.div_div_eq_div_mul]
      have h1 := digs_get 15 (v / 256) i
      rw [if_pos hi] at h1
      rw [← h1]
      have h2 : digs 15 (v / 256) = digs 15 (v / 256 % 256 ^ 15) := by
        have g := digs_leN (digs_lt 15 (v / 256))
        rw [digs_len, leN_digs] at g
        exact g.symm
      rw [h2, h]
      have : i = 0 ∨ i = 1 ∨ i = 2 ∨ i = 3 ∨ i = 4 ∨ i = 5 ∨ i = 6 ∨ i = 7 ∨ i = 8 ∨ i = 9 ∨ i = 10 ∨ i = 11 ∨ i = 12 ∨ i = 13 ∨ i = 14 := by omega
      rcases this with rfl | rfl | rfl | rfl | rfl | rfl | rfl | rfl | rfl | rfl | rfl | rfl | rfl | rfl | rfl <;> decide
  rw [hall, digs_get, digs_get, if_pos (by omega), if_pos (by omega)]
  have p15 : (256 : Nat) ^ 15 = 1329227995784915872903807060280344576 := by decide
  have p16 : (256 : Nat) ^ 16 = 340282366920938463463374607431768211456 := by decide
  rw [p15, p16, Nat.pow_zero, Nat.div_one]
  omega

theorem digs_zero : ∀ n, digs n 0 = List.replicate n 0
  | 0 => rfl
  | n + 1 => by simp [digs, digs_zero n, List.replicate_succ]

theorem least_digs {v : Nat} (hv : v < 1361129467683753853853498429727072845824) (h : 1361129467683753853853498429727072845819 ≤ v) :
    (List.replicate 40 0).set 0 ((digs 40 v).getD 0 0 - 251) = digs 40 (v - 1361129467683753853853498429727072845819) ∧ 251 ≤ (digs 40 v).getD 0 0 := by
  have e : (digs 40 v).getD 0 0 = v % 256 := by rw [digs_get, if_pos (by omega), Nat.pow_zero, Nat.div_one]
  rw [e]
  refine ⟨?_, by omega⟩
  rw [show (40 : Nat) = 39 + 1 from rfl, List.replicate_succ, List.set_cons_zero, digs, show (v - 1361129467683753853853498429727072845819) / 256 = 0 by omega, digs_zero, show v % 256 - 251 = (v - 1361129467683753853853498429727072845819) % 256 by omega]

def canP (v : Nat) : Nat := if 1361129467683753853853498429727072845819 ≤ red v then red v - 1361129467683753853853498429727072845819 else red v

theorem canP_eq {v : Nat} (hv : v < 256 ^ 40) : canP v = v % 1361129467683753853853498429727072845819 := by
  have h1 := red_lt hv
  have h2 := red_mod hv
  unfold canP
  split <;> omega

def F39 : FSem := ⟨false, fun args hin => match args, hin with
  | [.s (.sl .whole 0 0 40 1)], [[.ints .i64 40 xs]] =>
    some (Tr.needs [decide (xs.length = 40), allB 36028797018963968 xs, decide (leN xs < 256 ^ 40)]
      (.br (decide (1361129467683753853853498429727072845819 ≤ red (leN xs))) (.leaf (slw 1, [some [.ints .i64 40 (digs 40 (red (leN xs)))], some [.ints .i64 40 (digs 40 (canP (leN xs)))]]))
        (.leaf (slw 0, [some [.ints .i64 40 (digs 40 (canP (leN xs)))]]))))
  | _, _ => none⟩

theorem fn39 : Fn Try.prog 39 Try.f39 := ⟨mixedP, Try.func39, by kernel_rfl, of_decide_eq_true (by kernel_rfl)⟩

theorem loops39 : LoopsOk Try.prog ⟨Try.f39.ntmps, 7, [(0, R0), (8, R8)]⟩ (bodyOf Try.f39) := by
  refine loopsOk_of ?_
  have e : loopsIn [(0, R0), (8, R8)] (bodyOf Try.f39) = [(0, .loop (lb 0 Try.f39), R0), (8, .loop (lb 8 Try.f39), R8)] := by kernel_rfl
  simp only [e]
  intro x hx
  simp only [List.mem_cons, List.not_mem_nil, or_false] at hx
  rcases hx with rfl | rfl
  · exact lokR0
  · exact lokR8

set_option maxRecDepth 100000 in
theorem r39 (xs : List Nat) : runL Try.prog [] [] .nat 7 [(0, R0), (8, R8)] Try.f39 [.s (.sl .whole 0 0 40 1)] [[.ints .i64 40 xs]] =
(nd [decide (xs.length = 40), allB 36028797018963968 xs, decide (leN xs < 256 ^ 40)]
(cond (decide ((digs 40 (red (leN xs))).getD 16 0 = 3))
 (cond (leN8 (decide (251 ≤ (digs 40 (red (leN xs))).getD 0 0)) (digs 40 (red (leN xs))) 15)
 (nd [decide (251 ≤ (digs 40 (red (leN xs))).getD 0 0)]
 (some (AV.s (SV.sl LK.whole 1 0 40 1), [some [Ch.ints IntKind.i64 40 (digs 40 (red (leN xs)))], some [Ch.ints IntKind.i64 40 ((List.replicate 40 0).set 0 ((digs 40 (red (leN xs))).getD 0 0 - 251))]])))
 (some (AV.s (SV.sl LK.whole 0 0 40 1), [some [Ch.ints IntKind.i64 40 (digs 40 (red (leN xs)))]])))
 (some (AV.s (SV.sl LK.whole 0 0 40 1), [some [Ch.ints IntKind.i64 40 (digs 40 (red (leN xs)))]])))) := by kernel_rfl

theorem ok39 : FOk Try.prog 39 F39 := by
  refine fokL (fs := []) (xs := []) (m := .nat) (fuel := 7) (sums := [(0, R0), (8, R8)]) .nil fn39 loops39 ?_
  intro args hin t r h hg
  unfold F39 at h
  simp only at h
  split at h
  · rename_i xs
    cases h
    obtain ⟨hc, hgt⟩ := Tr.needs_get hg
    clear hg
    have e1 : xs.length = 40 := of_decide_eq_true (hc _ (by simp))
    have e2 : allB 36028797018963968 xs = true := hc (allB 36028797018963968 xs) (by simp)
    have e3 : leN xs < 256 ^ 40 := of_decide_eq_true (hc (decide (leN xs < 256 ^ 40)) (by simp))
    clear hc
    have hv := red_lt e3
    have hi := least_iff hv
    rw [r39]
    refine nd_of ?_ ?_
    · simp only [List.mem_cons, List.not_mem_nil, or_false, forall_eq_or_imp, forall_eq, decide_eq_true_eq]; exact ⟨e1, e2, e3⟩
    simp only [Tr.get] at hgt
    unfold canP at hgt
    by_cases hp : 1361129467683753853853498429727072845819 ≤ red (leN xs)
    · rw [decide_eq_true hp, if_pos hp] at hgt
      cases hgt
      obtain ⟨g1, g2⟩ := hi.2 hp
      obtain ⟨k1, k2⟩ := least_digs hv hp
      rw [k1]
      refine cond_t (decide_eq_true g1) (cond_t g2 (nd_of ?_ rfl))
      simp only [List.mem_cons, List.not_mem_nil, or_false, forall_eq, decide_eq_true_eq]
      exact k2
    · rw [decide_eq_false hp, if_neg hp] at hgt
      cases hgt
      by_cases h16 : (digs 40 (red (leN xs))).getD 16 0 = 3
      · refine cond_t (decide_eq_true h16) (cond_f ?_ rfl)
        rw [← Bool.not_eq_true]
        exact fun h => hp (hi.1 ⟨h16, h⟩)
      · exact cond_f (decide_eq_false h16) rfl
  · cases h

end Go.Proofs.Ytgebgjhjegadpaa

namespace Go.Proofs.Ytgebgjhjegadpaa
open Go

def adN (s a : List Nat) (l : Nat) : Nat → List Nat
  | 0 => a
  | n + 1 => (adN s a l n).set n ((adN s a l n).getD n 0 + s.getD (l + n) 0)

def mkN (a r : List Nat) (i : Nat) (d : List Nat) : Nat → List Nat
  | 0 => d
  | k + 1 => (mkN a r i d k).set (i + k) ((mkN a r i d k).getD (i + k) 0 + a.getD i 0 * r.getD k 0)

def miN (a r d : List Nat) : Nat → List Nat
  | 0 => d
  | i + 1 => mkN a r i (miN a r d i) 16

theorem adN_len (s a : List Nat) (l : Nat) : ∀ n, (adN s a l n).length = a.length
  | 0 => rfl
  | n + 1 => by simp [adN, adN_len s a l n]

theorem mkN_len (a r : List Nat) (i : Nat) (d : List Nat) : ∀ n, (mkN a r i d n).length = d.length
  | 0 => rfl
  | n + 1 => by simp [mkN, mkN_len a r i d n]

theorem miN_len (a r d : List Nat) : ∀ n, (miN a r d n).length = d.length
  | 0 => rfl
  | n + 1 => by rw [miN, mkN_len, miN_len a r d n]

theorem adN_get {s a : List Nat} {l : Nat} : ∀ {n : Nat}, n ≤ a.length → ∀ j, (adN s a l n).getD j 0 = if j < n then a.getD j 0 + s.getD (l + j) 0 else a.getD j 0
  | 0, _, j => by rw [if_neg (by omega)]; rfl
  | n + 1, h, j => by
    have ih := adN_get (s := s) (a := a) (l := l) (n := n) (by omega)
    have hl := adN_len s a l n
    rw [adN, getD_set, ih n, if_neg (Nat.lt_irrefl n)]
    by_cases e : n = j
    · subst e; rw [if_pos ⟨rfl, by omega⟩, if_pos (by omega)]
    · rw [if_neg (fun h => e h.1), ih j]
      by_cases hc : j < n
      · rw [if_pos hc, if_pos (by omega)]
      · rw [if_neg hc, if_neg (by omega)]

theorem adN_leN {s a : List Nat} {l : Nat} : ∀ {n : Nat}, n ≤ a.length → leN (adN s a l n) = leN a + sumW (fun j => s.getD (l + j) 0) n
  | 0, _ => rfl
  | n + 1, h => by
    have hl := adN_len s a l n
    rw [adN, leN_addAt (by omega), adN_leN (by omega), sumW]
    omega

theorem mkN_get {a r d : List Nat} {i C : Nat} (hC : ∀ k, a.getD i 0 * r.getD k 0 ≤ C) : ∀ {k : Nat}, i + k ≤ d.length → (∀ j, (mkN a r i d k).getD j 0 ≤ d.getD j 0 + C) ∧ (∀ j, i + k ≤ j → (mkN a r i d k).getD j 0 = d.getD j 0)
  | 0, _ => ⟨fun j => by simp only [mkN]; omega, fun j _ => rfl⟩
  | k + 1, h => by
    obtain ⟨h1, h2⟩ := mkN_get (d := d) hC (k := k) (by omega)
    have hl := mkN_len a r i d k
    have hc := hC k
    have hk := h2 (i + k) (Nat.le_refl _)
    refine ⟨fun j => ?_, fun j hj => ?_⟩
    · rw [mkN, getD_set]
      have := h1 j
      split
      · rename_i e; rw [← e.1]; omega
      · exact this
    · rw [mkN, getD_set, if_neg (by omega)]
      exact h2 j (by omega)

theorem mkN_leN {a r d : List Nat} {i : Nat} : ∀ {k : Nat}, i + k ≤ d.length → leN (mkN a r i d k) = leN d + a.getD i 0 * 256 ^ i * sumW (fun k => r.getD k 0) k
  | 0, _ => by simp [mkN, sumW]
  | k + 1, h => by
    have hl := mkN_len a r i d k
    rw [mkN, leN_addAt (by omega), mkN_leN (by omega), sumW, Nat.mul_add, Nat.pow_add, Nat.add_assoc]
    congr 2
    rw [Nat.mul_assoc, Nat.mul_assoc, Nat.mul_left_comm (r.getD k 0)]

theorem miN_get {a r d : List Nat} {C : Nat} (hd : d.length = 40) (hC : ∀ i k, a.getD i 0 * r.getD k 0 ≤ C) : ∀ {i : Nat}, i ≤ 18 → ∀ j, (miN a r d i).getD j 0 ≤ d.getD j 0 + i * C
  | 0, _, j => by simp [miN]
  | i + 1, h, j => by
    have h1 := miN_get hd hC (i := i) (by omega) j
    have h2 := (mkN_get (d := miN a r d i) (hC i) (k := 16) (by rw [miN_len, hd]; omega)).1 j
    rw [miN, Nat.succ_mul]
    omega

theorem miN_leN {a r d : List Nat} (hd : d.length = 40) : ∀ {i : Nat}, i ≤ 18 → leN (miN a r d i) = leN d + sumW (fun i => a.getD i 0) i * sumW (fun k => r.getD k 0) 16
  | 0, _ => by simp [miN, sumW]
  | i + 1, h => by
    rw [miN, mkN_leN (by rw [miN_len, hd]; omega), miN_leN hd (by omega), show sumW (fun i => a.getD i 0) (i + 1) = sumW (fun i => a.getD i 0) i + a.getD i 0 * 256 ^ i from rfl, Nat.add_mul, Nat.add_assoc]

def lenAt (s : List Nat) (l : Nat) : Nat := min 16 (s.length - l)

def Ta : LSem := ⟨[7, 8, 1, 9], [7, 8, 1, 9], fun args hin => match args, hin with
  | [.s (.sl .whole 0 0 40 1), .s (.nat .i64 l), .s (.str s), .s (.nat .i64 0)], [[.ints .i64 40 a]] =>
    some (Tr.needs [decide (a.length = 40), allB 36028797018963968 a, allB 256 s, decide (l ≤ s.length), decide (s.length < 4611686018427387904)]
      (.leaf (.normal, [slw 0, .s (.nat .i64 l), .s (.str s), .s (.nat .i64 (lenAt s l))], [some [.ints .i64 40 (adN s a l (lenAt s l))]])))
  | _, _ => none⟩

set_option maxRecDepth 100000 in
theorem rTa (a s : List Nat) (l j : Nat) : runR Try.prog [] [] .nat 7 [] Try.f26 4 Ta 1 [.s (.sl .whole 0 0 40 1), .s (.nat .i64 l), .s (.str s), .s (.nat .i64 j)] [some [.ints .i64 40 a]] =
(cond (decide (j < 16))
 (nd [decide (l + j < 9223372036854775808), decide (s.length < 9223372036854775808)]
 (cond (decide (l + j < s.length))
 (nd [decide (j < 40), decide (j < 40), decide (l + j < 9223372036854775808), decide (l + j < s.length), decide (a.getD (j) 0 + s.getD (l + j) 0 < 9223372036854775808), decide (j < 40), decide (j < 40), decide (j + 1 < 9223372036854775808)]
 (some (Ex.normal, [AV.s (SV.sl LK.whole 0 0 40 1), AV.s (SV.nat IntKind.i64 l), AV.s (SV.str s), AV.s (SV.nat IntKind.i64 (j + 1))], [some [Ch.ints IntKind.i64 40 (a.set (j) (a.getD (j) 0 + s.getD (l + j) 0))]])))
 (some (Ex.exit 4, [AV.s (SV.sl LK.whole 0 0 40 1), AV.s (SV.nat IntKind.i64 l), AV.s (SV.str s), AV.s (SV.nat IntKind.i64 j)], [some [Ch.ints IntKind.i64 40 a]]))))
 (some (Ex.exit 4, [AV.s (SV.sl LK.whole 0 0 40 1), AV.s (SV.nat IntKind.i64 l), AV.s (SV.str s), AV.s (SV.nat IntKind.i64 j)], [some [Ch.ints IntKind.i64 40 a]]))) := by kernel_rfl

theorem lokTa : LOk Try.prog Try.f26.ntmps (.block 4 (.loop (lb 4 Try.f26))) Ta := by
  refine lokR (fs := []) (xs := []) (m := .nat) (fuel := 7) (sums := []) .nil mixedP (loopsOk_none rfl _) ?_
  intro args hin t e vs hout h hg
  unfold Ta at h
  simp only at h
  split at h
  · rename_i l s a
    simp only [Option.some.injEq] at h
    subst h
    obtain ⟨hc, hgt⟩ := Tr.needs_get hg
    clear hg
    have e1 : a.length = 40 := of_decide_eq_true (hc _ (by simp))
    have e2 : allB 36028797018963968 a = true := hc (allB 36028797018963968 a) (by simp)
    have e3 : allB 256 s = true := hc (allB 256 s) (by simp)
    have e4 : l ≤ s.length := of_decide_eq_true (hc (decide (l ≤ s.length)) (by simp))
    have e5 : s.length < 4611686018427387904 := of_decide_eq_true (hc (decide (s.length < 4611686018427387904)) (by simp))
    clear hc
    cases hgt
    have hL : lenAt s l = min 16 (s.length - l) := rfl
    refine ⟨lenAt s l, fun i => ([slw 0, .s (.nat .i64 l), .s (.str s), .s (.nat .i64 i)], [some [.ints .i64 40 (adN s a l i)]]), .exit 4, rfl, fun i hi => ?_, ?_, rfl⟩
    · simp only [slw, List.length_cons, List.length_nil]
      rw [rTa]
      have g1 := adN_get (s := s) (a := a) (l := l) (n := i) (by omega) i
      rw [if_neg (Nat.lt_irrefl i)] at g1
      have g2 := allB_get (by omega) e2 i
      have g3 := allB_get (by omega) e3 (l + i)
      refine cond_t (decide_eq_true (by omega)) (nd_of ?_ (cond_t (decide_eq_true (by omega)) (nd_of ?_ rfl)))
      · simp only [List.mem_cons, List.not_mem_nil, or_false, forall_eq_or_imp, forall_eq, decide_eq_true_eq, true_and, and_true]; omega
      · simp only [List.mem_cons, List.not_mem_nil, or_false, forall_eq_or_imp, forall_eq, decide_eq_true_eq, true_and, and_true]; omega
    · simp only [slw, List.length_cons, List.length_nil]
      rw [rTa]
      by_cases h16 : lenAt s l < 16
      · refine cond_t (decide_eq_true h16) (nd_of ?_ (cond_f (decide_eq_false (by omega)) rfl))
        simp only [List.mem_cons, List.not_mem_nil, or_false, forall_eq_or_imp, forall_eq, decide_eq_true_eq, true_and, and_true]; omega
      · exact cond_f (decide_eq_false h16) rfl
  · cases h

def Tb : LSem := ⟨[10, 11, 12, 7, 5], [10, 11, 7, 5], fun args hin => match args, hin with
  | [.s (.sl .whole 0 0 40 1), .s (.nat .i64 i), .s (.nat .i64 0), .s (.sl .whole 1 0 40 1), .s (.sl .whole 2 0 16 1)], [[.ints .i64 40 d], [.ints .i64 40 a], [.ints .i64 16 r]] =>
    some (Tr.needs [decide (d.length = 40), decide (i < 18), allB 1125899906842624 d, allB 65536 a, allB 256 r]
      (.leaf (.normal, [slw 0, .s (.nat .i64 i), slw 1, .s (.sl .whole 2 0 16 1)], [some [.ints .i64 40 (mkN a r i d 16)], some [.ints .i64 40 a], some [.ints .i64 16 r]])))
  | _, _ => none⟩

set_option maxRecDepth 100000 in
theorem rTb (d a r : List Nat) (i j : Nat) : runR Try.prog [] [] .nat 7 [] Try.f26 8 Tb 3 [.s (.sl .whole 0 0 40 1), .s (.nat .i64 i), .s (.nat .i64 j), .s (.sl .whole 1 0 40 1), .s (.sl .whole 2 0 16 1)] [some [.ints .i64 40 d], some [.ints .i64 40 a], some [.ints .i64 16 r]] =
(cond (decide (j < 16))
 (nd [decide (i + j < 9223372036854775808), decide (i + j < 40), decide ((i + j) < 40), decide (i < 40), decide (i < 40), decide (j < 16), decide (j < 16), decide (a.getD (i) 0 * r.getD (j) 0 < 9223372036854775808), decide (d.getD (i + j) 0 + a.getD (i) 0 * r.getD (j) 0 < 9223372036854775808), decide (i + j < 40), decide ((i + j) < 40), decide (j + 1 < 9223372036854775808)]
 (some (Ex.normal, [AV.s (SV.sl LK.whole 0 0 40 1), AV.s (SV.nat IntKind.i64 i), AV.s (SV.nat IntKind.i64 (j + 1)), AV.s (SV.sl LK.whole 1 0 40 1), AV.s (SV.sl LK.whole (2) 0 16 1)], [some [Ch.ints IntKind.i64 40 (d.set (i + j) (d.getD (i + j) 0 + a.getD (i) 0 * r.getD (j) 0))], some [Ch.ints IntKind.i64 40 a], some [Ch.ints IntKind.i64 16 r]])))
 (some (Ex.exit 8, [AV.s (SV.sl LK.whole 0 0 40 1), AV.s (SV.nat IntKind.i64 i), AV.s (SV.sl LK.whole 1 0 40 1), AV.s (SV.sl LK.whole (2) 0 16 1)], [some [Ch.ints IntKind.i64 40 d], some [Ch.ints IntKind.i64 40 a], some [Ch.ints IntKind.i64 16 r]]))) := by kernel_rfl

theorem prod_le {a r : List Nat} (ha : allB 65536 a = true) (hr : allB 256 r = true) (i k : Nat) : a.getD i 0 * r.getD k 0 ≤ 16711425 := by
  have h1 := allB_get (by omega) ha i
  have h2 := allB_get (by omega) hr k
  exact Nat.le_trans (Nat.mul_le_mul (by omega : a.getD i 0 ≤ 65535) (by omega : r.getD k 0 ≤ 255)) (by omega)

theorem lokTb : LOk Try.prog Try.f26.ntmps (.block 8 (.loop (lb 8 Try.f26))) Tb := by
  refine lokR (fs := []) (xs := []) (m := .nat) (fuel := 7) (sums := []) .nil mixedP (loopsOk_none rfl _) ?_
  intro args hin t e vs hout h hg
  unfold Tb at h
  simp only at h
  split at h
  · rename_i i d a r
    simp only [Option.some.injEq] at h
    subst h
    obtain ⟨hc, hgt⟩ := Tr.needs_get hg
    clear hg
    have e1 : d.length = 40 := of_decide_eq_true (hc _ (by simp))
    have e2 : i < 18 := of_decide_eq_true (hc (decide (i < 18)) (by simp))
    have e3 : allB 1125899906842624 d = true := hc (allB 1125899906842624 d) (by simp)
    have e4 : allB 65536 a = true := hc (allB 65536 a) (by simp)
    have e5 : allB 256 r = true := hc (allB 256 r) (by simp)
    clear hc
    cases hgt
    refine ⟨16, fun j => ([slw 0, .s (.nat .i64 i), .s (.nat .i64 j), slw 1, .s (.sl .whole 2 0 16 1)], [some [.ints .i64 40 (mkN a r i d j)], some [.ints .i64 40 a], some [.ints .i64 16 r]]), .exit 8, rfl, fun j hj => ?_, ?_, rfl⟩
    · simp only [slw, List.length_cons, List.length_nil]
      rw [rTb]
      have g1 := (mkN_get (d := d) (prod_le e4 e5 i) (k := j) (by omega)).2 (i + j) (Nat.le_refl _)
      have g2 := allB_get (by omega) e3 (i + j)
      have g3 := prod_le e4 e5 i j
      refine cond_t (decide_eq_true (by omega)) (nd_of ?_ rfl)
      simp only [List.mem_cons, List.not_mem_nil, or_false, forall_eq_or_imp, forall_eq, decide_eq_true_eq, true_and, and_true]; omega
    · simp only [slw, List.length_cons, List.length_nil]
      rw [rTb]
      exact cond_f (decide_eq_false (by omega)) rfl
  · cases h

end Go.Proofs.Ytgebgjhjegadpaa

namespace Go.Proofs.Ytgebgjhjegadpaa
open Go

def Tc : LSem := ⟨[10, 11, 7, 5], [10, 7, 5], fun args hin => match args, hin with
  | [.s (.sl .whole 0 0 40 1), .s (.nat .i64 0), .s (.sl .whole 1 0 40 1), .s (.sl .whole 2 0 16 1)], [[.ints .i64 40 d], [.ints .i64 40 a], [.ints .i64 16 r]] =>
    some (Tr.needs [decide (d = zs40), allB 65536 a, allB 256 r]
      (.leaf (.normal, [slw 0, slw 1, .s (.sl .whole 2 0 16 1)], [some [.ints .i64 40 (miN a r zs40 18)], some [.ints .i64 40 a], some [.ints .i64 16 r]])))
  | _, _ => none⟩

set_option maxRecDepth 100000 in
theorem rTc (d a r : List Nat) (i : Nat) : runR Try.prog [] [] .nat 7 [(8, Tb)] Try.f26 6 Tc 3 [.s (.sl .whole 0 0 40 1), .s (.nat .i64 i), .s (.sl .whole 1 0 40 1), .s (.sl .whole 2 0 16 1)] [some [.ints .i64 40 d], some [.ints .i64 40 a], some [.ints .i64 16 r]] =
(cond (decide (i < 18))
 (nd [decide (d.length = 40), decide (i < 18), allB 1125899906842624 d, allB 65536 a, allB 256 r, decide (i + 1 < 9223372036854775808)]
 (some (Ex.normal, [AV.s (SV.sl LK.whole 0 0 40 1), AV.s (SV.nat IntKind.i64 (i + 1)), AV.s (SV.sl LK.whole 1 0 40 1), AV.s (SV.sl LK.whole (2) 0 16 1)], [some [Ch.ints IntKind.i64 40 (mkN a r i d 16)], some [Ch.ints IntKind.i64 40 a], some [Ch.ints IntKind.i64 16 r]])))
 (some (Ex.exit 6, [AV.s (SV.sl LK.whole 0 0 40 1), AV.s (SV.sl LK.whole 1 0 40 1), AV.s (SV.sl LK.whole (2) 0 16 1)], [some [Ch.ints IntKind.i64 40 d], some [Ch.ints IntKind.i64 40 a], some [Ch.ints IntKind.i64 16 r]]))) := by kernel_rfl

theorem loopsTc : LoopsOk Try.prog ⟨Try.f26.ntmps, 7, [(8, Tb)]⟩ (lb 6 Try.f26) := by
  refine loopsOk_of ?_
  have e : loopsIn [(8, Tb)] (lb 6 Try.f26) = [(8, .loop (lb 8 Try.f26), Tb)] := by kernel_rfl
  simp only [e]
  intro x hx
  simp only [List.mem_cons, List.not_mem_nil, or_false] at hx
  subst hx
  exact lokTb

theorem zs40_len : zs40.length = 40 := List.length_replicate

theorem lokTc : LOk Try.prog Try.f26.ntmps (.block 6 (.loop (lb 6 Try.f26))) Tc := by
  refine lokR (fs := []) (xs := []) (m := .nat) (fuel := 7) (sums := [(8, Tb)]) .nil mixedP loopsTc ?_
  intro args hin t e vs hout h hg
  unfold Tc at h
  simp only at h
  split at h
  · rename_i d a r
    simp only [Option.some.injEq] at h
    subst h
    obtain ⟨hc, hgt⟩ := Tr.needs_get hg
    clear hg
    have e1 : d = zs40 := of_decide_eq_true (hc _ (by simp))
    have e4 : allB 65536 a = true := hc (allB 65536 a) (by simp)
    have e5 : allB 256 r = true := hc (allB 256 r) (by simp)
    clear hc
    subst e1
    cases hgt
    refine ⟨18, fun i => ([slw 0, .s (.nat .i64 i), slw 1, .s (.sl .whole 2 0 16 1)], [some [.ints .i64 40 (miN a r zs40 i)], some [.ints .i64 40 a], some [.ints .i64 16 r]]), .exit 6, rfl, fun i hi => ?_, ?_, rfl⟩
    · simp only [slw, List.length_cons, List.length_nil]
      rw [rTc]
      have g1 : allB 1125899906842624 (miN a r zs40 i) = true := allB_of fun j => by
        have := miN_get zs40_len (prod_le e4 e5) (i := i) (by omega) j
        rw [zs40_get] at this
        have : i * 16711425 ≤ 18 * 16711425 := Nat.mul_le_mul_right _ (by omega)
        omega
      have g2 : (miN a r zs40 i).length = 40 := by rw [miN_len, zs40_len]
      refine cond_t (decide_eq_true hi) (nd_of ?_ rfl)
      simp only [List.mem_cons, List.not_mem_nil, or_false, forall_eq_or_imp, forall_eq, decide_eq_true_eq, true_and, and_true]
      exact ⟨g2, hi, g1, e4, e5, by omega⟩
    · simp only [slw, List.length_cons, List.length_nil]
      rw [rTc]
      exact cond_f (decide_eq_false (by omega)) rfl
  · cases h

/-- A block put to what is there. -/
def addB (s a : List Nat) (l : Nat) : List Nat := (adN s a l (lenAt s l)).set (lenAt s l) ((adN s a l (lenAt s l)).getD (lenAt s l) 0 + 1)

def aV (r s : List Nat) : Nat → Nat
  | 0 => 0
  | i + 1 => canP (leN (miN (addB s (digs 40 (aV r s i)) (16 * i)) r zs40 18))

def nBl (s : List Nat) : Nat := (s.length + 15) / 16

/-- A block's number with the one behind it. -/
def blV (s : List Nat) (l : Nat) : Nat := sumW (fun j => s.getD (l + j) 0) (lenAt s l) + 256 ^ lenAt s l

theorem addB_spec {s : List Nat} {v l : Nat} (hv : v < 1361129467683753853853498429727072845824) (hs : allB 256 s = true) :
    allB 65536 (addB s (digs 40 v) l) = true ∧ leN (addB s (digs 40 v) l) = v + blV s l ∧ (addB s (digs 40 v) l).length = 40 ∧ (∀ i, 18 ≤ i → (addB s (digs 40 v) l).getD i 0 = 0) ∧ (adN s (digs 40 v) l (lenAt s l)).getD (lenAt s l) 0 < 512 := by
  have hl : (digs 40 v).length = 40 := digs_len 40 v
  have hn : lenAt s l ≤ 16 := by unfold lenAt; omega
  have hd : ∀ i, (digs 40 v).getD i 0 < 256 := fun i => by rw [digs_get]; split <;> omega
  have hg := adN_get (s := s) (a := digs 40 v) (l := l) (n := lenAt s l) (by omega)
  have hlen := adN_len s (digs 40 v) l (lenAt s l)
  have hb : ∀ i, (adN s (digs 40 v) l (lenAt s l)).getD i 0 < 512 := fun i => by
    rw [hg]
    have := hd i
    have := allB_get (by omega) hs (l + i)
    split <;> omega
  refine ⟨allB_of fun i => ?_, ?_, ?_, fun i hi => ?_, hb _⟩
  · unfold addB
    rw [getD_set]
    have := hb i
    have := hb (lenAt s l)
    split <;> omega
  · unfold addB
    rw [leN_addAt (by omega), adN_leN (by omega), leN_digs, Nat.mod_eq_of_lt (Nat.lt_trans hv (by decide)), blV]
    omega
  · unfold addB
    rw [List.length_set, hlen, hl]
  · unfold addB
    rw [getD_set, if_neg (by omega), hg, if_neg (by omega), digs_get]
    split
    · have : v / 256 ^ i = 0 := Nat.div_eq_of_lt (Nat.lt_of_lt_of_le hv (Nat.le_trans (by decide : _ ≤ 256 ^ 18) (Nat.pow_le_pow_right (by omega) hi)))
      rw [this]
    · rfl

theorem miN_val {s r : List Nat} {v l : Nat} (hv : v < 1361129467683753853853498429727072845824) (hs : allB 256 s = true) (hr : r.length = 16) (hrB : allB 256 r = true) :
    leN (miN (addB s (digs 40 v) l) r zs40 18) = (v + blV s l) * leN r ∧ leN (miN (addB s (digs 40 v) l) r zs40 18) < 256 ^ 40 := by
  obtain ⟨h1, h2, h3, h4, h5⟩ := addB_spec (l := l) hv hs
  have e1 : sumW (fun i => (addB s (digs 40 v) l).getD i 0) 18 = v + blV s l := by
    rw [← h2, leN_sumW, h3, show 40 = 18 + 22 from rfl, sumW_split, sumW_zero (n := 22) fun i hi => h4 (18 + i) (by omega)]
    omega
  have e2 : sumW (fun k => r.getD k 0) 16 = leN r := by rw [leN_sumW r, hr]
  have e3 : leN (miN (addB s (digs 40 v) l) r zs40 18) = (v + blV s l) * leN r := by
    rw [miN_leN zs40_len (Nat.le_refl 18), e1, e2, show leN zs40 = 0 from leN_zero 40, Nat.zero_add]
  refine ⟨e3, ?_⟩
  rw [e3]
  have b1 : leN r < 256 ^ 16 := by
    rw [← e2]; exact sumW_lt (fun i => allB_get (by omega) hrB i) 16
  have b2 : blV s l < 256 ^ 17 := by
    unfold blV
    have hn : lenAt s l ≤ 16 := by unfold lenAt; omega
    have g1 := sumW_lt (f := fun j => s.getD (l + j) 0) (fun i => allB_get (by omega) hs (l + i)) (lenAt s l)
    have g2 : 256 ^ lenAt s l ≤ 256 ^ 16 := Nat.pow_le_pow_right (by omega) hn
    rw [show (256 : Nat) ^ 17 = 256 ^ 16 * 256 from rfl]
    omega
  have b3 : v + blV s l < 256 ^ 20 := by
    have : (1361129467683753853853498429727072845824 : Nat) + 256 ^ 17 < 256 ^ 20 := by decide
    omega
  calc (v + blV s l) * leN r ≤ 256 ^ 20 * 256 ^ 16 := Nat.mul_le_mul (Nat.le_of_lt b3) (Nat.le_of_lt b1)
    _ < 256 ^ 40 := by decide

theorem aV_lt {r s : List Nat} (hs : allB 256 s = true) (hr : r.length = 16) (hrB : allB 256 r = true) : ∀ i, aV r s i < 1361129467683753853853498429727072845819
  | 0 => by simp [aV]
  | i + 1 => by
    have h := aV_lt hs hr hrB i
    rw [aV, canP_eq (miN_val (by omega) hs hr hrB).2]
    exact Nat.mod_lt _ (by omega)

theorem aV_succ {r s : List Nat} (hs : allB 256 s = true) (hr : r.length = 16) (hrB : allB 256 r = true) (i : Nat) : aV r s (i + 1) = (aV r s i + blV s (16 * i)) * leN r % 1361129467683753853853498429727072845819 := by
  have h := aV_lt hs hr hrB i
  have hm := miN_val (s := s) (r := r) (v := aV r s i) (l := 16 * i) (by omega) hs hr hrB
  rw [aV, canP_eq hm.2, hm.1]

def Td : LSem := ⟨[5, 7, 8, 1], [7], fun args hin => match args, hin with
  | [.s (.sl .whole 0 0 16 1), .s (.sl .whole 1 0 40 1), .s (.nat .i64 0), .s (.str s)], [[.ints .i64 16 r], [.ints .i64 40 a]] =>
    some (Tr.needs [decide (a = zs40), allB 256 r, decide (r.length = 16), allB 256 s, decide (s.length < 4611686018427387904)]
      (.br (decide (s.length = 0)) (.leaf (.normal, [slw 1], [some [.ints .i64 16 r], some [.ints .i64 40 a]]))
       (.leaf (.normal, [slw 2], [some [.ints .i64 16 r], some [.ints .i64 40 (addB s zs40 0)], some [.ints .i64 40 (digs 40 (aV r s (nBl s)))]]))))
  | _, _ => none⟩

set_option maxRecDepth 100000 in
theorem rTd0 (a r s : List Nat) (l : Nat) : runR Try.prog [(39, F39)] [] .nat 7 [(4, Ta), (6, Tc)] Try.f26 2 Td 2 [.s (.sl .whole 0 0 16 1), .s (.sl .whole 1 0 40 1), .s (.nat .i64 l), .s (.str s)] [some [.ints .i64 16 r], some [.ints .i64 40 a]] =
(nd [decide (s.length < 9223372036854775808)]
 (cond (decide (l < s.length))
 (nd [decide (a.length = 40), allB 36028797018963968 a, allB 256 s, decide (l ≤ s.length), decide (s.length < 4611686018427387904), decide (lenAt s l < 40), decide ((lenAt s l) < 40), decide ((adN s a l (lenAt s l)).getD (lenAt s l) 0 + 1 < 9223372036854775808), decide (lenAt s l < 40), decide ((lenAt s l) < 40), decide (zs40 = zs40), allB 65536 (addB s a l), allB 256 r, allB 36028797018963968 (miN (addB s a l) r zs40 18), decide (leN (miN (addB s a l) r zs40 18) < 256 ^ 40)]
 (cond (decide (1361129467683753853853498429727072845819 ≤ red (leN (miN (addB s a l) r zs40 18))))
 (nd [decide (l + 16 < 9223372036854775808)]
 (some (Ex.normal, [AV.s (SV.sl LK.whole 0 0 16 1), AV.s (SV.sl LK.whole (2) 0 40 1), AV.s (SV.nat IntKind.i64 (l + 16)), AV.s (SV.str s)], [some [Ch.ints IntKind.i64 16 r], some [Ch.ints IntKind.i64 40 (addB s a l)], some [Ch.ints IntKind.i64 40 (digs 40 (canP (leN (miN (addB s a l) r zs40 18))))]])))
 (nd [decide (l + 16 < 9223372036854775808)]
 (some (Ex.normal, [AV.s (SV.sl LK.whole 0 0 16 1), AV.s (SV.sl LK.whole (2) 0 40 1), AV.s (SV.nat IntKind.i64 (l + 16)), AV.s (SV.str s)], [some [Ch.ints IntKind.i64 16 r], some [Ch.ints IntKind.i64 40 (addB s a l)], some [Ch.ints IntKind.i64 40 (digs 40 (canP (leN (miN (addB s a l) r zs40 18))))]])))))
 (some (Ex.exit 2, [AV.s (SV.sl LK.whole 1 0 40 1)], [some [Ch.ints IntKind.i64 16 r], some [Ch.ints IntKind.i64 40 a]])))) := by kernel_rfl

set_option maxRecDepth 100000 in
theorem rTd1 (a b r s : List Nat) (l : Nat) : runR Try.prog [(39, F39)] [] .nat 7 [(4, Ta), (6, Tc)] Try.f26 2 Td 2 [.s (.sl .whole 0 0 16 1), .s (.sl .whole 2 0 40 1), .s (.nat .i64 l), .s (.str s)] [some [.ints .i64 16 r], some [.ints .i64 40 a], some [.ints .i64 40 b]] =
(nd [decide (s.length < 9223372036854775808)]
 (cond (decide (l < s.length))
 (nd [decide (b.length = 40), allB 36028797018963968 b, allB 256 s, decide (l ≤ s.length), decide (s.length < 4611686018427387904), decide (lenAt s l < 40), decide ((lenAt s l) < 40), decide ((adN s b l (lenAt s l)).getD (lenAt s l) 0 + 1 < 9223372036854775808), decide (lenAt s l < 40), decide ((lenAt s l) < 40), decide (zs40 = zs40), allB 65536 (addB s b l), allB 256 r, allB 36028797018963968 (miN (addB s b l) r zs40 18), decide (leN (miN (addB s b l) r zs40 18) < 256 ^ 40)]
 (cond (decide (1361129467683753853853498429727072845819 ≤ red (leN (miN (addB s b l) r zs40 18))))
 (nd [decide (l + 16 < 9223372036854775808)]
 (some (Ex.normal, [AV.s (SV.sl LK.whole 0 0 16 1), AV.s (SV.sl LK.whole (2) 0 40 1), AV.s (SV.nat IntKind.i64 (l + 16)), AV.s (SV.str s)], [some [Ch.ints IntKind.i64 16 r], some [Ch.ints IntKind.i64 40 a], some [Ch.ints IntKind.i64 40 (digs 40 (canP (leN (miN (addB s b l) r zs40 18))))]])))
 (nd [decide (l + 16 < 9223372036854775808)]
 (some (Ex.normal, [AV.s (SV.sl LK.whole 0 0 16 1), AV.s (SV.sl LK.whole (2) 0 40 1), AV.s (SV.nat IntKind.i64 (l + 16)), AV.s (SV.str s)], [some [Ch.ints IntKind.i64 16 r], some [Ch.ints IntKind.i64 40 a], some [Ch.ints IntKind.i64 40 (digs 40 (canP (leN (miN (addB s b l) r zs40 18))))]])))))
 (some (Ex.exit 2, [AV.s (SV.sl LK.whole (2) 0 40 1)], [some [Ch.ints IntKind.i64 16 r], some [Ch.ints IntKind.i64 40 a], some [Ch.ints IntKind.i64 40 b]])))) := by kernel_rfl

theorem loopsTd : LoopsOk Try.prog ⟨Try.f26.ntmps, 7, [(4, Ta), (6, Tc)]⟩ (lb 2 Try.f26) := by
  refine loopsOk_of ?_
  have e : loopsIn [(4, Ta), (6, Tc)] (lb 2 Try.f26) = [(4, .loop (lb 4 Try.f26), Ta), (6, .loop (lb 6 Try.f26), Tc)] := by kernel_rfl
  simp only [e]
  intro x hx
  simp only [List.mem_cons, List.not_mem_nil, or_false] at hx
  rcases hx with rfl | rfl
  · exact lokTa
  · exact lokTc

theorem digs40_zero : digs 40 0 = zs40 := digs_zero 40

def Ad (r s : List Nat) : Nat → List AV × List (Option Blk)
  | 0 => ([.s (.sl .whole 0 0 16 1), slw 1, .s (.nat .i64 0), .s (.str s)], [some [.ints .i64 16 r], some [.ints .i64 40 zs40]])
  | i + 1 => ([.s (.sl .whole 0 0 16 1), slw 2, .s (.nat .i64 (16 * (i + 1))), .s (.str s)], [some [.ints .i64 16 r], some [.ints .i64 40 (addB s zs40 0)], some [.ints .i64 40 (digs 40 (aV r s (i + 1)))]])

theorem stepTd {r s : List Nat} (hs : allB 256 s = true) (hr : r.length = 16) (hrB : allB 256 r = true) (hl : s.length < 4611686018427387904) (i : Nat) (hi : i < nBl s) :
    runR Try.prog [(39, F39)] [] .nat 7 [(4, Ta), (6, Tc)] Try.f26 2 Td 2 (Ad r s i).1 (Ad r s i).2 = some (.normal, Ad r s (i + 1)) := by
  have hi' : 16 * i < s.length := by unfold nBl at hi; omega
  have hv := aV_lt hs hr hrB i
  obtain ⟨h1, h2, h3, h4, h5⟩ := addB_spec (s := s) (v := aV r s i) (l := 16 * i) (by omega) hs
  obtain ⟨g1, g2⟩ := miN_val (s := s) (r := r) (v := aV r s i) (l := 16 * i) (by omega) hs hr hrB
  have hB : allB 36028797018963968 (miN (addB s (digs 40 (aV r s i)) (16 * i)) r zs40 18) = true := allB_of fun j => by
    have := miN_get zs40_len (prod_le h1 hrB) (i := 18) (by omega) j
    rw [zs40_get] at this
    omega
  have hD : allB 36028797018963968 (digs 40 (aV r s i)) = true := allB_of fun j => by rw [digs_get]; split <;> omega
  have hL : lenAt s (16 * i) ≤ 16 := by unfold lenAt; omega
  cases i with
  | zero =>
    simp only [Ad, slw]
    have e0 : digs 40 (aV r s 0) = zs40 := digs40_zero
    rw [e0] at h1 h2 h3 h4 h5 g1 g2 hB hD
    rw [Nat.mul_zero] at h1 h5 g2 hB hL
    rw [rTd0]
    refine nd_of ?_ (cond_t (decide_eq_true (by omega)) (nd_of ?_ ?_))
    · simp only [List.mem_cons, List.not_mem_nil, or_false, forall_eq_or_imp, forall_eq, decide_eq_true_eq, true_and, and_true]; omega
    · simp only [List.mem_cons, List.not_mem_nil, or_false, forall_eq_or_imp, forall_eq, decide_eq_true_eq, true_and, and_true]
      exact ⟨zs40_len, hD, hs, by omega, hl, by omega, by omega, by omega, by omega, by omega, h1, hrB, hB, g2⟩
    · have e1 : aV r s (0 + 1) = canP (leN (miN (addB s zs40 0) r zs40 18)) := by rw [aV, e0]
      rw [e1]
      by_cases hp : 1361129467683753853853498429727072845819 ≤ red (leN (miN (addB s zs40 0) r zs40 18))
      · refine cond_t (decide_eq_true hp) (nd_of ?_ rfl)
        simp only [List.mem_cons, List.not_mem_nil, or_false, forall_eq_or_imp, forall_eq, decide_eq_true_eq, true_and, and_true]; omega
      · refine cond_f (decide_eq_false hp) (nd_of ?_ rfl)
        simp only [List.mem_cons, List.not_mem_nil, or_false, forall_eq_or_imp, forall_eq, decide_eq_true_eq, true_and, and_true]; omega
  | succ i =>
    simp only [Ad, slw]
    rw [rTd1]
    refine nd_of ?_ (cond_t (decide_eq_true hi') (nd_of ?_ ?_))
    · simp only [List.mem_cons, List.not_mem_nil, or_false, forall_eq_or_imp, forall_eq, decide_eq_true_eq, true_and, and_true]; omega
    · simp only [List.mem_cons, List.not_mem_nil, or_false, forall_eq_or_imp, forall_eq, decide_eq_true_eq, true_and, and_true]
      exact ⟨digs_len _ _, hD, hs, by omega, hl, by omega, by omega, by omega, by omega, by omega, h1, hrB, hB, g2⟩
    · rw [show aV r s (i + 1 + 1) = canP (leN (miN (addB s (digs 40 (aV r s (i + 1))) (16 * (i + 1))) r zs40 18)) from rfl, show 16 * (i + 1 + 1) = 16 * (i + 1) + 16 by omega]
      by_cases hp : 1361129467683753853853498429727072845819 ≤ red (leN (miN (addB s (digs 40 (aV r s (i + 1))) (16 * (i + 1))) r zs40 18))
      · refine cond_t (decide_eq_true hp) (nd_of ?_ rfl)
        simp only [List.mem_cons, List.not_mem_nil, or_false, forall_eq_or_imp, forall_eq, decide_eq_true_eq, true_and, and_true]; omega
      · refine cond_f (decide_eq_false hp) (nd_of ?_ rfl)
        simp only [List.mem_cons, List.not_mem_nil, or_false, forall_eq_or_imp, forall_eq, decide_eq_true_eq, true_and, and_true]; omega

theorem lokTd : LOk Try.prog Try.f26.ntmps (.block 2 (.loop (lb 2 Try.f26))) Td := by
  refine lokR (fs := [(39, F39)]) (xs := []) (m := .nat) (fuel := 7) (sums := [(4, Ta), (6, Tc)]) (.cons ok39 .nil) mixedP loopsTd ?_
  intro args hin t e vs hout h hg
  unfold Td at h
  simp only at h
  split at h
  · rename_i s r a
    simp only [Option.some.injEq] at h
    subst h
    obtain ⟨hc, hgt⟩ := Tr.needs_get hg
    clear hg
    have e1 : a = zs40 := of_decide_eq_true (hc _ (by simp))
    have e2 : allB 256 r = true := hc (allB 256 r) (by simp)
    have e3 : r.length = 16 := of_decide_eq_true (hc (decide (r.length = 16)) (by simp))
    have e4 : allB 256 s = true := hc (allB 256 s) (by simp)
    have e5 : s.length < 4611686018427387904 := of_decide_eq_true (hc (decide (s.length < 4611686018427387904)) (by simp))
    clear hc
    subst e1
    refine ⟨nBl s, Ad r s, .exit 2, rfl, fun i hi => stepTd e4 e3 e2 e5 i hi, ?_, ?_⟩
    · show _ = some (Ex.exit 2, vs, hout)
      simp only [Tr.get] at hgt
      by_cases hz : s.length = 0
      · rw [decide_eq_true hz] at hgt
        cases hgt
        have : nBl s = 0 := by unfold nBl; omega
        rw [this]
        simp only [Ad, slw, List.length_cons, List.length_nil]
        rw [rTd0]
        refine nd_of ?_ (cond_f (decide_eq_false (by omega)) rfl)
        simp only [List.mem_cons, List.not_mem_nil, or_false, forall_eq_or_imp, forall_eq, decide_eq_true_eq, true_and, and_true]; omega
      · rw [decide_eq_false hz] at hgt
        cases hgt
        obtain ⟨m, hm⟩ : ∃ m, nBl s = m + 1 := ⟨nBl s - 1, by unfold nBl; omega⟩
        have hm' : ¬ 16 * (m + 1) < s.length := by unfold nBl at hm; omega
        rw [hm]
        simp only [Ad, slw, List.length_cons, List.length_nil]
        rw [rTd1]
        refine nd_of ?_ (cond_f (decide_eq_false hm') rfl)
        simp only [List.mem_cons, List.not_mem_nil, or_false, forall_eq_or_imp, forall_eq, decide_eq_true_eq, true_and, and_true]; omega
    · simp only [Tr.get] at hgt
      cases hz : decide (s.length = 0) <;> rw [hz] at hgt <;> cases hgt <;> rfl
  · cases h

end Go.Proofs.Ytgebgjhjegadpaa

namespace Go.Proofs.Ytgebgjhjegadpaa
open Go

def rDig (key : List Nat) (i : Nat) : Nat := match Nat.beq (i % 4) 3 with
  | true => key.getD i 0 % 16
  | false => match Nat.blt 0 i && Nat.beq (i % 4) 0 with
    | true => key.getD i 0 - key.getD i 0 % 4
    | false => key.getD i 0

def rRow (key : List Nat) : Nat → Nat → List Nat
  | 0, _ => []
  | n + 1, i => rDig key i :: rRow key n (i + 1)

def go (a key : List Nat) : Nat → Nat
  | 0 => 0
  | i + 1 => (go a key i + (a.getD i 0 + key.getD (16 + i) 0)) / 256

def gt (a key : List Nat) (i : Nat) : Nat := (go a key i + (a.getD i 0 + key.getD (16 + i) 0)) % 256 % 256

def gcs (a key : List Nat) : Nat → Nat → List Bool
  | 0, _ => []
  | n + 1, i => decide (a.getD i 0 + key.getD (16 + i) 0 < 9223372036854775808) :: decide (go a key i + (a.getD i 0 + key.getD (16 + i) 0) < 9223372036854775808) :: gcs a key n (i + 1)

def gts (a key : List Nat) : Nat → Nat → List Nat
  | 0, _ => []
  | n + 1, i => gt a key i :: gts a key n (i + 1)

def tagR (key s : List Nat) : List Nat := gts (digs 40 (aV (rRow key 16 0) s (nBl s))) key 16 0

def F26 : FSem := ⟨false, fun args hin => match args, hin with
  | [.agg [.ints .u8 32 key], .s (.str s)], [] => some (Tr.needs [okKey key, allB 256 s, decide (s.length < 4611686018427387904)] (.leaf (.agg [.ints .u8 16 (tagR key s)], [])))
  | _, _ => none⟩

theorem fn26 : Fn Try.prog 26 Try.f26 := ⟨mixedP, Try.func26, by kernel_rfl, of_decide_eq_true (by kernel_rfl)⟩

theorem loops26 : LoopsOk Try.prog ⟨Try.f26.ntmps, 17, [(2, Td)]⟩ (bodyOf Try.f26) := by
  refine loopsOk_of ?_
  have e : loopsIn [(2, Td)] (bodyOf Try.f26) = [(2, .loop (lb 2 Try.f26), Td)] := by kernel_rfl
  simp only [e]
  intro x hx
  simp only [List.mem_cons, List.not_mem_nil, or_false] at hx
  subst hx
  exact lokTd

set_option maxRecDepth 100000 in
theorem r26 (key s : List Nat) : runL Try.prog [(39, F39)] [] .nat 17 [(2, Td)] Try.f26 [.agg [.ints .u8 32 key], .s (.str s)] [] =
    nd [decide (key.getD 4 0 % 4 ≤ key.getD 4 0), decide (key.getD 8 0 % 4 ≤ key.getD 8 0), decide (key.getD 12 0 % 4 ≤ key.getD 12 0), decide (zs40 = zs40), allB 256 (rRow key 16 0), decide ((rRow key 16 0).length = 16), allB 256 s, decide (s.length < 4611686018427387904)]
      (cond (decide (s.length = 0)) (nd (gcs zs40 key 16 0) (some (.agg [.ints .u8 16 (gts zs40 key 16 0)], [])))
        (nd (gcs (digs 40 (aV (rRow key 16 0) s (nBl s))) key 16 0) (some (.agg [.ints .u8 16 (gts (digs 40 (aV (rRow key 16 0) s (nBl s))) key 16 0)], [])))) := by kernel_rfl

theorem go_lt {a key : List Nat} (ha : ∀ i, a.getD i 0 < 256) (h : okKey key = true) : ∀ i, go a key i < 256
  | 0 => by simp [go]
  | i + 1 => by
    have h1 := go_lt ha h i
    have h2 := key_lt h (16 + i)
    have h3 := ha i
    unfold go
    omega

theorem gcs_ok {a key : List Nat} (ha : ∀ i, a.getD i 0 < 256) (h : okKey key = true) : ∀ n i, ∀ c ∈ gcs a key n i, c = true
  | 0, i, c, hc => by cases hc
  | n + 1, i, c, hc => by
    have h1 := go_lt ha h i
    have h2 := key_lt h (16 + i)
    have h3 := ha i
    simp only [gcs, List.mem_cons] at hc
    rcases hc with rfl | rfl | hc
    · exact decide_eq_true (by omega)
    · exact decide_eq_true (by omega)
    · exact gcs_ok ha h n (i + 1) c hc

theorem rDig_lt {key : List Nat} (h : okKey key = true) (i : Nat) : rDig key i < 256 := by
  have := key_lt h i
  unfold rDig
  split
  · omega
  · split <;> omega

theorem rRow_lt {key : List Nat} (h : okKey key = true) : ∀ n i, ∀ x ∈ rRow key n i, x < 256
  | 0, i, x, hx => by cases hx
  | n + 1, i, x, hx => by
    simp only [rRow, List.mem_cons] at hx
    rcases hx with rfl | hx
    · exact rDig_lt h i
    · exact rRow_lt h n (i + 1) x hx

theorem rRow_all {key : List Nat} (h : okKey key = true) : allB 256 (rRow key 16 0) = true :=
  List.all_eq_true.2 fun x hx => decide_eq_true (rRow_lt h 16 0 x hx)

theorem ok26 : FOk Try.prog 26 F26 := by
  refine fokL (fs := [(39, F39)]) (xs := []) (m := .nat) (fuel := 17) (sums := [(2, Td)]) (.cons ok39 .nil) fn26 loops26 ?_
  intro args hin t r h hg
  unfold F26 at h
  simp only at h
  split at h
  · rename_i key s
    cases h
    obtain ⟨hc, hgt⟩ := Tr.needs_get hg
    cases hgt
    have h1 : okKey key = true := hc (okKey key) (by simp)
    have h2 : allB 256 s = true := hc (allB 256 s) (by simp)
    have h3 : s.length < 4611686018427387904 := of_decide_eq_true (hc (decide (s.length < 4611686018427387904)) (by simp))
    rw [r26]
    refine nd_of ?_ ?_
    · simp only [List.mem_cons, List.not_mem_nil, or_false, forall_eq_or_imp, forall_eq, decide_eq_true_eq, true_and, and_true]
      exact ⟨Nat.mod_le _ _, Nat.mod_le _ _, Nat.mod_le _ _, rRow_all h1, rfl, h2, h3⟩
    · by_cases hz : s.length = 0
      · refine cond_t (decide_eq_true hz) (nd_of (gcs_ok (fun i => by rw [zs40_get]; omega) h1 16 0) ?_)
        have : nBl s = 0 := by unfold nBl; omega
        unfold tagR
        rw [this, aV, digs40_zero]
      · refine cond_f (decide_eq_false hz) (nd_of (gcs_ok (fun i => by rw [digs_get]; split <;> omega) h1 16 0) rfl)
  · cases h

end Go.Proofs.Ytgebgjhjegadpaa

namespace Go.Proofs.Ytgebgjhjegadpaa
open Go

def parts (V : Nat) : List Nat := [V % 67108864, V / 67108864 % 67108864, V / 4503599627370496 % 67108864, V / 302231454903657293676544 % 67108864, V / 20282409603651670423947251286016]

theorem numS0 (l0 l1 l2 l3 l4 v : Nat) : numStep [l0, l1, l2, l3, l4] 0 v = [(l0 ||| (v * 2 ^ 0 % 18446744073709551616 &&& 67108863)), l1, l2, l3, l4] := rfl
theorem numS1 (l0 l1 l2 l3 l4 v : Nat) : numStep [l0, l1, l2, l3, l4] 1 v = [(l0 ||| (v * 2 ^ 8 % 18446744073709551616 &&& 67108863)), l1, l2, l3, l4] := rfl
theorem numS2 (l0 l1 l2 l3 l4 v : Nat) : numStep [l0, l1, l2, l3, l4] 2 v = [(l0 ||| (v * 2 ^ 16 % 18446744073709551616 &&& 67108863)), l1, l2, l3, l4] := rfl
theorem numS3 (l0 l1 l2 l3 l4 v : Nat) : numStep [l0, l1, l2, l3, l4] 3 v = [(l0 ||| (v * 2 ^ 24 % 18446744073709551616 &&& 67108863)), (l1 ||| v / 2 ^ 2), l2, l3, l4] := rfl
theorem numS4 (l0 l1 l2 l3 l4 v : Nat) : numStep [l0, l1, l2, l3, l4] 4 v = [l0, (l1 ||| (v * 2 ^ 6 % 18446744073709551616 &&& 67108863)), l2, l3, l4] := rfl
theorem numS5 (l0 l1 l2 l3 l4 v : Nat) : numStep [l0, l1, l2, l3, l4] 5 v = [l0, (l1 ||| (v * 2 ^ 14 % 18446744073709551616 &&& 67108863)), l2, l3, l4] := rfl
theorem numS6 (l0 l1 l2 l3 l4 v : Nat) : numStep [l0, l1, l2, l3, l4] 6 v = [l0, (l1 ||| (v * 2 ^ 22 % 18446744073709551616 &&& 67108863)), (l2 ||| v / 2 ^ 4), l3, l4] := rfl
theorem numS7 (l0 l1 l2 l3 l4 v : Nat) : numStep [l0, l1, l2, l3, l4] 7 v = [l0, l1, (l2 ||| (v * 2 ^ 4 % 18446744073709551616 &&& 67108863)), l3, l4] := rfl
theorem numS8 (l0 l1 l2 l3 l4 v : Nat) : numStep [l0, l1, l2, l3, l4] 8 v = [l0, l1, (l2 ||| (v * 2 ^ 12 % 18446744073709551616 &&& 67108863)), l3, l4] := rfl
theorem numS9 (l0 l1 l2 l3 l4 v : Nat) : numStep [l0, l1, l2, l3, l4] 9 v = [l0, l1, (l2 ||| (v * 2 ^ 20 % 18446744073709551616 &&& 67108863)), (l3 ||| v / 2 ^ 6), l4] := rfl
theorem numS10 (l0 l1 l2 l3 l4 v : Nat) : numStep [l0, l1, l2, l3, l4] 10 v = [l0, l1, l2, (l3 ||| (v * 2 ^ 2 % 18446744073709551616 &&& 67108863)), l4] := rfl
theorem numS11 (l0 l1 l2 l3 l4 v : Nat) : numStep [l0, l1, l2, l3, l4] 11 v = [l0, l1, l2, (l3 ||| (v * 2 ^ 10 % 18446744073709551616 &&& 67108863)), l4] := rfl
theorem numS12 (l0 l1 l2 l3 l4 v : Nat) : numStep [l0, l1, l2, l3, l4] 12 v = [l0, l1, l2, (l3 ||| (v * 2 ^ 18 % 18446744073709551616 &&& 67108863)), l4] := rfl
theorem numS13 (l0 l1 l2 l3 l4 v : Nat) : numStep [l0, l1, l2, l3, l4] 13 v = [l0, l1, l2, l3, (l4 ||| (v * 2 ^ 0 % 18446744073709551616 &&& 67108863))] := rfl
theorem numS14 (l0 l1 l2 l3 l4 v : Nat) : numStep [l0, l1, l2, l3, l4] 14 v = [l0, l1, l2, l3, (l4 ||| (v * 2 ^ 8 % 18446744073709551616 &&& 67108863))] := rfl
theorem numS15 (l0 l1 l2 l3 l4 v : Nat) : numStep [l0, l1, l2, l3, l4] 15 v = [l0, l1, l2, l3, (l4 ||| (v * 2 ^ 16 % 18446744073709551616 &&& 67108863))] := rfl
theorem numS16 (l0 l1 l2 l3 l4 v : Nat) : numStep [l0, l1, l2, l3, l4] 16 v = [l0, l1, l2, l3, (l4 ||| (v * 2 ^ 24 % 18446744073709551616 &&& 67108863))] := rfl

theorem or1 {a v s : Nat} (ha : a < 2 ^ s) (hs : s ≤ 26) (hv : v < 256) : a ||| (v * 2 ^ s % 18446744073709551616 &&& 67108863) = a + v * 2 ^ s % 67108864 := by
  have h1 : v * 2 ^ s < 18446744073709551616 := by
    have : 2 ^ s ≤ 2 ^ 26 := Nat.pow_le_pow_right (by omega) hs
    have : v * 2 ^ s ≤ 256 * 2 ^ 26 := Nat.mul_le_mul (by omega) this
    omega
  have h2 : v * 2 ^ s % 67108864 = 2 ^ s * (v % 2 ^ (26 - s)) := by
    rw [show (67108864 : Nat) = 2 ^ s * 2 ^ (26 - s) by rw [← Nat.pow_add, show s + (26 - s) = 26 by omega], Nat.mul_comm v, Nat.mul_mod_mul_left]
  rw [Nat.mod_eq_of_lt h1, and26, h2, Nat.or_comm, ← Nat.two_pow_add_eq_or_of_lt ha, Nat.add_comm]

theorem list5 {a b c d e a' b' c' d' e' : Nat} (h0 : a = a') (h1 : b = b') (h2 : c = c') (h3 : d = d') (h4 : e = e') : [a, b, c, d, e] = [a', b', c', d', e'] := by
  rw [h0, h1, h2, h3, h4]

theorem numStep_val {V v j : Nat} (hj : j < 17) (hV : V < 256 ^ j) (hv : v < 256) (h16 : j = 16 → v < 4) : numStep (parts V) j v = parts (V + v * 256 ^ j) := by
  have : j = 0 ∨ j = 1 ∨ j = 2 ∨ j = 3 ∨ j = 4 ∨ j = 5 ∨ j = 6 ∨ j = 7 ∨ j = 8 ∨ j = 9 ∨ j = 10 ∨ j = 11 ∨ j = 12 ∨ j = 13 ∨ j = 14 ∨ j = 15 ∨ j = 16 := by omega
  unfold parts
  rcases this with rfl | rfl | rfl | rfl | rfl | rfl | rfl | rfl | rfl | rfl | rfl | rfl | rfl | rfl | rfl | rfl | rfl
  · rw [show (256 : Nat) ^ 0 = 1 from rfl] at *
    rw [numS0, or1 (a := V % 67108864) (s := 0) (by omega) (by omega) hv]
    simp only [Nat.reducePow]
    refine list5 ?_ ?_ ?_ ?_ ?_ <;> omega
  · rw [show (256 : Nat) ^ 1 = 256 from rfl] at *
    rw [numS1, or1 (a := V % 67108864) (s := 8) (by omega) (by omega) hv]
    simp only [Nat.reducePow]
    refine list5 ?_ ?_ ?_ ?_ ?_ <;> omega
  · rw [show (256 : Nat) ^ 2 = 65536 from rfl] at *
    rw [numS2, or1 (a := V % 67108864) (s := 16) (by omega) (by omega) hv]
    simp only [Nat.reducePow]
    refine list5 ?_ ?_ ?_ ?_ ?_ <;> omega
  · rw [show (256 : Nat) ^ 3 = 16777216 from rfl] at *
    rw [numS3, or1 (a := V % 67108864) (s := 24) (by omega) (by omega) hv]
    rw [show V / 67108864 % 67108864 = 0 by omega, Nat.zero_or]
    simp only [Nat.reducePow]
    refine list5 ?_ ?_ ?_ ?_ ?_ <;> omega
  · rw [show (256 : Nat) ^ 4 = 4294967296 from rfl] at *
    rw [numS4, or1 (a := V / 67108864 % 67108864) (s := 6) (by omega) (by omega) hv]
    simp only [Nat.reducePow]
    refine list5 ?_ ?_ ?_ ?_ ?_ <;> omega
  · rw [show (256 : Nat) ^ 5 = 1099511627776 from rfl] at *
    rw [numS5, or1 (a := V / 67108864 % 67108864) (s := 14) (by omega) (by omega) hv]
    simp only [Nat.reducePow]
    refine list5 ?_ ?_ ?_ ?_ ?_ <;> omega
  · rw [show (256 : Nat) ^ 6 = 281474976710656 from rfl] at *
    rw [numS6, or1 (a := V / 67108864 % 67108864) (s := 22) (by omega) (by omega) hv]
    rw [show V / 4503599627370496 % 67108864 = 0 by omega, Nat.zero_or]
    simp only [Nat.reducePow]
    refine list5 ?_ ?_ ?_ ?_ ?_ <;> omega
  · rw [show (256 : Nat) ^ 7 = 72057594037927936 from rfl] at *
    rw [numS7, or1 (a := V / 4503599627370496 % 67108864) (s := 4) (by omega) (by omega) hv]
    simp only [Nat.reducePow]
    refine list5 ?_ ?_ ?_ ?_ ?_ <;> omega
  · rw [show (256 : Nat) ^ 8 = 18446744073709551616 from rfl] at *
    rw [numS8, or1 (a := V / 4503599627370496 % 67108864) (s := 12) (by omega) (by omega) hv]
    simp only [Nat.reducePow]
    refine list5 ?_ ?_ ?_ ?_ ?_ <;> omega
  · rw [show (256 : Nat) ^ 9 = 4722366482869645213696 from rfl] at *
    rw [numS9, or1 (a := V / 4503599627370496 % 67108864) (s := 20) (by omega) (by omega) hv]
    rw [show V / 302231454903657293676544 % 67108864 = 0 by omega, Nat.zero_or]
    simp only [Nat.reducePow]
    refine list5 ?_ ?_ ?_ ?_ ?_ <;> omega
  · rw [show (256 : Nat) ^ 10 = 1208925819614629174706176 from rfl] at *
    rw [numS10, or1 (a := V / 302231454903657293676544 % 67108864) (s := 2) (by omega) (by omega) hv]
    simp only [Nat.reducePow]
    refine list5 ?_ ?_ ?_ ?_ ?_ <;> omega
  · rw [show (256 : Nat) ^ 11 = 309485009821345068724781056 from rfl] at *
    rw [numS11, or1 (a := V / 302231454903657293676544 % 67108864) (s := 10) (by omega) (by omega) hv]
    simp only [Nat.reducePow]
    refine list5 ?_ ?_ ?_ ?_ ?_ <;> omega
  · rw [show (256 : Nat) ^ 12 = 79228162514264337593543950336 from rfl] at *
    rw [numS12, or1 (a := V / 302231454903657293676544 % 67108864) (s := 18) (by omega) (by omega) hv]
    simp only [Nat.reducePow]
    refine list5 ?_ ?_ ?_ ?_ ?_ <;> omega
  · rw [show (256 : Nat) ^ 13 = 20282409603651670423947251286016 from rfl] at *
    rw [numS13, or1 (a := V / 20282409603651670423947251286016) (s := 0) (by omega) (by omega) hv]
    simp only [Nat.reducePow]
    refine list5 ?_ ?_ ?_ ?_ ?_ <;> omega
  · rw [show (256 : Nat) ^ 14 = 5192296858534827628530496329220096 from rfl] at *
    rw [numS14, or1 (a := V / 20282409603651670423947251286016) (s := 8) (by omega) (by omega) hv]
    simp only [Nat.reducePow]
    refine list5 ?_ ?_ ?_ ?_ ?_ <;> omega
  · rw [show (256 : Nat) ^ 15 = 1329227995784915872903807060280344576 from rfl] at *
    rw [numS15, or1 (a := V / 20282409603651670423947251286016) (s := 16) (by omega) (by omega) hv]
    simp only [Nat.reducePow]
    refine list5 ?_ ?_ ?_ ?_ ?_ <;> omega
  · rw [show (256 : Nat) ^ 16 = 340282366920938463463374607431768211456 from rfl] at *
    rw [numS16, or1 (a := V / 20282409603651670423947251286016) (s := 24) (by omega) (by omega) hv]
    have := h16 rfl
    simp only [Nat.reducePow]
    refine list5 ?_ ?_ ?_ ?_ ?_ <;> omega

theorem numN_val {xs : List Nat} (hx : ∀ i, xs.getD i 0 < 256) (h16 : xs.getD 16 0 < 4) : ∀ {j : Nat}, j ≤ 17 → numN xs j = parts (sumW (fun i => xs.getD i 0) j)
  | 0, _ => by simp [numN, sumW, parts]
  | j + 1, h => by
    rw [numN, numN_val hx h16 (by omega), numStep_val (by omega) (sumW_lt hx j) (hx j) (fun e => e ▸ h16), sumW]

theorem parts_v5 (V : Nat) : v5 (parts V) = V := by
  unfold parts
  rw [v5_mk]
  omega

theorem parts_lim {V : Nat} (h : V < 1361129467683753853853498429727072845824) : lim5 67108864 (parts V) :=
  lim5_mk (by omega) (by omega) (by omega) (by omega) (by omega)

theorem numb_val {xs : List Nat} (hx : ∀ i, xs.getD i 0 < 256) (h16 : xs.getD 16 0 < 4) (hl : xs.length ≤ 17) : v5 (numb xs) = leN xs ∧ lim5 67108864 (numb xs) := by
  have e : numb xs = parts (leN xs) := by rw [numb, numN_val hx h16 hl, ← leN_sumW]
  rw [e]
  refine ⟨parts_v5 _, parts_lim ?_⟩
  rw [leN_sumW]
  by_cases h : xs.length ≤ 16
  · exact Nat.lt_of_lt_of_le (sumW_lt hx _) (Nat.le_trans (Nat.pow_le_pow_right (by omega) h) (by decide))
  · rw [show xs.length = 16 + 1 by omega, sumW]
    have h1 := sumW_lt hx 16
    have h2 : xs.getD 16 0 * 256 ^ 16 ≤ 3 * 256 ^ 16 := Nat.mul_le_mul_right _ (by omega)
    rw [show (256 : Nat) ^ 16 = 340282366920938463463374607431768211456 from rfl] at *
    omega

end Go.Proofs.Ytgebgjhjegadpaa

namespace Go.Proofs.Ytgebgjhjegadpaa
open Go

theorem or2 {a b s : Nat} (ha : a < 2 ^ s) (hb : b * 2 ^ s < 18446744073709551616) : a ||| b * 2 ^ s % 18446744073709551616 = a + b * 2 ^ s := by
  rw [Nat.mod_eq_of_lt hb, Nat.or_comm, Nat.mul_comm b, ← Nat.two_pow_add_eq_or_of_lt ha, Nat.add_comm]

theorem fx_val {y : List Nat} (hy : lim5 67108864 y) {i : Nat} (hi : i < 16) : fx y i % 256 = v5 y / 256 ^ i % 256 := by
  obtain ⟨a, b, c, d, e, rfl⟩ := five hy.1
  have h0 : a < _ := hy.2 0
  have h1 : b < _ := hy.2 1
  have h2 : c < _ := hy.2 2
  have h3 : d < _ := hy.2 3
  have h4 : e < _ := hy.2 4
  rw [v5_mk]
  have : i = 0 ∨ i = 1 ∨ i = 2 ∨ i = 3 ∨ i = 4 ∨ i = 5 ∨ i = 6 ∨ i = 7 ∨ i = 8 ∨ i = 9 ∨ i = 10 ∨ i = 11 ∨ i = 12 ∨ i = 13 ∨ i = 14 ∨ i = 15 := by omega
  rcases this with rfl | rfl | rfl | rfl | rfl | rfl | rfl | rfl | rfl | rfl | rfl | rfl | rfl | rfl | rfl | rfl
  · rw [show fx [a, b, c, d, e] 0 = a / 2 ^ 0 from rfl]
    simp only [Nat.reducePow]
    omega
  · rw [show fx [a, b, c, d, e] 1 = a / 2 ^ 8 from rfl]
    simp only [Nat.reducePow]
    omega
  · rw [show fx [a, b, c, d, e] 2 = a / 2 ^ 16 from rfl]
    simp only [Nat.reducePow]
    omega
  · rw [show fx [a, b, c, d, e] 3 = a / 2 ^ 24 ||| b * 2 ^ 2 % 18446744073709551616 from rfl, or2 (a := a / 2 ^ 24) (b := b) (s := 2) (by omega) (by omega)]
    simp only [Nat.reducePow]
    omega
  · rw [show fx [a, b, c, d, e] 4 = b / 2 ^ 6 from rfl]
    simp only [Nat.reducePow]
    omega
  · rw [show fx [a, b, c, d, e] 5 = b / 2 ^ 14 from rfl]
    simp only [Nat.reducePow]
    omega
  · rw [show fx [a, b, c, d, e] 6 = b / 2 ^ 22 ||| c * 2 ^ 4 % 18446744073709551616 from rfl, or2 (a := b / 2 ^ 22) (b := c) (s := 4) (by omega) (by omega)]
    simp only [Nat.reducePow]
    omega
  · rw [show fx [a, b, c, d, e] 7 = c / 2 ^ 4 from rfl]
    simp only [Nat.reducePow]
    omega
  · rw [show fx [a, b, c, d, e] 8 = c / 2 ^ 12 from rfl]
    simp only [Nat.reducePow]
    omega
  · rw [show fx [a, b, c, d, e] 9 = c / 2 ^ 20 ||| d * 2 ^ 6 % 18446744073709551616 from rfl, or2 (a := c / 2 ^ 20) (b := d) (s := 6) (by omega) (by omega)]
    simp only [Nat.reducePow]
    omega
  · rw [show fx [a, b, c, d, e] 10 = d / 2 ^ 2 from rfl]
    simp only [Nat.reducePow]
    omega
  · rw [show fx [a, b, c, d, e] 11 = d / 2 ^ 10 from rfl]
    simp only [Nat.reducePow]
    omega
  · rw [show fx [a, b, c, d, e] 12 = d / 2 ^ 18 from rfl]
    simp only [Nat.reducePow]
    omega
  · rw [show fx [a, b, c, d, e] 13 = e / 2 ^ 0 from rfl]
    simp only [Nat.reducePow]
    omega
  · rw [show fx [a, b, c, d, e] 14 = e / 2 ^ 8 from rfl]
    simp only [Nat.reducePow]
    omega
  · rw [show fx [a, b, c, d, e] 15 = e / 2 ^ 16 from rfl]
    simp only [Nat.reducePow]
    omega

theorem fin_two {x : List Nat} (h : lim5 67108870 x) : ∃ k, lim5 67108864 (carr (carr x)) ∧ v5 x = v5 (carr (carr x)) + k * P130 := by
  obtain ⟨a, b, c, d, e, rfl⟩ := five h.1
  have h0 : a < _ := h.2 0
  have h1 : b < _ := h.2 1
  have h2 : c < _ := h.2 2
  have h3 : d < _ := h.2 3
  have h4 : e < _ := h.2 4
  obtain ⟨c0, c1, c2, c3, c4, e0, e1, e2, e3, e4, hc⟩ := carr_mk (a := a) (b := b) (c := c) (d := d) (e := e) (by omega) (by omega) (by omega) (by omega) (by omega)
  have q0 : c0 ≤ 1 := by omega
  have q1 : c1 ≤ 1 := by omega
  have q2 : c2 ≤ 1 := by omega
  have q3 : c3 ≤ 1 := by omega
  have q4 : c4 ≤ 1 := by omega
  obtain ⟨d0, d1, d2, d3, d4, f0, f1, f2, f3, f4, hd⟩ := carr_mk (a := a % 67108864 + 5 * c4) (b := (b + c0) % 67108864) (c := (c + c1) % 67108864) (d := (d + c2) % 67108864) (e := (e + c3) % 67108864) (by omega) (by omega) (by omega) (by omega) (by omega)
  rw [hc, hd]
  refine ⟨c4 + d4, lim5_mk ?_ (Nat.mod_lt _ (by omega)) (Nat.mod_lt _ (by omega)) (Nat.mod_lt _ (by omega)) (Nat.mod_lt _ (by omega)), ?_⟩
  · have : (a % 67108864 + 5 * c4) < 67108864 + 5 := by omega
    have : d4 = 0 ∨ d0 = 1 := by omega
    rcases this with h | h <;> omega
  · rw [v5_mk, v5_mk]
    show _ = _ + (c4 + d4) * 1361129467683753853853498429727072845819
    omega

theorem least_val {x : List Nat} (h : lim5 67108864 x) : lim5 67108864 (least x) ∧ v5 (least x) = v5 x % P130 := by
  obtain ⟨a, b, c, d, e, rfl⟩ := five h.1
  have h0 : a < _ := h.2 0
  have h1 : b < _ := h.2 1
  have h2 : c < _ := h.2 2
  have h3 : d < _ := h.2 3
  have h4 : e < _ := h.2 4
  have ho : ∃ q, over5 a b c d e = q ∧ q = (v5 [a, b, c, d, e] + 5) / 1361129467683753853853498429727072845824 := by
    refine ⟨_, rfl, ?_⟩
    unfold over5 ct
    rw [v5_mk]
    simp only [Nat.reducePow]
    rw [Nat.mod_eq_of_lt (a := a + 5) (by omega)]
    generalize hq0 : (a + 5) / 67108864 = q0
    rw [Nat.mod_eq_of_lt (a := b + q0) (by omega)]
    generalize hq1 : (b + q0) / 67108864 = q1
    rw [Nat.mod_eq_of_lt (a := c + q1) (by omega)]
    generalize hq2 : (c + q1) / 67108864 = q2
    rw [Nat.mod_eq_of_lt (a := d + q2) (by omega)]
    generalize hq3 : (d + q2) / 67108864 = q3
    rw [Nat.mod_eq_of_lt (a := e + q3) (by omega)]
    omega
  obtain ⟨q, hq, hq2⟩ := ho
  rw [v5_mk] at hq2
  have hq1 : q ≤ 1 := by omega
  have e1 : least [a, b, c, d, e] = least5 a b c d e := rfl
  rw [e1]
  unfold least5 carrL ct
  simp only [and26, Nat.reducePow, hq]
  rw [Nat.mod_eq_of_lt (a := 5 * q) (by omega), Nat.mod_eq_of_lt (a := a + 5 * q) (by omega), Nat.add_zero, Nat.mod_eq_of_lt (a := a + 5 * q) (by omega)]
  generalize hc0 : (a + 5 * q) / 67108864 = c0
  rw [Nat.mod_eq_of_lt (a := b + c0) (by omega)]
  generalize hc1 : (b + c0) / 67108864 = c1
  rw [Nat.mod_eq_of_lt (a := c + c1) (by omega)]
  generalize hc2 : (c + c1) / 67108864 = c2
  rw [Nat.mod_eq_of_lt (a := d + c2) (by omega)]
  generalize hc3 : (d + c2) / 67108864 = c3
  rw [Nat.mod_eq_of_lt (a := e + c3) (by omega)]
  refine ⟨lim5_mk (Nat.mod_lt _ (by omega)) (Nat.mod_lt _ (by omega)) (Nat.mod_lt _ (by omega)) (Nat.mod_lt _ (by omega)) (Nat.mod_lt _ (by omega)), ?_⟩
  rw [v5_mk, v5_mk]
  show _ = _ % 1361129467683753853853498429727072845819
  generalize hc4 : (e + c3) / 67108864 = c4
  generalize hW : (a + 5 * q) % 67108864 + 67108864 * ((b + c0) % 67108864) + 4503599627370496 * ((c + c1) % 67108864) + 302231454903657293676544 * ((d + c2) % 67108864) + 20282409603651670423947251286016 * ((e + c3) % 67108864) = W
  generalize hV : a + 67108864 * b + 4503599627370496 * c + 302231454903657293676544 * d + 20282409603651670423947251286016 * e = V at *
  have k1 : W + 1361129467683753853853498429727072845824 * c4 = V + 5 * q := by omega
  have k2 : W < 1361129467683753853853498429727072845824 := by omega
  have k3 : V < 1361129467683753853853498429727072845824 := by omega
  clear hW hV hc0 hc1 hc2 hc3 hc4 hq e1 h h0 h1 h2 h3 h4
  rcases (by omega : q = 0 ∨ q = 1) with rfl | rfl
  · have : c4 = 0 := by omega
    subst this
    rw [Nat.mod_eq_of_lt (by omega)]
    omega
  · have : c4 = 1 := by omega
    subst this
    omega

/-! The two sums, from equal bytes. -/
theorem fo_go {y k' a key : List Nat} (h : ∀ i, i < 16 → fx y i % 256 = a.getD i 0) (hk : ∀ i, k'.getD (16 + i) 0 = key.getD (16 + i) 0) : ∀ {i : Nat}, i ≤ 16 → fo y k' i = go a key i
  | 0, _ => rfl
  | i + 1, hi => by rw [fo, go, fo_go h hk (by omega), h i (by omega), hk i]

theorem fts_gts {y k' a key : List Nat} (h : ∀ i, i < 16 → fx y i % 256 = a.getD i 0) (hk : ∀ i, k'.getD (16 + i) 0 = key.getD (16 + i) 0) : ∀ {n i : Nat}, i + n ≤ 16 → fts y k' n i = gts a key n i
  | 0, _, _ => rfl
  | n + 1, i, hi => by
    rw [fts, gts, fts_gts h hk (by omega), ft, gt, fo_go h hk (by omega), h i (by omega), hk i, Nat.mod_mod]

/-! One block more. -/
theorem addL_val {a x : List Nat} (ha : lim5 67108870 a) (hx : lim5 67108864 x) : lim5 268435456 (addL a x) ∧ v5 (addL a x) = v5 a + v5 x := by
  obtain ⟨a0, a1, a2, a3, a4, rfl⟩ := five ha.1
  obtain ⟨x0, x1, x2, x3, x4, rfl⟩ := five hx.1
  have h0 : a0 < _ := ha.2 0
  have h1 : a1 < _ := ha.2 1
  have h2 : a2 < _ := ha.2 2
  have h3 : a3 < _ := ha.2 3
  have h4 : a4 < _ := ha.2 4
  have g0 : x0 < _ := hx.2 0
  have g1 : x1 < _ := hx.2 1
  have g2 : x2 < _ := hx.2 2
  have g3 : x3 < _ := hx.2 3
  have g4 : x4 < _ := hx.2 4
  have e : addL [a0, a1, a2, a3, a4] [x0, x1, x2, x3, x4] = [a0 + x0, a1 + x1, a2 + x2, a3 + x3, a4 + x4] := by
    show [ct a0 x0, ct a1 x1, ct a2 x2, ct a3 x3, ct a4 x4] = _
    unfold ct
    refine list5 ?_ ?_ ?_ ?_ ?_ <;> exact Nat.mod_eq_of_lt (by omega)
  rw [e]
  refine ⟨lim5_mk (by omega) (by omega) (by omega) (by omega) (by omega), ?_⟩
  rw [v5_mk, v5_mk, v5_mk]
  omega

theorem step_val {r a ys : List Nat} (ha : lim5 67108870 a) (hr : lim5 67108864 r) (hb : ∀ i, ys.getD i 0 < 256) (hl : ys.length ≤ 16) :
    lim5 67108870 (stepC r a ys) ∧ v5 (stepC r a ys) % P130 = (v5 a + leN (ys ++ [1])) * v5 r % P130 := by
  have hx : ∀ i, (ys ++ [1]).getD i 0 < 256 := fun i => by
    rw [List.getD, List.getElem?_append]
    split
    · have := hb i; rwa [List.getD] at this
    · cases i - ys.length with
      | zero => simp
      | succ n => simp
  have h16 : (ys ++ [1]).getD 16 0 < 4 := by
    rw [List.getD, List.getElem?_append, if_neg (by omega)]
    cases 16 - ys.length with
    | zero => simp
    | succ n => simp
  obtain ⟨n1, n2⟩ := numb_val hx h16 (by simp; omega)
  obtain ⟨b1, b2⟩ := addL_val ha n2
  obtain ⟨k, c1, c2⟩ := times_val b1 hr
  obtain ⟨k', d1, d2⟩ := carr_both c1
  refine ⟨d1, ?_⟩
  unfold stepC
  rw [← n1, ← b2, c2, d2, Nat.add_mul_mod_self_right, Nat.add_mul_mod_self_right]

end Go.Proofs.Ytgebgjhjegadpaa

namespace Go.Proofs.Ytgebgjhjegadpaa
open Go

theorem blk_val {s : List Nat} (l : Nat) : leN ((s.drop l).take 16 ++ [1]) = blV s l := by
  have hl : ((s.drop l).take 16).length = lenAt s l := by rw [lenAt, List.length_take, List.length_drop]
  rw [leN_append, leN_sumW, hl, blV]
  congr 1
  · refine sumW_congr fun j hj => ?_
    rw [← hl, List.length_take] at hj
    rw [List.getD, List.getElem?_take, if_pos (by omega), List.getElem?_drop]
    rfl
  · simp [leN]

theorem sub_lt {s : List Nat} (hs : allB 256 s = true) (l : Nat) (i : Nat) : ((s.drop l).take 16).getD i 0 < 256 := by
  rw [List.getD, List.getElem?_take]
  split
  · rw [List.getElem?_drop]; exact allB_get (by omega) hs (l + i)
  · simp

theorem takes_val {r rr s : List Nat} (hr : lim5 67108864 r) (hrr : rr.length = 16) (hrB : allB 256 rr = true) (he : v5 r = leN rr) (hs : allB 256 s = true) :
    ∀ i, lim5 67108870 (takesC r [0, 0, 0, 0, 0] s i) ∧ v5 (takesC r [0, 0, 0, 0, 0] s i) % P130 = aV rr s i
  | 0 => ⟨lim5_mk (by omega) (by omega) (by omega) (by omega) (by omega), rfl⟩
  | i + 1 => by
    obtain ⟨h1, h2⟩ := takes_val hr hrr hrB he hs i
    obtain ⟨g1, g2⟩ := step_val (ys := (s.drop (16 * i)).take 16) h1 hr (sub_lt hs (16 * i)) (by rw [List.length_take]; omega)
    refine ⟨g1, ?_⟩
    rw [takesC, g2, blk_val, aV_succ hs hrr hrB, ← he, ← h2, Nat.mul_mod, Nat.add_mod, ← Nat.mod_mod (v5 (takesC r [0, 0, 0, 0, 0] s i)), ← Nat.add_mod, ← Nat.mul_mod]
    rw [Nat.mod_mod]

theorem and252 : ∀ x, x < 256 → x &&& 252 = x - x % 4 := by decide +kernel
theorem and15 (x : Nat) : x &&& 15 = x % 16 := Nat.and_two_pow_sub_one_eq_mod x 4

theorem clampM_get (key : List Nat) (i m j : Nat) : (clampM key i m).getD j 0 = if i = j ∧ j < key.length then key.getD i 0 &&& m else key.getD j 0 := getD_set _ _ _ _

theorem clampM_len (key : List Nat) (i m : Nat) : (clampM key i m).length = key.length := by simp [clampM]

theorem clampK_get {key : List Nat} (hl : key.length = 32) (hk : okKey key = true) (j : Nat) : (clampK key).getD j 0 = if j < 16 then rDig key j else key.getD j 0 := by
  unfold clampK
  simp only [clampM_get, clampM_len, hl]
  by_cases h : j < 16
  · rw [if_pos h]
    have b4 := and252 (key.getD 4 0) (key_lt hk 4)
    have b8 := and252 (key.getD 8 0) (key_lt hk 8)
    have b12 := and252 (key.getD 12 0) (key_lt hk 12)
    have : j = 0 ∨ j = 1 ∨ j = 2 ∨ j = 3 ∨ j = 4 ∨ j = 5 ∨ j = 6 ∨ j = 7 ∨ j = 8 ∨ j = 9 ∨ j = 10 ∨ j = 11 ∨ j = 12 ∨ j = 13 ∨ j = 14 ∨ j = 15 := by omega
    rcases this with rfl | rfl | rfl | rfl | rfl | rfl | rfl | rfl | rfl | rfl | rfl | rfl | rfl | rfl | rfl | rfl
    · rw [if_neg (by omega), if_neg (by omega), if_neg (by omega), if_neg (by omega), if_neg (by omega), if_neg (by omega), if_neg (by omega)]; rfl
    · rw [if_neg (by omega), if_neg (by omega), if_neg (by omega), if_neg (by omega), if_neg (by omega), if_neg (by omega), if_neg (by omega)]; rfl
    · rw [if_neg (by omega), if_neg (by omega), if_neg (by omega), if_neg (by omega), if_neg (by omega), if_neg (by omega), if_neg (by omega)]; rfl
    · rw [if_neg (by omega), if_neg (by omega), if_neg (by omega), if_neg (by omega), if_neg (by omega), if_neg (by omega), if_pos (by omega), and15]; rfl
    · rw [if_neg (by omega), if_neg (by omega), if_pos (by omega), if_neg (by omega), if_neg (by omega), if_neg (by omega), if_neg (by omega), b4]; rfl
    · rw [if_neg (by omega), if_neg (by omega), if_neg (by omega), if_neg (by omega), if_neg (by omega), if_neg (by omega), if_neg (by omega)]; rfl
    · rw [if_neg (by omega), if_neg (by omega), if_neg (by omega), if_neg (by omega), if_neg (by omega), if_neg (by omega), if_neg (by omega)]; rfl
    · rw [if_neg (by omega), if_neg (by omega), if_neg (by omega), if_neg (by omega), if_neg (by omega), if_pos (by omega), if_neg (by omega), and15]; rfl
    · rw [if_neg (by omega), if_pos (by omega), if_neg (by omega), if_neg (by omega), if_neg (by omega), if_neg (by omega), if_neg (by omega), b8]; rfl
    · rw [if_neg (by omega), if_neg (by omega), if_neg (by omega), if_neg (by omega), if_neg (by omega), if_neg (by omega), if_neg (by omega)]; rfl
    · rw [if_neg (by omega), if_neg (by omega), if_neg (by omega), if_neg (by omega), if_neg (by omega), if_neg (by omega), if_neg (by omega)]; rfl
    · rw [if_neg (by omega), if_neg (by omega), if_neg (by omega), if_neg (by omega), if_pos (by omega), if_neg (by omega), if_neg (by omega), and15]; rfl
    · rw [if_pos (by omega), if_neg (by omega), if_neg (by omega), if_neg (by omega), if_neg (by omega), if_neg (by omega), if_neg (by omega), b12]; rfl
    · rw [if_neg (by omega), if_neg (by omega), if_neg (by omega), if_neg (by omega), if_neg (by omega), if_neg (by omega), if_neg (by omega)]; rfl
    · rw [if_neg (by omega), if_neg (by omega), if_neg (by omega), if_neg (by omega), if_neg (by omega), if_neg (by omega), if_neg (by omega)]; rfl
    · rw [if_neg (by omega), if_neg (by omega), if_neg (by omega), if_pos (by omega), if_neg (by omega), if_neg (by omega), if_neg (by omega), and15]; rfl
  · rw [if_neg h]
    rw [if_neg (by omega), if_neg (by omega), if_neg (by omega), if_neg (by omega), if_neg (by omega), if_neg (by omega), if_neg (by omega)]

theorem rRow_get (key : List Nat) : ∀ n i j, (rRow key n i).getD j 0 = if j < n then rDig key (i + j) else 0
  | 0, i, j => by simp [rRow]
  | n + 1, i, 0 => by simp [rRow]
  | n + 1, i, j + 1 => by
    rw [rRow, List.getD_cons_succ, rRow_get key n (i + 1) j]
    by_cases h : j < n
    · rw [if_pos h, if_pos (by omega)]; congr 1; omega
    · rw [if_neg h, if_neg (by omega)]

theorem rRow_len (key : List Nat) : ∀ n i, (rRow key n i).length = n
  | 0, _ => rfl
  | n + 1, i => by simp [rRow, rRow_len key n]

theorem clampK_len (key : List Nat) : (clampK key).length = key.length := by unfold clampK; simp only [clampM_len]

theorem take_rRow {key : List Nat} (hl : key.length = 32) (hk : okKey key = true) : (clampK key).take 16 = rRow key 16 0 := by
  have l1 : ((clampK key).take 16).length = 16 := by rw [List.length_take, clampK_len, hl]; rfl
  apply List.ext_getElem (by rw [l1, rRow_len])
  intro i h1 h2
  have g1 := clampK_get hl hk i
  have g2 := rRow_get key 16 0 i
  rw [l1] at h1
  rw [List.getD, List.getElem?_eq_getElem (by rw [clampK_len]; omega), Option.getD_some, if_pos h1] at g1
  rw [List.getD, List.getElem?_eq_getElem h2, Option.getD_some, if_pos h1, Nat.zero_add] at g2
  rw [List.getElem_take, g1, g2]

theorem tag_eq {key s : List Nat} (hl : key.length = 32) (hk : okKey key = true) (hs : allB 256 s = true) : tagS key s = tagR key s := by
  have hrow := rRow_all hk
  obtain ⟨n1, n2⟩ := numb_val (xs := rRow key 16 0) (fun i => allB_get (by omega) hrow i) (by rw [rRow_get, if_neg (by omega)]; omega) (by rw [rRow_len]; omega)
  have hr : rK key = numb (rRow key 16 0) := by rw [rK, take_rRow hl hk]
  rw [← hr] at n1 n2
  obtain ⟨h1, h2⟩ := takes_val n2 (rRow_len key 16 0) hrow n1 hs (nBlk s)
  obtain ⟨k, f1, f2⟩ := fin_two h1
  obtain ⟨g1, g2⟩ := least_val f1
  have hv : v5 (least (carr (carr (takesC (rK key) [0, 0, 0, 0, 0] s (nBlk s))))) = aV (rRow key 16 0) s (nBl s) := by
    rw [f2, Nat.add_mul_mod_self_right] at h2
    rw [g2, h2]
    rfl
  unfold tagS tagR finL
  refine fts_gts (fun i hi => ?_) (fun i => ?_) (Nat.le_refl 16)
  · rw [fx_val g1 hi, hv, digs_get, if_pos (by omega)]
  · rw [clampK_get hl hk, if_neg (by omega)]

end Go.Proofs.Ytgebgjhjegadpaa

namespace Go.Proofs.Ytgebgjhjegadpaa
open Go

def F24 : FSem := ⟨false, fun args hin => match args, hin with
  | [], [] => some (.leaf (.s (.bool true), []))
  | _, _ => none⟩

theorem fn24 : Fn Try.prog 24 Try.f24 := ⟨mixedP, Try.func24, by kernel_rfl, of_decide_eq_true (by kernel_rfl)⟩

set_option maxRecDepth 100000 in
theorem r24 : runB Try.prog [(25, F25)] [] .nat 3 Try.f24 [] [] = some (.s (.bool true), []) := by kernel_rfl

theorem ok24 : FOk Try.prog 24 F24 := by
  refine fokB (fs := [(25, F25)]) (xs := []) (m := .nat) (fuel := 3) (.cons ok25 .nil) fn24 ?_
  intro args hin t r h hg
  unfold F24 at h
  simp only at h
  split at h
  · cases h; cases hg
    exact r24
  · cases h

end Go.Proofs.Ytgebgjhjegadpaa

namespace Go.Proofs.Ytgebgjhjegadpaa
open Go

theorem fn10 : Fn Try.prog 10 Try.f10 := ⟨mixedP, Try.func10, by kernel_rfl, of_decide_eq_true (by kernel_rfl)⟩

def okL (pss : List (List Nat)) : Bool := pss.all fun p => decide (p.length < 9223372036854775808)

def SP : LSem := ⟨[10, 11, 12, 5], [5], fun args hin => match args, hin with
  | [.s (.xsl (.bss pss)), .s (.nat .i64 n), .s (.nat .i64 0), .s .nil], [] =>
    some (Tr.needs [decide (n = pss.length), decide (n < 9223372036854775808), decide (lenN pss pss.length ≤ 4398046511104)]
      (.br (decide (pss.length = 0)) (.leaf (.normal, [.s .nil], [])) (.leaf (.normal, [.s (.sl .whole 0 0 (lenN pss pss.length) 1)], [some [.ints .u8 (lenN pss pss.length) (catN pss pss.length)]]))))
  | _, _ => none⟩

set_option maxRecDepth 100000 in
theorem rP0 (pss : List (List Nat)) (n : Nat) : runR Try.prog [] [] .nat 3 [] Try.f10 0 SP 0 [.s (.xsl (.bss pss)), .s (.nat .i64 n), .s (.nat .i64 0), .s .nil] [] =
    cond (decide (0 < n)) (nd [decide (0 < pss.length), decide (0 < pss.length), decide ((pss.getD 0 []).length ≤ 4398046511104)]
      (some (.normal, [.s (.xsl (.bss pss)), .s (.nat .i64 n), .s (.nat .i64 (0 + 1)), .s (.sl .whole 0 0 (pss.getD 0 []).length 1)], [some [.ints .u8 (pss.getD 0 []).length (pss.getD 0 [])]])))
      (some (.exit 0, [.s .nil], [])) := by kernel_rfl

set_option maxRecDepth 100000 in
theorem rP (pss : List (List Nat)) (n j l : Nat) (xs : List Nat) : runR Try.prog [] [] .nat 3 [] Try.f10 0 SP 0 [.s (.xsl (.bss pss)), .s (.nat .i64 n), .s (.nat .i64 j), .s (.sl .whole 0 0 l 1)] [some [.ints .u8 l xs]] =
    cond (decide (j < n)) (nd [decide (j < pss.length), decide (j < pss.length), decide (l = l), decide (l + (pss.getD j []).length ≤ 4398046511104), decide (j + 1 < 9223372036854775808)]
      (some (.normal, [.s (.xsl (.bss pss)), .s (.nat .i64 n), .s (.nat .i64 (j + 1)), .s (.sl .whole 0 0 (l + (pss.getD j []).length) 1)], [some [.ints .u8 (l + (pss.getD j []).length) (xs ++ pss.getD j [])]])))
      (some (.exit 0, [.s (.sl .whole 0 0 l 1)], [some [.ints .u8 l xs]])) := by kernel_rfl

theorem lenN_mono' (pss : List (List Nat)) {i j : Nat} (h : i ≤ j) : lenN pss i ≤ lenN pss j := by
  induction h with
  | refl => exact Nat.le_refl _
  | step _ ih => rw [lenN]; omega

def AP (pss : List (List Nat)) : Nat → List AV × List (Option Blk)
  | 0 => ([.s (.xsl (.bss pss)), .s (.nat .i64 pss.length), .s (.nat .i64 0), .s .nil], [])
  | i + 1 => ([.s (.xsl (.bss pss)), .s (.nat .i64 pss.length), .s (.nat .i64 (i + 1)), .s (.sl .whole 0 0 (lenN pss (i + 1)) 1)], [some [.ints .u8 (lenN pss (i + 1)) (catN pss (i + 1))]])

theorem lokP10 : LOk Try.prog Try.f10.ntmps (.block 0 (.loop (lb 0 Try.f10))) SP := by
  refine lokR (fs := []) (xs := []) (m := .nat) (fuel := 3) (sums := []) EnvOk.nil mixedP (loopsOk_none rfl _) ?_
  intro args hin t e vs hout h hg
  unfold SP at h
  simp only at h
  split at h
  rotate_left
  · cases h
  rename_i pss n
  simp only [Option.some.injEq] at h
  subst h
  obtain ⟨hc, hgt⟩ := Tr.needs_get hg
  clear hg
  have e1 : n = pss.length := of_decide_eq_true (hc _ (by simp))
  subst e1
  have hl : pss.length < 9223372036854775808 := of_decide_eq_true (hc (decide (pss.length < 9223372036854775808)) (by simp))
  have hk : lenN pss pss.length ≤ 4398046511104 := of_decide_eq_true (hc (decide (lenN pss pss.length ≤ 4398046511104)) (by simp))
  clear hc
  simp only [Tr.get] at hgt
  have hstep : ∀ i, i < pss.length → runR Try.prog [] [] .nat 3 [] Try.f10 0 SP 0 (AP pss i).1 (AP pss i).2 = some (.normal, AP pss (i + 1)) := fun i hi => by
    have hm := lenN_mono' pss (show i + 1 ≤ pss.length by omega)
    rw [lenN] at hm
    cases i with
    | zero =>
      simp only [AP]
      rw [rP0]
      refine cond_t (decide_eq_true hi) (nd_of ?_ ?_)
      · simp only [lenN] at hm
        simp only [List.mem_cons, List.not_mem_nil, or_false, forall_eq_or_imp, forall_eq, decide_eq_true_eq]
        exact ⟨hi, hi, by omega⟩
      · simp only [lenN, catN, Nat.zero_add, List.nil_append]
    | succ i =>
      simp only [AP]
      rw [rP]
      refine cond_t (decide_eq_true hi) (nd_of ?_ rfl)
      simp only [List.mem_cons, List.not_mem_nil, or_false, forall_eq_or_imp, forall_eq, decide_eq_true_eq]
      exact ⟨hi, hi, trivial, by omega, by omega⟩
  cases hz : decide (pss.length = 0) with
  | true =>
    have hz' := of_decide_eq_true hz
    rw [hz, cond_true] at hgt
    cases hgt
    refine ⟨pss.length, AP pss, .exit 0, rfl, hstep, ?_, rfl⟩
    rw [hz']
    simp only [AP, List.length_nil]
    rw [rP0]
    exact cond_f (decide_eq_false (by omega)) rfl
  | false =>
    have hz' := of_decide_eq_false hz
    rw [hz, cond_false] at hgt
    cases hgt
    refine ⟨pss.length, AP pss, .exit 0, rfl, hstep, ?_, rfl⟩
    obtain ⟨m, hm⟩ : ∃ m, pss.length = m + 1 := ⟨pss.length - 1, by omega⟩
    have e : ∀ q, q = m + 1 → AP pss q = ([.s (.xsl (.bss pss)), .s (.nat .i64 pss.length), .s (.nat .i64 q), .s (.sl .whole 0 0 (lenN pss q) 1)], [some [.ints .u8 (lenN pss q) (catN pss q)]]) := by
      rintro q rfl
      rfl
    have := e _ hm
    simp only [List.length_nil]
    rw [this]
    show runR Try.prog [] [] .nat 3 [] Try.f10 0 SP 0 _ _ = _
    rw [rP]
    exact cond_f (decide_eq_false (by omega)) rfl

theorem loops10 : LoopsOk Try.prog ⟨Try.f10.ntmps, 3, [(0, SP)]⟩ (bodyOf Try.f10) := by
  refine loopsOk_of ?_
  have e : loopsIn [(0, SP)] (bodyOf Try.f10) = [(0, .loop (lb 0 Try.f10), SP)] := by kernel_rfl
  simp only [e]
  intro x hx
  simp only [List.mem_cons, List.not_mem_nil, or_false] at hx
  rcases hx with rfl
  · exact lokP10

/-- The code's sum, left open. -/
structure OpsS where
  tag : List Nat → List (List Nat) → List Nat
  ok41 : List (List Nat) → Bool
  okK : List Nat → Bool
  cat : List (List Nat) → Nat → List Nat
  len : List (List Nat) → Nat → Nat
def opsS : OpsS := ⟨tagC, ok41, okKey, catN, lenN⟩
def O25 (o : OpsS) : FSem := ⟨true, fun args hin => match args, hin with
  | [.agg [.ints .u8 32 key], .s (.xsl (.bss pss))], [] => some (Tr.needs [decide (pss.length < 9223372036854775808), o.ok41 pss, o.okK key] (.leaf (.agg [.ints .u8 16 (o.tag key pss)], [])))
  | _, _ => none⟩
theorem oo25 : FOk Try.prog 25 (O25 opsS) := by
  have e : O25 opsS = F25 := by kernel_rfl
  rw [e]
  exact ok25

def SPo (o : OpsS) : LSem := ⟨[10, 11, 12, 5], [5], fun args hin => match args, hin with
  | [.s (.xsl (.bss pss)), .s (.nat .i64 n), .s (.nat .i64 0), .s .nil], [] =>
    some (Tr.needs [decide (n = pss.length), decide (n < 9223372036854775808), decide (o.len pss pss.length ≤ 4398046511104)]
      (.br (decide (pss.length = 0)) (.leaf (.normal, [.s .nil], [])) (.leaf (.normal, [.s (.sl .whole 0 0 (o.len pss pss.length) 1)], [some [.ints .u8 (o.len pss pss.length) (o.cat pss pss.length)]]))))
  | _, _ => none⟩
theorem spo_eq : SPo opsS = SP := by kernel_rfl

end Go.Proofs.Ytgebgjhjegadpaa

namespace Go.Proofs.Ytgebgjhjegadpaa
open Go

/-- Turned to the left by n. -/
def rl (x n : Nat) : Nat := x * 2 ^ n % 4294967296 ||| x / 2 ^ (32 - n)

def mix1 (s : List Nat) (i j : Nat) : List Nat := s.set i ((s.getD i 0 + s.getD j 0) % 4294967296)
def mix2 (s : List Nat) (i j n : Nat) : List Nat := s.set i (rl (s.getD i 0 ^^^ s.getD j 0) n)

def qr (s : List Nat) (a b c d : Nat) : List Nat :=
  mix2 (mix1 (mix2 (mix1 (mix2 (mix1 (mix2 (mix1 s a b) d a 16) c d) b c 12) a b) d a 8) c d) b c 7

def okRot (n : Nat) : Bool := Nat.beq n 16 || Nat.beq n 12 || Nat.beq n 8 || Nat.beq n 7

def okQ (a b c d : Nat) : Bool :=
  Nat.blt a 4 && (Nat.beq b (a + 4) && Nat.beq c (a + 8) && Nat.beq d (a + 12) || Nat.beq b ((a + 1) % 4 + 4) && Nat.beq c ((a + 2) % 4 + 8) && Nat.beq d ((a + 3) % 4 + 12))

def F44 : FSem := ⟨false, fun args hin => match args, hin with
  | [.s (.nat .u32 x), .s (.nat .i64 n)], [] => match okRot n with
    | true => some (.leaf (.s (.nat .u32 (rl x n)), []))
    | false => none
  | _, _ => none⟩

def F33 : FSem := ⟨false, fun args hin => match args, hin with
  | [.s (.ptr 0 0), .s (.nat .i64 a), .s (.nat .i64 b), .s (.nat .i64 c), .s (.nat .i64 d)], [[.ints .u32 16 xs]] => match okQ a b c d with
    | true => some (.leaf (.tup [], [some [.ints .u32 16 (qr xs a b c d)]]))
    | false => none
  | _, _ => none⟩

theorem mixed : Try.prog.follows .mixedOrders = true := by kernel_rfl
theorem fn44 : Fn Try.prog 44 Try.f44 := ⟨mixed, Try.func44, by kernel_rfl, of_decide_eq_true (by kernel_rfl)⟩
theorem fn33 : Fn Try.prog 33 Try.f33 := ⟨mixed, Try.func33, by kernel_rfl, of_decide_eq_true (by kernel_rfl)⟩

theorem okRot_cases {n : Nat} (h : okRot n = true) : n = 16 ∨ n = 12 ∨ n = 8 ∨ n = 7 := by
  simp only [okRot, Bool.or_eq_true, Nat.beq_eq] at h
  omega

set_option maxRecDepth 100000 in
theorem ok44 : FOk Try.prog 44 F44 := by
  refine fokB (fs := []) (xs := []) (m := .nat) (fuel := 1) EnvOk.nil fn44 ?_
  intro args hin t r h hg
  unfold F44 at h
  simp only at h
  split at h
  · rename_i x n
    split at h
    · rename_i hn
      cases h; cases hg
      rcases okRot_cases hn with rfl | rfl | rfl | rfl <;> kernel_rfl
    · cases h
  · cases h

theorem okQ_cases {a b c d : Nat} (h : okQ a b c d = true) : (a, b, c, d) ∈ [(0, 4, 8, 12), (1, 5, 9, 13), (2, 6, 10, 14), (3, 7, 11, 15), (0, 5, 10, 15), (1, 6, 11, 12), (2, 7, 8, 13), (3, 4, 9, 14)] := by
  simp only [okQ, Bool.and_eq_true, Bool.or_eq_true, Nat.beq_eq] at h
  obtain ⟨h1, h2⟩ := h
  have h1 : a < 4 := Nat.le_of_ble_eq_true h1
  rcases (by omega : a = 0 ∨ a = 1 ∨ a = 2 ∨ a = 3) with rfl | rfl | rfl | rfl <;> rcases h2 with ⟨⟨rfl, rfl⟩, rfl⟩ | ⟨⟨rfl, rfl⟩, rfl⟩ <;> decide

set_option maxRecDepth 100000 in
theorem q33_0 (xs : List Nat) : runB Try.prog [(44, F44)] [] .nat 3 Try.f33 [.s (.ptr 0 0), .s (.nat .i64 0), .s (.nat .i64 4), .s (.nat .i64 8), .s (.nat .i64 12)] [[.ints .u32 16 xs]] = some (.tup [], [some [.ints .u32 16 (qr xs 0 4 8 12)]]) := by kernel_rfl
set_option maxRecDepth 100000 in
theorem q33_1 (xs : List Nat) : runB Try.prog [(44, F44)] [] .nat 3 Try.f33 [.s (.ptr 0 0), .s (.nat .i64 1), .s (.nat .i64 5), .s (.nat .i64 9), .s (.nat .i64 13)] [[.ints .u32 16 xs]] = some (.tup [], [some [.ints .u32 16 (qr xs 1 5 9 13)]]) := by kernel_rfl
set_option maxRecDepth 100000 in
theorem q33_2 (xs : List Nat) : runB Try.prog [(44, F44)] [] .nat 3 Try.f33 [.s (.ptr 0 0), .s (.nat .i64 2), .s (.nat .i64 6), .s (.nat .i64 10), .s (.nat .i64 14)] [[.ints .u32 16 xs]] = some (.tup [], [some [.ints .u32 16 (qr xs 2 6 10 14)]]) := by kernel_rfl
set_option maxRecDepth 100000 in
theorem q33_3 (xs : List Nat) : runB Try.prog [(44, F44)] [] .nat 3 Try.f33 [.s (.ptr 0 0), .s (.nat .i64 3), .s (.nat .i64 7), .s (.nat .i64 11), .s (.nat .i64 15)] [[.ints .u32 16 xs]] = some (.tup [], [some [.ints .u32 16 (qr xs 3 7 11 15)]]) := by kernel_rfl
set_option maxRecDepth 100000 in
theorem q33_4 (xs : List Nat) : runB Try.prog [(44, F44)] [] .nat 3 Try.f33 [.s (.ptr 0 0), .s (.nat .i64 0), .s (.nat .i64 5), .s (.nat .i64 10), .s (.nat .i64 15)] [[.ints .u32 16 xs]] = some (.tup [], [some [.ints .u32 16 (qr xs 0 5 10 15)]]) := by kernel_rfl
set_option maxRecDepth 100000 in
theorem q33_5 (xs : List Nat) : runB Try.prog [(44, F44)] [] .nat 3 Try.f33 [.s (.ptr 0 0), .s (.nat .i64 1), .s (.nat .i64 6), .s (.nat .i64 11), .s (.nat .i64 12)] [[.ints .u32 16 xs]] = some (.tup [], [some [.ints .u32 16 (qr xs 1 6 11 12)]]) := by kernel_rfl
set_option maxRecDepth 100000 in
theorem q33_6 (xs : List Nat) : runB Try.prog [(44, F44)] [] .nat 3 Try.f33 [.s (.ptr 0 0), .s (.nat .i64 2), .s (.nat .i64 7), .s (.nat .i64 8), .s (.nat .i64 13)] [[.ints .u32 16 xs]] = some (.tup [], [some [.ints .u32 16 (qr xs 2 7 8 13)]]) := by kernel_rfl
set_option maxRecDepth 100000 in
theorem q33_7 (xs : List Nat) : runB Try.prog [(44, F44)] [] .nat 3 Try.f33 [.s (.ptr 0 0), .s (.nat .i64 3), .s (.nat .i64 4), .s (.nat .i64 9), .s (.nat .i64 14)] [[.ints .u32 16 xs]] = some (.tup [], [some [.ints .u32 16 (qr xs 3 4 9 14)]]) := by kernel_rfl

theorem ok33 : FOk Try.prog 33 F33 := by
  refine fokB (fs := [(44, F44)]) (xs := []) (m := .nat) (fuel := 3) (.cons ok44 .nil) fn33 ?_
  intro args hin t r h hg
  unfold F33 at h
  simp only at h
  split at h
  · rename_i a b c d xs
    split at h
    · rename_i hq
      cases h; cases hg
      have := okQ_cases hq
      simp only [List.mem_cons, Prod.mk.injEq, List.not_mem_nil, or_false] at this
      rcases this with ⟨rfl, rfl, rfl, rfl⟩ | ⟨rfl, rfl, rfl, rfl⟩ | ⟨rfl, rfl, rfl, rfl⟩ | ⟨rfl, rfl, rfl, rfl⟩ | ⟨rfl, rfl, rfl, rfl⟩ | ⟨rfl, rfl, rfl, rfl⟩ | ⟨rfl, rfl, rfl, rfl⟩ | ⟨rfl, rfl, rfl, rfl⟩
      · exact q33_0 xs
      · exact q33_1 xs
      · exact q33_2 xs
      · exact q33_3 xs
      · exact q33_4 xs
      · exact q33_5 xs
      · exact q33_6 xs
      · exact q33_7 xs
    · cases h
  · cases h

end Go.Proofs.Ytgebgjhjegadpaa

namespace Go.Proofs.Ytgebgjhjegadpaa
open Go

/-- Four bytes, the least first. -/
def wd (xs : List Nat) (o : Nat) : Nat :=
  ((xs.getD o 0 ||| xs.getD (o + 1) 0 * 2 ^ 8 % 4294967296) ||| xs.getD (o + 2) 0 * 2 ^ 16 % 4294967296) ||| xs.getD (o + 3) 0 * 2 ^ 24 % 4294967296

def okW (off len n : Nat) : Bool := Nat.ble 4 len && Nat.ble (off + 4) n

def F32 : FSem := ⟨false, fun args hin => match args, hin with
  | [.s (.sl _ 0 off len 1)], [[.ints .u8 n xs]] => match okW off len n with
    | true => some (.leaf (.s (.nat .u32 (wd xs off)), [some [.ints .u8 n xs]]))
    | false => none
  | _, _ => none⟩

theorem fn32 : Fn Try.prog 32 Try.f32 := ⟨mixed, Try.func32, by kernel_rfl, of_decide_eq_true (by kernel_rfl)⟩

def cs32 (off len n : Nat) : List Bool :=
  [decide (0 < len), decide (addOff off 0 < n), decide (1 < len), decide (addOff off 1 < n), decide (2 < len), decide (addOff off 2 < n), decide (3 < len), decide (addOff off 3 < n)]
def w32 (xs : List Nat) (off : Nat) : Nat :=
  ((xs.getD (addOff off 0) 0 ||| xs.getD (addOff off 1) 0 * 2 ^ 8 % 4294967296) ||| xs.getD (addOff off 2) 0 * 2 ^ 16 % 4294967296) ||| xs.getD (addOff off 3) 0 * 2 ^ 24 % 4294967296

set_option maxRecDepth 100000 in
theorem r32 (m : LK) (off len n : Nat) (xs : List Nat) : runB Try.prog [] [] .nat 1 Try.f32 [.s (.sl m 0 off len 1)] [[.ints .u8 n xs]] = nd (cs32 off len n) (some (.s (.nat .u32 (w32 xs off)), [some [.ints .u8 n xs]])) := by kernel_rfl

theorem ok32 : FOk Try.prog 32 F32 := by
  refine fokB (fs := []) (xs := []) (m := .nat) (fuel := 1) EnvOk.nil fn32 ?_
  intro args hin t r h hg
  unfold F32 at h
  simp only at h
  split at h
  · rename_i m off len n xs
    split at h
    · rename_i hq
      cases h; cases hg
      rw [r32, nd_true]
      · simp only [w32, wd, addOff_eq', Nat.add_zero]
      · simp only [okW, Bool.and_eq_true, Nat.ble_eq] at hq
        simp only [cs32, addOff_eq', List.mem_cons, List.not_mem_nil, or_false, forall_eq_or_imp, forall_eq, decide_eq_true_eq]
        omega
    · cases h
  · cases h

end Go.Proofs.Ytgebgjhjegadpaa

namespace Go.Proofs.Ytgebgjhjegadpaa
open Go

def dr (s : List Nat) : List Nat :=
  qr (qr (qr (qr (qr (qr (qr (qr s 0 4 8 12) 1 5 9 13) 2 6 10 14) 3 7 11 15) 0 5 10 15) 1 6 11 12) 2 7 8 13) 3 4 9 14

def rounds (s : List Nat) : Nat → List Nat
  | 0 => s
  | n + 1 => dr (rounds s n)

def upto (f : Nat → Nat) : Nat → Nat → List Nat
  | 0, _ => []
  | n + 1, i => f i :: upto f n (i + 1)

def st0 (key nonce : List Nat) (n : Nat) : List Nat :=
  [1634760805, 857760878, 2036477234, 1797285236, wd key 0, wd key 4, wd key 8, wd key 12, wd key 16, wd key 20, wd key 24, wd key 28, n, wd nonce 0, wd nonce 4, wd nonce 8]

def outB (x s : List Nat) : List Nat := upto (fun i => (x.getD (i / 4) 0 + s.getD (i / 4) 0) % 4294967296 / 2 ^ (8 * (i % 4)) % 256) 64 0

def blk (key nonce : List Nat) (n : Nat) : List Nat := outB (rounds (st0 key nonce n) 10) (st0 key nonce n)

def F20 : FSem := ⟨false, fun args hin => match args, hin with
  | [.agg [.ints .u8 32 key], .agg [.ints .u8 12 nonce], .s (.nat .u32 n)], [] => some (.leaf (.agg [.ints .u8 64 (blk key nonce n)], []))
  | _, _ => none⟩

theorem fn20 : Fn Try.prog 20 Try.f20 := ⟨mixed, Try.func20, by kernel_rfl, of_decide_eq_true (by kernel_rfl)⟩

set_option maxRecDepth 100000 in
theorem r20 (key nonce : List Nat) (n : Nat) : runB Try.prog [(32, F32), (33, F33)] [] .nat 70 Try.f20 [.agg [.ints .u8 32 key], .agg [.ints .u8 12 nonce], .s (.nat .u32 n)] [] = some (.agg [.ints .u8 64 (blk key nonce n)], []) := by kernel_rfl

theorem ok20 : FOk Try.prog 20 F20 := by
  refine fokB (fs := [(32, F32), (33, F33)]) (xs := []) (m := .nat) (fuel := 70) (.cons ok32 (.cons ok33 .nil)) fn20 ?_
  intro args hin t r h hg
  unfold F20 at h
  simp only at h
  split at h
  · cases h; cases hg
    exact r20 _ _ _
  · cases h

end Go.Proofs.Ytgebgjhjegadpaa

namespace Go.Proofs.Ytgebgjhjegadpaa
open Go

def rl64 (x n : Nat) : Nat := (x * 2 ^ n % 18446744073709551616 % 4294967296 + x / 2 ^ (32 - n)) % 18446744073709551616

def mix1r (s : List Nat) (i j : Nat) : List Nat := s.set i ((s.getD i 0 + s.getD j 0) % 18446744073709551616 % 4294967296)
def mix2r (s : List Nat) (i j n : Nat) : List Nat := s.set i (rl64 (s.getD i 0 ^^^ s.getD j 0) n)

def qrr (s : List Nat) (a b c d : Nat) : List Nat :=
  mix2r (mix1r (mix2r (mix1r (mix2r (mix1r (mix2r (mix1r s a b) d a 16) c d) b c 12) a b) d a 8) c d) b c 7

def F45 : FSem := ⟨false, fun args hin => match args, hin with
  | [.s (.nat .u64 x), .s (.nat .i64 n)], [] => match okRot n with
    | true => some (.leaf (.s (.nat .u64 (rl64 x n)), []))
    | false => none
  | _, _ => none⟩

theorem fn45 : Fn Try.prog 45 Try.f45 := ⟨mixed, Try.func45, by kernel_rfl, of_decide_eq_true (by kernel_rfl)⟩
theorem fn34 : Fn Try.prog 34 Try.f34 := ⟨mixed, Try.func34, by kernel_rfl, of_decide_eq_true (by kernel_rfl)⟩

set_option maxRecDepth 100000 in
theorem r45_16 (x : Nat) : runB Try.prog [] [] .nat 20 Try.f45 [.s (.nat .u64 x), .s (.nat .i64 16)] [] = some (.s (.nat .u64 (rl64 x 16)), []) := by kernel_rfl
set_option maxRecDepth 100000 in
theorem r45_12 (x : Nat) : runB Try.prog [] [] .nat 20 Try.f45 [.s (.nat .u64 x), .s (.nat .i64 12)] [] = some (.s (.nat .u64 (rl64 x 12)), []) := by kernel_rfl
set_option maxRecDepth 100000 in
theorem r45_8 (x : Nat) : runB Try.prog [] [] .nat 20 Try.f45 [.s (.nat .u64 x), .s (.nat .i64 8)] [] = some (.s (.nat .u64 (rl64 x 8)), []) := by kernel_rfl
set_option maxRecDepth 100000 in
theorem r45_7 (x : Nat) : runB Try.prog [] [] .nat 20 Try.f45 [.s (.nat .u64 x), .s (.nat .i64 7)] [] = some (.s (.nat .u64 (rl64 x 7)), []) := by kernel_rfl

theorem ok45 : FOk Try.prog 45 F45 := by
  refine fokB (fs := []) (xs := []) (m := .nat) (fuel := 20) EnvOk.nil fn45 ?_
  intro args hin t r h hg
  unfold F45 at h
  simp only at h
  split at h
  · rename_i x n
    split at h
    · rename_i hn
      cases h; cases hg
      rcases okRot_cases hn with rfl | rfl | rfl | rfl
      · exact r45_16 x
      · exact r45_12 x
      · exact r45_8 x
      · exact r45_7 x
    · cases h
  · cases h

def F34 : FSem := ⟨false, fun args hin => match args, hin with
  | [.s (.sl .whole 0 0 16 1), .s (.nat .i64 a), .s (.nat .i64 b), .s (.nat .i64 c), .s (.nat .i64 d)], [[.ints .u64 16 xs]] => match okQ a b c d with
    | true => some (.leaf (.s (.sl .whole 1 0 16 1), [some [.ints .u64 16 xs], some [.ints .u64 16 (qrr xs a b c d)]]))
    | false => none
  | _, _ => none⟩

set_option maxRecDepth 100000 in
theorem q34_0 (xs : List Nat) : runB Try.prog [(45, F45)] [] .nat 3 Try.f34 [.s (.sl .whole 0 0 16 1), .s (.nat .i64 0), .s (.nat .i64 4), .s (.nat .i64 8), .s (.nat .i64 12)] [[.ints .u64 16 xs]] = some (.s (.sl .whole 1 0 16 1), [some [.ints .u64 16 xs], some [.ints .u64 16 (qrr xs 0 4 8 12)]]) := by kernel_rfl
set_option maxRecDepth 100000 in
theorem q34_1 (xs : List Nat) : runB Try.prog [(45, F45)] [] .nat 3 Try.f34 [.s (.sl .whole 0 0 16 1), .s (.nat .i64 1), .s (.nat .i64 5), .s (.nat .i64 9), .s (.nat .i64 13)] [[.ints .u64 16 xs]] = some (.s (.sl .whole 1 0 16 1), [some [.ints .u64 16 xs], some [.ints .u64 16 (qrr xs 1 5 9 13)]]) := by kernel_rfl
set_option maxRecDepth 100000 in
theorem q34_2 (xs : List Nat) : runB Try.prog [(45, F45)] [] .nat 3 Try.f34 [.s (.sl .whole 0 0 16 1), .s (.nat .i64 2), .s (.nat .i64 6), .s (.nat .i64 10), .s (.nat .i64 14)] [[.ints .u64 16 xs]] = some (.s (.sl .whole 1 0 16 1), [some [.ints .u64 16 xs], some [.ints .u64 16 (qrr xs 2 6 10 14)]]) := by kernel_rfl
set_option maxRecDepth 100000 in
theorem q34_3 (xs : List Nat) : runB Try.prog [(45, F45)] [] .nat 3 Try.f34 [.s (.sl .whole 0 0 16 1), .s (.nat .i64 3), .s (.nat .i64 7), .s (.nat .i64 11), .s (.nat .i64 15)] [[.ints .u64 16 xs]] = some (.s (.sl .whole 1 0 16 1), [some [.ints .u64 16 xs], some [.ints .u64 16 (qrr xs 3 7 11 15)]]) := by kernel_rfl
set_option maxRecDepth 100000 in
theorem q34_4 (xs : List Nat) : runB Try.prog [(45, F45)] [] .nat 3 Try.f34 [.s (.sl .whole 0 0 16 1), .s (.nat .i64 0), .s (.nat .i64 5), .s (.nat .i64 10), .s (.nat .i64 15)] [[.ints .u64 16 xs]] = some (.s (.sl .whole 1 0 16 1), [some [.ints .u64 16 xs], some [.ints .u64 16 (qrr xs 0 5 10 15)]]) := by kernel_rfl
set_option maxRecDepth 100000 in
theorem q34_5 (xs : List Nat) : runB Try.prog [(45, F45)] [] .nat 3 Try.f34 [.s (.sl .whole 0 0 16 1), .s (.nat .i64 1), .s (.nat .i64 6), .s (.nat .i64 11), .s (.nat .i64 12)] [[.ints .u64 16 xs]] = some (.s (.sl .whole 1 0 16 1), [some [.ints .u64 16 xs], some [.ints .u64 16 (qrr xs 1 6 11 12)]]) := by kernel_rfl
set_option maxRecDepth 100000 in
theorem q34_6 (xs : List Nat) : runB Try.prog [(45, F45)] [] .nat 3 Try.f34 [.s (.sl .whole 0 0 16 1), .s (.nat .i64 2), .s (.nat .i64 7), .s (.nat .i64 8), .s (.nat .i64 13)] [[.ints .u64 16 xs]] = some (.s (.sl .whole 1 0 16 1), [some [.ints .u64 16 xs], some [.ints .u64 16 (qrr xs 2 7 8 13)]]) := by kernel_rfl
set_option maxRecDepth 100000 in
theorem q34_7 (xs : List Nat) : runB Try.prog [(45, F45)] [] .nat 3 Try.f34 [.s (.sl .whole 0 0 16 1), .s (.nat .i64 3), .s (.nat .i64 4), .s (.nat .i64 9), .s (.nat .i64 14)] [[.ints .u64 16 xs]] = some (.s (.sl .whole 1 0 16 1), [some [.ints .u64 16 xs], some [.ints .u64 16 (qrr xs 3 4 9 14)]]) := by kernel_rfl

theorem ok34 : FOk Try.prog 34 F34 := by
  refine fokB (fs := [(45, F45)]) (xs := []) (m := .nat) (fuel := 3) (.cons ok45 .nil) fn34 ?_
  intro args hin t r h hg
  unfold F34 at h
  simp only at h
  split at h
  · rename_i a b c d xs
    split at h
    · rename_i hq
      cases h; cases hg
      have := okQ_cases hq
      simp only [List.mem_cons, Prod.mk.injEq, List.not_mem_nil, or_false] at this
      rcases this with ⟨rfl, rfl, rfl, rfl⟩ | ⟨rfl, rfl, rfl, rfl⟩ | ⟨rfl, rfl, rfl, rfl⟩ | ⟨rfl, rfl, rfl, rfl⟩ | ⟨rfl, rfl, rfl, rfl⟩ | ⟨rfl, rfl, rfl, rfl⟩ | ⟨rfl, rfl, rfl, rfl⟩ | ⟨rfl, rfl, rfl, rfl⟩
      · exact q34_0 xs
      · exact q34_1 xs
      · exact q34_2 xs
      · exact q34_3 xs
      · exact q34_4 xs
      · exact q34_5 xs
      · exact q34_6 xs
      · exact q34_7 xs
    · cases h
  · cases h

end Go.Proofs.Ytgebgjhjegadpaa

namespace Go.Proofs.Ytgebgjhjegadpaa
open Go

def drr (s : List Nat) : List Nat :=
  qrr (qrr (qrr (qrr (qrr (qrr (qrr (qrr s 0 4 8 12) 1 5 9 13) 2 6 10 14) 3 7 11 15) 0 5 10 15) 1 6 11 12) 2 7 8 13) 3 4 9 14

def roundsR (s : List Nat) : Nat → List Nat
  | 0 => s
  | n + 1 => drr (roundsR s n)

def wR (b0 b1 b2 b3 : Nat) : Nat :=
  (((b0 + 256 * b1 % 18446744073709551616) % 18446744073709551616 + 65536 * b2 % 18446744073709551616) % 18446744073709551616 + 16777216 * b3 % 18446744073709551616) % 18446744073709551616

def wK (xs : List Nat) (o : Nat) : Nat := wR (xs.getD o 0) (xs.getD (o + 1) 0) (xs.getD (o + 2) 0) (xs.getD (o + 3) 0)

def stR (key nonce : List Nat) (n : Nat) : List Nat :=
  [wR 101 120 112 97, wR 110 100 32 51, wR 50 45 98 121, wR 116 101 32 107, wK key 0, wK key 4, wK key 8, wK key 12, wK key 16, wK key 20, wK key 24, wK key 28,
    wR (n % 256 % 256) (n / 256 % 256 % 256) (n / 256 / 256 % 256 % 256) (n / 256 / 256 / 256 % 256 % 256), wK nonce 0, wK nonce 4, wK nonce 8]

def outV (v : Nat) (r : List Nat) : List Nat := v % 256 % 256 :: v / 256 % 256 % 256 :: v / 256 / 256 % 256 % 256 :: v / 256 / 256 / 256 % 256 % 256 :: r

def outs (x s : List Nat) : Nat → Nat → List Nat
  | 0, _ => []
  | n + 1, i => outV ((x.getD i 0 + s.getD i 0) % 18446744073709551616 % 4294967296) (outs x s n (i + 1))

def outR (x s : List Nat) : List Nat := outs x s 16 0

def blkR (key nonce : List Nat) (n : Nat) : List Nat := outR (roundsR (stR key nonce n) 10) (stR key nonce n)

def F21 : FSem := ⟨false, fun args hin => match args, hin with
  | [.agg [.ints .u8 32 key], .agg [.ints .u8 12 nonce], .s (.nat .u64 n)], [] => some (.leaf (.agg [.ints .u8 64 (blkR key nonce n)], []))
  | _, _ => none⟩

theorem fn21 : Fn Try.prog 21 Try.f21 := ⟨mixed, Try.func21, by kernel_rfl, of_decide_eq_true (by kernel_rfl)⟩

set_option maxRecDepth 100000 in
theorem r21 (key nonce : List Nat) (n : Nat) : runB Try.prog [(34, F34)] [] .nat 70 Try.f21 [.agg [.ints .u8 32 key], .agg [.ints .u8 12 nonce], .s (.nat .u64 n)] [] = some (.agg [.ints .u8 64 (blkR key nonce n)], []) := by kernel_rfl

theorem ok21 : FOk Try.prog 21 F21 := by
  refine fokB (fs := [(34, F34)]) (xs := []) (m := .nat) (fuel := 70) (.cons ok34 .nil) fn21 ?_
  intro args hin t r h hg
  unfold F21 at h
  simp only at h
  split at h
  · cases h; cases hg
    exact r21 _ _ _
  · cases h

end Go.Proofs.Ytgebgjhjegadpaa

namespace Go.Proofs.Ytgebgjhjegadpaa
open Go

def B32 (xs : List Nat) : Prop := ∀ x ∈ xs, x < 4294967296
def B8 (xs : List Nat) : Prop := ∀ x ∈ xs, x < 256

theorem or_add {a b n : Nat} (h : b < 2 ^ n) : 2 ^ n * a ||| b = 2 ^ n * a + b := (Nat.two_pow_add_eq_or_of_lt h a).symm

theorem rl_eq {x n : Nat} (hx : x < 4294967296) (hn : okRot n = true) : rl64 x n = rl x n ∧ rl x n < 4294967296 := by
  rcases okRot_cases hn with rfl | rfl | rfl | rfl
  · have e : x * 2 ^ 16 % 4294967296 = 2 ^ 16 * (x % 65536) := by omega
    have hb : x / 2 ^ (32 - 16) < 2 ^ 16 := by omega
    have e0 : x * 2 ^ 16 % 18446744073709551616 = x * 2 ^ 16 := Nat.mod_eq_of_lt (by omega)
    unfold rl rl64
    rw [e0, e, or_add hb]
    omega
  · have e : x * 2 ^ 12 % 4294967296 = 2 ^ 12 * (x % 1048576) := by omega
    have hb : x / 2 ^ (32 - 12) < 2 ^ 12 := by omega
    have e0 : x * 2 ^ 12 % 18446744073709551616 = x * 2 ^ 12 := Nat.mod_eq_of_lt (by omega)
    unfold rl rl64
    rw [e0, e, or_add hb]
    omega
  · have e : x * 2 ^ 8 % 4294967296 = 2 ^ 8 * (x % 16777216) := by omega
    have hb : x / 2 ^ (32 - 8) < 2 ^ 8 := by omega
    have e0 : x * 2 ^ 8 % 18446744073709551616 = x * 2 ^ 8 := Nat.mod_eq_of_lt (by omega)
    unfold rl rl64
    rw [e0, e, or_add hb]
    omega
  · have e : x * 2 ^ 7 % 4294967296 = 2 ^ 7 * (x % 33554432) := by omega
    have hb : x / 2 ^ (32 - 7) < 2 ^ 7 := by omega
    have e0 : x * 2 ^ 7 % 18446744073709551616 = x * 2 ^ 7 := Nat.mod_eq_of_lt (by omega)
    unfold rl rl64
    rw [e0, e, or_add hb]
    omega

theorem B32.set {xs : List Nat} (h : B32 xs) (i : Nat) {v : Nat} (hv : v < 4294967296) : B32 (xs.set i v) := fun x hx => by
  rcases List.mem_or_eq_of_mem_set hx with h' | h'
  · exact h x h'
  · subst h'; exact hv

theorem mix1_eq {s : List Nat} (h : B32 s) (i j : Nat) : mix1r s i j = mix1 s i j ∧ B32 (mix1 s i j) := by
  have h1 := getD_lt (by omega) h i
  have h2 := getD_lt (by omega) h j
  unfold mix1r mix1
  generalize s.getD i 0 = u at *
  generalize s.getD j 0 = v at *
  refine ⟨by congr 1; omega, h.set i (by omega)⟩

theorem mix2_eq {s : List Nat} (h : B32 s) (i j : Nat) {n : Nat} (hn : okRot n = true) : mix2r s i j n = mix2 s i j n ∧ B32 (mix2 s i j n) := by
  have h1 := getD_lt (by omega) h i
  have h2 := getD_lt (by omega) h j
  have h3 : s.getD i 0 ^^^ s.getD j 0 < 4294967296 := Nat.xor_lt_two_pow (n := 32) h1 h2
  obtain ⟨h4, h5⟩ := rl_eq h3 hn
  exact ⟨by unfold mix2r mix2; rw [h4], h.set i h5⟩

theorem qr_eq {s : List Nat} (h : B32 s) (a b c d : Nat) : qrr s a b c d = qr s a b c d ∧ B32 (qr s a b c d) := by
  unfold qrr qr
  obtain ⟨e1, b1⟩ := mix1_eq h a b
  obtain ⟨e2, b2⟩ := mix2_eq b1 d a (n := 16) rfl
  obtain ⟨e3, b3⟩ := mix1_eq b2 c d
  obtain ⟨e4, b4⟩ := mix2_eq b3 b c (n := 12) rfl
  obtain ⟨e5, b5⟩ := mix1_eq b4 a b
  obtain ⟨e6, b6⟩ := mix2_eq b5 d a (n := 8) rfl
  obtain ⟨e7, b7⟩ := mix1_eq b6 c d
  obtain ⟨e8, b8⟩ := mix2_eq b7 b c (n := 7) rfl
  rw [e1, e2, e3, e4, e5, e6, e7, e8]
  exact ⟨rfl, b8⟩

theorem dr_eq {s : List Nat} (h : B32 s) : drr s = dr s ∧ B32 (dr s) := by
  unfold drr dr
  obtain ⟨e1, b1⟩ := qr_eq h 0 4 8 12
  obtain ⟨e2, b2⟩ := qr_eq b1 1 5 9 13
  obtain ⟨e3, b3⟩ := qr_eq b2 2 6 10 14
  obtain ⟨e4, b4⟩ := qr_eq b3 3 7 11 15
  obtain ⟨e5, b5⟩ := qr_eq b4 0 5 10 15
  obtain ⟨e6, b6⟩ := qr_eq b5 1 6 11 12
  obtain ⟨e7, b7⟩ := qr_eq b6 2 7 8 13
  obtain ⟨e8, b8⟩ := qr_eq b7 3 4 9 14
  rw [e1, e2, e3, e4, e5, e6, e7, e8]
  exact ⟨rfl, b8⟩

theorem rounds_eq {s : List Nat} (h : B32 s) : ∀ n, roundsR s n = rounds s n ∧ B32 (rounds s n)
  | 0 => ⟨rfl, h⟩
  | n + 1 => by
    obtain ⟨e1, b1⟩ := rounds_eq h n
    obtain ⟨e2, b2⟩ := dr_eq b1
    exact ⟨by rw [roundsR, rounds, e1, e2], b2⟩

set_option maxRecDepth 20000 in
theorem wd_eq {xs : List Nat} (h : B8 xs) (o : Nat) : wd xs o = wK xs o ∧ wd xs o < 4294967296 := by
  have h0 := getD_lt (by omega) h o
  have h1 := getD_lt (by omega) h (o + 1)
  have h2 := getD_lt (by omega) h (o + 2)
  have h3 := getD_lt (by omega) h (o + 3)
  unfold wd wK wR
  generalize xs.getD o 0 = b0 at *
  generalize xs.getD (o + 1) 0 = b1 at *
  generalize xs.getD (o + 2) 0 = b2 at *
  generalize xs.getD (o + 3) 0 = b3 at *
  have e1 : b1 * 2 ^ 8 % 4294967296 = 2 ^ 8 * b1 := by omega
  have e2 : b2 * 2 ^ 16 % 4294967296 = 2 ^ 16 * b2 := by omega
  have e3 : b3 * 2 ^ 24 % 4294967296 = 2 ^ 24 * b3 := (Nat.mod_eq_of_lt (Nat.lt_of_lt_of_le (Nat.mul_lt_mul_of_pos_right h3 (by decide)) (by decide))).trans (Nat.mul_comm _ _)
  rw [e1, e2, e3, Nat.or_comm b0, or_add (by omega), Nat.or_comm _ (2 ^ 16 * b2), or_add (by omega), Nat.or_comm _ (2 ^ 24 * b3), or_add (by omega)]
  omega

theorem st_eq {key nonce : List Nat} {n : Nat} (hk : B8 key) (hn : B8 nonce) (h : n < 4294967296) : stR key nonce n = st0 key nonce n ∧ B32 (st0 key nonce n) := by
  have hw : wR (n % 256 % 256) (n / 256 % 256 % 256) (n / 256 / 256 % 256 % 256) (n / 256 / 256 / 256 % 256 % 256) = n := by unfold wR; omega
  constructor
  · unfold stR st0
    rw [hw]
    simp only [(wd_eq hk _).1, (wd_eq hn _).1]
    rfl
  · intro x hx
    have hkk := fun o => (wd_eq hk o).2
    have hnn := fun o => (wd_eq hn o).2
    simp only [st0, List.mem_cons, List.not_mem_nil, or_false] at hx
    rcases hx with rfl | rfl | rfl | rfl | rfl | rfl | rfl | rfl | rfl | rfl | rfl | rfl | rfl | rfl | rfl | rfl <;> first | omega | exact hkk _ | exact hnn _

theorem out_eq {x s : List Nat} (hx : B32 x) (hs : B32 s) : outR x s = outB x s := by
  have key : ∀ i, outV ((x.getD i 0 + s.getD i 0) % 18446744073709551616 % 4294967296) [] =
      [(x.getD i 0 + s.getD i 0) % 4294967296 / 2 ^ (8 * 0) % 256, (x.getD i 0 + s.getD i 0) % 4294967296 / 2 ^ (8 * 1) % 256, (x.getD i 0 + s.getD i 0) % 4294967296 / 2 ^ (8 * 2) % 256, (x.getD i 0 + s.getD i 0) % 4294967296 / 2 ^ (8 * 3) % 256] := by
    intro i
    have h1 := getD_lt (by omega) hx i
    have h2 := getD_lt (by omega) hs i
    unfold outV
    generalize x.getD i 0 = u at *
    generalize s.getD i 0 = v at *
    have e : (u + v) % 18446744073709551616 % 4294967296 = (u + v) % 4294967296 := by omega
    rw [e]
    generalize (u + v) % 4294967296 = y at *
    congr 1
    · omega
    congr 1
    · omega
    congr 1
    · omega
    congr 1
    omega
  have app : ∀ v r, outV v r = outV v [] ++ r := fun v r => rfl
  unfold outR outB
  simp only [outs]
  rw [app _ (outV _ _)]
  repeat rw [key]
  have hrest : ∀ i r, outV ((x.getD i 0 + s.getD i 0) % 18446744073709551616 % 4294967296) r = [(x.getD i 0 + s.getD i 0) % 4294967296 / 2 ^ (8 * 0) % 256, (x.getD i 0 + s.getD i 0) % 4294967296 / 2 ^ (8 * 1) % 256, (x.getD i 0 + s.getD i 0) % 4294967296 / 2 ^ (8 * 2) % 256, (x.getD i 0 + s.getD i 0) % 4294967296 / 2 ^ (8 * 3) % 256] ++ r := fun i r => by rw [app, key]
  simp only [hrest]
  rfl

theorem blk_eq {key nonce : List Nat} {n : Nat} (hk : B8 key) (hn : B8 nonce) (h : n < 4294967296) : blkR key nonce n = blk key nonce n := by
  obtain ⟨e1, b1⟩ := st_eq hk hn h
  unfold blkR blk
  rw [e1]
  obtain ⟨e2, b2⟩ := rounds_eq b1 10
  rw [e2, out_eq b2 b1]

end Go.Proofs.Ytgebgjhjegadpaa

namespace Go.Proofs.Ytgebgjhjegadpaa
open Go Go.ChangeShapes Go.WideShapes Go.RowKit

def F19 : FSem := ⟨false, fun args hin => match args, hin with
  | [], [] => some (.leaf (.s (.bool true), []))
  | _, _ => none⟩

theorem fn19 : Fn Try.prog 19 Try.f19 := ⟨mixed, Try.func19, by kernel_rfl, of_decide_eq_true (by kernel_rfl)⟩
theorem fn3 : Fn Try.prog 3 Try.f3 := ⟨mixed, Try.func3, by kernel_rfl, of_decide_eq_true (by kernel_rfl)⟩

set_option maxRecDepth 100000 in
theorem r19 : runB Try.prog [(20, F20)] [] .nat 3 Try.f19 [] [] = some (.s (.bool true), []) := by kernel_rfl

theorem ok19 : FOk Try.prog 19 F19 := by
  refine fokB (fs := [(20, F20)]) (xs := []) (m := .nat) (fuel := 3) (.cons ok20 .nil) fn19 ?_
  intro args hin t r h hg
  unfold F19 at h
  simp only at h
  split at h
  · cases h; cases hg
    exact r19
  · cases h

set_option maxRecDepth 100000 in
theorem r3 (key nonce : List Nat) (n : Nat) : runB Try.prog [(19, F19), (20, F20), (21, F21)] [] .nat 3 Try.f3 [.agg [.ints .u8 32 key], .agg [.ints .u8 12 nonce], .s (.nat .u32 n)] [] = some (.s (.bool (decide (blk key nonce n = blkR key nonce n))), []) := by kernel_rfl

end Go.Proofs.Ytgebgjhjegadpaa

namespace Go.Proofs.Ytgebgjhjegadpaa
open Go

def okLens (pss : List (List Nat)) : Bool := pss.all fun p => decide (p.length < 9223372036854775808)

def slN (pss : List (List Nat)) (i : Nat) : AV := .s (.sl .whole 0 0 (lenN pss i) 1)
def hsN (pss : List (List Nat)) (i : Nat) : List (Option Blk) := [some [.ints .u8 (lenN pss i) (catN pss i)]]

def S0 : LSem := ⟨[15, 16, 17, 10], [10, 8, 9], fun args hin => match args, hin with
  | [.s (.xsl (.bss pss)), .s (.nat .i64 n), .s (.nat .i64 0), .s .nil], [] =>
    some (Tr.needs [decide (n = pss.length), decide (n < 9223372036854775808), okLens pss]
      (.br (decide (badAt 16777216 pss 0 = pss.length))
        (.br (decide (pss.length = 0)) (.leaf (.normal, [.s .nil, .any, .any], [])) (.leaf (.normal, [.s (.sl .whole 0 0 (lenN pss pss.length) 1), .any, .any], [some [.ints .u8 (lenN pss pss.length) (catN pss pss.length)]])))
        (.br (decide (badAt 16777216 pss 0 = 0)) (.leaf (.ret, [.s .nil, .s .nil, .s (.nat .i64 2)], []))
          (.leaf (.ret, [.s (.sl .whole 0 0 (lenN pss (badAt 16777216 pss 0)) 1), .s .nil, .s (.nat .i64 2)], [some [.ints .u8 (lenN pss (badAt 16777216 pss 0)) (catN pss (badAt 16777216 pss 0))]])))))
  | _, _ => none⟩

set_option maxRecDepth 100000 in
theorem rA0 (pss : List (List Nat)) (n : Nat) : runR Try.prog [] [] .nat 3 [] Try.f22 0 S0 0 [.s (.xsl (.bss pss)), .s (.nat .i64 n), .s (.nat .i64 0), .s .nil] [] =
    cond (decide (0 < n)) (nd [decide (0 < pss.length), decide (0 < pss.length), decide ((pss.getD 0 []).length < 9223372036854775808)]
      (cond (decide (16777216 - 0 < (pss.getD 0 []).length)) (some (.ret, [.s .nil, .s .nil, .s (.nat .i64 2)], []))
        (nd [decide ((pss.getD 0 []).length ≤ 4398046511104)] (some (.normal, [.s (.xsl (.bss pss)), .s (.nat .i64 n), .s (.nat .i64 (0 + 1)), .s (.sl .whole 0 0 (pss.getD 0 []).length 1)], [some [.ints .u8 (pss.getD 0 []).length (pss.getD 0 [])]])))))
      (some (.exit 0, [.s .nil, .any, .any], [])) := by kernel_rfl

set_option maxRecDepth 100000 in
theorem rA (pss : List (List Nat)) (n j l : Nat) (xs : List Nat) : runR Try.prog [] [] .nat 3 [] Try.f22 0 S0 0 [.s (.xsl (.bss pss)), .s (.nat .i64 n), .s (.nat .i64 j), .s (.sl .whole 0 0 l 1)] [some [.ints .u8 l xs]] =
    cond (decide (j < n)) (nd [decide (j < pss.length), decide (j < pss.length), decide ((pss.getD j []).length < 9223372036854775808), decide (l < 9223372036854775808), decide (l ≤ 16777216)]
      (cond (decide (16777216 - l < (pss.getD j []).length)) (some (.ret, [.s (.sl .whole 0 0 l 1), .s .nil, .s (.nat .i64 2)], [some [.ints .u8 l xs]]))
        (nd [decide (l = l), decide (l + (pss.getD j []).length ≤ 4398046511104), decide (j + 1 < 9223372036854775808)]
          (some (.normal, [.s (.xsl (.bss pss)), .s (.nat .i64 n), .s (.nat .i64 (j + 1)), .s (.sl .whole 0 0 (l + (pss.getD j []).length) 1)], [some [.ints .u8 (l + (pss.getD j []).length) (xs ++ pss.getD j [])]])))))
      (some (.exit 0, [.s (.sl .whole 0 0 l 1), .any, .any], [some [.ints .u8 l xs]])) := by kernel_rfl

theorem okLens_get {pss : List (List Nat)} (h : okLens pss = true) (j : Nat) : (pss.getD j []).length < 9223372036854775808 := by
  rw [List.getD]
  cases hj : pss[j]? with
  | none => simp
  | some p =>
    have := List.all_eq_true.1 h p (List.mem_of_getElem? hj)
    simpa using this

def A22 (pss : List (List Nat)) : Nat → List AV × List (Option Blk)
  | 0 => ([.s (.xsl (.bss pss)), .s (.nat .i64 pss.length), .s (.nat .i64 0), .s .nil], [])
  | i + 1 => ([.s (.xsl (.bss pss)), .s (.nat .i64 pss.length), .s (.nat .i64 (i + 1)), slN pss (i + 1)], hsN pss (i + 1))

theorem stepA {pss : List (List Nat)} (hl : pss.length < 9223372036854775808) (hk : okLens pss = true) (i : Nat) (hi : i < badAt 16777216 pss 0) :
    runR Try.prog [] [] .nat 3 [] Try.f22 0 S0 0 (A22 pss i).1 (A22 pss i).2 = some (.normal, A22 pss (i + 1)) := by
  obtain ⟨h1, h2, h3, h4⟩ := badAt_spec 16777216 pss 0 (Nat.zero_le _)
  have h5 := h4 i hi
  have h6 := okLens_get hk i
  have h7 := lenN_mono pss (show i + 1 ≤ badAt 16777216 pss 0 by omega)
  rw [lenN] at h7
  cases i with
  | zero =>
    simp only [A22]
    rw [rA0, decide_eq_true (by omega : 0 < pss.length), cond_true, nd_true, decide_eq_false (by simp only [lenN] at h5; omega), cond_false, nd_true]
    · simp only [slN, hsN, lenN, catN, Nat.zero_add, List.nil_append]
    · intro c hc
      simp only [List.mem_cons, List.not_mem_nil, or_false] at hc
      subst hc
      simp only [lenN] at h5
      exact decide_eq_true (by omega)
    · intro c hc
      simp only [List.mem_cons, List.not_mem_nil, or_false] at hc
      rcases hc with rfl | rfl | rfl <;> first | rfl | exact decide_eq_true (by omega)
  | succ i =>
    simp only [A22, slN, hsN]
    rw [rA, decide_eq_true (by omega : i + 1 < pss.length), cond_true, nd_true, decide_eq_false (by omega : ¬ (16777216 - lenN pss (i + 1) < (pss.getD (i + 1) []).length)), cond_false, nd_true]
    · rfl
    · intro c hc
      simp only [List.mem_cons, List.not_mem_nil, or_false] at hc
      rcases hc with rfl | rfl | rfl <;> first | rfl | exact decide_eq_true (by omega)
    · intro c hc
      simp only [List.mem_cons, List.not_mem_nil, or_false] at hc
      rcases hc with rfl | rfl | rfl | rfl | rfl <;> first | rfl | exact decide_eq_true (by omega)

theorem lok0 : LOk Try.prog Try.f22.ntmps (.block 0 (.loop (lb 0 Try.f22))) S0 := by
  refine lokR (fs := []) (xs := []) (m := .nat) (fuel := 3) (sums := []) EnvOk.nil mixed (loopsOk_none rfl _) ?_
  intro args hin t e vs hout h hg
  unfold S0 at h
  simp only at h
  split at h
  rotate_left
  · cases h
  rename_i pss n
  simp only [Option.some.injEq] at h
  subst h
  obtain ⟨hc, hgt⟩ := Tr.needs_get hg
  clear hg
  have e1 : n = pss.length := of_decide_eq_true (hc _ (by simp))
  subst e1
  have hl : pss.length < 9223372036854775808 := of_decide_eq_true (hc (decide (pss.length < 9223372036854775808)) (by simp))
  have hk : okLens pss = true := hc _ (by simp)
  obtain ⟨h1, h2, h3, h4⟩ := badAt_spec 16777216 pss 0 (Nat.zero_le _)
  refine ⟨badAt 16777216 pss 0, A22 pss, ?_⟩
  simp only [List.length_nil]
  simp only [Tr.get] at hgt
  have hstep : ∀ i, i < badAt 16777216 pss 0 → runR Try.prog [] [] .nat 3 [] Try.f22 0 S0 0 (A22 pss i).1 (A22 pss i).2 = some (.normal, A22 pss (i + 1)) := fun i hi => stepA hl hk i hi
  have hlast : ∀ j, badAt 16777216 pss 0 = j + 1 → runR Try.prog [] [] .nat 3 [] Try.f22 0 S0 0 (A22 pss (badAt 16777216 pss 0)).1 (A22 pss (badAt 16777216 pss 0)).2 =
      cond (decide (badAt 16777216 pss 0 < pss.length)) (some (.ret, [slN pss (badAt 16777216 pss 0), .s .nil, .s (.nat .i64 2)], hsN pss (badAt 16777216 pss 0))) (some (.exit 0, [slN pss (badAt 16777216 pss 0), .any, .any], hsN pss (badAt 16777216 pss 0))) := by
    intro j hj
    rw [hj] at h1 h2 h3 ⊢
    simp only [A22, slN, hsN]
    rw [rA]
    by_cases hlt : j + 1 < pss.length
    · have h6 := okLens_get hk (j + 1)
      have h7 := h3 hlt
      rw [decide_eq_true hlt, cond_true, cond_true, nd_true, decide_eq_true (by omega : 16777216 - lenN pss (j + 1) < (pss.getD (j + 1) []).length), cond_true]
      intro c hc
      simp only [List.mem_cons, List.not_mem_nil, or_false] at hc
      rcases hc with rfl | rfl | rfl | rfl | rfl <;> first | rfl | exact decide_eq_true (by omega)
    · rw [decide_eq_false hlt, cond_false, cond_false]
  cases hb : decide (badAt 16777216 pss 0 = pss.length) with
  | true =>
    have hb := of_decide_eq_true hb
    rw [decide_eq_true hb, cond_true] at hgt
    cases hz : decide (pss.length = 0) with
    | true =>
      have hz' := of_decide_eq_true hz
      rw [hz, cond_true] at hgt
      cases hgt
      refine ⟨.exit 0, rfl, hstep, ?_, rfl⟩
      rw [hb, hz']
      simp only [A22]
      rw [rA0, decide_eq_false (by omega), cond_false]
    | false =>
      have hz' := of_decide_eq_false hz
      rw [hz, cond_false] at hgt
      cases hgt
      refine ⟨.exit 0, rfl, hstep, ?_, rfl⟩
      rw [hlast (pss.length - 1) (by omega), decide_eq_false (by omega), cond_false, hb]
      rfl
  | false =>
    have hb := of_decide_eq_false hb
    rw [decide_eq_false hb, cond_false] at hgt
    cases hz : decide (badAt 16777216 pss 0 = 0) with
    | true =>
      have hz' := of_decide_eq_true hz
      rw [hz, cond_true] at hgt
      cases hgt
      refine ⟨.ret, rfl, hstep, ?_, rfl⟩
      have h7 := h3 (by omega)
      rw [hz'] at h7 ⊢
      have h6 := okLens_get hk 0
      simp only [A22]
      simp only [lenN] at h7
      rw [rA0, decide_eq_true (by omega : 0 < pss.length), cond_true, nd_true, decide_eq_true (by omega : 16777216 - 0 < (pss.getD 0 []).length), cond_true]
      intro c hc
      simp only [List.mem_cons, List.not_mem_nil, or_false] at hc
      rcases hc with rfl | rfl | rfl <;> first | rfl | exact decide_eq_true (by omega)
    | false =>
      have hz' := of_decide_eq_false hz
      rw [hz, cond_false] at hgt
      cases hgt
      refine ⟨.ret, rfl, hstep, ?_, rfl⟩
      rw [hlast (badAt 16777216 pss 0 - 1) (by omega), decide_eq_true (by omega), cond_true]
      rfl

end Go.Proofs.Ytgebgjhjegadpaa

namespace Go.Proofs.Ytgebgjhjegadpaa
open Go

/-- The block at hand and the bytes, j of them mixed. -/
def mcur (key nonce : List Nat) (c : Nat) (cur : List Nat) (j : Nat) : List Nat :=
  match decide (j % 64 = 0) with
  | true => blk key nonce ((c + j / 64 % 4294967296) % 4294967296)
  | false => cur

def mrun (key nonce : List Nat) (c : Nat) (cur xs : List Nat) : Nat → List Nat × List Nat
  | 0 => (cur, xs)
  | j + 1 => (mcur key nonce c (mrun key nonce c cur xs j).1 j, (mrun key nonce c cur xs j).2.set j ((mrun key nonce c cur xs j).2.getD j 0 ^^^ (mcur key nonce c (mrun key nonce c cur xs j).1 j).getD (j % 64) 0))

def S2 : LSem := ⟨[4, 5, 2, 13, 10, 32, 33], [10], fun args hin => match args, hin with
  | [.s (.ptr 0 0), .s (.ptr 1 0), .s (.nat .u32 c), .s (.ptr 2 0), .s (.sl .whole 3 0 l 1), .s (.nat .i64 n), .s (.nat .i64 0)], [[.ints .u8 32 key], [.ints .u8 12 nonce], [.ints .u8 64 cur], [.ints .u8 m xs]] =>
    some (Tr.needs [decide (n = l), decide (m = l), decide (l < 9223372036854775808)]
      (.leaf (.normal, [.s (.sl .whole 3 0 l 1)], [some [.ints .u8 32 key], some [.ints .u8 12 nonce], some [.ints .u8 64 (mrun key nonce c cur xs l).1], some [.ints .u8 l (mrun key nonce c cur xs l).2]])))
  | [.s (.ptr 0 0), .s (.ptr 1 0), .s (.nat .u32 _), .s (.ptr 2 0), .s .nil, .s (.nat .i64 0), .s (.nat .i64 0)], [[.ints .u8 32 key], [.ints .u8 12 nonce], [.ints .u8 64 cur]] =>
    some (.leaf (.normal, [.s .nil], [some [.ints .u8 32 key], some [.ints .u8 12 nonce], some [.ints .u8 64 cur]]))
  | _, _ => none⟩

set_option maxRecDepth 100000 in
theorem rB (key nonce cur xs : List Nat) (c n j l : Nat) : runR Try.prog [(20, F20)] [] .nat 3 [] Try.f22 2 S2 4 [.s (.ptr 0 0), .s (.ptr 1 0), .s (.nat .u32 c), .s (.ptr 2 0), .s (.sl .whole 3 0 l 1), .s (.nat .i64 n), .s (.nat .i64 j)] [some [.ints .u8 32 key], some [.ints .u8 12 nonce], some [.ints .u8 64 cur], some [.ints .u8 l xs]] =
    cond (decide (j < n)) (cond (decide (j % 64 = 0))
        (nd [decide (j < l), decide (j < l), decide (j % 64 < 64), decide (j % 64 < 64), decide (j < l), decide (j < l), decide (j + 1 < 9223372036854775808)]
          (some (.normal, [.s (.ptr 0 0), .s (.ptr 1 0), .s (.nat .u32 c), .s (.ptr 2 0), .s (.sl .whole 3 0 l 1), .s (.nat .i64 n), .s (.nat .i64 (j + 1))], [some [.ints .u8 32 key], some [.ints .u8 12 nonce], some [.ints .u8 64 (blk key nonce ((c + j / 64 % 4294967296) % 4294967296))],
            some [.ints .u8 l (xs.set j (xs.getD j 0 ^^^ (blk key nonce ((c + j / 64 % 4294967296) % 4294967296)).getD (j % 64) 0))]])))
        (nd [decide (j < l), decide (j < l), decide (j % 64 < 64), decide (j % 64 < 64), decide (j < l), decide (j < l), decide (j + 1 < 9223372036854775808)]
          (some (.normal, [.s (.ptr 0 0), .s (.ptr 1 0), .s (.nat .u32 c), .s (.ptr 2 0), .s (.sl .whole 3 0 l 1), .s (.nat .i64 n), .s (.nat .i64 (j + 1))], [some [.ints .u8 32 key], some [.ints .u8 12 nonce], some [.ints .u8 64 cur],
            some [.ints .u8 l (xs.set j (xs.getD j 0 ^^^ cur.getD (j % 64) 0))]]))))
      (some (.exit 2, [.s (.sl .whole 3 0 l 1)], [some [.ints .u8 32 key], some [.ints .u8 12 nonce], some [.ints .u8 64 cur], some [.ints .u8 l xs]])) := by kernel_rfl

set_option maxRecDepth 100000 in
theorem rB0 (key nonce cur : List Nat) (c : Nat) : runR Try.prog [(20, F20)] [] .nat 3 [] Try.f22 2 S2 3 [.s (.ptr 0 0), .s (.ptr 1 0), .s (.nat .u32 c), .s (.ptr 2 0), .s .nil, .s (.nat .i64 0), .s (.nat .i64 0)] [some [.ints .u8 32 key], some [.ints .u8 12 nonce], some [.ints .u8 64 cur]] =
    some (.exit 2, [.s .nil], [some [.ints .u8 32 key], some [.ints .u8 12 nonce], some [.ints .u8 64 cur]]) := by kernel_rfl

theorem nd7 {j l : Nat} (h : j < l) (hl : l < 9223372036854775808) {α : Type} (x : Option α) : nd [decide (j < l), decide (j < l), decide (j % 64 < 64), decide (j % 64 < 64), decide (j < l), decide (j < l), decide (j + 1 < 9223372036854775808)] x = x := by
  refine nd_true fun c hc => ?_
  simp only [List.mem_cons, List.not_mem_nil, or_false] at hc
  rcases hc with rfl | rfl | rfl | rfl | rfl | rfl | rfl <;> exact decide_eq_true (by omega)

def A22b (key nonce : List Nat) (c l : Nat) (cur xs : List Nat) (i : Nat) : List AV × List (Option Blk) :=
  ([.s (.ptr 0 0), .s (.ptr 1 0), .s (.nat .u32 c), .s (.ptr 2 0), .s (.sl .whole 3 0 l 1), .s (.nat .i64 l), .s (.nat .i64 i)],
    [some [.ints .u8 32 key], some [.ints .u8 12 nonce], some [.ints .u8 64 (mrun key nonce c cur xs i).1], some [.ints .u8 l (mrun key nonce c cur xs i).2]])

theorem lok2 : LOk Try.prog Try.f22.ntmps (.block 2 (.loop (lb 2 Try.f22))) S2 := by
  refine lokR (fs := [(20, F20)]) (xs := []) (m := .nat) (fuel := 3) (sums := []) (.cons ok20 .nil) mixed (loopsOk_none rfl _) ?_
  intro args hin t e vs hout h hg
  unfold S2 at h
  simp only at h
  split at h
  · rename_i c l n key nonce cur m xs
    simp only [Option.some.injEq] at h
    subst h
    obtain ⟨hc, hgt⟩ := Tr.needs_get hg
    clear hg
    have e1 : n = l := of_decide_eq_true (hc _ (by simp))
    have e2 : m = l := of_decide_eq_true (hc (decide (m = l)) (by simp))
    have hl : l < 9223372036854775808 := of_decide_eq_true (hc (decide (l < 9223372036854775808)) (by simp))
    clear hc
    subst e1; subst e2
    cases hgt
    refine ⟨m, A22b key nonce c m cur xs, .exit 2, rfl, fun i hi => ?_, ?_, rfl⟩
    · simp only [A22b, mrun, List.length_cons, List.length_nil]
      rw [rB, nd7 hi hl, nd7 hi hl, decide_eq_true hi, cond_true]
      unfold mcur
      cases decide (i % 64 = 0) <;> rfl
    · simp only [A22b, List.length_cons, List.length_nil]
      rw [rB, decide_eq_false (Nat.lt_irrefl _), cond_false]
  · rename_i c key nonce cur
    cases h
    cases hg
    exact ⟨0, fun _ => ([.s (.ptr 0 0), .s (.ptr 1 0), .s (.nat .u32 _), .s (.ptr 2 0), .s .nil, .s (.nat .i64 0), .s (.nat .i64 0)], [some [.ints .u8 32 key], some [.ints .u8 12 nonce], some [.ints .u8 64 cur]]), .exit 2, rfl, fun i hi => by omega, rB0 _ _ _ _, rfl⟩
  · cases h

end Go.Proofs.Ytgebgjhjegadpaa

namespace Go.Proofs.Ytgebgjhjegadpaa
open Go

def zeros64 : List Nat := [0, 0, 0, 0, 0, 0, 0, 0, 0, 0, 0, 0, 0, 0, 0, 0, 0, 0, 0, 0, 0, 0, 0, 0, 0, 0, 0, 0, 0, 0, 0, 0, 0, 0, 0, 0, 0, 0, 0, 0, 0, 0, 0, 0, 0, 0, 0, 0, 0, 0, 0, 0, 0, 0, 0, 0, 0, 0, 0, 0, 0, 0, 0, 0]

def mixC (key nonce : List Nat) (c : Nat) (xs : List Nat) (l : Nat) : List Nat := (mrun key nonce c zeros64 xs l).2

def F22 : FSem := ⟨true, fun args hin => match args, hin with
  | [.agg [.ints .u8 32 key], .agg [.ints .u8 12 nonce], .s (.nat .u32 c), .s (.xsl (.bss pss))], [] =>
    some (Tr.needs [decide (pss.length < 9223372036854775808), okLens pss]
      (.br (decide (lenN pss pss.length ≤ 16777216))
        (.br (decide (pss.length = 0)) (.leaf (.tup [.s .nil, .s (.nat .i64 0)], []))
          (.leaf (.tup [.s (.sl .whole 0 0 (lenN pss pss.length) 1), .s (.nat .i64 0)], [some [.ints .u8 (lenN pss pss.length) (mixC key nonce c (catN pss pss.length) (lenN pss pss.length))]])))
        (.leaf (.tup [.s .nil, .s (.nat .i64 2)], []))))
  | _, _ => none⟩

theorem fn22 : Fn Try.prog 22 Try.f22 := ⟨mixed, Try.func22, by kernel_rfl, of_decide_eq_true (by kernel_rfl)⟩

set_option maxRecDepth 100000 in
theorem r22 (key nonce : List Nat) (c : Nat) (pss : List (List Nat)) : runL Try.prog [(20, F20)] [] .nat 3 [(0, S0), (2, S2)] Try.f22 [.agg [.ints .u8 32 key], .agg [.ints .u8 12 nonce], .s (.nat .u32 c), .s (.xsl (.bss pss))] [] =
    nd [decide (pss.length < 9223372036854775808), decide (pss.length = pss.length), decide (pss.length < 9223372036854775808), okLens pss]
      (cond (decide (badAt 16777216 pss 0 = pss.length))
        (cond (decide (pss.length = 0)) (some (.tup [.s .nil, .s (.nat .i64 0)], []))
          (nd [decide (lenN pss pss.length < 9223372036854775808), decide (lenN pss pss.length = lenN pss pss.length), decide (lenN pss pss.length = lenN pss pss.length), decide (lenN pss pss.length < 9223372036854775808)]
            (some (.tup [.s (.sl .whole 0 0 (lenN pss pss.length) 1), .s (.nat .i64 0)], [some [.ints .u8 (lenN pss pss.length) (mixC key nonce c (catN pss pss.length) (lenN pss pss.length))]]))))
        (cond (decide (badAt 16777216 pss 0 = 0)) (some (.tup [.s .nil, .s (.nat .i64 2)], [])) (some (.tup [.s .nil, .s (.nat .i64 2)], [])))) := by kernel_rfl

theorem loops22 : LoopsOk Try.prog ⟨Try.f22.ntmps, 3, [(0, S0), (2, S2)]⟩ (bodyOf Try.f22) := by
  refine loopsOk_of ?_
  have e : loopsIn [(0, S0), (2, S2)] (bodyOf Try.f22) = [(0, .loop (lb 0 Try.f22), S0), (2, .loop (lb 2 Try.f22), S2)] := by kernel_rfl
  simp only [e]
  intro x hx
  simp only [List.mem_cons, List.not_mem_nil, or_false] at hx
  rcases hx with rfl | rfl
  · exact lok0
  · exact lok2

theorem ok22 : FOk Try.prog 22 F22 := by
  refine fokL (fs := [(20, F20)]) (xs := []) (m := .nat) (fuel := 3) (sums := [(0, S0), (2, S2)]) (.cons ok20 .nil) fn22 loops22 ?_
  intro args hin t r h hg
  unfold F22 at h
  simp only at h
  split at h
  rotate_left
  · cases h
  rename_i key nonce c pss
  simp only [Option.some.injEq] at h
  subst h
  obtain ⟨hc, hgt⟩ := Tr.needs_get hg
  clear hg
  have hl : pss.length < 9223372036854775808 := of_decide_eq_true (hc _ (by simp))
  have hk : okLens pss = true := hc _ (by simp)
  clear hc
  rw [r22, nd_true]
  · simp only [Tr.get] at hgt
    by_cases hs : lenN pss pss.length ≤ 16777216
    · rw [decide_eq_true ((badAt_all 16777216 pss).2 hs), cond_true]
      rw [decide_eq_true hs, cond_true] at hgt
      rw [nd_true]
      · exact hgt
      · intro d hd
        simp only [List.mem_cons, List.not_mem_nil, or_false] at hd
        rcases hd with rfl | rfl | rfl | rfl <;> first | exact decide_eq_true (by omega) | simp
    · rw [decide_eq_false (fun e => hs ((badAt_all 16777216 pss).1 e)), cond_false]
      rw [decide_eq_false hs, cond_false] at hgt
      cases decide (badAt 16777216 pss 0 = 0) <;> exact hgt
  · intro d hd
    simp only [List.mem_cons, List.not_mem_nil, or_false] at hd
    rcases hd with rfl | rfl | rfl | rfl
    · exact decide_eq_true hl
    · simp
    · exact decide_eq_true hl
    · exact hk

/-! What mixing does. -/
def mixAt (key nonce : List Nat) (c : Nat) (xs : List Nat) (i : Nat) : Nat := xs.getD i 0 ^^^ (blk key nonce ((c + i / 64 % 4294967296) % 4294967296)).getD (i % 64) 0

theorem mrun_spec (key nonce : List Nat) (c : Nat) (xs : List Nat) : ∀ j, (mrun key nonce c zeros64 xs j).2.length = xs.length ∧ (∀ i, (mrun key nonce c zeros64 xs j).2.getD i 0 = if i < j ∧ i < xs.length then mixAt key nonce c xs i else xs.getD i 0) ∧
    (0 < j → (mrun key nonce c zeros64 xs j).1 = blk key nonce ((c + (j - 1) / 64 % 4294967296) % 4294967296))
  | 0 => ⟨rfl, fun i => by simp [mrun], fun h => by omega⟩
  | j + 1 => by
    obtain ⟨h1, h2, h3⟩ := mrun_spec key nonce c xs j
    have hcur : mcur key nonce c (mrun key nonce c zeros64 xs j).1 j = blk key nonce ((c + j / 64 % 4294967296) % 4294967296) := by
      unfold mcur
      cases hd : decide (j % 64 = 0) with
      | true => rfl
      | false =>
        have hd := of_decide_eq_false hd
        simp only
        rw [h3 (by omega), show (j - 1) / 64 = j / 64 by omega]
    simp only [mrun, hcur]
    refine ⟨by simp [h1], fun i => ?_, fun _ => by simp⟩
    by_cases hi : i = j
    · subst hi
      by_cases hl : i < xs.length
      · rw [if_pos ⟨by omega, hl⟩, List.getD, List.getElem?_set_self (by omega), Option.getD_some, h2 i, if_neg (by omega)]
        rfl
      · rw [if_neg (fun h => hl h.2), List.getD, List.getElem?_eq_none (by simp; omega), List.getD, List.getElem?_eq_none (by omega)]
    · have e : ∀ v, ((mrun key nonce c zeros64 xs j).2.set j v).getD i 0 = (mrun key nonce c zeros64 xs j).2.getD i 0 := fun v => by
        rw [List.getD, List.getElem?_set_ne (fun h => hi h.symm), List.getD]
      rw [e, h2 i]
      by_cases h : i < j ∧ i < xs.length
      · rw [if_pos h, if_pos ⟨by omega, h.2⟩]
      · rw [if_neg h, if_neg (by omega)]

theorem mixC_len (key nonce : List Nat) (c : Nat) (xs : List Nat) (l : Nat) : (mixC key nonce c xs l).length = xs.length := (mrun_spec key nonce c xs l).1

theorem mixC_get (key nonce : List Nat) (c : Nat) (xs : List Nat) {l i : Nat} (h : i < l) (hx : i < xs.length) : (mixC key nonce c xs l).getD i 0 = mixAt key nonce c xs i := by
  rw [mixC, (mrun_spec key nonce c xs l).2.1 i, if_pos ⟨h, hx⟩]

end Go.Proofs.Ytgebgjhjegadpaa

namespace Go.Proofs.Ytgebgjhjegadpaa
open Go

structure OpsA where
  blk : List Nat → List Nat → Nat → List Nat
  mix : List Nat → List Nat → Nat → List Nat → Nat → List Nat
  tag : List Nat → List (List Nat) → List Nat
  ok41 : List (List Nat) → Bool
  okK : List Nat → Bool
  okL : List (List Nat) → Bool
  cat : List (List Nat) → Nat → List Nat
  len : List (List Nat) → Nat → Nat
  eq : List Nat → List Nat → Bool

def opsA : OpsA := ⟨blk, mixC, tagC, ok41, okKey, okLens, catN, lenN, fun xs ys => decide (xs = ys)⟩

theorem opsA_blk : opsA.blk = blk := by kernel_rfl
theorem opsA_mix : opsA.mix = mixC := by kernel_rfl
theorem opsA_tag : opsA.tag = tagC := by kernel_rfl
theorem opsA_ok41 : opsA.ok41 = ok41 := by kernel_rfl
theorem opsA_okK : opsA.okK = okKey := by kernel_rfl
theorem opsA_okL : opsA.okL = okLens := by kernel_rfl
theorem opsA_cat : opsA.cat = catN := by kernel_rfl
theorem opsA_len : opsA.len = lenN := by kernel_rfl
theorem opsA_eq : opsA.eq = (fun xs ys => decide (xs = ys)) := by kernel_rfl

def Z20 (o : OpsA) : FSem := ⟨false, fun args hin => match args, hin with
  | [.agg [.ints .u8 32 key], .agg [.ints .u8 12 nonce], .s (.nat .u32 n)], [] => some (.leaf (.agg [.ints .u8 64 (o.blk key nonce n)], []))
  | _, _ => none⟩
theorem aa20 : FOk Try.prog 20 (Z20 opsA) := by
  have e : Z20 opsA = F20 := by kernel_rfl
  rw [e]
  exact ok20

def Z25 (o : OpsA) : FSem := ⟨true, fun args hin => match args, hin with
  | [.agg [.ints .u8 32 key], .s (.xsl (.bss pss))], [] => some (Tr.needs [decide (pss.length < 9223372036854775808), o.ok41 pss, o.okK key] (.leaf (.agg [.ints .u8 16 (o.tag key pss)], [])))
  | _, _ => none⟩
theorem aa25 : FOk Try.prog 25 (Z25 opsA) := by
  have e : Z25 opsA = F25 := by kernel_rfl
  rw [e]
  exact ok25

def Z22 (o : OpsA) : FSem := ⟨true, fun args hin => match args, hin with
  | [.agg [.ints .u8 32 key], .agg [.ints .u8 12 nonce], .s (.nat .u32 c), .s (.xsl (.bss pss))], [] =>
    some (Tr.needs [decide (pss.length < 9223372036854775808), o.okL pss]
      (.br (decide (o.len pss pss.length ≤ 16777216))
        (.br (decide (pss.length = 0)) (.leaf (.tup [.s .nil, .s (.nat .i64 0)], []))
          (.leaf (.tup [.s (.sl .whole 0 0 (o.len pss pss.length) 1), .s (.nat .i64 0)], [some [.ints .u8 (o.len pss pss.length) (o.mix key nonce c (o.cat pss pss.length) (o.len pss pss.length))]])))
        (.leaf (.tup [.s .nil, .s (.nat .i64 2)], []))))
  | _, _ => none⟩

/-! Noughts up to a multiple of sixteen. -/
theorem fn47 : Fn Try.prog 47 Try.f47 := ⟨mixed, Try.func47, by kernel_rfl, of_decide_eq_true (by kernel_rfl)⟩
theorem fn48 : Fn Try.prog 48 Try.f48 := ⟨mixed, Try.func48, by kernel_rfl, of_decide_eq_true (by kernel_rfl)⟩
theorem fn40 : Fn Try.prog 40 Try.f40 := ⟨mixed, Try.func40, by kernel_rfl, of_decide_eq_true (by kernel_rfl)⟩
theorem fn43 : Fn Try.prog 43 Try.f43 := ⟨mixed, Try.func43, by kernel_rfl, of_decide_eq_true (by kernel_rfl)⟩

def filN (n : Nat) : Nat := (16 - n % 16) % 16

def F47 : FSem := ⟨false, fun args hin => match args, hin with
  | [.s (.nat .i64 n)], [] => some (.leaf (.s (.sl .whole 0 0 (filN n) 1), [some [.ints .u8 (filN n) (List.replicate (filN n) 0)]]))
  | _, _ => none⟩

set_option maxRecDepth 100000 in
theorem r47 (n : Nat) : runB Try.prog [] [] .nat 7 Try.f47 [.s (.nat .i64 n)] [] =
(nd [decide (n % 16 ≤ 16), decide (filN n ≤ filN n), decide (filN n ≤ 4398046511104)]
 (some (AV.s (SV.sl LK.whole 0 0 (filN n) 1), [some [Ch.ints IntKind.u8 (filN n) (List.replicate (filN n) 0)]]))) := by kernel_rfl

theorem ok47 : FOk Try.prog 47 F47 := by
  refine fokB (fs := []) (xs := []) (m := .nat) (fuel := 7) EnvOk.nil fn47 ?_
  intro args hin t r h hg
  unfold F47 at h
  simp only at h
  split at h
  · rename_i n
    cases h
    cases hg
    rw [r47]
    refine nd_of ?_ rfl
    have : filN n < 16 := Nat.mod_lt _ (by decide)
    simp only [List.mem_cons, List.not_mem_nil, or_false, forall_eq_or_imp, forall_eq, decide_eq_true_eq]
    omega
  · cases h

def cnt8 (n : Nat) : List Nat := [n % 256, n / 256 % 256, n / 65536 % 256, n / 16777216 % 256, 0, 0, 0, 0]

def F48 : FSem := ⟨false, fun args hin => match args, hin with
  | [.s (.nat .i64 n)], [] => some (.leaf (.s (.sl .whole 0 0 8 1), [some [.ints .u8 8 (cnt8 n)]]))
  | _, _ => none⟩

set_option maxRecDepth 100000 in
theorem r48 (n : Nat) : runB Try.prog [] [] .nat 7 Try.f48 [.s (.nat .i64 n)] [] =
 (some (AV.s (SV.sl LK.whole 0 0 8 1), [some [Ch.ints IntKind.u8 8 [n / 2 ^ 0 % 256, n / 2 ^ 8 % 256, n / 2 ^ 16 % 256, n / 2 ^ 24 % 256, 0, 0, 0, 0]]])) := by kernel_rfl

theorem ok48 : FOk Try.prog 48 F48 := by
  refine fokB (fs := []) (xs := []) (m := .nat) (fuel := 7) EnvOk.nil fn48 ?_
  intro args hin t r h hg
  unfold F48 at h
  simp only at h
  split at h
  · rename_i n
    cases h
    cases hg
    rw [r48]
    unfold cnt8
    rw [Nat.pow_zero, Nat.div_one, show (2 : Nat) ^ 8 = 256 from rfl, show (2 : Nat) ^ 16 = 65536 from rfl, show (2 : Nat) ^ 24 = 16777216 from rfl]
  · cases h

/-! Is it too long? -/
def S40 : LSem := ⟨[6, 7, 8, 3, 2], [2], fun args hin => match args, hin with
  | [.s (.xsl (.bss pss)), .s (.nat .i64 n), .s (.nat .i64 0), .s (.nat .i64 0), .s (.bool false)], [] =>
    some (Tr.needs [decide (n = pss.length), decide (n < 9223372036854775808), okLens pss]
      (.br (decide (badAt 1048576 pss 0 = pss.length)) (.leaf (.normal, [.s (.bool false)], [])) (.leaf (.ret, [.s (.bool true)], []))))
  | _, _ => none⟩

set_option maxRecDepth 100000 in
theorem r40l (pss : List (List Nat)) (n j m : Nat) : runR Try.prog [] [] .nat 7 [] Try.f40 0 S40 0 [.s (.xsl (.bss pss)), .s (.nat .i64 n), .s (.nat .i64 j), .s (.nat .i64 m), .s (.bool false)] [] =
(cond (decide (j < n))
 (nd [decide (j < pss.length), decide (j < pss.length), decide ((pss.getD j []).length < 9223372036854775808), decide (m ≤ 1048576)]
 (cond (decide (1048576 - m < (pss.getD j []).length))
 (some (Ex.ret, [AV.s (SV.bool true)], []))
 (nd [decide ((pss.getD j []).length < 9223372036854775808), decide (m + (pss.getD j []).length < 9223372036854775808), decide (j + 1 < 9223372036854775808)]
 (some (Ex.normal, [AV.s (SV.xsl (XC.bss pss)), AV.s (SV.nat IntKind.i64 n), AV.s (SV.nat IntKind.i64 (j + 1)), AV.s (SV.nat IntKind.i64 (m + (pss.getD j []).length)), AV.s (SV.bool false)], [])))))
 (some (Ex.exit 0, [AV.s (SV.bool false)], []))) := by kernel_rfl

theorem lok40 : LOk Try.prog Try.f40.ntmps (.block 0 (.loop (lb 0 Try.f40))) S40 := by
  refine lokR (fs := []) (xs := []) (m := .nat) (fuel := 7) (sums := []) EnvOk.nil mixed (loopsOk_none rfl _) ?_
  intro args hin t e vs hout h hg
  unfold S40 at h
  simp only at h
  split at h
  rotate_left
  · cases h
  rename_i pss n
  simp only [Option.some.injEq] at h
  subst h
  obtain ⟨hc, hgt⟩ := Tr.needs_get hg
  clear hg
  have e1 : n = pss.length := of_decide_eq_true (hc _ (by simp))
  subst e1
  have hl : pss.length < 9223372036854775808 := of_decide_eq_true (hc (decide (pss.length < 9223372036854775808)) (by simp))
  have hk : okLens pss = true := hc _ (by simp)
  clear hc
  obtain ⟨h1, h2, h3, h4⟩ := badAt_spec 1048576 pss 0 (Nat.zero_le _)
  simp only [Tr.get] at hgt
  have hstep : ∀ i, i < badAt 1048576 pss 0 → runR Try.prog [] [] .nat 7 [] Try.f40 0 S40 0 [.s (.xsl (.bss pss)), .s (.nat .i64 pss.length), .s (.nat .i64 i), .s (.nat .i64 (lenN pss i)), .s (.bool false)] [] =
      some (.normal, [.s (.xsl (.bss pss)), .s (.nat .i64 pss.length), .s (.nat .i64 (i + 1)), .s (.nat .i64 (lenN pss (i + 1))), .s (.bool false)], []) := fun i hi => by
    have h5 := h4 i hi
    have h6 := okLens_get hk i
    have h7 := lenN_mono pss (show i + 1 ≤ badAt 1048576 pss 0 by omega)
    rw [lenN] at h7
    rw [r40l]
    refine cond_t (decide_eq_true (by omega)) (nd_of ?_ (cond_f (decide_eq_false (by omega)) (nd_of ?_ rfl)))
    · simp only [List.mem_cons, List.not_mem_nil, or_false, forall_eq_or_imp, forall_eq, decide_eq_true_eq]; omega
    · simp only [List.mem_cons, List.not_mem_nil, or_false, forall_eq_or_imp, forall_eq, decide_eq_true_eq]; omega
  cases hb : decide (badAt 1048576 pss 0 = pss.length) with
  | true =>
    have hb' := of_decide_eq_true hb
    rw [hb, cond_true] at hgt
    cases hgt
    refine ⟨badAt 1048576 pss 0, fun i => ([.s (.xsl (.bss pss)), .s (.nat .i64 pss.length), .s (.nat .i64 i), .s (.nat .i64 (lenN pss i)), .s (.bool false)], []), .exit 0, rfl, hstep, ?_, rfl⟩
    simp only [List.length_nil]
    rw [r40l]
    exact cond_f (decide_eq_false (by omega)) rfl
  | false =>
    have hb' := of_decide_eq_false hb
    rw [hb, cond_false] at hgt
    cases hgt
    refine ⟨badAt 1048576 pss 0, fun i => ([.s (.xsl (.bss pss)), .s (.nat .i64 pss.length), .s (.nat .i64 i), .s (.nat .i64 (lenN pss i)), .s (.bool false)], []), .ret, rfl, hstep, ?_, rfl⟩
    have h7 := h3 (by omega)
    have h6 := okLens_get hk (badAt 1048576 pss 0)
    simp only [List.length_nil]
    rw [r40l]
    refine cond_t (decide_eq_true (by omega)) (nd_of ?_ (cond_t (decide_eq_true (by omega)) rfl))
    simp only [List.mem_cons, List.not_mem_nil, or_false, forall_eq_or_imp, forall_eq, decide_eq_true_eq]; omega

def lonB (pss : List (List Nat)) : Bool := decide (1048576 < lenN pss pss.length)

def F40 : FSem := ⟨true, fun args hin => match args, hin with
  | [.s (.xsl (.bss pss))], [] => some (Tr.needs [decide (pss.length < 9223372036854775808), okLens pss] (.leaf (.s (.bool (lonB pss)), [])))
  | _, _ => none⟩

theorem loops40 : LoopsOk Try.prog ⟨Try.f40.ntmps, 7, [(0, S40)]⟩ (bodyOf Try.f40) := by
  refine loopsOk_of ?_
  have e : loopsIn [(0, S40)] (bodyOf Try.f40) = [(0, .loop (lb 0 Try.f40), S40)] := by kernel_rfl
  simp only [e]
  intro x hx
  simp only [List.mem_cons, List.not_mem_nil, or_false] at hx
  rcases hx with rfl
  · exact lok40

set_option maxRecDepth 100000 in
theorem r40 (pss : List (List Nat)) : runL Try.prog [] [] .nat 7 [(0, S40)] Try.f40 [.s (.xsl (.bss pss))] [] =
    nd [decide (pss.length < 9223372036854775808), decide (pss.length = pss.length), decide (pss.length < 9223372036854775808), okLens pss]
     (cond (decide (badAt 1048576 pss 0 = pss.length)) (some (.s (.bool false), [])) (some (.s (.bool true), []))) := by kernel_rfl

theorem ok40 : FOk Try.prog 40 F40 := by
  refine fokL (fs := []) (xs := []) (m := .nat) (fuel := 7) (sums := [(0, S40)]) EnvOk.nil fn40 loops40 ?_
  intro args hin t r h hg
  unfold F40 at h
  simp only at h
  split at h
  · rename_i pss
    simp only [Option.some.injEq] at h
    subst h
    obtain ⟨hc, hgt⟩ := Tr.needs_get hg
    cases hgt
    have hl : pss.length < 9223372036854775808 := of_decide_eq_true (hc _ (by simp))
    have hk : okLens pss = true := hc (okLens pss) (by simp)
    rw [r40]
    refine nd_of ?_ ?_
    · simp only [List.mem_cons, List.not_mem_nil, or_false, forall_eq_or_imp, forall_eq, decide_eq_true_eq]
      exact ⟨hl, trivial, hl, hk⟩
    · unfold lonB
      by_cases hs : lenN pss pss.length ≤ 1048576
      · rw [decide_eq_true ((badAt_all 1048576 pss).2 hs), decide_eq_false (by omega)]
        rfl
      · rw [decide_eq_false (fun e => hs ((badAt_all 1048576 pss).1 e)), decide_eq_true (by omega)]
        rfl
  · cases h

/-! Are they the same? -/
def xorN (xs ys : List Nat) : Nat → Nat
  | 0 => 0
  | j + 1 => xorN xs ys j ||| xs.getD j 0 ^^^ ys.getD j 0

def S43 : LSem := ⟨[0, 1, 5, 13, 14], [5], fun args hin => match args, hin with
  | [.s (.xsl (.ints .u8 xs)), .s (.xsl (.ints .u8 ys)), .s (.nat .u8 0), .s (.nat .i64 n), .s (.nat .i64 0)], [] =>
    some (Tr.needs [decide (n = xs.length), decide (n < 9223372036854775808), decide (xs.length = ys.length)] (.leaf (.normal, [.s (.nat .u8 (xorN xs ys xs.length))], [])))
  | _, _ => none⟩

set_option maxRecDepth 100000 in
theorem r43l (xs ys : List Nat) (n j m : Nat) : runR Try.prog [] [] .nat 7 [] Try.f43 0 S43 0 [.s (.xsl (.ints .u8 xs)), .s (.xsl (.ints .u8 ys)), .s (.nat .u8 m), .s (.nat .i64 n), .s (.nat .i64 j)] [] =
(cond (decide (j < n))
 (nd [decide (j < xs.length), decide (j < xs.length), decide (j < ys.length), decide (j < ys.length), decide (j + 1 < 9223372036854775808)]
 (some (Ex.normal, [AV.s (SV.xsl (XC.ints IntKind.u8 xs)), AV.s (SV.xsl (XC.ints IntKind.u8 ys)), AV.s (SV.nat IntKind.u8 (m ||| xs.getD j 0 ^^^ ys.getD j 0)), AV.s (SV.nat IntKind.i64 n), AV.s (SV.nat IntKind.i64 (j + 1))], [])))
 (some (Ex.exit 0, [AV.s (SV.nat IntKind.u8 m)], []))) := by kernel_rfl

theorem lok43 : LOk Try.prog Try.f43.ntmps (.block 0 (.loop (lb 0 Try.f43))) S43 := by
  refine lokR (fs := []) (xs := []) (m := .nat) (fuel := 7) (sums := []) EnvOk.nil mixed (loopsOk_none rfl _) ?_
  intro args hin t e vs hout h hg
  unfold S43 at h
  simp only at h
  split at h
  · rename_i xs ys n
    simp only [Option.some.injEq] at h
    subst h
    obtain ⟨hc, hgt⟩ := Tr.needs_get hg
    cases hgt
    have e1 : n = xs.length := of_decide_eq_true (hc _ (by simp))
    have e2 : n < 9223372036854775808 := of_decide_eq_true (hc (decide (n < 9223372036854775808)) (by simp))
    have e3 : xs.length = ys.length := of_decide_eq_true (hc (decide (xs.length = ys.length)) (by simp))
    clear hc hg
    subst e1
    refine ⟨xs.length, fun i => ([.s (.xsl (.ints .u8 xs)), .s (.xsl (.ints .u8 ys)), .s (.nat .u8 (xorN xs ys i)), .s (.nat .i64 xs.length), .s (.nat .i64 i)], []), .exit 0, rfl, fun i hi => ?_, ?_, rfl⟩
    · simp only [List.length_nil]
      rw [r43l]
      refine cond_t (decide_eq_true hi) (nd_of ?_ rfl)
      simp only [List.mem_cons, List.not_mem_nil, or_false, forall_eq_or_imp, forall_eq, decide_eq_true_eq]; omega
    · simp only [List.length_nil]
      rw [r43l]
      exact cond_f (decide_eq_false (by omega)) rfl
  · cases h

theorem or_zero {a b : Nat} : a ||| b = 0 ↔ a = 0 ∧ b = 0 := by
  constructor
  · intro h
    exact ⟨Nat.eq_zero_of_le_zero (h ▸ Nat.left_le_or), Nat.eq_zero_of_le_zero (h ▸ Nat.right_le_or)⟩
  · rintro ⟨rfl, rfl⟩
    rfl

theorem xor_zero_iff {a b : Nat} : a ^^^ b = 0 ↔ a = b := by
  constructor
  · intro h
    have : (a ^^^ b) ^^^ b = a := by rw [Nat.xor_assoc, Nat.xor_self, Nat.xor_zero]
    rw [← this, h, Nat.zero_xor]
  · rintro rfl
    exact Nat.xor_self a

theorem xorN_zero (xs ys : List Nat) : ∀ n, xorN xs ys n = 0 ↔ ∀ i, i < n → xs.getD i 0 = ys.getD i 0
  | 0 => ⟨fun _ i hi => by omega, fun _ => rfl⟩
  | n + 1 => by
    rw [xorN, or_zero, xorN_zero xs ys n, xor_zero_iff]
    constructor
    · rintro ⟨h1, h2⟩ i hi
      by_cases e : i = n
      · subst e; exact h2
      · exact h1 i (by omega)
    · intro h
      exact ⟨fun i hi => h i (by omega), h n (by omega)⟩

theorem list_getD {k l : List Nat} (hl : k.length = l.length) : (∀ i, i < k.length → k.getD i 0 = l.getD i 0) ↔ k = l := by
  constructor
  · intro h
    apply List.ext_getElem?
    intro i
    by_cases hi : i < k.length
    · have := h i hi
      rw [List.getD, List.getD, List.getElem?_eq_getElem hi, List.getElem?_eq_getElem (by omega)] at this
      rw [List.getElem?_eq_getElem hi, List.getElem?_eq_getElem (by omega)]
      exact congrArg some this
    · rw [List.getElem?_eq_none (by omega), List.getElem?_eq_none (by omega)]
  · rintro rfl i _
    rfl

def F43 : FSem := ⟨true, fun args hin => match args, hin with
  | [.s (.xsl (.ints .u8 xs)), .s (.xsl (.ints .u8 ys))], [] => some (Tr.needs [decide (xs.length < 9223372036854775808), decide (ys.length < 9223372036854775808)] (.leaf (.s (.bool (decide (xs = ys))), [])))
  | _, _ => none⟩

theorem loops43 : LoopsOk Try.prog ⟨Try.f43.ntmps, 7, [(0, S43)]⟩ (bodyOf Try.f43) := by
  refine loopsOk_of ?_
  have e : loopsIn [(0, S43)] (bodyOf Try.f43) = [(0, .loop (lb 0 Try.f43), S43)] := by kernel_rfl
  simp only [e]
  intro x hx
  simp only [List.mem_cons, List.not_mem_nil, or_false] at hx
  rcases hx with rfl
  · exact lok43

set_option maxRecDepth 100000 in
theorem r43 (xs ys : List Nat) : runL Try.prog [] [] .nat 7 [(0, S43)] Try.f43 [.s (.xsl (.ints .u8 xs)), .s (.xsl (.ints .u8 ys))] [] =
    nd [decide (xs.length < 9223372036854775808), decide (ys.length < 9223372036854775808)]
     (cond (!decide (xs.length = ys.length)) (some (.s (.bool false), []))
      (nd [decide (xs.length < 9223372036854775808), decide (xs.length = xs.length), decide (xs.length < 9223372036854775808), decide (xs.length = ys.length)]
       (some (.s (.bool (decide (xorN xs ys xs.length = 0))), [])))) := by kernel_rfl

theorem ok43 : FOk Try.prog 43 F43 := by
  refine fokL (fs := []) (xs := []) (m := .nat) (fuel := 7) (sums := [(0, S43)]) EnvOk.nil fn43 loops43 ?_
  intro args hin t r h hg
  unfold F43 at h
  simp only at h
  split at h
  · rename_i xs ys
    simp only [Option.some.injEq] at h
    subst h
    obtain ⟨hc, hgt⟩ := Tr.needs_get hg
    cases hgt
    have h1 : xs.length < 9223372036854775808 := of_decide_eq_true (hc _ (by simp))
    have h2 : ys.length < 9223372036854775808 := of_decide_eq_true (hc (decide (ys.length < 9223372036854775808)) (by simp))
    rw [r43]
    refine nd_of ?_ ?_
    · simp only [List.mem_cons, List.not_mem_nil, or_false, forall_eq_or_imp, forall_eq, decide_eq_true_eq]
      exact ⟨h1, h2⟩
    · by_cases hl : xs.length = ys.length
      · refine cond_f (by rw [decide_eq_true hl]; rfl) (nd_of ?_ ?_)
        · simp only [List.mem_cons, List.not_mem_nil, or_false, forall_eq_or_imp, forall_eq, decide_eq_true_eq]
          exact ⟨h1, trivial, h1, hl⟩
        · rw [decide_eq_decide.2 ((xorN_zero xs ys xs.length).trans (list_getD hl))]
      · refine cond_t (by rw [decide_eq_false hl]; rfl) ?_
        rw [decide_eq_false (fun e => hl (by rw [e]))]
  · cases h

end Go.Proofs.Ytgebgjhjegadpaa

namespace Go.Proofs.Ytgebgjhjegadpaa
open Go

theorem fn8 : Fn Try.prog 8 Try.f8 := ⟨mixedP, Try.func8, by kernel_rfl, of_decide_eq_true (by kernel_rfl)⟩

set_option maxRecDepth 100000 in
theorem r8 (key xs : List Nat) : runB Try.prog [(24, F24), (25, F25), (26, F26)] [] .nat 3 Try.f8 [.agg [.ints .u8 32 key], .s (.xsl (.ints .u8 xs))] [] =
(nd [decide (xs.length < 9223372036854775808), decide (min xs.length 400 < 9223372036854775808), decide (min xs.length 400 ≤ xs.length), ok41 [List.take (min xs.length 400) xs], okKey key, okKey key, allB 256 (List.take (min xs.length 400) xs), decide ((List.take (min xs.length 400) xs).length < 4611686018427387904)]
 (some (AV.s (SV.bool (decide (tagC key [List.take (min xs.length 400) xs] = tagR key (List.take (min xs.length 400) xs)))), []))) := by kernel_rfl

theorem okKey_of {key : List Nat} (h : ∀ x ∈ key, x < 256) : okKey key = true := List.all_eq_true.2 fun x hx => decide_eq_true (h x hx)
theorem allB_mem {B : Nat} {xs : List Nat} (h : ∀ x ∈ xs, x < B) : allB B xs = true := List.all_eq_true.2 fun x hx => decide_eq_true (h x hx)

theorem ctr8 {key xs : List Nat} (hl : key.length = 32) (hk : ∀ x ∈ key, x < 256) (h : xs.length < 9223372036854775808) (hx : ∀ x ∈ xs, x < 256) : Ctr Try.prog 8 [.agg [.ints .u8 32 key], .s (.xsl (.ints .u8 xs))] [] (.s (.bool true)) [] := by
  refine ctrB (fs := [(24, F24), (25, F25), (26, F26)]) (xs := []) (m := .nat) (fuel := 3) (.cons ok24 (.cons ok25 (.cons ok26 .nil))) fn8 ?_
  have hy : (xs.take (min xs.length 400)).length ≤ 400 := by simp; omega
  have hb : allB 256 (xs.take (min xs.length 400)) = true := allB_mem fun x hm => hx x (List.mem_of_mem_take hm)
  rw [r8, tagC_one, tag_eq hl (okKey_of hk) hb]
  refine nd_of ?_ ?_
  · simp only [List.mem_cons, List.not_mem_nil, or_false, forall_eq_or_imp, forall_eq, decide_eq_true_eq]
    exact ⟨h, by omega, by omega, by simp only [ok41, List.all_cons, List.all_nil, Bool.and_true, decide_eq_true_eq]; omega, okKey_of hk, okKey_of hk, hb, by omega⟩
  · simp

end Go.Proofs.Ytgebgjhjegadpaa

namespace Go.Proofs.Ytgebgjhjegadpaa
open Go

theorem fn41 : Fn Try.prog 41 Try.f41 := ⟨mixed, Try.func41, by kernel_rfl, of_decide_eq_true (by kernel_rfl)⟩

def S41 : LSem := ⟨[17, 18, 19, 8], [8], fun args hin => match args, hin with
  | [.s (.xsl (.bss pss)), .s (.nat .i64 n), .s (.nat .i64 0), .s .nil], [] =>
    some (Tr.needs [decide (n = pss.length), decide (n < 9223372036854775808), decide (lenN pss pss.length ≤ 4398046511104)]
      (.br (decide (pss.length = 0)) (.leaf (.normal, [.s .nil], [])) (.leaf (.normal, [.s (.sl .whole 0 0 (lenN pss pss.length) 1)], [some [.ints .u8 (lenN pss pss.length) (catN pss pss.length)]]))))
  | _, _ => none⟩

set_option maxRecDepth 100000 in
theorem r41a (pss : List (List Nat)) (n : Nat) : runR Try.prog [] [] .nat 7 [] Try.f41 0 S41 0 [.s (.xsl (.bss pss)), .s (.nat .i64 n), .s (.nat .i64 0), .s .nil] [] =
    cond (decide (0 < n)) (nd [decide (0 < pss.length), decide (0 < pss.length), decide ((pss.getD 0 []).length ≤ 4398046511104)]
      (some (.normal, [.s (.xsl (.bss pss)), .s (.nat .i64 n), .s (.nat .i64 (0 + 1)), .s (.sl .whole 0 0 (pss.getD 0 []).length 1)], [some [.ints .u8 (pss.getD 0 []).length (pss.getD 0 [])]])))
      (some (.exit 0, [.s .nil], [])) := by kernel_rfl

set_option maxRecDepth 100000 in
theorem r41b (pss : List (List Nat)) (n j l : Nat) (xs : List Nat) : runR Try.prog [] [] .nat 7 [] Try.f41 0 S41 0 [.s (.xsl (.bss pss)), .s (.nat .i64 n), .s (.nat .i64 j), .s (.sl .whole 0 0 l 1)] [some [.ints .u8 l xs]] =
    cond (decide (j < n)) (nd [decide (j < pss.length), decide (j < pss.length), decide (l = l), decide (l + (pss.getD j []).length ≤ 4398046511104), decide (j + 1 < 9223372036854775808)]
      (some (.normal, [.s (.xsl (.bss pss)), .s (.nat .i64 n), .s (.nat .i64 (j + 1)), .s (.sl .whole 0 0 (l + (pss.getD j []).length) 1)], [some [.ints .u8 (l + (pss.getD j []).length) (xs ++ pss.getD j [])]])))
      (some (.exit 0, [.s (.sl .whole 0 0 l 1)], [some [.ints .u8 l xs]])) := by kernel_rfl

def A41 (pss : List (List Nat)) : Nat → List AV × List (Option Blk)
  | 0 => ([.s (.xsl (.bss pss)), .s (.nat .i64 pss.length), .s (.nat .i64 0), .s .nil], [])
  | i + 1 => ([.s (.xsl (.bss pss)), .s (.nat .i64 pss.length), .s (.nat .i64 (i + 1)), .s (.sl .whole 0 0 (lenN pss (i + 1)) 1)], [some [.ints .u8 (lenN pss (i + 1)) (catN pss (i + 1))]])

theorem lok41 : LOk Try.prog Try.f41.ntmps (.block 0 (.loop (lb 0 Try.f41))) S41 := by
  refine lokR (fs := []) (xs := []) (m := .nat) (fuel := 7) (sums := []) EnvOk.nil mixed (loopsOk_none rfl _) ?_
  intro args hin t e vs hout h hg
  unfold S41 at h
  simp only at h
  split at h
  rotate_left
  · cases h
  rename_i pss n
  simp only [Option.some.injEq] at h
  subst h
  obtain ⟨hc, hgt⟩ := Tr.needs_get hg
  clear hg
  have e1 : n = pss.length := of_decide_eq_true (hc _ (by simp))
  subst e1
  have hl : pss.length < 9223372036854775808 := of_decide_eq_true (hc (decide (pss.length < 9223372036854775808)) (by simp))
  have hk : lenN pss pss.length ≤ 4398046511104 := of_decide_eq_true (hc (decide (lenN pss pss.length ≤ 4398046511104)) (by simp))
  clear hc
  simp only [Tr.get] at hgt
  have hstep : ∀ i, i < pss.length → runR Try.prog [] [] .nat 7 [] Try.f41 0 S41 0 (A41 pss i).1 (A41 pss i).2 = some (.normal, A41 pss (i + 1)) := fun i hi => by
    have hm := lenN_mono' pss (show i + 1 ≤ pss.length by omega)
    rw [lenN] at hm
    cases i with
    | zero =>
      simp only [A41]
      rw [r41a]
      refine cond_t (decide_eq_true hi) (nd_of ?_ ?_)
      · simp only [lenN] at hm
        simp only [List.mem_cons, List.not_mem_nil, or_false, forall_eq_or_imp, forall_eq, decide_eq_true_eq]
        exact ⟨hi, hi, by omega⟩
      · simp only [lenN, catN, Nat.zero_add, List.nil_append]
    | succ i =>
      simp only [A41]
      rw [r41b]
      refine cond_t (decide_eq_true hi) (nd_of ?_ rfl)
      simp only [List.mem_cons, List.not_mem_nil, or_false, forall_eq_or_imp, forall_eq, decide_eq_true_eq]
      exact ⟨hi, hi, trivial, by omega, by omega⟩
  cases hz : decide (pss.length = 0) with
  | true =>
    have hz' := of_decide_eq_true hz
    rw [hz, cond_true] at hgt
    cases hgt
    refine ⟨pss.length, A41 pss, .exit 0, rfl, hstep, ?_, rfl⟩
    rw [hz']
    simp only [A41, List.length_nil]
    rw [r41a]
    exact cond_f (decide_eq_false (by omega)) rfl
  | false =>
    have hz' := of_decide_eq_false hz
    rw [hz, cond_false] at hgt
    cases hgt
    refine ⟨pss.length, A41 pss, .exit 0, rfl, hstep, ?_, rfl⟩
    obtain ⟨m, hm⟩ : ∃ m, pss.length = m + 1 := ⟨pss.length - 1, by omega⟩
    have e : ∀ q, q = m + 1 → A41 pss q = ([.s (.xsl (.bss pss)), .s (.nat .i64 pss.length), .s (.nat .i64 q), .s (.sl .whole 0 0 (lenN pss q) 1)], [some [.ints .u8 (lenN pss q) (catN pss q)]]) := by
      rintro q rfl
      rfl
    have := e _ hm
    simp only [List.length_nil]
    rw [this]
    show runR Try.prog [] [] .nat 7 [] Try.f41 0 S41 0 _ _ = _
    rw [r41b]
    exact cond_f (decide_eq_false (by omega)) rfl

theorem loops41 : LoopsOk Try.prog ⟨Try.f41.ntmps, 7, [(0, S41)]⟩ (bodyOf Try.f41) := by
  refine loopsOk_of ?_
  have e : loopsIn [(0, S41)] (bodyOf Try.f41) = [(0, .loop (lb 0 Try.f41), S41)] := by kernel_rfl
  simp only [e]
  intro x hx
  simp only [List.mem_cons, List.not_mem_nil, or_false] at hx
  rcases hx with rfl
  · exact lok41


def S41o (o : OpsA) : LSem := ⟨[17, 18, 19, 8], [8], fun args hin => match args, hin with
  | [.s (.xsl (.bss pss)), .s (.nat .i64 n), .s (.nat .i64 0), .s .nil], [] =>
    some (Tr.needs [decide (n = pss.length), decide (n < 9223372036854775808), decide (o.len pss pss.length ≤ 4398046511104)]
      (.br (decide (pss.length = 0)) (.leaf (.normal, [.s .nil], [])) (.leaf (.normal, [.s (.sl .whole 0 0 (o.len pss pss.length) 1)], [some [.ints .u8 (o.len pss pss.length) (o.cat pss pss.length)]]))))
  | _, _ => none⟩
theorem s41o_eq : S41o opsA = S41 := by kernel_rfl

set_option maxRecDepth 100000 in
theorem r41 (o : OpsA) (key nonce xs : List Nat) (pss : List (List Nat)) : runL Try.prog [(20, Z20 o), (25, Z25 o), (47, F47), (48, F48)] [] .nat 7 [(0, S41o o)] Try.f41 [.agg [.ints .u8 32 key, .ints .u8 12 nonce], .s (.xsl (.ints .u8 xs)), .s (.xsl (.bss pss))] [] =
(nd [decide (pss.length < 9223372036854775808), decide (pss.length = pss.length), decide (pss.length < 9223372036854775808), decide (o.len pss pss.length ≤ 4398046511104)]
 (cond (decide (pss.length = 0))
 (nd [decide (xs.length < 9223372036854775808), decide (xs.length < 9223372036854775808), decide (filN xs.length = filN xs.length), o.ok41 [[], List.replicate (filN 0) 0, xs, List.replicate (filN xs.length) 0, cnt8 0, cnt8 xs.length], o.okK (List.take 32 (o.blk key nonce 0))]
 (some (AV.agg [Ch.ints IntKind.u8 16 (o.tag (List.take 32 (o.blk key nonce 0)) [[], List.replicate (filN 0) 0, xs, List.replicate (filN xs.length) 0, cnt8 0, cnt8 xs.length])], [])))
 (nd [decide (o.len pss pss.length < 9223372036854775808), decide (xs.length < 9223372036854775808), decide (xs.length < 9223372036854775808), decide (o.len pss pss.length = o.len pss pss.length), decide (filN (o.len pss pss.length) = filN (o.len pss pss.length)), decide (filN xs.length = filN xs.length), o.ok41 [o.cat pss pss.length, List.replicate (filN (o.len pss pss.length)) 0, xs, List.replicate (filN xs.length) 0, cnt8 (o.len pss pss.length), cnt8 xs.length], o.okK (List.take 32 (o.blk key nonce 0))]
 (some (AV.agg [Ch.ints IntKind.u8 16 (o.tag (List.take 32 (o.blk key nonce 0)) [o.cat pss pss.length, List.replicate (filN (o.len pss pss.length)) 0, xs, List.replicate (filN xs.length) 0, cnt8 (o.len pss pss.length), cnt8 xs.length])], []))))) := by kernel_rfl

/-- The parts of which the sum is. -/
def macP (xs bd : List Nat) : List (List Nat) := [bd, List.replicate (filN bd.length) 0, xs, List.replicate (filN xs.length) 0, cnt8 bd.length, cnt8 xs.length]
def macT (key nonce xs bd : List Nat) : List Nat := tagC (List.take 32 (blk key nonce 0)) (macP xs bd)

theorem upto_mem {f : Nat → Nat} {B : Nat} (hf : ∀ i, f i < B) : ∀ n i, ∀ x ∈ upto f n i, x < B
  | 0, _, x, hx => by cases hx
  | n + 1, i, x, hx => by
    rcases List.mem_cons.1 hx with rfl | h
    · exact hf i
    · exact upto_mem hf n (i + 1) x h

theorem upto_len (f : Nat → Nat) : ∀ n i, (upto f n i).length = n
  | 0, _ => rfl
  | n + 1, i => by rw [upto, List.length_cons, upto_len f n (i + 1)]

theorem outB_mem (x s : List Nat) : ∀ y ∈ outB x s, y < 256 := upto_mem (fun i => Nat.mod_lt _ (by decide)) 64 0
theorem outB_len (x s : List Nat) : (outB x s).length = 64 := upto_len _ 64 0
theorem blk_mem (key nonce : List Nat) (n : Nat) : ∀ x ∈ blk key nonce n, x < 256 := outB_mem _ _
theorem blk_len (key nonce : List Nat) (n : Nat) : (blk key nonce n).length = 64 := outB_len _ _

theorem once_ok (key nonce : List Nat) : okKey (List.take 32 (blk key nonce 0)) = true := okKey_of fun x hx => blk_mem key nonce 0 x (List.mem_of_mem_take hx)
theorem once_len (key nonce : List Nat) : (List.take 32 (blk key nonce 0)).length = 32 := by rw [List.length_take, blk_len]; rfl

theorem macP_ok {xs bd : List Nat} (h1 : xs.length ≤ 2199023255552) (h2 : bd.length ≤ 2199023255552) : ok41 (macP xs bd) = true := by
  have f : ∀ n, filN n ≤ 2199023255552 := fun n => Nat.le_trans (Nat.le_of_lt (Nat.mod_lt _ (by decide))) (by decide : 16 ≤ 2199023255552)
  simp only [ok41, macP, List.all_cons, List.all_nil, Bool.and_true, Bool.and_eq_true, decide_eq_true_eq, List.length_replicate]
  exact ⟨h2, f _, h1, f _, show 8 ≤ 2199023255552 by decide, show 8 ≤ 2199023255552 by decide⟩

def F41 : FSem := ⟨true, fun args hin => match args, hin with
  | [.agg [.ints .u8 32 key, .ints .u8 12 nonce], .s (.xsl (.ints .u8 xs)), .s (.xsl (.bss pss))], [] =>
    some (Tr.needs [decide (pss.length < 9223372036854775808), decide (lenN pss pss.length ≤ 2199023255552), decide (xs.length ≤ 2199023255552)] (.leaf (.agg [.ints .u8 16 (macT key nonce xs (catN pss pss.length))], [])))
  | _, _ => none⟩

theorem ok41f : FOk Try.prog 41 F41 := by
  have hlo := loops41
  rw [← s41o_eq] at hlo
  refine fokL (fs := [(20, Z20 opsA), (25, Z25 opsA), (47, F47), (48, F48)]) (xs := []) (m := .nat) (fuel := 7) (sums := [(0, S41o opsA)]) (.cons aa20 (.cons aa25 (.cons ok47 (.cons ok48 .nil)))) fn41 hlo ?_
  intro args hin t r h hg
  unfold F41 at h
  simp only at h
  split at h
  · rename_i key nonce xs pss
    simp only [Option.some.injEq] at h
    subst h
    obtain ⟨hc, hgt⟩ := Tr.needs_get hg
    cases hgt
    simp only [List.mem_cons, List.not_mem_nil, or_false, forall_eq_or_imp, forall_eq, decide_eq_true_eq] at hc
    obtain ⟨h1, h2, h3⟩ := hc
    have hcl := catN_len pss pss.length
    have hm := macP_ok (xs := xs) (bd := catN pss pss.length) h3 (by rw [hcl]; exact h2)
    have hk := once_ok key nonce
    rw [r41, opsA_len, opsA_cat, opsA_tag, opsA_ok41, opsA_okK, opsA_blk]
    unfold macT
    unfold macP at hm ⊢
    rw [hcl] at hm ⊢
    refine nd_of ?_ ?_
    · simp only [List.mem_cons, List.not_mem_nil, or_false, forall_eq_or_imp, forall_eq, decide_eq_true_eq]
      exact ⟨h1, trivial, h1, by omega⟩
    · by_cases hz : pss.length = 0
      · have e0 : catN pss pss.length = [] := by rw [hz]; rfl
        have e1 : lenN pss pss.length = 0 := by rw [hz]; rfl
        rw [e0, e1] at hm ⊢
        refine cond_t (decide_eq_true hz) (nd_of ?_ rfl)
        simp only [List.mem_cons, List.not_mem_nil, or_false, forall_eq_or_imp, forall_eq, decide_eq_true_eq]
        exact ⟨by omega, by omega, trivial, hm, hk⟩
      · refine cond_f (decide_eq_false hz) (nd_of ?_ rfl)
        simp only [List.mem_cons, List.not_mem_nil, or_false, forall_eq_or_imp, forall_eq, decide_eq_true_eq]
        exact ⟨by omega, by omega, by omega, trivial, trivial, trivial, hm, hk⟩
  · cases h

/-- With the sum left open. -/
structure OpsB extends OpsA where
  mac : List Nat → List Nat → List Nat → List Nat → List Nat
  lon : List (List Nat) → Bool
def opsB : OpsB := { toOpsA := opsA, mac := macT, lon := lonB }
theorem opsB_ops : opsB.toOpsA = opsA := by kernel_rfl
theorem opsB_mac : opsB.mac = macT := by kernel_rfl
theorem opsB_lon : opsB.lon = lonB := by kernel_rfl

def Z40 (o : OpsB) : FSem := ⟨true, fun args hin => match args, hin with
  | [.s (.xsl (.bss pss))], [] => some (Tr.needs [decide (pss.length < 9223372036854775808), o.okL pss] (.leaf (.s (.bool (o.lon pss)), [])))
  | _, _ => none⟩
theorem zz40 : FOk Try.prog 40 (Z40 opsB) := by
  have e : Z40 opsB = F40 := by kernel_rfl
  rw [e]
  exact ok40

def Z41 (o : OpsB) : FSem := ⟨true, fun args hin => match args, hin with
  | [.agg [.ints .u8 32 key, .ints .u8 12 nonce], .s (.xsl (.ints .u8 xs)), .s (.xsl (.bss pss))], [] =>
    some (Tr.needs [decide (pss.length < 9223372036854775808), decide (o.len pss pss.length ≤ 2199023255552), decide (xs.length ≤ 2199023255552)] (.leaf (.agg [.ints .u8 16 (o.mac key nonce xs (o.cat pss pss.length))], [])))
  | _, _ => none⟩
theorem zz41 : FOk Try.prog 41 (Z41 opsB) := by
  have e : Z41 opsB = F41 := by kernel_rfl
  rw [e]
  exact ok41f

theorem zz22 : FOk Try.prog 22 (Z22 opsA) := by
  have e : Z22 opsA = F22 := by kernel_rfl
  rw [e]
  exact ok22

def Z43 (o : OpsA) : FSem := ⟨true, fun args hin => match args, hin with
  | [.s (.xsl (.ints .u8 xs)), .s (.xsl (.ints .u8 ys))], [] => some (Tr.needs [decide (xs.length < 9223372036854775808), decide (ys.length < 9223372036854775808)] (.leaf (.s (.bool (o.eq xs ys)), [])))
  | _, _ => none⟩
theorem zz43 : FOk Try.prog 43 (Z43 opsA) := by
  have e : Z43 opsA = F43 := by kernel_rfl
  rw [e]
  exact ok43

def envB (o : OpsB) : List (Nat × FSem) := [(40, Z40 o), (41, Z41 o), (22, Z22 o.toOpsA), (43, Z43 o.toOpsA), (20, Z20 o.toOpsA)]
theorem envB_ok : EnvOk ⟨Try.prog, envB opsB, []⟩ := .cons zz40 (.cons zz41 (.cons zz22 (.cons zz43 (.cons aa20 .nil))))

theorem fn28 : Fn Try.prog 28 Try.f28 := ⟨mixed, Try.func28, by kernel_rfl, of_decide_eq_true (by kernel_rfl)⟩
theorem fn30 : Fn Try.prog 30 Try.f30 := ⟨mixed, Try.func30, by kernel_rfl, of_decide_eq_true (by kernel_rfl)⟩

end Go.Proofs.Ytgebgjhjegadpaa

namespace Go.Proofs.Ytgebgjhjegadpaa
open Go

set_option maxRecDepth 100000 in
theorem r28 (o : OpsB) (key nonce xs : List Nat) (pss : List (List Nat)) : runB Try.prog (envB o) [] .nat 7 Try.f28 [.agg [.ints .u8 32 key, .ints .u8 12 nonce], .s (.xsl (.ints .u8 xs)), .s (.xsl (.bss pss))] [] =
(nd [decide (xs.length < 9223372036854775808)]
 (cond (decide (1048576 < xs.length))
 (some (AV.tup [AV.s SV.nil, AV.s (SV.nat IntKind.i64 2)], []))
 (nd [decide (pss.length < 9223372036854775808), o.okL pss]
 (cond (o.lon pss)
 (some (AV.tup [AV.s SV.nil, AV.s (SV.nat IntKind.i64 2)], []))
 (nd [o.okL [xs]]
 (cond (decide (o.len [xs] 1 ≤ 16777216))
 (nd [decide (o.len [xs] 1 = o.len [xs] 1), decide (pss.length < 9223372036854775808), decide (o.len pss pss.length ≤ 2199023255552), decide ((o.mix key nonce 1 (o.cat [xs] 1) (o.len [xs] 1)).length ≤ 2199023255552), decide (o.len [xs] 1 = o.len [xs] 1), decide (o.len [xs] 1 + 16 ≤ 4398046511104)]
 (some (AV.tup [AV.s (SV.sl LK.whole 0 0 (o.len [xs] 1 + 16) 1), AV.s (SV.nat IntKind.i64 0)], [some [Ch.ints IntKind.u8 (o.len [xs] 1 + 16) (o.mix key nonce 1 (o.cat [xs] 1) (o.len [xs] 1) ++ o.mac key nonce (o.mix key nonce 1 (o.cat [xs] 1) (o.len [xs] 1)) (o.cat pss pss.length))]])))
 (some (AV.tup [AV.s SV.nil, AV.s (SV.nat IntKind.i64 2)], [])))))))) := by kernel_rfl

set_option maxRecDepth 100000 in
theorem r30 (o : OpsB) (key nonce xs : List Nat) (pss : List (List Nat)) : runB Try.prog (envB o) [] .nat 7 Try.f30 [.agg [.ints .u8 32 key, .ints .u8 12 nonce], .s (.xsl (.ints .u8 xs)), .s (.xsl (.bss pss))] [] =
(nd [decide (xs.length < 9223372036854775808), decide (16 ≤ xs.length)]
 (cond (decide (1048576 < xs.length - 16))
 (some (AV.tup [AV.s SV.nil, AV.s (SV.nat IntKind.i64 2)], []))
 (nd [decide (pss.length < 9223372036854775808), o.okL pss]
 (cond (o.lon pss)
 (some (AV.tup [AV.s SV.nil, AV.s (SV.nat IntKind.i64 2)], []))
 (nd [decide (xs.length - 16 ≤ xs.length), decide (pss.length < 9223372036854775808), decide (o.len pss pss.length ≤ 2199023255552), decide ((List.take (xs.length - 16) xs).length ≤ 2199023255552), decide (xs.length - 16 ≤ xs.length), decide ((o.mac key nonce (List.take (xs.length - 16) xs) (o.cat pss pss.length)).length < 9223372036854775808), decide ((List.drop (xs.length - 16) xs).length < 9223372036854775808)]
 (cond (!o.eq (o.mac key nonce (List.take (xs.length - 16) xs) (o.cat pss pss.length)) (List.drop (xs.length - 16) xs))
 (some (AV.tup [AV.s SV.nil, AV.s (SV.nat IntKind.i64 100)], []))
 (nd [decide (xs.length - 16 ≤ xs.length), o.okL [List.take (xs.length - 16) xs]]
 (cond (decide (o.len [List.take (xs.length - 16) xs] 1 ≤ 16777216))
 (some (AV.tup [AV.s (SV.sl LK.whole 0 0 (o.len [List.take (xs.length - 16) xs] 1) 1), AV.s (SV.nat IntKind.i64 0)], [some [Ch.ints IntKind.u8 (o.len [List.take (xs.length - 16) xs] 1) (o.mix key nonce 1 (o.cat [List.take (xs.length - 16) xs] 1) (o.len [List.take (xs.length - 16) xs] 1))]]))
 (some (AV.tup [AV.s SV.nil, AV.s (SV.nat IntKind.i64 2)], [])))))))))) := by kernel_rfl

set_option maxRecDepth 100000 in
theorem r30i (o : OpsB) (key nonce xs : List Nat) (pss : List (List Nat)) : runB Try.prog (envB o) [] .int 7 Try.f30 [.agg [.ints .u8 32 key, .ints .u8 12 nonce], .s (.xsl (.ints .u8 xs)), .s (.xsl (.bss pss))] [] =
(nd [decide (xs.length < 9223372036854775808)]
 (cond (decide (Int.ofNat 1048576 < Int.ofNat xs.length - Int.ofNat 16))
 (some (AV.tup [AV.s SV.nil, AV.s (SV.nat IntKind.i64 2)], []))
 (nd [decide (pss.length < 9223372036854775808), o.okL pss]
 (cond (o.lon pss)
 (some (AV.tup [AV.s SV.nil, AV.s (SV.nat IntKind.i64 2)], []))
 (cond (decide (Int.ofNat xs.length - Int.ofNat 16 < Int.ofNat 0))
 (some (AV.tup [AV.s SV.nil, AV.s (SV.nat IntKind.i64 111)], []))
 (nd [decide (Int.ofNat 0 ≤ Int.ofNat xs.length - Int.ofNat 16), decide ((Int.ofNat xs.length - Int.ofNat 16).toNat ≤ xs.length), decide (pss.length < 9223372036854775808), decide (o.len pss pss.length ≤ 2199023255552), decide ((List.take (Int.ofNat xs.length - Int.ofNat 16).toNat xs).length ≤ 2199023255552), decide (Int.ofNat 0 ≤ Int.ofNat xs.length - Int.ofNat 16), decide ((Int.ofNat xs.length - Int.ofNat 16).toNat ≤ xs.length), decide ((o.mac key nonce (List.take (Int.ofNat xs.length - Int.ofNat 16).toNat xs) (o.cat pss pss.length)).length < 9223372036854775808), decide ((List.drop (Int.ofNat xs.length - Int.ofNat 16).toNat xs).length < 9223372036854775808)]
 (cond (!o.eq (o.mac key nonce (List.take (Int.ofNat xs.length - Int.ofNat 16).toNat xs) (o.cat pss pss.length)) (List.drop (Int.ofNat xs.length - Int.ofNat 16).toNat xs))
 (some (AV.tup [AV.s SV.nil, AV.s (SV.nat IntKind.i64 100)], []))
 (nd [decide (Int.ofNat 0 ≤ Int.ofNat xs.length - Int.ofNat 16), decide ((Int.ofNat xs.length - Int.ofNat 16).toNat ≤ xs.length), o.okL [List.take (Int.ofNat xs.length - Int.ofNat 16).toNat xs]]
 (cond (decide (o.len [List.take (Int.ofNat xs.length - Int.ofNat 16).toNat xs] 1 ≤ 16777216))
 (some (AV.tup [AV.s (SV.sl LK.whole 0 0 (o.len [List.take (Int.ofNat xs.length - Int.ofNat 16).toNat xs] 1) 1), AV.s (SV.nat IntKind.i64 0)], [some [Ch.ints IntKind.u8 (o.len [List.take (Int.ofNat xs.length - Int.ofNat 16).toNat xs] 1) (o.mix key nonce 1 (o.cat [List.take (Int.ofNat xs.length - Int.ofNat 16).toNat xs] 1) (o.len [List.take (Int.ofNat xs.length - Int.ofNat 16).toNat xs] 1))]]))
 (some (AV.tup [AV.s SV.nil, AV.s (SV.nat IntKind.i64 2)], []))))))))))) := by kernel_rfl

def mxT (key nonce xs : List Nat) : List Nat := mixC key nonce 1 xs xs.length
def slT (key nonce xs bd : List Nat) : List Nat := mxT key nonce xs ++ macT key nonce (mxT key nonce xs) bd

theorem mxT_len (key nonce xs : List Nat) : (mxT key nonce xs).length = xs.length := mixC_len _ _ _ _ _

theorem catN_1 (xs : List Nat) : catN [xs] 1 = xs := by simp [catN]
theorem lenN_1 (xs : List Nat) : lenN [xs] 1 = xs.length := by simp [lenN]

def F28 : FSem := ⟨true, fun args hin => match args, hin with
  | [.agg [.ints .u8 32 key, .ints .u8 12 nonce], .s (.xsl (.ints .u8 xs)), .s (.xsl (.bss pss))], [] =>
    some (Tr.needs [decide (xs.length < 9223372036854775808), decide (pss.length < 9223372036854775808), okLens pss]
      (.br (decide (1048576 < xs.length) || lonB pss) (.leaf (.tup [.s .nil, .s (.nat .i64 2)], []))
        (.leaf (.tup [.s (.sl .whole 0 0 (xs.length + 16) 1), .s (.nat .i64 0)], [some [.ints .u8 (xs.length + 16) (slT key nonce xs (catN pss pss.length))]]))))
  | _, _ => none⟩

theorem or_f {a b : Bool} (h : (a || b) = false) : a = false ∧ b = false := by
  cases a <;> cases b <;> simp_all

theorem lonB_f {pss : List (List Nat)} (h : lonB pss = false) : lenN pss pss.length ≤ 1048576 := by
  have := of_decide_eq_false h
  omega

theorem okL_1 {xs : List Nat} (h : xs.length < 9223372036854775808) : okLens [xs] = true := by
  simp only [okLens, List.all_cons, List.all_nil, Bool.and_true]
  exact decide_eq_true h

theorem ok28 : FOk Try.prog 28 F28 := by
  refine fokB (fs := envB opsB) (xs := []) (m := .nat) (fuel := 7) envB_ok fn28 ?_
  intro args hin t r h hg
  unfold F28 at h
  simp only at h
  split at h
  · rename_i key nonce xs pss
    simp only [Option.some.injEq] at h
    subst h
    obtain ⟨hc, hgt⟩ := Tr.needs_get hg
    simp only [List.mem_cons, List.not_mem_nil, or_false, forall_eq_or_imp, forall_eq, decide_eq_true_eq] at hc
    obtain ⟨h1, h2, h3⟩ := hc
    simp only [Tr.get] at hgt
    rw [r28, opsB_ops, opsB_mac, opsB_lon, opsA_okL, opsA_len, opsA_mix, opsA_cat, catN_1, lenN_1]
    have hx := okL_1 h1
    rw [show mixC key nonce 1 xs xs.length = mxT key nonce xs from rfl]
    have hml := mxT_len key nonce xs
    refine nd_of (by simpa using h1) ?_
    cases hb : (decide (1048576 < xs.length) || lonB pss) with
    | true =>
      rw [hb, cond_true] at hgt
      cases hgt
      by_cases hl : 1048576 < xs.length
      · exact cond_t (decide_eq_true hl) rfl
      · have hlon : lonB pss = true := by rwa [decide_eq_false hl, Bool.false_or] at hb
        refine cond_f (decide_eq_false hl) (nd_of ?_ (cond_t hlon rfl))
        simp only [List.mem_cons, List.not_mem_nil, or_false, forall_eq_or_imp, forall_eq, decide_eq_true_eq]
        exact ⟨h2, h3⟩
    | false =>
      rw [hb, cond_false] at hgt
      cases hgt
      obtain ⟨g1, g2⟩ := or_f hb
      have g1 := of_decide_eq_false g1
      have g3 := lonB_f g2
      refine cond_f (decide_eq_false g1) (nd_of ?_ (cond_f g2 (nd_of ?_ (cond_t (decide_eq_true (by omega)) (nd_of ?_ rfl)))))
      · simp only [List.mem_cons, List.not_mem_nil, or_false, forall_eq_or_imp, forall_eq, decide_eq_true_eq]
        exact ⟨h2, h3⟩
      · simpa using hx
      · simp only [List.mem_cons, List.not_mem_nil, or_false, forall_eq_or_imp, forall_eq, decide_eq_true_eq, hml]
        exact ⟨trivial, h2, by omega, by omega, trivial, by omega⟩
  · cases h

def opT (xs : List Nat) : List Nat := List.take (xs.length - 16) xs
def lsT (xs : List Nat) : List Nat := List.drop (xs.length - 16) xs

def F30 : FSem := ⟨true, fun args hin => match args, hin with
  | [.agg [.ints .u8 32 key, .ints .u8 12 nonce], .s (.xsl (.ints .u8 xs)), .s (.xsl (.bss pss))], [] =>
    some (Tr.needs [decide (xs.length < 9223372036854775808), decide (pss.length < 9223372036854775808), okLens pss]
      (.br (decide (1048592 < xs.length) || lonB pss) (.leaf (.tup [.s .nil, .s (.nat .i64 2)], []))
        (.br (decide (xs.length < 16)) (.leaf (.tup [.s .nil, .s (.nat .i64 111)], []))
          (.br (decide (macT key nonce (opT xs) (catN pss pss.length) = lsT xs))
            (.leaf (.tup [.s (.sl .whole 0 0 (xs.length - 16) 1), .s (.nat .i64 0)], [some [.ints .u8 (xs.length - 16) (mxT key nonce (opT xs))]]))
            (.leaf (.tup [.s .nil, .s (.nat .i64 100)], []))))))
  | _, _ => none⟩

theorem opT_len (xs : List Nat) : (opT xs).length = xs.length - 16 := by
  unfold opT
  rw [List.length_take]
  omega

theorem finL_len (x k : List Nat) : (finL x k).length = 16 := rfl
theorem macT_len (key nonce xs bd : List Nat) : (macT key nonce xs bd).length = 16 := finL_len _ _

theorem ok30 : FOk Try.prog 30 F30 := by
  refine ⟨⟨_, _, fn30.at_, fn30.body, fn30.name⟩, ?_⟩
  intro args hin t v hout h hg
  unfold F30 at h
  simp only at h
  split at h
  · rename_i key nonce xs pss
    simp only [Option.some.injEq] at h
    subst h
    obtain ⟨hc, hgt⟩ := Tr.needs_get hg
    simp only [List.mem_cons, List.not_mem_nil, or_false, forall_eq_or_imp, forall_eq, decide_eq_true_eq] at hc
    obtain ⟨h1, h2, h3⟩ := hc
    simp only [Tr.get] at hgt
    by_cases h16 : 16 ≤ xs.length
    · refine ctrB (fs := envB opsB) (xs := []) (m := .nat) (fuel := 7) envB_ok fn30 ?_
      rw [r30, opsB_ops, opsB_mac, opsB_lon, opsA_okL, opsA_len, opsA_mix, opsA_cat, opsA_eq, catN_1, lenN_1]
      rw [show List.take (xs.length - 16) xs = opT xs from rfl, show List.drop (xs.length - 16) xs = lsT xs from rfl, show mixC key nonce 1 (opT xs) (opT xs).length = mxT key nonce (opT xs) from rfl, opT_len, macT_len]
      have hls : (lsT xs).length = 16 := by
        unfold lsT
        rw [List.length_drop]
        omega
      rw [hls]
      have hx : okLens [opT xs] = true := okL_1 (by rw [opT_len]; omega)
      rw [hx]
      have hlt : ¬ xs.length < 16 := by omega
      refine nd_of (by simp only [List.mem_cons, List.not_mem_nil, or_false, forall_eq_or_imp, forall_eq, decide_eq_true_eq]; exact ⟨h1, h16⟩) ?_
      cases hb : (decide (1048592 < xs.length) || lonB pss) with
      | true =>
        rw [hb, cond_true] at hgt
        cases hgt
        by_cases hl : 1048576 < xs.length - 16
        · exact cond_t (decide_eq_true hl) rfl
        · have hlon : lonB pss = true := by rwa [decide_eq_false (by omega), Bool.false_or] at hb
          refine cond_f (decide_eq_false hl) (nd_of ?_ (cond_t hlon rfl))
          simp only [List.mem_cons, List.not_mem_nil, or_false, forall_eq_or_imp, forall_eq, decide_eq_true_eq]
          exact ⟨h2, h3⟩
      | false =>
        rw [hb, cond_false, decide_eq_false hlt, cond_false] at hgt
        obtain ⟨g1, g2⟩ := or_f hb
        have g1 := of_decide_eq_false g1
        have g3 := lonB_f g2
        refine cond_f (decide_eq_false (by omega)) (nd_of ?_ (cond_f g2 (nd_of ?_ ?_)))
        · simp only [List.mem_cons, List.not_mem_nil, or_false, forall_eq_or_imp, forall_eq, decide_eq_true_eq]
          exact ⟨h2, h3⟩
        · simp only [List.mem_cons, List.not_mem_nil, or_false, forall_eq_or_imp, forall_eq, decide_eq_true_eq]
          exact ⟨by omega, h2, by omega, by omega, by omega, by omega, by omega⟩
        · cases he : decide (macT key nonce (opT xs) (catN pss pss.length) = lsT xs) with
          | true =>
            rw [he, cond_true] at hgt
            cases hgt
            refine cond_f (by show (!decide (macT key nonce (opT xs) (catN pss pss.length) = lsT xs)) = false; rw [he]; rfl) (nd_of ?_ (cond_t (decide_eq_true (by omega)) rfl))
            simp only [List.mem_cons, List.not_mem_nil, or_false, forall_eq_or_imp, forall_eq, decide_eq_true_eq]
            exact ⟨by omega, trivial⟩
          | false =>
            rw [he, cond_false] at hgt
            cases hgt
            exact cond_t (by show (!decide (macT key nonce (opT xs) (catN pss pss.length) = lsT xs)) = true; rw [he]; rfl) rfl
    · refine ctrB (fs := envB opsB) (xs := []) (m := .int) (fuel := 7) envB_ok fn30 ?_
      rw [r30i, opsB_lon, opsB_ops, opsA_okL]
      rw [decide_eq_false (show ¬ 1048592 < xs.length by omega), Bool.false_or] at hgt
      refine nd_of (by simpa using h1) (cond_f (decide_eq_false (by simp only [Int.ofNat_eq_natCast]; omega)) (nd_of ?_ ?_))
      · simp only [List.mem_cons, List.not_mem_nil, or_false, forall_eq_or_imp, forall_eq, decide_eq_true_eq]
        exact ⟨h2, h3⟩
      · cases hl : lonB pss with
        | true =>
          rw [hl, cond_true] at hgt
          cases hgt
          exact cond_t rfl rfl
        | false =>
          rw [hl, cond_false, decide_eq_true (by omega), cond_true] at hgt
          cases hgt
          exact cond_f rfl (cond_t (decide_eq_true (by simp only [Int.ofNat_eq_natCast]; omega)) rfl)
  · cases h

end Go.Proofs.Ytgebgjhjegadpaa

namespace Go.Proofs.Ytgebgjhjegadpaa
open Go

structure OpsC where
  sl : List Nat → List Nat → List Nat → List Nat → List Nat
  mx : List Nat → List Nat → List Nat → List Nat
  mac : List Nat → List Nat → List Nat → List Nat → List Nat
  lg : List Nat → List (List Nat) → Bool
  lo : List Nat → List (List Nat) → Bool
  okL : List (List Nat) → Bool
  cat : List (List Nat) → Nat → List Nat
  op : List Nat → List Nat
  ls : List Nat → List Nat
  eq : List Nat → List Nat → Bool

def opsC : OpsC := ⟨slT, mxT, macT, fun xs pss => decide (1048576 < xs.length) || lonB pss, fun xs pss => decide (1048592 < xs.length) || lonB pss, okLens, catN, opT, lsT, fun a b => decide (a = b)⟩
theorem opsC_sl : opsC.sl = slT := by kernel_rfl
theorem opsC_mx : opsC.mx = mxT := by kernel_rfl
theorem opsC_mac : opsC.mac = macT := by kernel_rfl
theorem opsC_lg : opsC.lg = (fun xs pss => decide (1048576 < xs.length) || lonB pss) := by kernel_rfl
theorem opsC_lo : opsC.lo = (fun xs pss => decide (1048592 < xs.length) || lonB pss) := by kernel_rfl
theorem opsC_okL : opsC.okL = okLens := by kernel_rfl
theorem opsC_cat : opsC.cat = catN := by kernel_rfl
theorem opsC_op : opsC.op = opT := by kernel_rfl
theorem opsC_ls : opsC.ls = lsT := by kernel_rfl
theorem opsC_eq : opsC.eq = (fun a b => decide (a = b)) := by kernel_rfl

def Z28 (o : OpsC) : FSem := ⟨true, fun args hin => match args, hin with
  | [.agg [.ints .u8 32 key, .ints .u8 12 nonce], .s (.xsl (.ints .u8 xs)), .s (.xsl (.bss pss))], [] =>
    some (Tr.needs [decide (xs.length < 9223372036854775808), decide (pss.length < 9223372036854775808), o.okL pss]
      (.br (o.lg xs pss) (.leaf (.tup [.s .nil, .s (.nat .i64 2)], []))
        (.leaf (.tup [.s (.sl .whole 0 0 (xs.length + 16) 1), .s (.nat .i64 0)], [some [.ints .u8 (xs.length + 16) (o.sl key nonce xs (o.cat pss pss.length))]]))))
  | _, _ => none⟩
theorem zz28 : FOk Try.prog 28 (Z28 opsC) := by
  have e : Z28 opsC = F28 := by kernel_rfl
  rw [e]
  exact ok28

def Z30 (o : OpsC) : FSem := ⟨true, fun args hin => match args, hin with
  | [.agg [.ints .u8 32 key, .ints .u8 12 nonce], .s (.xsl (.ints .u8 xs)), .s (.xsl (.bss pss))], [] =>
    some (Tr.needs [decide (xs.length < 9223372036854775808), decide (pss.length < 9223372036854775808), o.okL pss]
      (.br (o.lo xs pss) (.leaf (.tup [.s .nil, .s (.nat .i64 2)], []))
        (.br (decide (xs.length < 16)) (.leaf (.tup [.s .nil, .s (.nat .i64 111)], []))
          (.br (o.eq (o.mac key nonce (o.op xs) (o.cat pss pss.length)) (o.ls xs))
            (.leaf (.tup [.s (.sl .whole 0 0 (xs.length - 16) 1), .s (.nat .i64 0)], [some [.ints .u8 (xs.length - 16) (o.mx key nonce (o.op xs))]]))
            (.leaf (.tup [.s .nil, .s (.nat .i64 100)], []))))))
  | _, _ => none⟩
theorem zz30 : FOk Try.prog 30 (Z30 opsC) := by
  have e : Z30 opsC = F30 := by kernel_rfl
  rw [e]
  exact ok30

def F27 : FSem := ⟨false, fun args hin => match args, hin with
  | [], [] => some (.leaf (.s (.bool true), []))
  | _, _ => none⟩

theorem fn27 : Fn Try.prog 27 Try.f27 := ⟨mixed, Try.func27, by kernel_rfl, of_decide_eq_true (by kernel_rfl)⟩
theorem fn15 : Fn Try.prog 15 Try.f15 := ⟨mixed, Try.func15, by kernel_rfl, of_decide_eq_true (by kernel_rfl)⟩
theorem fn16 : Fn Try.prog 16 Try.f16 := ⟨mixed, Try.func16, by kernel_rfl, of_decide_eq_true (by kernel_rfl)⟩
theorem fn17 : Fn Try.prog 17 Try.f17 := ⟨mixed, Try.func17, by kernel_rfl, of_decide_eq_true (by kernel_rfl)⟩

def envC (o : OpsC) : List (Nat × FSem) := [(27, F27), (28, Z28 o), (30, Z30 o)]

end Go.Proofs.Ytgebgjhjegadpaa

namespace Go.Proofs.Ytgebgjhjegadpaa
open Go

set_option maxRecDepth 1000000 in
theorem r27 : runB Try.prog [(28, Z28 opsC), (30, Z30 opsC)] [] .nat 7 Try.f27 [] [] = some (.s (.bool true), []) := by kernel_rfl

theorem ok27 : FOk Try.prog 27 F27 := by
  refine fokB (fs := [(28, Z28 opsC), (30, Z30 opsC)]) (xs := []) (m := .nat) (fuel := 7) (.cons zz28 (.cons zz30 .nil)) fn27 ?_
  intro args hin t r h hg
  unfold F27 at h
  simp only at h
  split at h
  · cases h; cases hg; exact r27
  · cases h

theorem envC_ok : EnvOk ⟨Try.prog, envC opsC, []⟩ := .cons ok27 (.cons zz28 (.cons zz30 .nil))

theorem slT_len (key nonce xs bd : List Nat) : (slT key nonce xs bd).length = xs.length + 16 := by
  rw [slT, List.length_append, mxT_len, macT_len]

theorem opT_slT (key nonce xs bd : List Nat) : opT (slT key nonce xs bd) = mxT key nonce xs := by
  unfold opT
  rw [slT_len, Nat.add_sub_cancel, slT, ← mxT_len key nonce xs, List.take_left' rfl]

theorem lsT_slT (key nonce xs bd : List Nat) : lsT (slT key nonce xs bd) = macT key nonce (mxT key nonce xs) bd := by
  unfold lsT
  rw [slT_len, Nat.add_sub_cancel, slT, ← mxT_len key nonce xs, List.drop_left' rfl]

theorem mx_mx (key nonce xs : List Nat) : mxT key nonce (mxT key nonce xs) = xs := by
  apply List.ext_getElem?
  intro i
  have hl := mxT_len key nonce xs
  have hl2 := mxT_len key nonce (mxT key nonce xs)
  by_cases hi : i < xs.length
  · have h1 := mixC_get key nonce 1 (mxT key nonce xs) (l := (mxT key nonce xs).length) (i := i) (by omega) (by omega)
    have h2 := mixC_get key nonce 1 xs (l := xs.length) (i := i) hi hi
    have h1' : (mxT key nonce (mxT key nonce xs)).getD i 0 = mixAt key nonce 1 (mxT key nonce xs) i := h1
    have h2' : (mxT key nonce xs).getD i 0 = mixAt key nonce 1 xs i := h2
    have h3 : (mxT key nonce (mxT key nonce xs)).getD i 0 = xs.getD i 0 := by
      rw [h1', mixAt, h2', mixAt, Nat.xor_assoc, Nat.xor_self, Nat.xor_zero]
    rw [List.getD, List.getD, List.getElem?_eq_getElem (by omega), List.getElem?_eq_getElem hi] at h3
    rw [List.getElem?_eq_getElem (by omega), List.getElem?_eq_getElem hi]
    exact congrArg some h3
  · rw [List.getElem?_eq_none (by omega), List.getElem?_eq_none (by omega)]

theorem lonB_small {pss : List (List Nat)} (h : lenN pss pss.length ≤ 1048576) : lonB pss = false := decide_eq_false (by omega)
theorem lg_small {xs : List Nat} {pss : List (List Nat)} (h1 : xs.length ≤ 1048576) (h2 : lenN pss pss.length ≤ 1048576) : opsC.lg xs pss = false := by
  rw [opsC_lg]
  show (decide (1048576 < xs.length) || lonB pss) = false
  rw [lonB_small h2, decide_eq_false (by omega)]
  rfl
theorem lo_small {xs : List Nat} {pss : List (List Nat)} (h1 : xs.length ≤ 1048592) (h2 : lenN pss pss.length ≤ 1048576) : opsC.lo xs pss = false := by
  rw [opsC_lo]
  show (decide (1048592 < xs.length) || lonB pss) = false
  rw [lonB_small h2, decide_eq_false (by omega)]
  rfl

theorem take_min (xs : List Nat) (n : Nat) : (List.take (min xs.length n) xs).length ≤ n := by
  rw [List.length_take]
  omega

theorem okL_of {pss : List (List Nat)} (h : ∀ p ∈ pss, p.length < 9223372036854775808) : okLens pss = true := List.all_eq_true.2 fun p hp => decide_eq_true (h p hp)

theorem eq_true' {a b : List Nat} (h : a = b) : opsC.eq a b = true := by
  rw [opsC_eq]
  exact decide_eq_true h

theorem len3 (a b c : List Nat) : lenN [a, b, c] 3 = a.length + b.length + c.length := by simp [lenN]
theorem cat3 (a b c : List Nat) : catN [a, b, c] 3 = a ++ b ++ c := by simp [catN]

end Go.Proofs.Ytgebgjhjegadpaa

namespace Go.Proofs.Ytgebgjhjegadpaa
open Go Go.ChangeShapes Go.WideShapes Go.ChangeAt Go.RowKit

theorem own : ownKnob Try.prog.godebug = none := by kernel_rfl
theorem laidOut : laidOutB Try.prog = true := by kernel_rfl
theorem u3 : Try.prog.underlying 3 = some (.int .i64) := by kernel_rfl
theorem u4 : Try.prog.underlying 4 = some .bool := by kernel_rfl
theorem u5 : Try.prog.underlying 5 = some (.int .u8) := by kernel_rfl
theorem u26 : Try.prog.underlying 26 = some (.int .u32) := by kernel_rfl
theorem u23 : Try.prog.underlying 23 = some (.array 32 5) := by kernel_rfl
theorem u25 : Try.prog.underlying 25 = some (.array 12 5) := by kernel_rfl
theorem u44 : Try.prog.underlying 44 = some (.array 16 5) := by kernel_rfl
theorem u33 : Try.prog.underlying 33 = some (.slice 34) := by kernel_rfl
theorem c44 : Try.prog.cellsOf 44 = 16 := by kernel_rfl
theorem u34 : Try.prog.underlying 34 = some (.slice 5) := by kernel_rfl
theorem c5 : Try.prog.cellsOf 5 = 1 := by kernel_rfl
theorem c23 : Try.prog.cellsOf 23 = 32 := by kernel_rfl
theorem c25 : Try.prog.cellsOf 25 = 12 := by kernel_rfl

theorem law_of {s : ChangeSpec} (h : s.vars = [] ∧ ∀ (H : Type) (d1 d2 d3 : DataW H), (s.fn H [d1, d2, d3]) = { results := [.lit (.bool true)], args := [d1, d2, d3] }) : Law s 3 := by
  refine ⟨h.1, fun H ds hl => ?_⟩
  match ds, hl with
  | [d1, d2, d3], _ => rw [h.2]; exact ⟨rfl, rfl, rfl⟩

theorem law_of2 {s : ChangeSpec} (h : s.vars = [] ∧ ∀ (H : Type) (d1 d2 : DataW H), (s.fn H [d1, d2]) = { results := [.lit (.bool true)], args := [d1, d2] }) : Law s 2 := by
  refine ⟨h.1, fun H ds hl => ?_⟩
  match ds, hl with
  | [d1, d2], _ => rw [h.2]; exact ⟨rfl, rfl, rfl⟩

end Go.Proofs.Ytgebgjhjegadpaa

/-
  Part 4 of what the last text stands on: The document's numbers: folded; sums and products.
-/
import Derived.Test.YteaoegdmhoepiaaB3

set_option linter.unusedSimpArgs false
set_option linter.unusedVariables false

namespace Go.Proofs.Yteaoegdmhoepiaa
open Go

def itG (v : Nat) : Nat → Nat
  | 0 => v
  | i + 1 => nx38 (itG v i)

def redG : Nat → Nat → Nat
  | 0, v => v
  | k + 1, v => if v < M256 then v else redG k (nx38 v)

/-- Folded. -/
def fv (v : Nat) : Nat := redG 4 v

theorem itG_succ (v : Nat) : ∀ i, itG v (i + 1) = itG (nx38 v) i
  | 0 => rfl
  | i + 1 => by rw [itG, itG_succ v i, itG]

theorem redG_spec : ∀ (k v : Nat), (∃ n, n < k ∧ (∀ i, i < n → M256 ≤ itG v i) ∧ itG v n < M256 ∧ redG k v = itG v n) ∨ (∀ i, i < k → M256 ≤ itG v i)
  | 0, v => .inr fun i h => by omega
  | k + 1, v => by
    by_cases hv : v < M256
    · exact .inl ⟨0, by omega, fun i h => by omega, hv, by rw [redG, if_pos hv]; rfl⟩
    · rcases redG_spec k (nx38 v) with ⟨n, h1, h2, h3, h4⟩ | h
      · refine .inl ⟨n + 1, by omega, fun i hi => ?_, by rw [itG_succ]; exact h3, by rw [redG, if_neg hv, itG_succ]; exact h4⟩
        cases i with
        | zero => exact Nat.le_of_not_lt hv
        | succ i => rw [itG_succ]; exact h2 i (by omega)
      · refine .inr fun i hi => ?_
        cases i with
        | zero => exact Nat.le_of_not_lt hv
        | succ i => rw [itG_succ]; exact h i (by omega)

theorem p32 : (65536 : Nat) ^ 32 = M256 * M256 := by decide

theorem nx38_lt {v : Nat} (hv : v < 65536 ^ 32) : nx38 v < 65536 ^ 32 := by
  rw [p32] at *
  unfold nx38
  have h1 : v % M256 < M256 := Nat.mod_lt _ (by decide)
  have h2 : v / M256 < M256 := Nat.div_lt_of_lt_mul hv
  have h3 : 39 * M256 < M256 * M256 := by decide
  omega

theorem itG_lt {v : Nat} (hv : v < 65536 ^ 32) : ∀ i, itG v i < 65536 ^ 32
  | 0 => hv
  | i + 1 => nx38_lt (itG_lt hv i)

theorem fv_spec {v : Nat} (hv : v < 65536 ^ 32) : ∃ n, (∀ i, i < n → M256 ≤ itG v i) ∧ itG v n < M256 ∧ fv v = itG v n := by
  rcases redG_spec 4 v with ⟨n, _, h2, h3, h4⟩ | h
  · exact ⟨n, h2, h3, h4⟩
  · exfalso
    have h1 := h 1 (by omega)
    have h2 := h 2 (by omega)
    have h3 := h 3 (by omega)
    have h0 : v / M256 < M256 := Nat.div_lt_of_lt_mul (by rw [← p32]; exact hv)
    simp only [itG, nx38] at h1 h2 h3
    generalize v / M256 = q at *
    have hr : v % M256 < M256 := Nat.mod_lt _ (by decide)
    generalize v % M256 = r at *
    simp only [M256] at *
    omega

theorem fv_lt {v : Nat} (hv : v < 65536 ^ 32) : fv v < M256 := by
  obtain ⟨n, _, n2, n3⟩ := fv_spec hv
  rw [n3]; exact n2

theorem nx38_mod (v : Nat) : nx38 v % P255 = v % P255 := by
  have e : v = v % M256 + M256 * (v / M256) := (Nat.mod_add_div v M256).symm
  have e2 : v = nx38 v + (2 * (v / M256)) * P255 := by
    unfold nx38
    have : M256 = 38 + 2 * P255 := by decide
    have h3 : M256 * (v / M256) = 38 * (v / M256) + 2 * (v / M256) * P255 := by
      rw [this, Nat.add_mul, Nat.mul_right_comm]
    omega
  exact (congrArg (· % P255) e2).symm ▸ (Nat.add_mul_mod_self_right _ _ _).symm

theorem itG_mod (v : Nat) : ∀ i, itG v i % P255 = v % P255
  | 0 => rfl
  | i + 1 => by rw [itG, nx38_mod, itG_mod v i]

theorem fv_mod {v : Nat} (hv : v < 65536 ^ 32) : fv v % P255 = v % P255 := by
  obtain ⟨n, _, _, n3⟩ := fv_spec hv
  rw [n3, itG_mod]

/-- A number as sixteen digits. -/
def nb (v : Nat) : List Nat := dB 65536 16 v

def g16 (x : List Nat) : Bool := decide (x.length = 16) && allB 65536 x

theorem g16_nb (v : Nat) : g16 (nb v) = true := by
  rw [g16, nb, dB_len, Bool.and_eq_true]
  exact ⟨rfl, allB_mem (dB_lt (by omega) 16 v)⟩

theorem nb_val {v : Nat} (hv : v < M256) : vB 65536 (nb v) = v := by
  rw [nb, vB_dB, p16, Nat.mod_eq_of_lt hv]

theorem g16_get {x : List Nat} (h : g16 x = true) : x.length = 16 ∧ ∀ i, x.getD i 0 < 65536 := by
  rw [g16, Bool.and_eq_true] at h
  exact ⟨of_decide_eq_true h.1, fun i => allB_get (by omega) h.2 i⟩

theorem g16_lt {x : List Nat} (h : g16 x = true) : vB 65536 x < M256 := by
  obtain ⟨h1, h2⟩ := g16_get h
  have := vB_lt (B := 65536) (xs := x) fun i _ => h2 i
  rw [h1, p16] at this
  exact this

theorem g16_eq {x : List Nat} (h : g16 x = true) : x = nb (vB 65536 x) := by
  obtain ⟨h1, h2⟩ := g16_get h
  exact dB_of h1 fun i _ => h2 i

def stG (xs : List Nat) : Nat → List Nat
  | 0 => xs
  | i + 1 => fN (dB 65536 32 (vB 65536 (stG xs i))) 16

def B50 : Nat := 1125899906842624

theorem stG_spec {xs : List Nat} (hl : xs.length = 32) (hB : allB 1125899906842624 xs = true) (hv : vB 65536 xs < 65536 ^ 32) : ∀ i, (stG xs i).length = 32 ∧ (∀ j, (stG xs i).getD j 0 < 1125899906842624) ∧ vB 65536 (stG xs i) = itG (vB 65536 xs) i
  | 0 => ⟨hl, fun j => allB_get (by omega) hB j, rfl⟩
  | i + 1 => by
    obtain ⟨h1, h2, h3⟩ := stG_spec hl hB hv i
    have hlt := itG_lt hv i
    rw [← h3] at hlt
    obtain ⟨_, g1, g2, g3⟩ := fround hlt
    exact ⟨g3, g2, by rw [stG, g1, h3, itG]⟩

def G0 : LSem := ⟨[1, 2], [2], fun args hin => match args, hin with
  | [.s (.ptr 0 0), .s (.ptr 1 0)], [[.ints .u64 32 d], [.ints .u64 16 _]] =>
    some (Tr.needs [decide (d.length = 32), allB 1125899906842624 d, decide (vB 65536 d < 65536 ^ 32)] (.leaf (.ret, [.s (.ptr 1 0)], [some [.ints .u64 32 (dB 65536 32 (fv (vB 65536 d)))], some [.ints .u64 16 (nb (fv (vB 65536 d)))]])))
  | _, _ => none⟩

set_option maxRecDepth 100000 in
theorem rg0 (d o : List Nat) : runR Try.prog [] [] .nat 7 [(2, G2), (4, G4), (6, G6)] Try.f78 0 G0 2 [.s (.ptr 0 0), .s (.ptr 1 0)] [some [.ints .u64 32 d], some [.ints .u64 16 o]] =
  cond (!ovN (cfN d 32).1 16) (some (Ex.ret, [AV.s (SV.ptr 1 0)], [some [Ch.ints IntKind.u64 32 (cfN d 32).1], some [Ch.ints IntKind.u64 16 (oN (cfN d 32).1 [0, 0, 0, 0, 0, 0, 0, 0, 0, 0, 0, 0, 0, 0, 0, 0] 16)]]))
    (some (Ex.normal, [AV.s (SV.ptr 0 0), AV.s (SV.ptr 1 0)], [some [Ch.ints IntKind.u64 32 (fN (cfN d 32).1 16)], some [Ch.ints IntKind.u64 16 o]])) := by kernel_rfl

theorem loopsG0 : LoopsOk Try.prog ⟨Try.f78.ntmps, 7, [(2, G2), (4, G4), (6, G6)]⟩ (lb 0 Try.f78) := by
  refine loopsOk_of ?_
  have e : loopsIn [(2, G2), (4, G4), (6, G6)] (lb 0 Try.f78) = [(2, .loop (lb 2 Try.f78), G2), (4, .loop (lb 4 Try.f78), G4), (6, .loop (lb 6 Try.f78), G6)] := by kernel_rfl
  simp only [e]
  intro x hx
  simp only [List.mem_cons, List.not_mem_nil, or_false] at hx
  rcases hx with rfl | rfl | rfl
  · exact lokG2
  · exact lokG4
  · exact lokG6

theorem lokG0 : LOk Try.prog Try.f78.ntmps (.block 0 (.loop (lb 0 Try.f78))) G0 := by
  refine lokR (fs := []) (xs := []) (m := .nat) (fuel := 7) (sums := [(2, G2), (4, G4), (6, G6)]) .nil mixedF loopsG0 ?_
  intro args hin t e vs hout h hg
  unfold G0 at h
  simp only at h
  split at h
  · rename_i d o
    simp only [Option.some.injEq] at h
    subst h
    obtain ⟨hc, hgt⟩ := Tr.needs_get hg
    clear hg
    have e1 : d.length = 32 := of_decide_eq_true (hc _ (by simp))
    have e2 : allB 1125899906842624 d = true := hc (allB 1125899906842624 d) (by simp)
    have e3 : vB 65536 d < 65536 ^ 32 := of_decide_eq_true (hc (decide (vB 65536 d < 65536 ^ 32)) (by simp))
    clear hc
    obtain ⟨n, n1, n2, n3⟩ := fv_spec e3
    rw [n3] at hgt
    cases hgt
    refine ⟨n, fun i => ([.s (.ptr 0 0), .s (.ptr 1 0)], [some [.ints .u64 32 (stG d i)], some [.ints .u64 16 o]]), .ret, rfl, fun i hi => ?_, ?_, rfl⟩
    · obtain ⟨g1, g2, g3⟩ := stG_spec e1 e2 e3 i
      have hlt := itG_lt e3 i
      rw [← g3] at hlt
      simp only [List.length_cons, List.length_nil]
      rw [rg0, cfN_dB g1 g2 hlt]
      have hov := (fround hlt).1.2 (by rw [g3]; exact n1 i hi)
      rw [hov]
      exact cond_f rfl rfl
    · obtain ⟨g1, g2, g3⟩ := stG_spec e1 e2 e3 n
      have hlt := itG_lt e3 n
      rw [← g3] at hlt
      simp only [List.length_cons, List.length_nil]
      rw [rg0, cfN_dB g1 g2 hlt]
      have hov : ovN (dB 65536 32 (vB 65536 (stG d n))) 16 = false := by
        rw [← Bool.not_eq_true, (fround hlt).1, g3]; exact Nat.not_le_of_lt n2
      rw [hov, g3, oN_eq (dB_len _ _ _) rfl, show (32 : Nat) = 16 + 16 from rfl, dB_take]
      exact cond_t rfl rfl
  · cases h

theorem fn78 : Fn Try.prog 78 Try.f78 := ⟨mixedF, Try.func78, by kernel_rfl, of_decide_eq_true (by kernel_rfl)⟩
theorem fn37 : Fn Try.prog 37 Try.f37 := ⟨mixedF, Try.func37, by kernel_rfl, of_decide_eq_true (by kernel_rfl)⟩
theorem fn40 : Fn Try.prog 40 Try.f40 := ⟨mixedF, Try.func40, by kernel_rfl, of_decide_eq_true (by kernel_rfl)⟩

def F78 : FSem := ⟨false, fun args hin => match args, hin with
  | [.agg [.ints .u64 32 d]], [] => some (Tr.needs [decide (d.length = 32), allB 1125899906842624 d, decide (vB 65536 d < 65536 ^ 32)] (.leaf (.agg [.ints .u64 16 (nb (fv (vB 65536 d)))], [])))
  | _, _ => none⟩

theorem loops78 : LoopsOk Try.prog ⟨Try.f78.ntmps, 7, [(0, G0)]⟩ (bodyOf Try.f78) := by
  refine loopsOk_of ?_
  have e : loopsIn [(0, G0)] (bodyOf Try.f78) = [(0, .loop (lb 0 Try.f78), G0)] := by kernel_rfl
  simp only [e]
  intro x hx
  simp only [List.mem_cons, List.not_mem_nil, or_false] at hx
  rcases hx with rfl
  · exact lokG0

set_option maxRecDepth 100000 in
theorem r78 (d : List Nat) : runL Try.prog [] [] .nat 7 [(0, G0)] Try.f78 [.agg [.ints .u64 32 d]] [] =
    nd [decide (d.length = 32), allB 1125899906842624 d, decide (vB 65536 d < 65536 ^ 32)] (some (.agg [.ints .u64 16 (nb (fv (vB 65536 d)))], [])) := by kernel_rfl

theorem ok78 : FOk Try.prog 78 F78 := by
  refine fokL (fs := []) (xs := []) (m := .nat) (fuel := 7) (sums := [(0, G0)]) .nil fn78 loops78 ?_
  intro args hin t r h hg
  unfold F78 at h
  simp only at h
  split at h
  · rename_i d
    cases h
    obtain ⟨hc, hgt⟩ := Tr.needs_get hg
    cases hgt
    rw [r78]
    exact nd_of hc rfl
  · cases h

end Go.Proofs.Yteaoegdmhoepiaa

namespace Go.Proofs.Yteaoegdmhoepiaa
open Go

def mkU (a b : List Nat) (i : Nat) (d : List Nat) : Nat → List Nat
  | 0 => d
  | k + 1 => (mkU a b i d k).set (i + k) (aa ((mkU a b i d k).getD (i + k) 0) (mm (a.getD i 0) (b.getD k 0)))

def miU (a b d : List Nat) : Nat → List Nat
  | 0 => d
  | i + 1 => mkU a b i (miU a b d i) 16

theorem mkU_len (a b : List Nat) (i : Nat) (d : List Nat) : ∀ k, (mkU a b i d k).length = d.length
  | 0 => rfl
  | k + 1 => by simp [mkU, mkU_len a b i d k]

theorem miU_len (a b d : List Nat) : ∀ i, (miU a b d i).length = d.length
  | 0 => rfl
  | i + 1 => by rw [miU, mkU_len, miU_len a b d i]

theorem mkU_spec {a b d : List Nat} {i D : Nat} (ha : ∀ i, a.getD i 0 < 65536) (hb : ∀ i, b.getD i 0 < 65536) (hd : ∀ j, d.getD j 0 ≤ D) (hD : D ≤ 1125899906842624) : ∀ {k : Nat}, i + k ≤ d.length →
    (∀ j, (mkU a b i d k).getD j 0 ≤ D + 4294836225) ∧ (∀ j, i + k ≤ j → (mkU a b i d k).getD j 0 = d.getD j 0) ∧ vB 65536 (mkU a b i d k) = vB 65536 d + a.getD i 0 * 65536 ^ i * sW 65536 (fun k => b.getD k 0) k
  | 0, _ => ⟨fun j => by have := hd j; simp only [mkU]; omega, fun j _ => rfl, by simp [mkU, sW]⟩
  | k + 1, h => by
    obtain ⟨h1, h2, h3⟩ := mkU_spec (i := i) ha hb hd hD (k := k) (by omega)
    have hl := mkU_len a b i d k
    have e := h2 (i + k) (Nat.le_refl _)
    have b1 : a.getD i 0 * b.getD k 0 ≤ 65535 * 65535 := Nat.mul_le_mul (by have := ha i; omega) (by have := hb k; omega)
    have b2 := hd (i + k)
    have em : aa ((mkU a b i d k).getD (i + k) 0) (mm (a.getD i 0) (b.getD k 0)) = (mkU a b i d k).getD (i + k) 0 + a.getD i 0 * b.getD k 0 := by
      unfold aa mm
      rw [Nat.mod_eq_of_lt (a := a.getD i 0 * b.getD k 0) (by omega), e, Nat.mod_eq_of_lt (by omega)]
    rw [mkU, em]
    refine ⟨fun j => ?_, fun j hj => ?_, ?_⟩
    · rw [getD_set]
      have := h1 j
      split
      · omega
      · exact this
    · rw [getD_set, if_neg (by omega)]; exact h2 j (by omega)
    · rw [vB_addAt (xs := mkU a b i d k) (i := i + k) (by omega), h3, sW, Nat.mul_add, Nat.pow_add, Nat.add_assoc]
      congr 2
      rw [Nat.mul_assoc, Nat.mul_assoc, Nat.mul_left_comm (b.getD k 0)]

theorem miU_spec {a b d : List Nat} (ha : ∀ i, a.getD i 0 < 65536) (hb : ∀ i, b.getD i 0 < 65536) (hl : d.length = 32) (hd : ∀ j, d.getD j 0 = 0) : ∀ {i : Nat}, i ≤ 16 →
    (∀ j, (miU a b d i).getD j 0 ≤ i * 4294836225) ∧ vB 65536 (miU a b d i) = vB 65536 d + sW 65536 (fun i => a.getD i 0) i * sW 65536 (fun k => b.getD k 0) 16
  | 0, _ => ⟨fun j => by simp only [miU, hd j]; omega, by simp [miU, sW]⟩
  | i + 1, h => by
    obtain ⟨h1, h2⟩ := miU_spec ha hb hl hd (i := i) (by omega)
    have hm : i * 4294836225 ≤ 16 * 4294836225 := Nat.mul_le_mul_right _ (by omega)
    obtain ⟨g1, _, g3⟩ := mkU_spec ha hb (i := i) h1 (by omega) (k := 16) (by rw [miU_len, hl]; omega)
    refine ⟨fun j => ?_, ?_⟩
    · have := g1 j
      rw [miU, Nat.succ_mul]
      omega
    · rw [miU, g3, h2, show sW 65536 (fun i => a.getD i 0) (i + 1) = sW 65536 (fun i => a.getD i 0) i + a.getD i 0 * 65536 ^ i from rfl, Nat.add_mul, Nat.add_assoc]

def K2 : LSem := ⟨[5, 6, 7, 2, 3], [5, 6, 2, 3], fun args hin => match args, hin with
  | [.s (.ptr 0 0), .s (.nat .i64 i), .s (.nat .i64 0), .s (.ptr 1 0), .s (.ptr 2 0)], [[.ints .u64 32 d], [.ints .u64 16 a], [.ints .u64 16 b]] =>
    some (.need (decide (i < 16)) (.leaf (.normal, [.s (.ptr 0 0), .s (.nat .i64 i), .s (.ptr 1 0), .s (.ptr 2 0)], [some [.ints .u64 32 (mkU a b i d 16)], some [.ints .u64 16 a], some [.ints .u64 16 b]])))
  | _, _ => none⟩

set_option maxRecDepth 100000 in
theorem rk2 (d a b : List Nat) (i j : Nat) : runR Try.prog [] [] .nat 7 [] Try.f37 2 K2 3 [.s (.ptr 0 0), .s (.nat .i64 i), .s (.nat .i64 j), .s (.ptr 1 0), .s (.ptr 2 0)] [some [.ints .u64 32 d], some [.ints .u64 16 a], some [.ints .u64 16 b]] =
(cond (decide (j < 16))
 (nd [decide (i + j < 9223372036854775808), decide (i + j < 32), decide (i + j < 32), decide (i < 16), decide (i < 16), decide (j < 16), decide (j < 16), decide (i + j < 32), decide (i + j < 32), decide (j + 1 < 9223372036854775808)]
 (some (Ex.normal, [AV.s (SV.ptr 0 0), AV.s (SV.nat IntKind.i64 i), AV.s (SV.nat IntKind.i64 (j + 1)), AV.s (SV.ptr 1 0), AV.s (SV.ptr 2 0)], [some [Ch.ints IntKind.u64 32 (d.set (i + j) (aa (d.getD (i + j) 0) (mm (a.getD i 0) (b.getD j 0))))], some [Ch.ints IntKind.u64 16 a], some [Ch.ints IntKind.u64 16 b]])))
 (some (Ex.exit 2, [AV.s (SV.ptr 0 0), AV.s (SV.nat IntKind.i64 i), AV.s (SV.ptr 1 0), AV.s (SV.ptr 2 0)], [some [Ch.ints IntKind.u64 32 d], some [Ch.ints IntKind.u64 16 a], some [Ch.ints IntKind.u64 16 b]]))) := by kernel_rfl

theorem lokK2 : LOk Try.prog Try.f37.ntmps (.block 2 (.loop (lb 2 Try.f37))) K2 := by
  refine lokR (fs := []) (xs := []) (m := .nat) (fuel := 7) (sums := []) .nil mixedF (loopsOk_none rfl _) ?_
  intro args hin t e vs hout h hg
  unfold K2 at h
  simp only at h
  split at h
  · rename_i i d a b
    cases h
    obtain ⟨hi, hg⟩ := need1 hg
    have hi := of_decide_eq_true hi
    cases hg
    refine ⟨16, fun j => ([.s (.ptr 0 0), .s (.nat .i64 i), .s (.nat .i64 j), .s (.ptr 1 0), .s (.ptr 2 0)], [some [.ints .u64 32 (mkU a b i d j)], some [.ints .u64 16 a], some [.ints .u64 16 b]]), .exit 2, rfl, fun j hj => ?_, ?_, rfl⟩
    · simp only [List.length_cons, List.length_nil]
      rw [rk2]
      refine cond_t (decide_eq_true hj) (nd_of ?_ rfl)
      simp only [List.mem_cons, List.not_mem_nil, or_false, forall_eq_or_imp, forall_eq, decide_eq_true_eq, true_and, and_true]; omega
    · simp only [List.length_cons, List.length_nil]
      rw [rk2]
      exact cond_f (decide_eq_false (by omega)) rfl
  · cases h

def K0 : LSem := ⟨[5, 6, 2, 3], [5], fun args hin => match args, hin with
  | [.s (.ptr 0 0), .s (.nat .i64 0), .s (.ptr 1 0), .s (.ptr 2 0)], [[.ints .u64 32 d], [.ints .u64 16 a], [.ints .u64 16 b]] =>
    some (.leaf (.normal, [.s (.ptr 0 0)], [some [.ints .u64 32 (miU a b d 16)], some [.ints .u64 16 a], some [.ints .u64 16 b]]))
  | _, _ => none⟩

set_option maxRecDepth 100000 in
theorem rk0 (d a b : List Nat) (i : Nat) : runR Try.prog [] [] .nat 7 [(2, K2)] Try.f37 0 K0 3 [.s (.ptr 0 0), .s (.nat .i64 i), .s (.ptr 1 0), .s (.ptr 2 0)] [some [.ints .u64 32 d], some [.ints .u64 16 a], some [.ints .u64 16 b]] =
(cond (decide (i < 16))
 (nd [decide (i < 16), decide (i + 1 < 9223372036854775808)]
 (some (Ex.normal, [AV.s (SV.ptr 0 0), AV.s (SV.nat IntKind.i64 (i + 1)), AV.s (SV.ptr 1 0), AV.s (SV.ptr 2 0)], [some [Ch.ints IntKind.u64 32 (mkU a b i d 16)], some [Ch.ints IntKind.u64 16 a], some [Ch.ints IntKind.u64 16 b]])))
 (some (Ex.exit 0, [AV.s (SV.ptr 0 0)], [some [Ch.ints IntKind.u64 32 d], some [Ch.ints IntKind.u64 16 a], some [Ch.ints IntKind.u64 16 b]]))) := by kernel_rfl

theorem loopsK0 : LoopsOk Try.prog ⟨Try.f37.ntmps, 7, [(2, K2)]⟩ (lb 0 Try.f37) := by
  refine loopsOk_of ?_
  have e : loopsIn [(2, K2)] (lb 0 Try.f37) = [(2, .loop (lb 2 Try.f37), K2)] := by kernel_rfl
  simp only [e]
  intro x hx
  simp only [List.mem_cons, List.not_mem_nil, or_false] at hx
  subst hx
  exact lokK2

theorem lokK0 : LOk Try.prog Try.f37.ntmps (.block 0 (.loop (lb 0 Try.f37))) K0 := by
  refine lokR (fs := []) (xs := []) (m := .nat) (fuel := 7) (sums := [(2, K2)]) .nil mixedF loopsK0 ?_
  intro args hin t e vs hout h hg
  unfold K0 at h
  simp only at h
  split at h
  · rename_i d a b
    cases h
    cases hg
    refine ⟨16, fun i => ([.s (.ptr 0 0), .s (.nat .i64 i), .s (.ptr 1 0), .s (.ptr 2 0)], [some [.ints .u64 32 (miU a b d i)], some [.ints .u64 16 a], some [.ints .u64 16 b]]), .exit 0, rfl, fun i hi => ?_, ?_, rfl⟩
    · simp only [List.length_cons, List.length_nil]
      rw [rk0]
      refine cond_t (decide_eq_true hi) (nd_of ?_ rfl)
      simp only [List.mem_cons, List.not_mem_nil, or_false, forall_eq_or_imp, forall_eq, decide_eq_true_eq, true_and, and_true]; omega
    · simp only [List.length_cons, List.length_nil]
      rw [rk0]
      exact cond_f (decide_eq_false (by omega)) rfl
  · cases h

def F37 : FSem := ⟨false, fun args hin => match args, hin with
  | [.agg [.ints .u64 16 a], .agg [.ints .u64 16 b]], [] => some (.need (g16 a) (.need (g16 b) (.leaf (.agg [.ints .u64 16 (nb (fv (vB 65536 a * vB 65536 b)))], []))))
  | _, _ => none⟩

def zero32u : List Nat := [0, 0, 0, 0, 0, 0, 0, 0, 0, 0, 0, 0, 0, 0, 0, 0, 0, 0, 0, 0, 0, 0, 0, 0, 0, 0, 0, 0, 0, 0, 0, 0]

theorem loops37 : LoopsOk Try.prog ⟨Try.f37.ntmps, 7, [(0, K0)]⟩ (bodyOf Try.f37) := by
  refine loopsOk_of ?_
  have e : loopsIn [(0, K0)] (bodyOf Try.f37) = [(0, .loop (lb 0 Try.f37), K0)] := by kernel_rfl
  simp only [e]
  intro x hx
  simp only [List.mem_cons, List.not_mem_nil, or_false] at hx
  rcases hx with rfl
  · exact lokK0

set_option maxRecDepth 100000 in
theorem r37 (a b : List Nat) : runL Try.prog [(78, F78)] [] .nat 7 [(0, K0)] Try.f37 [.agg [.ints .u64 16 a], .agg [.ints .u64 16 b]] [] =
    nd [decide ((miU a b zero32u 16).length = 32), allB 1125899906842624 (miU a b zero32u 16), decide (vB 65536 (miU a b zero32u 16) < 65536 ^ 32)] (some (.agg [.ints .u64 16 (nb (fv (vB 65536 (miU a b zero32u 16))))], [])) := by kernel_rfl

theorem zero32u_get (i : Nat) : zero32u.getD i 0 = 0 := by
  rw [List.getD]
  cases h : zero32u[i]? with
  | none => rfl
  | some x =>
    have hm := List.mem_of_getElem? h
    have : ∀ y ∈ zero32u, y = 0 := by decide
    exact this x hm

theorem mulLt {a b : Nat} (ha : a < M256) (hb : b < M256) : a * b < 65536 ^ 32 := by
  rw [p32]
  exact Nat.mul_lt_mul'' ha hb

theorem ok37 : FOk Try.prog 37 F37 := by
  refine fokL (fs := [(78, F78)]) (xs := []) (m := .nat) (fuel := 7) (sums := [(0, K0)]) (.cons ok78 .nil) fn37 loops37 ?_
  intro args hin t r h hg
  unfold F37 at h
  simp only at h
  split at h
  · rename_i a b
    cases h
    obtain ⟨ha, hg⟩ := need1 hg
    obtain ⟨hb, hg⟩ := need1 hg
    cases hg
    obtain ⟨a1, a2⟩ := g16_get ha
    obtain ⟨b1, b2⟩ := g16_get hb
    obtain ⟨h1, h2⟩ := miU_spec a2 b2 (d := zero32u) rfl zero32u_get (Nat.le_refl 16)
    have e : vB 65536 (miU a b zero32u 16) = vB 65536 a * vB 65536 b := by
      rw [h2, show vB 65536 zero32u = 0 from by decide, Nat.zero_add, vB_sW 65536 a, vB_sW 65536 b, a1, b1]
    have hlt : vB 65536 a * vB 65536 b < 65536 ^ 32 := mulLt (g16_lt ha) (g16_lt hb)
    rw [r37, e]
    refine nd_of ?_ rfl
    simp only [List.mem_cons, List.not_mem_nil, or_false, forall_eq_or_imp, forall_eq, decide_eq_true_eq, true_and, and_true]
    exact ⟨by rw [miU_len]; rfl, allB_of fun j => by have := h1 j; omega, hlt⟩
  · cases h

/-! Sums. -/
def adU (a b d : List Nat) : Nat → List Nat
  | 0 => d
  | i + 1 => (adU a b d i).set i (aa (a.getD i 0) (b.getD i 0))

def H0 : LSem := ⟨[5, 6, 2, 3], [5], fun args hin => match args, hin with
  | [.s (.ptr 0 0), .s (.nat .i64 0), .s (.ptr 1 0), .s (.ptr 2 0)], [[.ints .u64 32 d], [.ints .u64 16 a], [.ints .u64 16 b]] =>
    some (.leaf (.normal, [.s (.ptr 0 0)], [some [.ints .u64 32 (adU a b d 16)], some [.ints .u64 16 a], some [.ints .u64 16 b]]))
  | _, _ => none⟩

set_option maxRecDepth 100000 in
theorem rh0 (d a b : List Nat) (i : Nat) : runR Try.prog [] [] .nat 7 [] Try.f40 0 H0 3 [.s (.ptr 0 0), .s (.nat .i64 i), .s (.ptr 1 0), .s (.ptr 2 0)] [some [.ints .u64 32 d], some [.ints .u64 16 a], some [.ints .u64 16 b]] =
(cond (decide (i < 16))
 (nd [decide (i < 16), decide (i < 16), decide (i < 16), decide (i < 16), decide (i < 32), decide (i < 32), decide (i + 1 < 9223372036854775808)]
 (some (Ex.normal, [AV.s (SV.ptr 0 0), AV.s (SV.nat IntKind.i64 (i + 1)), AV.s (SV.ptr 1 0), AV.s (SV.ptr 2 0)], [some [Ch.ints IntKind.u64 32 (d.set i (aa (a.getD i 0) (b.getD i 0)))], some [Ch.ints IntKind.u64 16 a], some [Ch.ints IntKind.u64 16 b]])))
 (some (Ex.exit 0, [AV.s (SV.ptr 0 0)], [some [Ch.ints IntKind.u64 32 d], some [Ch.ints IntKind.u64 16 a], some [Ch.ints IntKind.u64 16 b]]))) := by kernel_rfl

theorem lokH0 : LOk Try.prog Try.f40.ntmps (.block 0 (.loop (lb 0 Try.f40))) H0 := by
  refine lokR (fs := []) (xs := []) (m := .nat) (fuel := 7) (sums := []) .nil mixedF (loopsOk_none rfl _) ?_
  intro args hin t e vs hout h hg
  unfold H0 at h
  simp only at h
  split at h
  · rename_i d a b
    cases h
    cases hg
    refine ⟨16, fun i => ([.s (.ptr 0 0), .s (.nat .i64 i), .s (.ptr 1 0), .s (.ptr 2 0)], [some [.ints .u64 32 (adU a b d i)], some [.ints .u64 16 a], some [.ints .u64 16 b]]), .exit 0, rfl, fun i hi => ?_, ?_, rfl⟩
    · simp only [List.length_cons, List.length_nil]
      rw [rh0]
      refine cond_t (decide_eq_true hi) (nd_of ?_ rfl)
      simp only [List.mem_cons, List.not_mem_nil, or_false, forall_eq_or_imp, forall_eq, decide_eq_true_eq, true_and, and_true]; omega
    · simp only [List.length_cons, List.length_nil]
      rw [rh0]
      exact cond_f (decide_eq_false (by omega)) rfl
  · cases h

theorem adU_spec {a b d : List Nat} (ha : ∀ i, a.getD i 0 < 65536) (hb : ∀ i, b.getD i 0 < 65536) (hl : d.length = 32) (hd : ∀ j, d.getD j 0 = 0) : ∀ {i : Nat}, i ≤ 16 →
    (adU a b d i).length = 32 ∧ (∀ j, (adU a b d i).getD j 0 = if j < i then a.getD j 0 + b.getD j 0 else 0)
  | 0, _ => ⟨hl, fun j => by rw [if_neg (by omega)]; exact hd j⟩
  | i + 1, h => by
    obtain ⟨h1, h2⟩ := adU_spec ha hb hl hd (i := i) (by omega)
    have g1 := ha i
    have g2 := hb i
    refine ⟨by rw [adU, List.length_set, h1], fun j => ?_⟩
    rw [adU, getD_set]
    by_cases e : i = j
    · subst e
      rw [if_pos ⟨rfl, by omega⟩, if_pos (by omega), aa, Nat.mod_eq_of_lt (by omega)]
    · rw [if_neg (fun h => e h.1), h2 j]
      by_cases c : j < i
      · rw [if_pos c, if_pos (by omega)]
      · rw [if_neg c, if_neg (by omega)]

def F40 : FSem := ⟨false, fun args hin => match args, hin with
  | [.agg [.ints .u64 16 a], .agg [.ints .u64 16 b]], [] => some (.need (g16 a) (.need (g16 b) (.leaf (.agg [.ints .u64 16 (nb (fv (vB 65536 a + vB 65536 b)))], []))))
  | _, _ => none⟩

theorem loops40 : LoopsOk Try.prog ⟨Try.f40.ntmps, 7, [(0, H0)]⟩ (bodyOf Try.f40) := by
  refine loopsOk_of ?_
  have e : loopsIn [(0, H0)] (bodyOf Try.f40) = [(0, .loop (lb 0 Try.f40), H0)] := by kernel_rfl
  simp only [e]
  intro x hx
  simp only [List.mem_cons, List.not_mem_nil, or_false] at hx
  rcases hx with rfl
  · exact lokH0

set_option maxRecDepth 100000 in
theorem r40 (a b : List Nat) : runL Try.prog [(78, F78)] [] .nat 7 [(0, H0)] Try.f40 [.agg [.ints .u64 16 a], .agg [.ints .u64 16 b]] [] =
    nd [decide ((adU a b zero32u 16).length = 32), allB 1125899906842624 (adU a b zero32u 16), decide (vB 65536 (adU a b zero32u 16) < 65536 ^ 32)] (some (.agg [.ints .u64 16 (nb (fv (vB 65536 (adU a b zero32u 16))))], [])) := by kernel_rfl

theorem addLt {a b : Nat} (ha : a < M256) (hb : b < M256) : a + b < 65536 ^ 32 := by
  rw [p32]
  have : 2 * M256 < M256 * M256 := by decide
  omega

theorem ok40 : FOk Try.prog 40 F40 := by
  refine fokL (fs := [(78, F78)]) (xs := []) (m := .nat) (fuel := 7) (sums := [(0, H0)]) (.cons ok78 .nil) fn40 loops40 ?_
  intro args hin t r h hg
  unfold F40 at h
  simp only at h
  split at h
  · rename_i a b
    cases h
    obtain ⟨ha, hg⟩ := need1 hg
    obtain ⟨hb, hg⟩ := need1 hg
    cases hg
    obtain ⟨a1, a2⟩ := g16_get ha
    obtain ⟨b1, b2⟩ := g16_get hb
    obtain ⟨h1, h2⟩ := adU_spec a2 b2 (d := zero32u) rfl zero32u_get (Nat.le_refl 16)
    have e : vB 65536 (adU a b zero32u 16) = vB 65536 a + vB 65536 b := by
      rw [vB_sW, h1, show 32 = 16 + 16 from rfl, sW_split, sW_zero (f := fun i => (adU a b zero32u 16).getD (16 + i) 0) (n := 16) (fun i hi => by rw [h2, if_neg (by omega)]), Nat.mul_zero, Nat.add_zero, vB_sW 65536 a, vB_sW 65536 b, a1, b1, ← sW_add]
      exact sW_congr fun i hi => by rw [h2, if_pos hi]
    have hlt : vB 65536 a + vB 65536 b < 65536 ^ 32 := addLt (g16_lt ha) (g16_lt hb)
    rw [r40, e]
    refine nd_of ?_ rfl
    simp only [List.mem_cons, List.not_mem_nil, or_false, forall_eq_or_imp, forall_eq, decide_eq_true_eq, true_and, and_true]
    exact ⟨h1, allB_of fun j => by rw [h2]; have := a2 j; have := b2 j; split <;> omega, hlt⟩
  · cases h

end Go.Proofs.Yteaoegdmhoepiaa

namespace Go.Proofs.Yteaoegdmhoepiaa
open Go

theorem fn32 : Fn Try.prog 32 Try.f32 := ⟨mixedF, Try.func32, by kernel_rfl, of_decide_eq_true (by kernel_rfl)⟩
theorem fn36 : Fn Try.prog 36 Try.f36 := ⟨mixedF, Try.func36, by kernel_rfl, of_decide_eq_true (by kernel_rfl)⟩
theorem fn93 : Fn Try.prog 93 Try.f93 := ⟨mixedF, Try.func93, by kernel_rfl, of_decide_eq_true (by kernel_rfl)⟩
theorem fn79 : Fn Try.prog 79 Try.f79 := ⟨mixedF, Try.func79, by kernel_rfl, of_decide_eq_true (by kernel_rfl)⟩
theorem fn54 : Fn Try.prog 54 Try.f54 := ⟨mixedF, Try.func54, by kernel_rfl, of_decide_eq_true (by kernel_rfl)⟩
theorem fn59 : Fn Try.prog 59 Try.f59 := ⟨mixedF, Try.func59, by kernel_rfl, of_decide_eq_true (by kernel_rfl)⟩
theorem fn31 : Fn Try.prog 31 Try.f31 := ⟨mixedF, Try.func31, by kernel_rfl, of_decide_eq_true (by kernel_rfl)⟩
theorem fn43 : Fn Try.prog 43 Try.f43 := ⟨mixedF, Try.func43, by kernel_rfl, of_decide_eq_true (by kernel_rfl)⟩
theorem fn41 : Fn Try.prog 41 Try.f41 := ⟨mixedF, Try.func41, by kernel_rfl, of_decide_eq_true (by kernel_rfl)⟩

/-! Small ones. -/
def F36 : FSem := ⟨false, fun args hin => match args, hin with
  | [.s (.nat .u64 n)], [] => some (.leaf (.agg [.ints .u64 16 (nb (n % 4294967296))], []))
  | _, _ => none⟩

set_option maxRecDepth 100000 in
theorem r36 (n : Nat) : runB Try.prog [] [] .nat 7 Try.f36 [.s (.nat .u64 n)] [] = some (.agg [.ints .u64 16 [n % 65536, n / 65536 % 65536, 0, 0, 0, 0, 0, 0, 0, 0, 0, 0, 0, 0, 0, 0]], []) := by kernel_rfl

theorem dB_zero (B : Nat) : ∀ n, dB B n 0 = List.replicate n 0
  | 0 => rfl
  | n + 1 => by simp [dB, dB_zero B n, List.replicate_succ]

theorem small_nb (n : Nat) : [n % 65536, n / 65536 % 65536, 0, 0, 0, 0, 0, 0, 0, 0, 0, 0, 0, 0, 0, 0] = nb (n % 4294967296) := by
  rw [nb, show (16 : Nat) = 14 + 1 + 1 from rfl, dB, dB, show n % 4294967296 / 65536 / 65536 = 0 by omega, dB_zero, show n % 4294967296 % 65536 = n % 65536 by omega, show n % 4294967296 / 65536 % 65536 = n / 65536 % 65536 by omega]
  rfl

theorem ok36 : FOk Try.prog 36 F36 := by
  refine fokB (fs := []) (xs := []) (m := .nat) (fuel := 7) EnvOk.nil fn36 ?_
  intro args hin t r h hg
  unfold F36 at h
  simp only at h
  split at h
  · cases h; cases hg
    rw [r36, small_nb]
  · cases h

/-! Of 32 bytes. -/
def g32 (k : List Nat) : Bool := decide (k.length = 32) && allB 256 k

def e16 (k : List Nat) (i : Nat) : Nat := (k.getD (2 * i) 0 + 256 * k.getD (2 * i + 1) 0 % 18446744073709551616) % 18446744073709551616

def ofR (k : List Nat) : List Nat := [e16 k 0, e16 k 1, e16 k 2, e16 k 3, e16 k 4, e16 k 5, e16 k 6, e16 k 7, e16 k 8, e16 k 9, e16 k 10, e16 k 11, e16 k 12, e16 k 13, e16 k 14, e16 k 15 % 32768]

def F32 : FSem := ⟨false, fun args hin => match args, hin with
  | [.agg [.ints .u8 32 k]], [] => some (.need (g32 k) (.leaf (.agg [.ints .u64 16 (nb (vB 256 k % 57896044618658097711785492504343953926634992332820282019728792003956564819968))], [])))
  | _, _ => none⟩

set_option maxRecDepth 100000 in
theorem r32 (k : List Nat) : runB Try.prog [] [] .nat 17 Try.f32 [.agg [.ints .u8 32 k]] [] = some (.agg [.ints .u64 16 (ofR k)], []) := by kernel_rfl

theorem g32_get {k : List Nat} (h : g32 k = true) : k.length = 32 ∧ ∀ i, k.getD i 0 < 256 := by
  rw [g32, Bool.and_eq_true] at h
  exact ⟨of_decide_eq_true h.1, fun i => allB_get (by omega) h.2 i⟩

theorem g32_lt {k : List Nat} (h : g32 k = true) : vB 256 k < M256 := by
  obtain ⟨h1, h2⟩ := g32_get h
  have := vB_lt (B := 256) (xs := k) fun i _ => h2 i
  rw [h1, show (256 : Nat) ^ 32 = M256 from by decide] at this
  exact this

theorem g32_dig {k : List Nat} (h : g32 k = true) {i : Nat} (hi : i < 32) : k.getD i 0 = vB 256 k / 256 ^ i % 256 := by
  obtain ⟨h1, h2⟩ := g32_get h
  have e := dB_of (B := 256) h1 fun i _ => h2 i
  have := dB_get 256 32 (vB 256 k) i
  rw [← e, if_pos hi] at this
  exact this

theorem e16_eq {k : List Nat} (h : g32 k = true) {i : Nat} (hi : i < 16) : e16 k i = vB 256 k / 65536 ^ i % 65536 := by
  have h1 := g32_dig h (i := 2 * i) (by omega)
  have h2 := g32_dig h (i := 2 * i + 1) (by omega)
  unfold e16
  rw [h1, h2, Nat.pow_succ, Nat.pow_mul, ← Nat.div_div_eq_div_mul, show (256 : Nat) ^ 2 = 65536 from rfl]
  omega

theorem ofR_nb {k : List Nat} (h : g32 k = true) : ofR k = nb (vB 256 k % 57896044618658097711785492504343953926634992332820282019728792003956564819968) := by
  apply List.ext_getElem?
  intro i
  by_cases hi : i < 16
  · have hn := dB_get 65536 16 (vB 256 k % 57896044618658097711785492504343953926634992332820282019728792003956564819968) i
    rw [if_pos hi] at hn
    have e1 : (nb (vB 256 k % 57896044618658097711785492504343953926634992332820282019728792003956564819968))[i]? = some ((nb (vB 256 k % 57896044618658097711785492504343953926634992332820282019728792003956564819968)).getD i 0) := by
      rw [List.getD, List.getElem?_eq_getElem (by rw [nb, dB_len]; exact hi)]; rfl
    rw [e1]
    show _ = some ((dB 65536 16 _).getD i 0)
    rw [hn]
    have he := e16_eq h hi
    have : i = 0 ∨ i = 1 ∨ i = 2 ∨ i = 3 ∨ i = 4 ∨ i = 5 ∨ i = 6 ∨ i = 7 ∨ i = 8 ∨ i = 9 ∨ i = 10 ∨ i = 11 ∨ i = 12 ∨ i = 13 ∨ i = 14 ∨ i = 15 := by omega
    generalize vB 256 k = v at *
    rcases this with rfl | rfl | rfl | rfl | rfl | rfl | rfl | rfl | rfl | rfl | rfl | rfl | rfl | rfl | rfl | rfl <;> simp only [ofR, List.getElem?_cons_zero, List.getElem?_cons_succ, he, Nat.reducePow, Option.some.injEq] <;> omega
  · rw [List.getElem?_eq_none (by show 16 ≤ i; omega), List.getElem?_eq_none (by rw [nb, dB_len]; omega)]

theorem ok32 : FOk Try.prog 32 F32 := by
  refine fokB (fs := []) (xs := []) (m := .nat) (fuel := 17) EnvOk.nil fn32 ?_
  intro args hin t r h hg
  unfold F32 at h
  simp only at h
  split at h
  · cases h
    obtain ⟨hk, hg⟩ := need1 hg
    cases hg
    rw [r32, ofR_nb hk]
  · cases h

/-! Which is less. -/
def ltC (a b : List Nat) : Nat → Option (AV × List (Option Blk))
  | 0 => some (.s (.bool false), [])
  | i + 1 => cond (!decide (a.getD i 0 = b.getD i 0)) (some (.s (.bool (decide (a.getD i 0 < b.getD i 0))), [])) (ltC a b i)

def F93 : FSem := ⟨false, fun args hin => match args, hin with
  | [.agg [.ints .u64 16 a], .agg [.ints .u64 16 b]], [] => some (.need (g16 a) (.need (g16 b) (.leaf (.s (.bool (decide (vB 65536 a < vB 65536 b))), []))))
  | _, _ => none⟩

set_option maxRecDepth 100000 in
theorem r93 (a b : List Nat) : runB Try.prog [] [] .down 17 Try.f93 [.agg [.ints .u64 16 a], .agg [.ints .u64 16 b]] [] = ltC a b 16 := by kernel_rfl

theorem ltC_eq {a b : List Nat} (ha : ∀ i, a.getD i 0 < 65536) (hb : ∀ i, b.getD i 0 < 65536) : ∀ n, ltC a b n = some (.s (.bool (decide (sW 65536 (fun i => a.getD i 0) n < sW 65536 (fun i => b.getD i 0) n))), [])
  | 0 => rfl
  | n + 1 => by
    have h1 := sW_lt (B := 65536) (f := fun i => a.getD i 0) (n := n) fun i _ => ha i
    have h2 := sW_lt (B := 65536) (f := fun i => b.getD i 0) (n := n) fun i _ => hb i
    rw [ltC, ltC_eq ha hb n, sW, sW]
    generalize sW 65536 (fun i => a.getD i 0) n = s at *
    generalize sW 65536 (fun i => b.getD i 0) n = t at *
    generalize a.getD n 0 = x
    generalize b.getD n 0 = y
    generalize 65536 ^ n = p at *
    by_cases e : x = y
    · subst e
      refine cond_f (by simp) ?_
      congr 4
      exact decide_eq_decide.2 (by omega)
    · refine cond_t (by simp [e]) ?_
      congr 4
      refine decide_eq_decide.2 ⟨fun hxy => ?_, fun hxy => ?_⟩
      · have : (x + 1) * p ≤ y * p := Nat.mul_le_mul_right _ hxy
        rw [Nat.add_mul, Nat.one_mul] at this
        omega
      · refine Classical.byContradiction fun hn => ?_
        have : (y + 1) * p ≤ x * p := Nat.mul_le_mul_right _ (by omega)
        rw [Nat.add_mul, Nat.one_mul] at this
        omega

theorem vB16 {a : List Nat} (h : g16 a = true) : vB 65536 a = sW 65536 (fun i => a.getD i 0) 16 := by
  rw [vB_sW, (g16_get h).1]

theorem ok93 : FOk Try.prog 93 F93 := by
  refine fokB (fs := []) (xs := []) (m := .down) (fuel := 17) EnvOk.nil fn93 ?_
  intro args hin t r h hg
  unfold F93 at h
  simp only at h
  split at h
  · cases h
    obtain ⟨ha, hg⟩ := need1 hg
    obtain ⟨hb, hg⟩ := need1 hg
    cases hg
    rw [r93, ltC_eq (g16_get ha).2 (g16_get hb).2, vB16 ha, vB16 hb]
  · cases h

/-! One less another. -/
def mx (a b c : Nat) : Nat := (((a + 65536) % 18446744073709551616 + 18446744073709551616 - b) % 18446744073709551616 + 18446744073709551616 - c) % 18446744073709551616

def mnN (a b o : List Nat) : Nat → List Nat × Nat
  | 0 => (o, 0)
  | i + 1 => ((mnN a b o i).1.set i (mx (a.getD i 0) (b.getD i 0) (mnN a b o i).2 % 65536), (1 + 18446744073709551616 - mx (a.getD i 0) (b.getD i 0) (mnN a b o i).2 / 65536) % 18446744073709551616)

def N0 : LSem := ⟨[2, 3, 5, 6, 7], [5], fun args hin => match args, hin with
  | [.s (.ptr 0 0), .s (.ptr 1 0), .s (.ptr 2 0), .s (.nat .u64 0), .s (.nat .i64 0)], [[.ints .u64 16 a], [.ints .u64 16 b], [.ints .u64 16 o]] =>
    some (.leaf (.normal, [.s (.ptr 2 0)], [some [.ints .u64 16 a], some [.ints .u64 16 b], some [.ints .u64 16 (mnN a b o 16).1]]))
  | _, _ => none⟩

set_option maxRecDepth 100000 in
theorem rn0 (a b o : List Nat) (c i : Nat) : runR Try.prog [] [] .nat 7 [] Try.f79 0 N0 3 [.s (.ptr 0 0), .s (.ptr 1 0), .s (.ptr 2 0), .s (.nat .u64 c), .s (.nat .i64 i)] [some [.ints .u64 16 a], some [.ints .u64 16 b], some [.ints .u64 16 o]] =
(cond (decide (i < 16))
 (nd [decide (i < 16), decide (i < 16), decide (i < 16), decide (i < 16), decide (i < 16), decide (i < 16), decide (i + 1 < 9223372036854775808)]
 (some (Ex.normal, [AV.s (SV.ptr 0 0), AV.s (SV.ptr 1 0), AV.s (SV.ptr 2 0), AV.s (SV.nat IntKind.u64 ((1 + 18446744073709551616 - mx (a.getD i 0) (b.getD i 0) c / 65536) % 18446744073709551616)), AV.s (SV.nat IntKind.i64 (i + 1))], [some [Ch.ints IntKind.u64 16 a], some [Ch.ints IntKind.u64 16 b], some [Ch.ints IntKind.u64 16 (o.set i (mx (a.getD i 0) (b.getD i 0) c % 65536))]])))
 (some (Ex.exit 0, [AV.s (SV.ptr 2 0)], [some [Ch.ints IntKind.u64 16 a], some [Ch.ints IntKind.u64 16 b], some [Ch.ints IntKind.u64 16 o]]))) := by kernel_rfl

theorem lokN0 : LOk Try.prog Try.f79.ntmps (.block 0 (.loop (lb 0 Try.f79))) N0 := by
  refine lokR (fs := []) (xs := []) (m := .nat) (fuel := 7) (sums := []) .nil mixedF (loopsOk_none rfl _) ?_
  intro args hin t e vs hout h hg
  unfold N0 at h
  simp only at h
  split at h
  · rename_i a b o
    cases h
    cases hg
    refine ⟨16, fun i => ([.s (.ptr 0 0), .s (.ptr 1 0), .s (.ptr 2 0), .s (.nat .u64 (mnN a b o i).2), .s (.nat .i64 i)], [some [.ints .u64 16 a], some [.ints .u64 16 b], some [.ints .u64 16 (mnN a b o i).1]]), .exit 0, rfl, fun i hi => ?_, ?_, rfl⟩
    · simp only [List.length_cons, List.length_nil]
      rw [rn0]
      refine cond_t (decide_eq_true hi) (nd_of ?_ rfl)
      simp only [List.mem_cons, List.not_mem_nil, or_false, forall_eq_or_imp, forall_eq, decide_eq_true_eq, true_and, and_true]; omega
    · simp only [List.length_cons, List.length_nil]
      rw [rn0]
      exact cond_f (decide_eq_false (by omega)) rfl
  · cases h

theorem mnN_spec {a b o : List Nat} (ha : ∀ i, a.getD i 0 < 65536) (hb : ∀ i, b.getD i 0 < 65536) (ho : o.length = 16) : ∀ {i : Nat}, i ≤ 16 →
    (mnN a b o i).1.length = 16 ∧ (mnN a b o i).2 ≤ 1 ∧ (∀ j, j < i → (mnN a b o i).1.getD j 0 < 65536) ∧ sW 65536 (fun j => (mnN a b o i).1.getD j 0) i + sW 65536 (fun j => b.getD j 0) i = sW 65536 (fun j => a.getD j 0) i + (mnN a b o i).2 * 65536 ^ i
  | 0, _ => ⟨ho, by simp [mnN], fun j h => by omega, by simp [mnN, sW]⟩
  | i + 1, h => by
    obtain ⟨h1, h2, h3, h4⟩ := mnN_spec ha hb ho (i := i) (by omega)
    have g1 := ha i
    have g2 := hb i
    have hx : mx (a.getD i 0) (b.getD i 0) (mnN a b o i).2 = a.getD i 0 + 65536 - b.getD i 0 - (mnN a b o i).2 := by unfold mx; omega
    have hc : (1 + 18446744073709551616 - mx (a.getD i 0) (b.getD i 0) (mnN a b o i).2 / 65536) % 18446744073709551616 = 1 - mx (a.getD i 0) (b.getD i 0) (mnN a b o i).2 / 65536 := by omega
    refine ⟨by rw [mnN, List.length_set, h1], ?_, fun j hj => ?_, ?_⟩
    · rw [mnN]; simp only [hc]; omega
    · rw [mnN]
      simp only
      rw [getD_set]
      split
      · exact Nat.mod_lt _ (by omega)
      · rename_i hne
        exact h3 j (by
          by_cases e : j = i
          · exact absurd ⟨e.symm, by omega⟩ hne
          · omega)
    · rw [mnN]
      simp only [hc]
      rw [sW, sW, sW, getD_set, if_pos ⟨rfl, by omega⟩, sW_congr (g := fun j => (mnN a b o i).1.getD j 0) (fun j hj => by rw [getD_set, if_neg (by omega)]), Nat.pow_succ]
      rw [hx]
      generalize sW 65536 (fun j => (mnN a b o i).1.getD j 0) i = s at *
      generalize sW 65536 (fun j => b.getD j 0) i = sb at *
      generalize sW 65536 (fun j => a.getD j 0) i = sa at *
      generalize 65536 ^ i = p at *
      generalize (mnN a b o i).2 = c at *
      generalize a.getD i 0 = x at *
      generalize b.getD i 0 = y at *
      have e1 : (x + 65536 - y - c) % 65536 + y + c = x + (1 - (x + 65536 - y - c) / 65536) * 65536 := by omega
      have e2 : (x + 65536 - y - c) % 65536 * p + y * p + c * p = x * p + (1 - (x + 65536 - y - c) / 65536) * (p * 65536) := by
        rw [← Nat.add_mul, ← Nat.add_mul, e1, Nat.add_mul, Nat.mul_assoc, Nat.mul_comm 65536 p]
      omega

def F79 : FSem := ⟨false, fun args hin => match args, hin with
  | [.agg [.ints .u64 16 a], .agg [.ints .u64 16 b]], [] => some (Tr.needs [g16 a, g16 b, decide (vB 65536 b ≤ vB 65536 a)] (.leaf (.agg [.ints .u64 16 (nb (vB 65536 a - vB 65536 b))], [])))
  | _, _ => none⟩

def zero16 : List Nat := [0, 0, 0, 0, 0, 0, 0, 0, 0, 0, 0, 0, 0, 0, 0, 0]

theorem loops79 : LoopsOk Try.prog ⟨Try.f79.ntmps, 7, [(0, N0)]⟩ (bodyOf Try.f79) := by
  refine loopsOk_of ?_
  have e : loopsIn [(0, N0)] (bodyOf Try.f79) = [(0, .loop (lb 0 Try.f79), N0)] := by kernel_rfl
  simp only [e]
  intro x hx
  simp only [List.mem_cons, List.not_mem_nil, or_false] at hx
  rcases hx with rfl
  · exact lokN0

set_option maxRecDepth 100000 in
theorem r79 (a b : List Nat) : runL Try.prog [] [] .nat 7 [(0, N0)] Try.f79 [.agg [.ints .u64 16 a], .agg [.ints .u64 16 b]] [] = some (.agg [.ints .u64 16 (mnN a b zero16 16).1], []) := by kernel_rfl

theorem minus_nb {a b : List Nat} (ha : g16 a = true) (hb : g16 b = true) (h : vB 65536 b ≤ vB 65536 a) : (mnN a b zero16 16).1 = nb (vB 65536 a - vB 65536 b) := by
  obtain ⟨h1, h2, h3, h4⟩ := mnN_spec (g16_get ha).2 (g16_get hb).2 (o := zero16) rfl (Nat.le_refl 16)
  have e := dB_of (B := 65536) h1 h3
  have e2 : vB 65536 (mnN a b zero16 16).1 = sW 65536 (fun j => (mnN a b zero16 16).1.getD j 0) 16 := by rw [vB_sW, h1]
  have hlt := vB_lt (B := 65536) (xs := (mnN a b zero16 16).1) fun i hi => h3 i (by omega)
  rw [h1] at hlt
  rw [← vB16 ha, ← vB16 hb, ← e2] at h4
  have hsub : vB 65536 (mnN a b zero16 16).1 = vB 65536 a - vB 65536 b := by
    generalize 65536 ^ 16 = p at *
    generalize vB 65536 (mnN a b zero16 16).1 = u at *
    generalize (mnN a b zero16 16).2 = c at *
    rcases (by omega : c = 0 ∨ c = 1) with rfl | rfl
    · rw [Nat.zero_mul] at h4; omega
    · rw [Nat.one_mul] at h4; omega
  rw [e, nb, hsub]

theorem ok79 : FOk Try.prog 79 F79 := by
  refine fokL (fs := []) (xs := []) (m := .nat) (fuel := 7) (sums := [(0, N0)]) .nil fn79 loops79 ?_
  intro args hin t r h hg
  unfold F79 at h
  simp only at h
  split at h
  · rename_i a b
    cases h
    obtain ⟨hc, hgt⟩ := Tr.needs_get hg
    cases hgt
    have ha : g16 a = true := hc (g16 a) (by simp)
    have hb : g16 b = true := hc (g16 b) (by simp)
    have hle : vB 65536 b ≤ vB 65536 a := of_decide_eq_true (hc (decide (vB 65536 b ≤ vB 65536 a)) (by simp))
    rw [r79, minus_nb ha hb hle]
  · cases h

end Go.Proofs.Yteaoegdmhoepiaa

namespace Go.Proofs.Yteaoegdmhoepiaa
open Go

def F54 : FSem := ⟨false, fun args hin => match args, hin with
  | [], [] => some (.leaf (.agg [.ints .u64 16 (nb P255)], []))
  | _, _ => none⟩

set_option maxRecDepth 100000 in
theorem r54 : runB Try.prog [] [] .nat 17 Try.f54 [] [] = some (.agg [.ints .u64 16 (nb P255)], []) := by kernel_rfl

theorem ok54 : FOk Try.prog 54 F54 := by
  refine fokB (fs := []) (xs := []) (m := .nat) (fuel := 17) EnvOk.nil fn54 ?_
  intro args hin t r h hg
  unfold F54 at h
  simp only at h
  split at h
  · cases h; cases hg
    exact r54
  · cases h

theorem vP : vB 65536 (nb P255) = P255 := nb_val (by decide)

/-! The least that are alike. -/
def CC0 : LSem := ⟨[1], [1], fun args hin => match args, hin with
  | [.s (.ptr 0 0)], [[.ints .u64 16 x]] => some (.need (g16 x) (.leaf (.normal, [.s (.ptr 0 0)], [some [.ints .u64 16 (nb (vB 65536 x % P255))]])))
  | _, _ => none⟩

set_option maxRecDepth 100000 in
theorem rc0 (x : List Nat) : runR Try.prog [(54, F54), (79, F79), (93, F93)] [] .nat 7 [] Try.f59 0 CC0 1 [.s (.ptr 0 0)] [some [.ints .u64 16 x]] =
(nd [g16 x]
 (cond (!decide (vB 65536 x < vB 65536 (nb P255)))
 (nd [g16 x, decide (vB 65536 (nb P255) ≤ vB 65536 x)]
 (some (Ex.normal, [AV.s (SV.ptr 0 0)], [some [Ch.ints IntKind.u64 16 (nb (vB 65536 x - vB 65536 (nb P255)))]])))
 (some (Ex.exit 0, [AV.s (SV.ptr 0 0)], [some [Ch.ints IntKind.u64 16 x]])))) := by kernel_rfl

theorem lokC0 : LOk Try.prog Try.f59.ntmps (.block 0 (.loop (lb 0 Try.f59))) CC0 := by
  refine lokR (fs := [(54, F54), (79, F79), (93, F93)]) (xs := []) (m := .nat) (fuel := 7) (sums := []) (.cons ok54 (.cons ok79 (.cons ok93 .nil))) mixedF (loopsOk_none rfl _) ?_
  intro args hin t e vs hout h hg
  unfold CC0 at h
  simp only at h
  split at h
  · rename_i x
    cases h
    obtain ⟨hx, hg⟩ := need1 hg
    cases hg
    obtain ⟨v, hv, rfl⟩ : ∃ v, v < M256 ∧ x = nb v := ⟨vB 65536 x, g16_lt hx, g16_eq hx⟩
    rw [nb_val hv]
    refine ⟨v / P255, fun i => ([.s (.ptr 0 0)], [some [.ints .u64 16 (nb (v - i * P255))]]), .exit 0, by simp [someL], fun i hi => ?_, ?_, rfl⟩
    · have h1 : (i + 1) * P255 ≤ v := Nat.le_trans (Nat.mul_le_mul_right _ hi) (Nat.div_mul_le_self v P255)
      rw [Nat.add_mul, Nat.one_mul] at h1
      simp only [List.length_cons, List.length_nil]
      rw [rc0, vP, nb_val (Nat.lt_of_le_of_lt (Nat.sub_le _ _) hv)]
      refine nd_of ?_ (cond_t (by rw [decide_eq_false (by omega)]; rfl) (nd_of ?_ ?_))
      · simp only [List.mem_cons, List.not_mem_nil, or_false, forall_eq_or_imp, forall_eq, decide_eq_true_eq, true_and, and_true]; exact g16_nb _
      · simp only [List.mem_cons, List.not_mem_nil, or_false, forall_eq_or_imp, forall_eq, decide_eq_true_eq, true_and, and_true]; exact ⟨g16_nb _, by omega⟩
      · rw [show v - (i + 1) * P255 = v - i * P255 - P255 by rw [Nat.add_mul, Nat.one_mul, Nat.sub_sub]]
    · have h1 : v - v / P255 * P255 = v % P255 := by rw [Nat.mod_eq_sub_mul_div, Nat.mul_comm]
      have h2 : v % P255 < P255 := Nat.mod_lt _ (by decide)
      simp only [List.length_cons, List.length_nil]
      rw [h1, rc0, vP, nb_val (Nat.lt_of_le_of_lt (Nat.mod_le _ _) hv)]
      refine nd_of ?_ (cond_f (by rw [decide_eq_true h2]; rfl) rfl)
      simp only [List.mem_cons, List.not_mem_nil, or_false, forall_eq_or_imp, forall_eq, decide_eq_true_eq, true_and, and_true]; exact g16_nb _
  · cases h

def F59 : FSem := ⟨false, fun args hin => match args, hin with
  | [.agg [.ints .u64 16 a]], [] => some (.need (g16 a) (.leaf (.agg [.ints .u64 16 (nb (vB 65536 a % P255))], [])))
  | _, _ => none⟩

theorem loops59 : LoopsOk Try.prog ⟨Try.f59.ntmps, 7, [(0, CC0)]⟩ (bodyOf Try.f59) := by
  refine loopsOk_of ?_
  have e : loopsIn [(0, CC0)] (bodyOf Try.f59) = [(0, .loop (lb 0 Try.f59), CC0)] := by kernel_rfl
  simp only [e]
  intro x hx
  simp only [List.mem_cons, List.not_mem_nil, or_false] at hx
  rcases hx with rfl
  · exact lokC0

set_option maxRecDepth 100000 in
theorem r59 (x : List Nat) : runL Try.prog [] [] .nat 7 [(0, CC0)] Try.f59 [.agg [.ints .u64 16 x]] [] = nd [g16 x] (some (.agg [.ints .u64 16 (nb (vB 65536 x % P255))], [])) := by kernel_rfl

theorem ok59 : FOk Try.prog 59 F59 := by
  refine fokL (fs := []) (xs := []) (m := .nat) (fuel := 7) (sums := [(0, CC0)]) .nil fn59 loops59 ?_
  intro args hin t r h hg
  unfold F59 at h
  simp only at h
  split at h
  · cases h
    obtain ⟨hx, hg⟩ := need1 hg
    cases hg
    rw [r59, hx]
    rfl
  · cases h

/-! Bytes. -/
def btR (x : List Nat) : List Nat := [x.getD 0 0 % 256 % 256, x.getD 0 0 / 256 % 256, x.getD 1 0 % 256 % 256, x.getD 1 0 / 256 % 256, x.getD 2 0 % 256 % 256, x.getD 2 0 / 256 % 256, x.getD 3 0 % 256 % 256, x.getD 3 0 / 256 % 256, x.getD 4 0 % 256 % 256, x.getD 4 0 / 256 % 256, x.getD 5 0 % 256 % 256, x.getD 5 0 / 256 % 256, x.getD 6 0 % 256 % 256, x.getD 6 0 / 256 % 256, x.getD 7 0 % 256 % 256, x.getD 7 0 / 256 % 256, x.getD 8 0 % 256 % 256, x.getD 8 0 / 256 % 256, x.getD 9 0 % 256 % 256, x.getD 9 0 / 256 % 256, x.getD 10 0 % 256 % 256, x.getD 10 0 / 256 % 256, x.getD 11 0 % 256 % 256, x.getD 11 0 / 256 % 256, x.getD 12 0 % 256 % 256, x.getD 12 0 / 256 % 256, x.getD 13 0 % 256 % 256, x.getD 13 0 / 256 % 256, x.getD 14 0 % 256 % 256, x.getD 14 0 / 256 % 256, x.getD 15 0 % 256 % 256, x.getD 15 0 / 256 % 256]

def F31 : FSem := ⟨false, fun args hin => match args, hin with
  | [.agg [.ints .u64 16 a]], [] => some (.need (g16 a) (.leaf (.agg [.ints .u8 32 (dB 256 32 (vB 65536 a % P255))], [])))
  | _, _ => none⟩

set_option maxRecDepth 100000 in
theorem r31 (x : List Nat) : runB Try.prog [(59, F59)] [] .nat 17 Try.f31 [.agg [.ints .u64 16 x]] [] = nd [g16 x] (some (.agg [.ints .u8 32 (btR (nb (vB 65536 x % P255)))], [])) := by kernel_rfl

theorem btR_nb {w : Nat} : btR (nb w) = dB 256 32 w := by
  have he : ∀ i, i < 16 → (nb w).getD i 0 = w / 65536 ^ i % 65536 := fun i hi => by rw [nb, dB_get, if_pos hi]
  apply List.ext_getElem?
  intro i
  by_cases hi : i < 32
  · have hn := dB_get 256 32 w i
    rw [if_pos hi] at hn
    have e1 : (dB 256 32 w)[i]? = some ((dB 256 32 w).getD i 0) := by
      rw [List.getD, List.getElem?_eq_getElem (by rw [dB_len]; exact hi)]; rfl
    rw [e1, hn]
    unfold btR
    simp only [he 0 (by omega), he 1 (by omega), he 2 (by omega), he 3 (by omega), he 4 (by omega), he 5 (by omega), he 6 (by omega), he 7 (by omega), he 8 (by omega), he 9 (by omega), he 10 (by omega), he 11 (by omega), he 12 (by omega), he 13 (by omega), he 14 (by omega), he 15 (by omega)]
    have : i = 0 ∨ i = 1 ∨ i = 2 ∨ i = 3 ∨ i = 4 ∨ i = 5 ∨ i = 6 ∨ i = 7 ∨ i = 8 ∨ i = 9 ∨ i = 10 ∨ i = 11 ∨ i = 12 ∨ i = 13 ∨ i = 14 ∨ i = 15 ∨ i = 16 ∨ i = 17 ∨ i = 18 ∨ i = 19 ∨ i = 20 ∨ i = 21 ∨ i = 22 ∨ i = 23 ∨ i = 24 ∨ i = 25 ∨ i = 26 ∨ i = 27 ∨ i = 28 ∨ i = 29 ∨ i = 30 ∨ i = 31 := by omega
    rcases this with rfl | rfl | rfl | rfl | rfl | rfl | rfl | rfl | rfl | rfl | rfl | rfl | rfl | rfl | rfl | rfl | rfl | rfl | rfl | rfl | rfl | rfl | rfl | rfl | rfl | rfl | rfl | rfl | rfl | rfl | rfl | rfl <;> simp only [List.getElem?_cons_zero, List.getElem?_cons_succ, Nat.reducePow, Option.some.injEq] <;> omega
  · rw [List.getElem?_eq_none (by show 32 ≤ i; omega), List.getElem?_eq_none (by rw [dB_len]; omega)]

theorem ok31 : FOk Try.prog 31 F31 := by
  refine fokB (fs := [(59, F59)]) (xs := []) (m := .nat) (fuel := 17) (.cons ok59 .nil) fn31 ?_
  intro args hin t r h hg
  unfold F31 at h
  simp only at h
  split at h
  · cases h
    obtain ⟨hx, hg⟩ := need1 hg
    cases hg
    rw [r31, hx, btR_nb]
    rfl
  · cases h

/-! What is lacking to nought; differences. -/
theorem nb_zero : nb 0 = zero16 := by decide

theorem nb_ne {w : Nat} (hw : w < M256) (h : w ≠ 0) : nb w ≠ zero16 := fun e => h (by
  have := nb_val hw
  rw [e] at this
  rw [← this]
  decide)

def ngV (v : Nat) : Nat := (P255 - v % P255) % P255

def F43 : FSem := ⟨false, fun args hin => match args, hin with
  | [.agg [.ints .u64 16 a]], [] => some (.need (g16 a) (.leaf (.agg [.ints .u64 16 (nb (ngV (vB 65536 a)))], [])))
  | _, _ => none⟩

set_option maxRecDepth 100000 in
theorem r43 (x : List Nat) : runB Try.prog [(54, F54), (79, F79), (59, F59)] [] .nat 7 Try.f43 [.agg [.ints .u64 16 x]] [] =
(nd [g16 x]
 (cond (decide (nb (vB 65536 x % P255) = zero16))
 (some (AV.agg [Ch.ints IntKind.u64 16 (nb (vB 65536 x % P255))], []))
 (nd [g16 (nb (vB 65536 x % P255)), decide (vB 65536 (nb (vB 65536 x % P255)) ≤ vB 65536 (nb P255))]
 (some (AV.agg [Ch.ints IntKind.u64 16 (nb (vB 65536 (nb P255) - vB 65536 (nb (vB 65536 x % P255))))], []))))) := by kernel_rfl

theorem ok43 : FOk Try.prog 43 F43 := by
  refine fokB (fs := [(54, F54), (79, F79), (59, F59)]) (xs := []) (m := .nat) (fuel := 7) (.cons ok54 (.cons ok79 (.cons ok59 .nil))) fn43 ?_
  intro args hin t r h hg
  unfold F43 at h
  simp only at h
  split at h
  · rename_i x
    cases h
    obtain ⟨hx, hg⟩ := need1 hg
    cases hg
    have h2 : vB 65536 x % P255 < P255 := Nat.mod_lt _ (by decide)
    have h3 : vB 65536 x % P255 < M256 := Nat.lt_trans h2 (by decide)
    rw [r43, vP, nb_val h3]
    unfold ngV
    generalize vB 65536 x % P255 = w at *
    refine nd_of (by simp only [List.mem_cons, List.not_mem_nil, or_false, forall_eq_or_imp, forall_eq, decide_eq_true_eq, true_and, and_true]; exact hx) ?_
    by_cases hw : w = 0
    · subst hw
      refine cond_t (by rw [nb_zero]; simp) ?_
      rw [Nat.sub_zero, Nat.mod_self]
    · refine cond_f (decide_eq_false (nb_ne h3 hw)) (nd_of ?_ ?_)
      · simp only [List.mem_cons, List.not_mem_nil, or_false, forall_eq_or_imp, forall_eq, decide_eq_true_eq, true_and, and_true]; exact ⟨g16_nb _, by omega⟩
      · rw [Nat.mod_eq_of_lt (a := P255 - w) (by omega)]
  · cases h

def F41 : FSem := ⟨false, fun args hin => match args, hin with
  | [.agg [.ints .u64 16 a], .agg [.ints .u64 16 b]], [] => some (.need (g16 a) (.need (g16 b) (.leaf (.agg [.ints .u64 16 (nb (fv (vB 65536 a + ngV (vB 65536 b))))], []))))
  | _, _ => none⟩

set_option maxRecDepth 100000 in
theorem r41 (a b : List Nat) : runB Try.prog [(43, F43), (40, F40)] [] .nat 7 Try.f41 [.agg [.ints .u64 16 a], .agg [.ints .u64 16 b]] [] =
    nd [g16 b, g16 a, g16 (nb (ngV (vB 65536 b)))] (some (.agg [.ints .u64 16 (nb (fv (vB 65536 a + vB 65536 (nb (ngV (vB 65536 b))))))], [])) := by kernel_rfl

theorem ngV_lt (v : Nat) : ngV v < P255 := Nat.mod_lt _ (by decide)

theorem ok41 : FOk Try.prog 41 F41 := by
  refine fokB (fs := [(43, F43), (40, F40)]) (xs := []) (m := .nat) (fuel := 7) (.cons ok43 (.cons ok40 .nil)) fn41 ?_
  intro args hin t r h hg
  unfold F41 at h
  simp only at h
  split at h
  · cases h
    obtain ⟨ha, hg⟩ := need1 hg
    obtain ⟨hb, hg⟩ := need1 hg
    cases hg
    rw [r41, nb_val (Nat.lt_trans (ngV_lt _) (by decide))]
    exact nd_of (by simp only [List.mem_cons, List.not_mem_nil, or_false, forall_eq_or_imp, forall_eq, decide_eq_true_eq, true_and, and_true]; exact ⟨hb, ha, g16_nb _⟩) rfl
  · cases h

/-! Powers. -/
def W2 : LSem := ⟨[6, 7, 8], [7], fun args hin => match args, hin with
  | [.s (.nat .i64 i), .s (.nat .u64 b), .s (.nat .i64 0)], [] => some (.leaf (.normal, [.s (.nat .u64 (b / 2 ^ (i % 16)))], []))
  | _, _ => none⟩

set_option maxRecDepth 100000 in
theorem rw2 (i b n : Nat) : runR Try.prog [] [] .nat 7 [] Try.f56 2 W2 0 [.s (.nat .i64 i), .s (.nat .u64 b), .s (.nat .i64 n)] [] =
(cond (decide (n < i % 16))
 (nd [decide (n + 1 < 9223372036854775808)]
 (some (Ex.normal, [AV.s (SV.nat IntKind.i64 i), AV.s (SV.nat IntKind.u64 (b / 2)), AV.s (SV.nat IntKind.i64 (n + 1))], [])))
 (some (Ex.exit 2, [AV.s (SV.nat IntKind.u64 b)], []))) := by kernel_rfl

theorem lokW2 : LOk Try.prog Try.f56.ntmps (.block 2 (.loop (lb 2 Try.f56))) W2 := by
  refine lokR (fs := []) (xs := []) (m := .nat) (fuel := 7) (sums := []) .nil mixedF (loopsOk_none rfl _) ?_
  intro args hin t e vs hout h hg
  unfold W2 at h
  simp only at h
  split at h
  · rename_i i b
    cases h
    cases hg
    refine ⟨i % 16, fun n => ([.s (.nat .i64 i), .s (.nat .u64 (b / 2 ^ n)), .s (.nat .i64 n)], []), .exit 2, by simp [someL], fun n hn => ?_, ?_, rfl⟩
    · simp only [List.length_nil]
      rw [rw2]
      refine cond_t (decide_eq_true hn) (nd_of ?_ ?_)
      · simp only [List.mem_cons, List.not_mem_nil, or_false, forall_eq_or_imp, forall_eq, decide_eq_true_eq, true_and, and_true]; omega
      · rw [Nat.pow_succ, ← Nat.div_div_eq_div_mul]
    · simp only [List.length_nil]
      rw [rw2]
      exact cond_f (decide_eq_false (by omega)) rfl
  · cases h

end Go.Proofs.Yteaoegdmhoepiaa

namespace Go.Proofs.Yteaoegdmhoepiaa
open Go

abbrev L52 : Nat := 4503599627370496

theorem lim5_mono {B C : Nat} {x : List Nat} (h : lim5 B x) (hBC : B ≤ C) : lim5 C x := ⟨h.1, fun i => Nat.lt_of_lt_of_le (h.2 i) hBC⟩

theorem sub_val {x y : List Nat} (hx : lim5 L52 x) (hy : lim5 L52 y) : ∃ k, lim5 2251799813718016 (subF x y) ∧ v51 x + 4 * P255 = v51 (subF x y) + v51 y + k * P255 := by
  obtain ⟨x0, x1, x2, x3, x4, rfl⟩ := five hx.1
  obtain ⟨y0, y1, y2, y3, y4, rfl⟩ := five hy.1
  have a0 : x0 < _ := hx.2 0
  have a1 : x1 < _ := hx.2 1
  have a2 : x2 < _ := hx.2 2
  have a3 : x3 < _ := hx.2 3
  have a4 : x4 < _ := hx.2 4
  have b0 : y0 < _ := hy.2 0
  have b1 : y1 < _ := hy.2 1
  have b2 : y2 < _ := hy.2 2
  have b3 : y3 < _ := hy.2 3
  have b4 : y4 < _ := hy.2 4
  have hs : ∀ {a b : Nat}, a < L52 → b < L52 → sb a b = a + (9007199254740988 - b) := fun {a b} h1 h2 => by unfold sb; simp only [L52] at *; omega
  have e : subF [x0, x1, x2, x3, x4] [y0, y1, y2, y3, y4] = fcarr [x0 + (9007199254740988 - y0) - 72, x1 + (9007199254740988 - y1), x2 + (9007199254740988 - y2), x3 + (9007199254740988 - y3), x4 + (9007199254740988 - y4)] := by
    show fcarr [(sb x0 y0 + 18446744073709551616 - 72) % 18446744073709551616, sb x1 y1, sb x2 y2, sb x3 y3, sb x4 y4] = _
    rw [hs a0 b0, hs a1 b1, hs a2 b2, hs a3 b3, hs a4 b4]
    refine congrArg fcarr (list5 ?_ rfl rfl rfl rfl)
    have b0' : y0 < 4503599627370496 := b0
    have a0' : x0 < 4503599627370496 := a0
    clear hs
    rw [show x0 + (9007199254740988 - y0) + 18446744073709551616 - 72 = x0 + (9007199254740988 - y0) - 72 + 18446744073709551616 by omega, Nat.add_mod_right, Nat.mod_eq_of_lt (by omega)]
  simp only [L52] at *
  obtain ⟨k, g1, g2⟩ := fcarr_val (x := [x0 + (9007199254740988 - y0) - 72, x1 + (9007199254740988 - y1), x2 + (9007199254740988 - y2), x3 + (9007199254740988 - y3), x4 + (9007199254740988 - y4)]) (lim5_mk (by omega) (by omega) (by omega) (by omega) (by omega))
  rw [e]
  refine ⟨k, g1, ?_⟩
  rw [v51_mk] at g2 ⊢
  rw [v51_mk]
  have g2' : _ = _ + k * 57896044618658097711785492504343953926634992332820282019728792003956564819949 := g2
  show _ + 4 * 57896044618658097711785492504343953926634992332820282019728792003956564819949 = _ + _ + k * 57896044618658097711785492504343953926634992332820282019728792003956564819949
  omega

/-- The sum of the numbers of a list. -/
def sumV (yss : List (List Nat)) : Nat → Nat
  | 0 => 0
  | j + 1 => sumV yss j + v51 (yss.getD j [])

theorem adN_val {yss : List (List Nat)} (h : ∀ j, j < yss.length → lim5 L52 (yss.getD j [])) (hl : yss.length ≤ 16) : ∀ {j : Nat}, j ≤ yss.length → lim5 (j * L52 + 1) (adN yss j) ∧ v51 (adN yss j) = sumV yss j
  | 0, _ => ⟨lim5_mk (by omega) (by omega) (by omega) (by omega) (by omega), rfl⟩
  | j + 1, hj => by
    obtain ⟨h1, h2⟩ := adN_val h hl (j := j) (by omega)
    have h3 := h j (by omega)
    have e : adN yss (j + 1) = adS (adN yss j) (yss.getD j []) := by
      unfold adN
      rw [decide_eq_false (by omega), cond_false]
      cases j <;> rfl
    rw [e, sumV, ← h2]
    obtain ⟨x0, x1, x2, x3, x4, hx⟩ := five h1.1
    obtain ⟨y0, y1, y2, y3, y4, hy⟩ := five h3.1
    rw [hx] at h1 ⊢
    rw [hy] at h3 ⊢
    have a0 : x0 < _ := h1.2 0
    have a1 : x1 < _ := h1.2 1
    have a2 : x2 < _ := h1.2 2
    have a3 : x3 < _ := h1.2 3
    have a4 : x4 < _ := h1.2 4
    have b0 : y0 < _ := h3.2 0
    have b1 : y1 < _ := h3.2 1
    have b2 : y2 < _ := h3.2 2
    have b3 : y3 < _ := h3.2 3
    have b4 : y4 < _ := h3.2 4
    have hm : j * L52 ≤ 16 * L52 := Nat.mul_le_mul_right _ (by omega)
    have e2 : adS [x0, x1, x2, x3, x4] [y0, y1, y2, y3, y4] = [x0 + y0, x1 + y1, x2 + y2, x3 + y3, x4 + y4] := by
      show [aa x0 y0, aa x1 y1, aa x2 y2, aa x3 y3, aa x4 y4] = _
      unfold aa
      simp only [L52] at *
      refine list5 ?_ ?_ ?_ ?_ ?_ <;> exact Nat.mod_eq_of_lt (by omega)
    rw [e2]
    have hsucc : (j + 1) * L52 = j * L52 + L52 := Nat.succ_mul j L52
    refine ⟨lim5_mk (by omega) (by omega) (by omega) (by omega) (by omega), ?_⟩
    rw [v51_mk, v51_mk, v51_mk]
    omega

theorem add_val {yss : List (List Nat)} (h : ∀ j, j < yss.length → lim5 L52 (yss.getD j [])) (hl : yss.length ≤ 16) : ∃ k, lim5 2251799813718016 (addF yss) ∧ sumV yss yss.length = v51 (addF yss) + k * P255 := by
  obtain ⟨h1, h2⟩ := adN_val h hl (Nat.le_refl _)
  have hm : yss.length * L52 ≤ 16 * L52 := Nat.mul_le_mul_right _ hl
  obtain ⟨k, g1, g2⟩ := fcarr_val (x := adN yss yss.length) (lim5_mono h1 (Nat.le_trans (Nat.succ_le_succ hm) (by decide)))
  exact ⟨k, g1, by rw [← h2, g2]; rfl⟩

/-! The number of 32 bytes. -/
theorem g32_bit {key : List Nat} (h : g32 key = true) {i : Nat} (hi : i < 256) : key.getD (i / 8) 0 / 2 ^ (i % 8) % 2 = vB 256 key / 2 ^ i % 2 := by
  rw [g32_dig h (by omega), ← bit_dig 8 (vB 256 key) i (by omega), show (256 : Nat) = 2 ^ 8 from rfl, ← Nat.pow_mul]

theorem of_val {key : List Nat} (h : g32 key = true) : lim5 2251799813685248 (ofF key) ∧ v51 (ofF key) = vB 256 key % 57896044618658097711785492504343953926634992332820282019728792003956564819968 := by
  obtain ⟨h1, h2⟩ := ofN_get (key := key) (V := vB 256 key) (fun i hi => g32_bit h (by omega)) (Nat.le_refl 255)
  obtain ⟨a, b, c, d, e, he⟩ := five h1
  have e0 := h2 0 (by omega)
  have e1 := h2 1 (by omega)
  have e2 := h2 2 (by omega)
  have e3 := h2 3 (by omega)
  have e4 := h2 4 (by omega)
  rw [he] at e0 e1 e2 e3 e4
  unfold Lb at e0 e1 e2 e3 e4
  simp only [Nat.reducePow, Nat.reduceMul] at e0 e1 e2 e3 e4
  have f0 : a = _ := e0
  have f1 : b = _ := e1
  have f2 : c = _ := e2
  have f3 : d = _ := e3
  have f4 : e = _ := e4
  show lim5 _ (ofN key 255) ∧ v51 (ofN key 255) = _
  rw [he]
  have hv : vB 256 key % 57896044618658097711785492504343953926634992332820282019728792003956564819968 < 57896044618658097711785492504343953926634992332820282019728792003956564819968 := Nat.mod_lt _ (by omega)
  generalize vB 256 key % 57896044618658097711785492504343953926634992332820282019728792003956564819968 = V at *
  refine ⟨lim5_mk (by omega) (by omega) (by omega) (by omega) (by omega), ?_⟩
  rw [v51_mk]
  omega

/-! The least that are alike. -/
theorem ftwo {x : List Nat} (h : lim5 L52 x) : ∃ k, lim5 2251799813685248 (fcarr (fcarr x)) ∧ v51 x = v51 (fcarr (fcarr x)) + k * P255 := by
  obtain ⟨a, b, c, d, e, rfl⟩ := five h.1
  have h0 : a < _ := h.2 0
  have h1 : b < _ := h.2 1
  have h2 : c < _ := h.2 2
  have h3 : d < _ := h.2 3
  have h4 : e < _ := h.2 4
  simp only [L52] at *
  obtain ⟨c0, c1, c2, c3, c4, e0, e1, e2, e3, e4, hc⟩ := fcarr_mk (a := a) (b := b) (c := c) (d := d) (e := e) (by omega) (by omega) (by omega) (by omega) (by omega)
  have q0 : c0 ≤ 2 := by omega
  have q1 : c1 ≤ 2 := by omega
  have q2 : c2 ≤ 2 := by omega
  have q3 : c3 ≤ 2 := by omega
  have q4 : c4 ≤ 2 := by omega
  obtain ⟨d0, d1, d2, d3, d4, f0, f1, f2, f3, f4, hd⟩ := fcarr_mk (a := a % 2251799813685248 + 19 * c4) (b := (b + c0) % 2251799813685248) (c := (c + c1) % 2251799813685248) (d := (d + c2) % 2251799813685248) (e := (e + c3) % 2251799813685248) (by omega) (by omega) (by omega) (by omega) (by omega)
  rw [hc, hd]
  refine ⟨c4 + d4, lim5_mk ?_ (Nat.mod_lt _ (by omega)) (Nat.mod_lt _ (by omega)) (Nat.mod_lt _ (by omega)) (Nat.mod_lt _ (by omega)), ?_⟩
  · have : (a % 2251799813685248 + 19 * c4) < 2251799813685248 + 38 := by omega
    have : d4 = 0 ∨ d0 = 1 := by omega
    rcases this with h | h <;> omega
  · rw [v51_mk, v51_mk]
    show _ = _ + (c4 + d4) * 57896044618658097711785492504343953926634992332820282019728792003956564819949
    omega

theorem fleast_val {x : List Nat} (h : lim5 2251799813685248 x) : lim5 2251799813685248 (fleast x) ∧ v51 (fleast x) = v51 x % P255 := by
  obtain ⟨a, b, c, d, e, rfl⟩ := five h.1
  have h0 : a < _ := h.2 0
  have h1 : b < _ := h.2 1
  have h2 : c < _ := h.2 2
  have h3 : d < _ := h.2 3
  have h4 : e < _ := h.2 4
  have ho : ∃ q, over19 a b c d e = q ∧ q = (v51 [a, b, c, d, e] + 19) / 57896044618658097711785492504343953926634992332820282019728792003956564819968 := by
    refine ⟨_, rfl, ?_⟩
    unfold over19 aa
    rw [v51_mk]
    simp only [Nat.reducePow]
    rw [Nat.mod_eq_of_lt (a := a + 19) (by omega)]
    generalize hq0 : (a + 19) / 2251799813685248 = q0
    rw [Nat.mod_eq_of_lt (a := b + q0) (by omega)]
    generalize hq1 : (b + q0) / 2251799813685248 = q1
    rw [Nat.mod_eq_of_lt (a := c + q1) (by omega)]
    generalize hq2 : (c + q1) / 2251799813685248 = q2
    rw [Nat.mod_eq_of_lt (a := d + q2) (by omega)]
    generalize hq3 : (d + q2) / 2251799813685248 = q3
    rw [Nat.mod_eq_of_lt (a := e + q3) (by omega)]
    omega
  obtain ⟨q, hq, hq2⟩ := ho
  rw [v51_mk] at hq2
  have hq1 : q ≤ 1 := by omega
  have e1 : fleast [a, b, c, d, e] = fl5 a b c d e := rfl
  rw [e1]
  unfold fl5 flO aa mm
  simp only [and51, Nat.reducePow, hq]
  rw [Nat.mod_eq_of_lt (a := 19 * q) (by omega), Nat.mod_eq_of_lt (a := a + 19 * q) (by omega), Nat.add_zero, Nat.mod_eq_of_lt (a := a + 19 * q) (by omega)]
  generalize hc0 : (a + 19 * q) / 2251799813685248 = c0
  rw [Nat.mod_eq_of_lt (a := b + c0) (by omega)]
  generalize hc1 : (b + c0) / 2251799813685248 = c1
  rw [Nat.mod_eq_of_lt (a := c + c1) (by omega)]
  generalize hc2 : (c + c1) / 2251799813685248 = c2
  rw [Nat.mod_eq_of_lt (a := d + c2) (by omega)]
  generalize hc3 : (d + c2) / 2251799813685248 = c3
  rw [Nat.mod_eq_of_lt (a := e + c3) (by omega)]
  refine ⟨lim5_mk (Nat.mod_lt _ (by omega)) (Nat.mod_lt _ (by omega)) (Nat.mod_lt _ (by omega)) (Nat.mod_lt _ (by omega)) (Nat.mod_lt _ (by omega)), ?_⟩
  rw [v51_mk, v51_mk]
  show _ = _ % 57896044618658097711785492504343953926634992332820282019728792003956564819949
  generalize hc4 : (e + c3) / 2251799813685248 = c4
  generalize hW : (a + 19 * q) % 2251799813685248 + 2251799813685248 * ((b + c0) % 2251799813685248) + 5070602400912917605986812821504 * ((c + c1) % 2251799813685248) + 11417981541647679048466287755595961091061972992 * ((d + c2) % 2251799813685248) + 25711008708143844408671393477458601640355247900524685364822016 * ((e + c3) % 2251799813685248) = W
  generalize hV : a + 2251799813685248 * b + 5070602400912917605986812821504 * c + 11417981541647679048466287755595961091061972992 * d + 25711008708143844408671393477458601640355247900524685364822016 * e = V at *
  have k1 : W + 57896044618658097711785492504343953926634992332820282019728792003956564819968 * c4 = V + 19 * q := by omega
  have k2 : W < 57896044618658097711785492504343953926634992332820282019728792003956564819968 := by omega
  have k3 : V < 57896044618658097711785492504343953926634992332820282019728792003956564819968 := by omega
  clear hW hV hc0 hc1 hc2 hc3 hc4 hq e1 h h0 h1 h2 h3 h4
  rcases (by omega : q = 0 ∨ q = 1) with rfl | rfl
  · have : c4 = 0 := by omega
    subst this
    rw [Nat.mod_eq_of_lt (by omega)]
    omega
  · have : c4 = 1 := by omega
    subst this
    omega

theorem parts_bit {y : List Nat} (hy : lim5 2251799813685248 y) {i : Nat} (hi : i < 255) : y.getD (i / 51) 0 / 2 ^ (i % 51) % 2 = v51 y / 2 ^ i % 2 := by
  obtain ⟨a, b, c, d, e, rfl⟩ := five hy.1
  have h0 : a < _ := hy.2 0
  have h1 : b < _ := hy.2 1
  have h2 : c < _ := hy.2 2
  have h3 : d < _ := hy.2 3
  have h4 : e < _ := hy.2 4
  rw [← bit_dig 51 (v51 [a, b, c, d, e]) i (by omega), v51_mk]
  congr 2
  have : i / 51 = 0 ∨ i / 51 = 1 ∨ i / 51 = 2 ∨ i / 51 = 3 ∨ i / 51 = 4 := by omega
  rcases this with h | h | h | h | h <;> rw [h] <;> simp only [List.getD_cons_zero, List.getD_cons_succ, Nat.reduceMul, Nat.reducePow] <;> omega

/-- THE BYTES OF A NUMBER. -/
theorem bytes_val {x : List Nat} (h : lim5 L52 x) : bytesF x = dB 256 32 (v51 x % P255) := by
  obtain ⟨k, h1, h2⟩ := ftwo h
  obtain ⟨g1, g2⟩ := fleast_val h1
  have e : v51 x % P255 = v51 (fleast (fcarr (fcarr x))) := by rw [g2, h2, Nat.add_mul_mod_self_right]
  obtain ⟨b1, b2⟩ := bN_get (x := fleast (fcarr (fcarr x))) (V := v51 (fleast (fcarr (fcarr x)))) (fun i hi => parts_bit g1 hi) (Nat.le_refl 255)
  have hlt : v51 (fleast (fcarr (fcarr x))) < 2 ^ 255 := by
    rw [g2]
    exact Nat.lt_trans (Nat.mod_lt _ (by decide)) (by decide)
  rw [e]
  unfold bytesF
  generalize v51 (fleast (fcarr (fcarr x))) = V at *
  generalize bN (fleast (fcarr (fcarr x))) 255 = k at *
  apply List.ext_getElem (by rw [b1, dB_len])
  intro i g3 g4
  have h5 := b2 i (by omega)
  have h6 := dB_get 256 32 V i
  rw [List.getD, List.getElem?_eq_getElem g3, Option.getD_some] at h5
  rw [List.getD, List.getElem?_eq_getElem g4, Option.getD_some, if_pos (by omega)] at h6
  rw [h5, h6, Lb, Nat.mod_eq_of_lt hlt, show (256 : Nat) = 2 ^ 8 from rfl, ← Nat.pow_mul]

end Go.Proofs.Yteaoegdmhoepiaa

namespace Go.Proofs.Yteaoegdmhoepiaa
open Go

def F30 : FSem := ⟨false, fun args hin => match args, hin with
  | [], [] => some (.leaf (.s (.bool true), []))
  | _, _ => none⟩

theorem fn30 : Fn Try.prog 30 Try.f30 := ⟨mixedF, Try.func30, by kernel_rfl, of_decide_eq_true (by kernel_rfl)⟩

set_option maxRecDepth 100000 in
theorem r30 : runB Try.prog [(24, F24), (25, F25), (26, F26), (29, F29), (39, F39)] [] .nat 3 Try.f30 [] [] = some (.s (.bool true), []) := by kernel_rfl

theorem ok30 : FOk Try.prog 30 F30 := by
  refine fokB (fs := [(24, F24), (25, F25), (26, F26), (29, F29), (39, F39)]) (xs := []) (m := .nat) (fuel := 3) (.cons ok24 (.cons ok25 (.cons ok26 (.cons ok29 (.cons ok39 .nil))))) fn30 ?_
  intro args hin t r h hg
  unfold F30 at h
  simp only at h
  split at h
  · cases h; cases hg
    exact r30
  · cases h

end Go.Proofs.Yteaoegdmhoepiaa

namespace Go.Proofs.Yteaoegdmhoepiaa
open Go

/-- Five parts that stand for v. -/
def EV (x : List Nat) (v : Nat) : Prop := lim5 L52 x ∧ v51 x % P255 = v % P255

abbrev P2 : Nat := 57896044618658097711785492504343953926634992332820282019728792003956564819968

theorem lim5_52 {x : List Nat} (h : lim5 2251799813718016 x) : lim5 L52 x := lim5_mono h (by decide)

theorem EV.of_eq {x : List Nat} {v w : Nat} (h : EV x v) (e : v % P255 = w % P255) : EV x w := ⟨h.1, h.2.trans e⟩

theorem ofE {k : List Nat} (h : g32 k = true) : EV (ofF k) (vB 256 k % P2) := by
  obtain ⟨h1, h2⟩ := of_val h
  exact ⟨lim5_mono h1 (by decide), by rw [h2]⟩

theorem smallE {n : Nat} (h : n < 4294967296) : EV [n, 0, 0, 0, 0] n := by
  refine ⟨lim5_mk (Nat.lt_trans h (by decide)) (by decide) (by decide) (by decide) (by decide), ?_⟩
  rw [v51_mk]
  simp only [Nat.mul_zero, Nat.add_zero]

theorem mulE {x y : List Nat} {v w : Nat} (hx : EV x v) (hy : EV y w) : EV (mulF x y) (v * w) := by
  obtain ⟨k, h1, h2⟩ := mul_val hx.1 hy.1
  refine ⟨lim5_52 h1, ?_⟩
  rw [Nat.mul_mod v w, ← hx.2, ← hy.2, ← Nat.mul_mod, h2, Nat.add_mul_mod_self_right]

theorem ng_add (w : Nat) : (w + ngV w) % P255 = 0 := by
  unfold ngV
  have h1 : w % P255 < P255 := Nat.mod_lt _ (by decide)
  rw [Nat.add_mod, Nat.mod_mod]
  by_cases h : w % P255 = 0
  · rw [h]; decide
  · have e : (P255 - w % P255) % P255 = P255 - w % P255 := Nat.mod_eq_of_lt (Nat.sub_lt (by decide) (by omega))
    rw [e, Nat.add_sub_cancel' (Nat.le_of_lt h1)]
    exact Nat.mod_self _

theorem add_cancel {a b w : Nat} (h : (a + w) % P255 = (b + w) % P255) : a % P255 = b % P255 := by
  have e : ∀ c, c % P255 = (c + w + ngV w) % P255 := fun c => by
    rw [Nat.add_assoc, Nat.add_mod, ng_add, Nat.add_zero, Nat.mod_mod]
  rw [e a, e b, Nat.add_mod, h, ← Nat.add_mod]

theorem subE {x y : List Nat} {v w : Nat} (hx : EV x v) (hy : EV y w) : EV (subF x y) (v + ngV w) := by
  obtain ⟨k, h1, h2⟩ := sub_val hx.1 hy.1
  refine ⟨lim5_52 h1, add_cancel (w := w) ?_⟩
  have e1 : (v51 (subF x y) + w) % P255 = v51 x % P255 := by
    rw [Nat.add_mod, ← hy.2, ← Nat.add_mod, ← Nat.add_mul_mod_self_right (v51 (subF x y) + v51 y) k, ← h2, Nat.add_mul_mod_self_right]
  rw [e1, hx.2, Nat.add_assoc, Nat.add_comm (ngV w), Nat.add_mod, ng_add, Nat.add_zero, Nat.mod_mod]

theorem zE : EV z5 0 := ⟨lim5_mk (by decide) (by decide) (by decide) (by decide) (by decide), rfl⟩

theorem negE {x : List Nat} {v : Nat} (hx : EV x v) : EV (negF x) (ngV v) := by
  have := subE zE hx
  rwa [Nat.zero_add] at this

theorem addE2 {x y : List Nat} {v w : Nat} (hx : EV x v) (hy : EV y w) : EV (addF [x, y]) (v + w) := by
  obtain ⟨k, h1, h2⟩ := add_val (yss := [x, y]) (fun j hj => by
    match j, hj with
    | 0, _ => exact hx.1
    | 1, _ => exact hy.1
    | j + 2, h => (simp at h; omega)) (by simp)
  refine ⟨lim5_52 h1, ?_⟩
  have e : sumV [x, y] [x, y].length = v51 x + v51 y := by simp [sumV]
  rw [Nat.add_mod v w, ← hx.2, ← hy.2, ← Nat.add_mod, ← e, h2, Nat.add_mul_mod_self_right]

theorem addE3 {x y z : List Nat} {u v w : Nat} (hx : EV x u) (hy : EV y v) (hz : EV z w) : EV (addF [x, y, z]) (u + v + w) := by
  obtain ⟨k, h1, h2⟩ := add_val (yss := [x, y, z]) (fun j hj => by
    match j, hj with
    | 0, _ => exact hx.1
    | 1, _ => exact hy.1
    | 2, _ => exact hz.1
    | j + 3, h => (simp at h; omega)) (by simp)
  refine ⟨lim5_52 h1, ?_⟩
  have e : sumV [x, y, z] [x, y, z].length = v51 x + v51 y + v51 z := by simp [sumV]
  rw [Nat.add_mod (u + v) w, Nat.add_mod u v, ← hx.2, ← hy.2, ← hz.2, ← Nat.add_mod (v51 x) (v51 y), ← Nat.add_mod (v51 x + v51 y) (v51 z), ← e, h2, Nat.add_mul_mod_self_right]

theorem addE0 : EV (addF []) 0 := ⟨lim5_mk (by decide) (by decide) (by decide) (by decide) (by decide), rfl⟩

theorem bytesE {x : List Nat} {v : Nat} (hx : EV x v) : bytesF x = dB 256 32 (v % P255) := by rw [bytes_val hx.1, hx.2]

theorem dB_inj {v w : Nat} (hv : v < P255) (hw : w < P255) (h : dB 256 32 v = dB 256 32 w) : v = w := by
  have h1 := vB_dB 256 32 v
  have h2 := vB_dB 256 32 w
  rw [h, h2] at h1
  rw [Nat.mod_eq_of_lt (Nat.lt_trans hv (by decide)), Nat.mod_eq_of_lt (Nat.lt_trans hw (by decide))] at h1
  exact h1.symm

theorem mod_lt' (v : Nat) : v % P255 < P255 := Nat.mod_lt _ (by decide)

theorem eqE {x y : List Nat} {v w : Nat} (hx : EV x v) (hy : EV y w) : eqF x y = decide (v % P255 = w % P255) := by
  unfold eqF
  rw [bytesE hx, bytesE hy]
  exact decide_eq_decide.2 ⟨fun h => dB_inj (mod_lt' v) (mod_lt' w) h, fun h => by rw [h]⟩

theorem zero32_dB : zero32 = dB 256 32 0 := by decide

theorem isZE {x : List Nat} {v : Nat} (hx : EV x v) : isZ x = decide (v % P255 = 0) := by
  unfold isZ
  rw [bytesE hx, zero32_dB]
  exact decide_eq_decide.2 ⟨fun h => dB_inj (mod_lt' v) (by decide) h, fun h => by rw [h]⟩

theorem oddE {x : List Nat} {v : Nat} (hx : EV x v) : oddF x = decide (v % P255 % 2 = 1) := by
  unfold oddF
  rw [bytesE hx, and1, dB_get, if_pos (by decide), Nat.pow_zero, Nat.div_one]
  exact decide_eq_decide.2 (by omega)

theorem canE {k : List Nat} (h : g32 k = true) : canF k = decide (dB 256 32 (vB 256 k % P2 % P255) = k) := by
  unfold canF
  rw [bytesE (ofE h)]

/-! The document's side. -/
theorem P2_lt (v : Nat) : v % P2 < M256 := Nat.lt_trans (Nat.mod_lt _ (by decide)) (by decide)

theorem fvMul {u v : Nat} (hu : u < M256) (hv : v < M256) : fv (u * v) < M256 ∧ fv (u * v) % P255 = u * v % P255 := ⟨fv_lt (mulLt hu hv), fv_mod (mulLt hu hv)⟩
theorem fvAdd {u v : Nat} (hu : u < M256) (hv : v < M256) : fv (u + v) < M256 ∧ fv (u + v) % P255 = (u + v) % P255 := ⟨fv_lt (addLt hu hv), fv_mod (addLt hu hv)⟩

theorem ngLt (v : Nat) : ngV v < M256 := Nat.lt_trans (ngV_lt v) (by decide)

def fT : Option (AV × List (Option Blk)) := some (.s (.bool false), [])

def envF : List (Nat × FSem) := [(30, F30), (23, F23), (24, F24), (25, F25), (26, F26), (27, F27), (29, F29), (33, F33), (34, F34), (35, F35), (38, F38), (39, F39), (42, F42), (57, F57), (31, F31), (32, F32), (36, F36), (37, F37), (40, F40), (41, F41), (43, F43)]

theorem envF_ok : EnvOk ⟨Try.prog, envF, []⟩ :=
  .cons ok30 (.cons ok23 (.cons ok24 (.cons ok25 (.cons ok26 (.cons ok27 (.cons ok29 (.cons ok33 (.cons ok34 (.cons ok35 (.cons ok38 (.cons ok39 (.cons ok42 (.cons ok57 (.cons ok31 (.cons ok32 (.cons ok36 (.cons ok37 (.cons ok40 (.cons ok41 (.cons ok43 .nil))))))))))))))))))))

theorem fn4 : Fn Try.prog 4 Try.f4 := ⟨mixedF, Try.func4, by kernel_rfl, of_decide_eq_true (by kernel_rfl)⟩
theorem fn5 : Fn Try.prog 5 Try.f5 := ⟨mixedF, Try.func5, by kernel_rfl, of_decide_eq_true (by kernel_rfl)⟩

set_option maxRecDepth 100000 in
theorem r5 (a b c : List Nat) : runB Try.prog envF [] .nat 7 Try.f5 [.agg [.ints .u8 32 a], .agg [.ints .u8 32 b], .agg [.ints .u8 32 c]] [] =
(nd [g32 a, g32 b, g32 c, g16 (nb (vB 256 a % P2)), g16 (nb (vB 256 b % P2)), g16 (nb (fv (vB 65536 (nb (vB 256 a % P2)) * vB 65536 (nb (vB 256 b % P2)))))]
 (cond (decide (bytesF (mulF (ofF a) (ofF b)) = dB 256 32 (vB 65536 (nb (fv (vB 65536 (nb (vB 256 a % P2)) * vB 65536 (nb (vB 256 b % P2))))) % P255)))
 (nd [g16 (nb (vB 256 a % P2)), g16 (nb (vB 256 b % P2)), g16 (nb (fv (vB 65536 (nb (vB 256 a % P2)) * vB 65536 (nb (vB 256 b % P2))))), g16 (nb (vB 256 c % P2)), g16 (nb (fv (vB 65536 (nb (fv (vB 65536 (nb (vB 256 a % P2)) * vB 65536 (nb (vB 256 b % P2))))) * vB 65536 (nb (vB 256 c % P2)))))]
 (cond (decide (bytesF (pdN [ofF a, ofF b, ofF c] 3) = dB 256 32 (vB 65536 (nb (fv (vB 65536 (nb (fv (vB 65536 (nb (vB 256 a % P2)) * vB 65536 (nb (vB 256 b % P2))))) * vB 65536 (nb (vB 256 c % P2))))) % P255)))
 (some (AV.s (SV.bool (eqF (mulF (ofF a) (ofF b)) (mulF (ofF b) (ofF a)))), []))
 fT))
 fT)) := by kernel_rfl

theorem oneE : EV [1, 0, 0, 0, 0] 1 := smallE (by decide)

theorem pd3 (x y z : List Nat) : pdN [x, y, z] 3 = mulF (mulF (mulF [1, 0, 0, 0, 0] x) y) z := by kernel_rfl

theorem ctr5 {a b c : List Nat} (ha : g32 a = true) (hb : g32 b = true) (hc : g32 c = true) : Ctr Try.prog 5 [.agg [.ints .u8 32 a], .agg [.ints .u8 32 b], .agg [.ints .u8 32 c]] [] (.s (.bool true)) [] := by
  refine ctrB (fs := envF) (xs := []) (m := .nat) (fuel := 7) envF_ok fn5 ?_
  have ea := ofE ha
  have eb := ofE hb
  have ec := ofE hc
  have la := P2_lt (vB 256 a)
  have lb := P2_lt (vB 256 b)
  have lc := P2_lt (vB 256 c)
  rw [r5]
  rw [nb_val la, nb_val lb, nb_val lc]
  generalize vB 256 a % P2 = u at *
  generalize vB 256 b % P2 = v at *
  generalize vB 256 c % P2 = w at *
  obtain ⟨m1, m2⟩ := fvMul la lb
  obtain ⟨m3, m4⟩ := fvMul m1 lc
  have e1 := mulE ea eb
  have e2 : EV (pdN [ofF a, ofF b, ofF c] 3) (u * v * w) := by
    have h := mulE (mulE (mulE oneE ea) eb) ec
    rw [Nat.one_mul] at h
    rw [pd3]
    exact h
  have e3 := mulE eb ea
  rw [nb_val m1, nb_val m3, bytesE e1, bytesE e2, m2, m4, eqE e1 e3, Nat.mul_comm v u]
  refine nd_of ?_ (cond_t (decide_eq_true rfl) (nd_of ?_ (cond_t (decide_eq_true ?_) ?_)))
  · simp only [List.mem_cons, List.not_mem_nil, or_false, forall_eq_or_imp, forall_eq, decide_eq_true_eq, true_and, and_true]; exact ⟨ha, hb, hc, g16_nb _, g16_nb _, g16_nb _⟩
  · simp only [List.mem_cons, List.not_mem_nil, or_false, forall_eq_or_imp, forall_eq, decide_eq_true_eq, true_and, and_true]; exact ⟨g16_nb _, g16_nb _, g16_nb _, g16_nb _, g16_nb _⟩
  · rw [Nat.mul_mod (fv (u * v)), m2, ← Nat.mul_mod]
  · simp

set_option maxRecDepth 100000 in
theorem r4 (a : List Nat) (n : Nat) : runB Try.prog envF [] .nat 7 Try.f4 [.agg [.ints .u8 32 a], .s (.nat .u32 n)] [] =
(nd [g32 a, g16 (nb (vB 256 a % P2))]
 (cond (decide (bytesF (ofF a) = dB 256 32 (vB 65536 (nb (vB 256 a % P2)) % P255)))
 (cond (canF a == decide (dB 256 32 (vB 65536 (nb (vB 256 a % P2)) % P255) = a))
 (cond (isZ (ofF a) == decide (dB 256 32 (vB 65536 (nb (vB 256 a % P2)) % P255) = zero32))
 (cond (oddF (ofF a) == decide ((dB 256 32 (vB 65536 (nb (vB 256 a % P2)) % P255)).getD 0 0 % 2 = 1))
 (nd [g16 (nb (n % 4294967296))]
 (some (AV.s (SV.bool (decide (bytesF [n, 0, 0, 0, 0] = dB 256 32 (vB 65536 (nb (n % 4294967296)) % P255)))), [])))
 fT)
 fT)
 fT)
 fT)) := by kernel_rfl

theorem ctr4 {a : List Nat} {n : Nat} (ha : g32 a = true) (hn : n < 4294967296) : Ctr Try.prog 4 [.agg [.ints .u8 32 a], .s (.nat .u32 n)] [] (.s (.bool true)) [] := by
  refine ctrB (fs := envF) (xs := []) (m := .nat) (fuel := 7) envF_ok fn4 ?_
  have ea := ofE ha
  have la := P2_lt (vB 256 a)
  rw [r4, nb_val la, Nat.mod_eq_of_lt hn, nb_val (Nat.lt_trans hn (by decide)), canE ha, bytesE ea, isZE ea, oddE ea, bytesE (smallE hn)]
  generalize vB 256 a % P2 = u at *
  refine nd_of ?_ (cond_t (decide_eq_true rfl) (cond_t (by simp) (cond_t ?_ (cond_t ?_ (nd_of ?_ (by simp))))))
  · simp only [List.mem_cons, List.not_mem_nil, or_false, forall_eq_or_imp, forall_eq, decide_eq_true_eq, true_and, and_true]; exact ⟨ha, g16_nb _⟩
  · rw [beq_iff_eq, zero32_dB]
    exact decide_eq_decide.2 ⟨fun h => by rw [h], fun h => dB_inj (mod_lt' u) (by decide) h⟩
  · rw [beq_iff_eq, dB_get, if_pos (by decide), Nat.pow_zero, Nat.div_one]
    exact decide_eq_decide.2 (by omega)
  · simp only [List.mem_cons, List.not_mem_nil, or_false, forall_eq_or_imp, forall_eq, decide_eq_true_eq, true_and, and_true]; exact g16_nb _

end Go.Proofs.Yteaoegdmhoepiaa

namespace Go.Proofs.Yteaoegdmhoepiaa
open Go Go.ChangeShapes Go.WideShapes Go.ChangeAt Go.RowKit

theorem own : ownKnob Try.prog.godebug = none := by kernel_rfl
theorem laidOut : laidOutB Try.prog = true := by kernel_rfl
theorem u3 : Try.prog.underlying 3 = some (.int .i64) := by kernel_rfl
theorem u4 : Try.prog.underlying 4 = some .bool := by kernel_rfl
theorem u5 : Try.prog.underlying 5 = some (.int .u8) := by kernel_rfl
theorem u36 : Try.prog.underlying 36 = some (.int .u32) := by kernel_rfl
theorem u52 : Try.prog.underlying 52 = some (.int .u16) := by kernel_rfl
theorem u23 : Try.prog.underlying 23 = some (.array 32 5) := by kernel_rfl
theorem c5 : Try.prog.cellsOf 5 = 1 := by kernel_rfl
theorem c23 : Try.prog.cellsOf 23 = 32 := by kernel_rfl

theorem law_of {s : ChangeSpec} (h : s.vars = [] ∧ ∀ (H : Type) (d1 d2 d3 : DataW H), (s.fn H [d1, d2, d3]) = { results := [.lit (.bool true)], args := [d1, d2, d3] }) : Law s 3 := by
  refine ⟨h.1, fun H ds hl => ?_⟩
  match ds, hl with
  | [d1, d2, d3], _ => rw [h.2]; exact ⟨rfl, rfl, rfl⟩

theorem law_of2 {s : ChangeSpec} (h : s.vars = [] ∧ ∀ (H : Type) (d1 d2 : DataW H), (s.fn H [d1, d2]) = { results := [.lit (.bool true)], args := [d1, d2] }) : Law s 2 := by
  refine ⟨h.1, fun H ds hl => ?_⟩
  match ds, hl with
  | [d1, d2], _ => rw [h.2]; exact ⟨rfl, rfl, rfl⟩

theorem law_of1 {s : ChangeSpec} (h : s.vars = [] ∧ ∀ (H : Type) (d1 : DataW H), (s.fn H [d1]) = { results := [.lit (.bool true)], args := [d1] }) : Law s 1 := by
  refine ⟨h.1, fun H ds hl => ?_⟩
  match ds, hl with
  | [d1], _ => rw [h.2]; exact ⟨rfl, rfl, rfl⟩

theorem g32_of {k : List Nat} (hl : k.length = 32) (h : ∀ x ∈ k, x < 256) : g32 k = true := by
  rw [g32, Bool.and_eq_true]
  exact ⟨decide_eq_true hl, allB_mem h⟩

end Go.Proofs.Yteaoegdmhoepiaa

namespace Go.Proofs.Yteaoegdmhoepiaa
open Go

structure Ops where
  mul : List Nat → List Nat → List Nat
  sub : List Nat → List Nat → List Nat
  add : List (List Nat) → List Nat
  pd : List (List Nat) → List Nat
  of : List Nat → List Nat
  bytes : List Nat → List Nat
  isz : List Nat → Bool
  odd : List Nat → Bool
  eq : List Nat → List Nat → Bool
  can : List Nat → Bool
  neg : List Nat → List Nat
  swl : Bool → List Nat → List Nat → List Nat
  swr : Bool → List Nat → List Nat → List Nat
  pow : List Nat → List Nat → List Nat
  inv : List Nat → List Nat
  l5 : List Nat → Bool
  a5 : List (List Nat) → Bool
  g16 : List Nat → Bool
  g32 : List Nat → Bool
  mulR : List Nat → List Nat → List Nat
  addR : List Nat → List Nat → List Nat
  subR : List Nat → List Nat → List Nat
  negR : List Nat → List Nat
  canR : List Nat → List Nat
  bytesR : List Nat → List Nat
  ofR : List Nat → List Nat
  smR : Nat → List Nat

def ops : Ops := {
  mul := mulF,
  sub := subF,
  add := addF,
  pd := fun yss => pdN yss yss.length,
  of := ofF,
  bytes := bytesF,
  isz := isZ,
  odd := oddF,
  eq := eqF,
  can := canF,
  neg := negF,
  swl := fun b x y => swL (swM b) x y,
  swr := fun b x y => swR (swM b) x y,
  pow := powF,
  inv := invF,
  l5 := fun x => decide (x.length = 5),
  a5 := all5,
  g16 := g16,
  g32 := g32,
  mulR := fun a b => nb (fv (vB 65536 a * vB 65536 b)),
  addR := fun a b => nb (fv (vB 65536 a + vB 65536 b)),
  subR := fun a b => nb (fv (vB 65536 a + ngV (vB 65536 b))),
  negR := fun a => nb (ngV (vB 65536 a)),
  canR := fun a => nb (vB 65536 a % P255),
  bytesR := fun a => dB 256 32 (vB 65536 a % P255),
  ofR := fun k => nb (vB 256 k % 57896044618658097711785492504343953926634992332820282019728792003956564819968),
  smR := fun n => nb (n % 4294967296)
}

def O23 (o : Ops) : FSem := ⟨false, fun args hin => match args, hin with
  | [.agg [.ints .u8 32 k]], [] => some (.leaf (.agg [.ints .u64 5 (o.of k)], []))
  | _, _ => none⟩
theorem oo23 : FOk Try.prog 23 (O23 ops) := by
  have e : O23 ops = F23 := by kernel_rfl
  rw [e]
  exact ok23

def O25 (o : Ops) : FSem := ⟨false, fun args hin => match args, hin with
  | [.agg [.ints .u64 5 x], .agg [.ints .u64 5 y]], [] => some (.need (o.l5 x) (.need (o.l5 y) (.leaf (.agg [.ints .u64 5 (o.mul x y)], []))))
  | _, _ => none⟩
theorem oo25 : FOk Try.prog 25 (O25 ops) := by
  have e : O25 ops = F25 := by kernel_rfl
  rw [e]
  exact ok25

def O26 (o : Ops) : FSem := ⟨true, fun args hin => match args, hin with
  | [.s (.xsl (.arrs .u64 5 yss))], [] => some (.need (decide (yss.length < 9223372036854775808)) (.leaf (.agg [.ints .u64 5 (o.add yss)], [])))
  | _, _ => none⟩
theorem oo26 : FOk Try.prog 26 (O26 ops) := by
  have e : O26 ops = F26 := by kernel_rfl
  rw [e]
  exact ok26

def O27 (o : Ops) : FSem := ⟨false, fun args hin => match args, hin with
  | [.agg [.ints .u64 5 x], .agg [.ints .u64 5 y]], [] => some (.need (o.l5 x) (.need (o.l5 y) (.leaf (.agg [.ints .u64 5 (o.sub x y)], []))))
  | _, _ => none⟩
theorem oo27 : FOk Try.prog 27 (O27 ops) := by
  have e : O27 ops = F27 := by kernel_rfl
  rw [e]
  exact ok27

def O29 (o : Ops) : FSem := ⟨false, fun args hin => match args, hin with
  | [.agg [.ints .u64 5 x]], [] => some (.need (o.l5 x) (.leaf (.agg [.ints .u8 32 (o.bytes x)], [])))
  | _, _ => none⟩
theorem oo29 : FOk Try.prog 29 (O29 ops) := by
  have e : O29 ops = F29 := by kernel_rfl
  rw [e]
  exact ok29

def O33 (o : Ops) : FSem := ⟨false, fun args hin => match args, hin with
  | [.agg [.ints .u8 32 k]], [] => some (.leaf (.s (.bool (o.can k)), []))
  | _, _ => none⟩
theorem oo33 : FOk Try.prog 33 (O33 ops) := by
  have e : O33 ops = F33 := by kernel_rfl
  rw [e]
  exact ok33

def O34 (o : Ops) : FSem := ⟨false, fun args hin => match args, hin with
  | [.agg [.ints .u64 5 x]], [] => some (.need (o.l5 x) (.leaf (.s (.bool (o.isz x)), [])))
  | _, _ => none⟩
theorem oo34 : FOk Try.prog 34 (O34 ops) := by
  have e : O34 ops = F34 := by kernel_rfl
  rw [e]
  exact ok34

def O35 (o : Ops) : FSem := ⟨false, fun args hin => match args, hin with
  | [.agg [.ints .u64 5 x]], [] => some (.need (o.l5 x) (.leaf (.s (.bool (o.odd x)), [])))
  | _, _ => none⟩
theorem oo35 : FOk Try.prog 35 (O35 ops) := by
  have e : O35 ops = F35 := by kernel_rfl
  rw [e]
  exact ok35

def O38 (o : Ops) : FSem := ⟨true, fun args hin => match args, hin with
  | [.s (.xsl (.arrs .u64 5 yss))], [] => some (Tr.needs [decide (yss.length < 9223372036854775808), o.a5 yss] (.leaf (.agg [.ints .u64 5 (o.pd yss)], [])))
  | _, _ => none⟩
theorem oo38 : FOk Try.prog 38 (O38 ops) := by
  have e : O38 ops = F38 := by kernel_rfl
  rw [e]
  exact ok38

def O39 (o : Ops) : FSem := ⟨false, fun args hin => match args, hin with
  | [.agg [.ints .u64 5 x], .agg [.ints .u64 5 y]], [] => some (.need (o.l5 x) (.need (o.l5 y) (.leaf (.s (.bool (o.eq x y)), []))))
  | _, _ => none⟩
theorem oo39 : FOk Try.prog 39 (O39 ops) := by
  have e : O39 ops = F39 := by kernel_rfl
  rw [e]
  exact ok39

def O42 (o : Ops) : FSem := ⟨false, fun args hin => match args, hin with
  | [.agg [.ints .u64 5 x]], [] => some (.need (o.l5 x) (.leaf (.agg [.ints .u64 5 (o.neg x)], [])))
  | _, _ => none⟩
theorem oo42 : FOk Try.prog 42 (O42 ops) := by
  have e : O42 ops = F42 := by kernel_rfl
  rw [e]
  exact ok42

def O57 (o : Ops) : FSem := ⟨false, fun args hin => match args, hin with
  | [.s (.bool b), .agg [.ints .u64 5 x], .agg [.ints .u64 5 y]], [] => some (.need (o.l5 x) (.need (o.l5 y) (.leaf (.tup [.agg [.ints .u64 5 (o.swl b x y)], .agg [.ints .u64 5 (o.swr b x y)]], []))))
  | _, _ => none⟩
theorem oo57 : FOk Try.prog 57 (O57 ops) := by
  have e : O57 ops = F57 := by kernel_rfl
  rw [e]
  exact ok57

def O28 (o : Ops) : FSem := ⟨false, fun args hin => match args, hin with
  | [.agg [.ints .u64 5 x]], [] => some (.need (o.l5 x) (.leaf (.agg [.ints .u64 5 (o.inv x)], [])))
  | _, _ => none⟩
theorem oo28 : FOk Try.prog 28 (O28 ops) := by
  have e : O28 ops = F28 := by kernel_rfl
  rw [e]
  exact ok28

def O53 (o : Ops) : FSem := ⟨false, fun args hin => match args, hin with
  | [.agg [.ints .u64 5 x], .agg [.ints .u8 32 k]], [] => some (.need (o.l5 x) (.leaf (.agg [.ints .u64 5 (o.pow x k)], [])))
  | _, _ => none⟩
theorem oo53 : FOk Try.prog 53 (O53 ops) := by
  have e : O53 ops = F53 := by kernel_rfl
  rw [e]
  exact ok53

def O31 (o : Ops) : FSem := ⟨false, fun args hin => match args, hin with
  | [.agg [.ints .u64 16 x]], [] => some (.need (o.g16 x) (.leaf (.agg [.ints .u8 32 (o.bytesR x)], [])))
  | _, _ => none⟩
theorem oo31 : FOk Try.prog 31 (O31 ops) := by
  have e : O31 ops = F31 := by kernel_rfl
  rw [e]
  exact ok31

def O32 (o : Ops) : FSem := ⟨false, fun args hin => match args, hin with
  | [.agg [.ints .u8 32 k]], [] => some (.need (o.g32 k) (.leaf (.agg [.ints .u64 16 (o.ofR k)], [])))
  | _, _ => none⟩
theorem oo32 : FOk Try.prog 32 (O32 ops) := by
  have e : O32 ops = F32 := by kernel_rfl
  rw [e]
  exact ok32

def O36 (o : Ops) : FSem := ⟨false, fun args hin => match args, hin with
  | [.s (.nat .u64 n)], [] => some (.leaf (.agg [.ints .u64 16 (o.smR n)], []))
  | _, _ => none⟩
theorem oo36 : FOk Try.prog 36 (O36 ops) := by
  have e : O36 ops = F36 := by kernel_rfl
  rw [e]
  exact ok36

def O37 (o : Ops) : FSem := ⟨false, fun args hin => match args, hin with
  | [.agg [.ints .u64 16 x], .agg [.ints .u64 16 y]], [] => some (.need (o.g16 x) (.need (o.g16 y) (.leaf (.agg [.ints .u64 16 (o.mulR x y)], []))))
  | _, _ => none⟩
theorem oo37 : FOk Try.prog 37 (O37 ops) := by
  have e : O37 ops = F37 := by kernel_rfl
  rw [e]
  exact ok37

def O40 (o : Ops) : FSem := ⟨false, fun args hin => match args, hin with
  | [.agg [.ints .u64 16 x], .agg [.ints .u64 16 y]], [] => some (.need (o.g16 x) (.need (o.g16 y) (.leaf (.agg [.ints .u64 16 (o.addR x y)], []))))
  | _, _ => none⟩
theorem oo40 : FOk Try.prog 40 (O40 ops) := by
  have e : O40 ops = F40 := by kernel_rfl
  rw [e]
  exact ok40

def O41 (o : Ops) : FSem := ⟨false, fun args hin => match args, hin with
  | [.agg [.ints .u64 16 x], .agg [.ints .u64 16 y]], [] => some (.need (o.g16 x) (.need (o.g16 y) (.leaf (.agg [.ints .u64 16 (o.subR x y)], []))))
  | _, _ => none⟩
theorem oo41 : FOk Try.prog 41 (O41 ops) := by
  have e : O41 ops = F41 := by kernel_rfl
  rw [e]
  exact ok41

def O43 (o : Ops) : FSem := ⟨false, fun args hin => match args, hin with
  | [.agg [.ints .u64 16 x]], [] => some (.need (o.g16 x) (.leaf (.agg [.ints .u64 16 (o.negR x)], [])))
  | _, _ => none⟩
theorem oo43 : FOk Try.prog 43 (O43 ops) := by
  have e : O43 ops = F43 := by kernel_rfl
  rw [e]
  exact ok43

def O59 (o : Ops) : FSem := ⟨false, fun args hin => match args, hin with
  | [.agg [.ints .u64 16 x]], [] => some (.need (o.g16 x) (.leaf (.agg [.ints .u64 16 (o.canR x)], [])))
  | _, _ => none⟩
theorem oo59 : FOk Try.prog 59 (O59 ops) := by
  have e : O59 ops = F59 := by kernel_rfl
  rw [e]
  exact ok59

def envO (o : Ops) : List (Nat × FSem) := [(30, F30), (24, F24), (23, O23 o), (25, O25 o), (26, O26 o), (27, O27 o), (29, O29 o), (33, O33 o), (34, O34 o), (35, O35 o), (38, O38 o), (39, O39 o), (42, O42 o), (57, O57 o), (28, O28 o), (53, O53 o), (31, O31 o), (32, O32 o), (36, O36 o), (37, O37 o), (40, O40 o), (41, O41 o), (43, O43 o), (59, O59 o)]

theorem envO_ok : EnvOk ⟨Try.prog, envO ops, []⟩ :=
  .cons ok30 (.cons ok24 (.cons oo23 (.cons oo25 (.cons oo26 (.cons oo27 (.cons oo29 (.cons oo33 (.cons oo34 (.cons oo35 (.cons oo38 (.cons oo39 (.cons oo42 (.cons oo57 (.cons oo28 (.cons oo53 (.cons oo31 (.cons oo32 (.cons oo36 (.cons oo37 (.cons oo40 (.cons oo41 (.cons oo43 (.cons oo59 .nil)))))))))))))))))))))))

end Go.Proofs.Yteaoegdmhoepiaa

namespace Go.Proofs.Yteaoegdmhoepiaa
open Go

theorem ops_mul : ops.mul = mulF := by kernel_rfl
theorem ops_sub : ops.sub = subF := by kernel_rfl
theorem ops_add : ops.add = addF := by kernel_rfl
theorem ops_pd : ops.pd = (fun yss => pdN yss yss.length) := by kernel_rfl
theorem ops_of : ops.of = ofF := by kernel_rfl
theorem ops_bytes : ops.bytes = bytesF := by kernel_rfl
theorem ops_isz : ops.isz = isZ := by kernel_rfl
theorem ops_odd : ops.odd = oddF := by kernel_rfl
theorem ops_eq : ops.eq = eqF := by kernel_rfl
theorem ops_can : ops.can = canF := by kernel_rfl
theorem ops_neg : ops.neg = negF := by kernel_rfl
theorem ops_swl : ops.swl = (fun b x y => swL (swM b) x y) := by kernel_rfl
theorem ops_swr : ops.swr = (fun b x y => swR (swM b) x y) := by kernel_rfl
theorem ops_pow : ops.pow = powF := by kernel_rfl
theorem ops_inv : ops.inv = invF := by kernel_rfl
theorem ops_l5 : ops.l5 = (fun x => decide (x.length = 5)) := by kernel_rfl
theorem ops_a5 : ops.a5 = all5 := by kernel_rfl
theorem ops_g16 : ops.g16 = g16 := by kernel_rfl
theorem ops_g32 : ops.g32 = g32 := by kernel_rfl
theorem ops_mulR : ops.mulR = (fun a b => nb (fv (vB 65536 a * vB 65536 b))) := by kernel_rfl
theorem ops_addR : ops.addR = (fun a b => nb (fv (vB 65536 a + vB 65536 b))) := by kernel_rfl
theorem ops_subR : ops.subR = (fun a b => nb (fv (vB 65536 a + ngV (vB 65536 b)))) := by kernel_rfl
theorem ops_negR : ops.negR = (fun a => nb (ngV (vB 65536 a))) := by kernel_rfl
theorem ops_canR : ops.canR = (fun a => nb (vB 65536 a % P255)) := by kernel_rfl
theorem ops_bytesR : ops.bytesR = (fun a => dB 256 32 (vB 65536 a % P255)) := by kernel_rfl
theorem ops_ofR : ops.ofR = (fun k => nb (vB 256 k % 57896044618658097711785492504343953926634992332820282019728792003956564819968)) := by kernel_rfl
theorem ops_smR : ops.smR = (fun n => nb (n % 4294967296)) := by kernel_rfl

theorem l5T {x : List Nat} {v : Nat} (h : EV x v) : decide (x.length = 5) = true := decide_eq_true h.1.1

theorem fn6 : Fn Try.prog 6 Try.f6 := ⟨mixedF, Try.func6, by kernel_rfl, of_decide_eq_true (by kernel_rfl)⟩
theorem fn7 : Fn Try.prog 7 Try.f7 := ⟨mixedF, Try.func7, by kernel_rfl, of_decide_eq_true (by kernel_rfl)⟩
theorem fn11 : Fn Try.prog 11 Try.f11 := ⟨mixedF, Try.func11, by kernel_rfl, of_decide_eq_true (by kernel_rfl)⟩

set_option maxRecDepth 100000 in
theorem r6 (o : Ops) (a b c : List Nat) : runB Try.prog (envO o) [] .nat 7 Try.f6 [.agg [.ints .u8 32 a], .agg [.ints .u8 32 b], .agg [.ints .u8 32 c]] [] =
(nd [o.g32 a, o.g32 b, o.g32 c, o.l5 (o.add [o.of a, o.of b, o.of c]), o.g16 (o.ofR a), o.g16 (o.ofR b), o.g16 (o.addR (o.ofR a) (o.ofR b)), o.g16 (o.ofR c), o.g16 (o.addR (o.addR (o.ofR a) (o.ofR b)) (o.ofR c))]
 (cond (decide (o.bytes (o.add [o.of a, o.of b, o.of c]) = o.bytesR (o.addR (o.addR (o.ofR a) (o.ofR b)) (o.ofR c))))
 (nd [o.l5 (o.of a), o.l5 (o.of b), o.l5 (o.sub (o.of a) (o.of b)), o.g16 (o.ofR a), o.g16 (o.ofR b), o.g16 (o.subR (o.ofR a) (o.ofR b))]
 (cond (decide (o.bytes (o.sub (o.of a) (o.of b)) = o.bytesR (o.subR (o.ofR a) (o.ofR b))))
 (nd [o.l5 (o.of a), o.l5 (o.neg (o.of a)), o.g16 (o.ofR a), o.g16 (o.negR (o.ofR a))]
 (cond (decide (o.bytes (o.neg (o.of a)) = o.bytesR (o.negR (o.ofR a))))
 (nd [o.l5 (o.add []), o.l5 [0, 0, 0, 0, 0]]
 (some (AV.s (SV.bool (o.eq (o.add []) [0, 0, 0, 0, 0])), [])))
 (some (AV.s (SV.bool false), []))))
 (some (AV.s (SV.bool false), []))))
 (some (AV.s (SV.bool false), [])))) := by kernel_rfl

set_option maxRecDepth 100000 in
theorem r11 (o : Ops) (a b c : List Nat) : runB Try.prog (envO o) [] .nat 7 Try.f11 [.agg [.ints .u8 32 a], .agg [.ints .u8 32 b], .agg [.ints .u8 32 c]] [] =
(nd [o.l5 (o.of b), o.l5 (o.of c), o.l5 (o.of c), o.l5 (o.of a), o.l5 (o.of a), o.l5 (o.add [o.mul (o.of b) (o.of c), o.sub (o.of c) (o.of a)]), o.l5 (o.of a), o.l5 (o.mul (o.of b) (o.of c)), o.l5 (o.of a), o.l5 (o.sub (o.of c) (o.of a)), o.l5 (o.of a), o.l5 (o.mul (o.of b) (o.of c)), o.l5 (o.of a), o.l5 (o.mul (o.of b) (o.of c)), o.l5 (o.mul (o.of a) (o.add [o.mul (o.of b) (o.of c), o.sub (o.of c) (o.of a)])), o.l5 (o.add [o.mul (o.of a) (o.mul (o.of b) (o.of c)), o.mul (o.of a) (o.sub (o.of c) (o.of a))])]
 (cond (o.eq (o.mul (o.of a) (o.add [o.mul (o.of b) (o.of c), o.sub (o.of c) (o.of a)])) (o.add [o.mul (o.of a) (o.mul (o.of b) (o.of c)), o.mul (o.of a) (o.sub (o.of c) (o.of a))]))
 (nd [o.l5 (o.of a), o.l5 (o.add [o.of a, o.neg (o.of a)]), o.l5 [0, 0, 0, 0, 0]]
 (cond (o.eq (o.add [o.of a, o.neg (o.of a)]) [0, 0, 0, 0, 0])
 (nd [o.l5 (o.add [o.of a, o.mul (o.of b) (o.of c)]), o.l5 (o.mul (o.of b) (o.of c)), o.l5 (o.sub (o.add [o.of a, o.mul (o.of b) (o.of c)]) (o.mul (o.of b) (o.of c))), o.l5 (o.of a)]
 (cond (o.eq (o.sub (o.add [o.of a, o.mul (o.of b) (o.of c)]) (o.mul (o.of b) (o.of c))) (o.of a))
 (nd [o.l5 (o.swl true (o.of a) (o.mul (o.of b) (o.of c))), o.l5 (o.mul (o.of b) (o.of c))]
 (cond (o.eq (o.swl true (o.of a) (o.mul (o.of b) (o.of c))) (o.mul (o.of b) (o.of c)))
 (nd [o.l5 (o.swr true (o.of a) (o.mul (o.of b) (o.of c))), o.l5 (o.of a)]
 (cond (o.eq (o.swr true (o.of a) (o.mul (o.of b) (o.of c))) (o.of a))
 (nd [o.l5 (o.swl false (o.of a) (o.mul (o.of b) (o.of c))), o.l5 (o.of a)]
 (cond (o.eq (o.swl false (o.of a) (o.mul (o.of b) (o.of c))) (o.of a))
 (nd [o.l5 (o.swr false (o.of a) (o.mul (o.of b) (o.of c))), o.l5 (o.mul (o.of b) (o.of c))]
 (cond (o.eq (o.swr false (o.of a) (o.mul (o.of b) (o.of c))) (o.mul (o.of b) (o.of c)))
 (nd [o.l5 (o.mul (o.of b) (o.of c))]
 (cond (o.can (o.bytes (o.mul (o.of b) (o.of c))))
 (nd [o.l5 (o.sub (o.of c) (o.of a)), o.l5 (o.of (o.bytes (o.sub (o.of c) (o.of a)))), o.l5 (o.sub (o.of c) (o.of a))]
 (some (AV.s (SV.bool (o.eq (o.of (o.bytes (o.sub (o.of c) (o.of a)))) (o.sub (o.of c) (o.of a)))), [])))
 (some (AV.s (SV.bool false), []))))
 (some (AV.s (SV.bool false), []))))
 (some (AV.s (SV.bool false), []))))
 (some (AV.s (SV.bool false), []))))
 (some (AV.s (SV.bool false), []))))
 (some (AV.s (SV.bool false), []))))
 (some (AV.s (SV.bool false), []))))
 (some (AV.s (SV.bool false), [])))) := by kernel_rfl

set_option maxRecDepth 100000 in
theorem r7 (o : Ops) (k : List Nat) (a b : Nat) : runB Try.prog (envO o) [] .nat 7 Try.f7 [.agg [.ints .u8 32 k], .s (.nat .u16 a), .s (.nat .u16 b)] [] =
(nd [o.l5 (o.of k), o.l5 (o.of k)]
 (cond (o.isz (o.of k))
 (nd [o.l5 (o.of k)]
 (cond (o.odd (o.of k))
 (some (AV.s (SV.bool false), []))
 (nd [o.l5 (o.neg (o.of k))]
 (cond (o.odd (o.neg (o.of k)))
 (some (AV.s (SV.bool false), []))
 (nd [o.l5 (o.neg (o.of k))]
 (cond (!o.isz (o.neg (o.of k)))
 (some (AV.s (SV.bool false), []))
 (nd [o.l5 (o.add [[a, 0, 0, 0, 0], [b, 0, 0, 0, 0]]), o.l5 [(a + b) % 4294967296, 0, 0, 0, 0]]
 (cond (o.eq (o.add [[a, 0, 0, 0, 0], [b, 0, 0, 0, 0]]) [(a + b) % 4294967296, 0, 0, 0, 0])
 (nd [o.l5 [a, 0, 0, 0, 0], o.l5 [b, 0, 0, 0, 0], o.l5 (o.mul [a, 0, 0, 0, 0] [b, 0, 0, 0, 0]), o.l5 [a * b % 4294967296, 0, 0, 0, 0]]
 (cond (o.eq (o.mul [a, 0, 0, 0, 0] [b, 0, 0, 0, 0]) [a * b % 4294967296, 0, 0, 0, 0])
 (nd [o.l5 [(a + b) % 4294967296, 0, 0, 0, 0], o.l5 [b, 0, 0, 0, 0], o.l5 (o.sub [(a + b) % 4294967296, 0, 0, 0, 0] [b, 0, 0, 0, 0]), o.l5 [a, 0, 0, 0, 0]]
 (some (AV.s (SV.bool (o.eq (o.sub [(a + b) % 4294967296, 0, 0, 0, 0] [b, 0, 0, 0, 0]) [a, 0, 0, 0, 0])), [])))
 (some (AV.s (SV.bool false), []))))
 (some (AV.s (SV.bool false), []))))))))))
 (nd [o.l5 (o.of k), o.l5 (o.neg (o.of k))]
 (cond (o.odd (o.of k) == o.odd (o.neg (o.of k)))
 (some (AV.s (SV.bool false), []))
 (nd [o.l5 (o.add [[a, 0, 0, 0, 0], [b, 0, 0, 0, 0]]), o.l5 [(a + b) % 4294967296, 0, 0, 0, 0]]
 (cond (o.eq (o.add [[a, 0, 0, 0, 0], [b, 0, 0, 0, 0]]) [(a + b) % 4294967296, 0, 0, 0, 0])
 (nd [o.l5 [a, 0, 0, 0, 0], o.l5 [b, 0, 0, 0, 0], o.l5 (o.mul [a, 0, 0, 0, 0] [b, 0, 0, 0, 0]), o.l5 [a * b % 4294967296, 0, 0, 0, 0]]
 (cond (o.eq (o.mul [a, 0, 0, 0, 0] [b, 0, 0, 0, 0]) [a * b % 4294967296, 0, 0, 0, 0])
 (nd [o.l5 [(a + b) % 4294967296, 0, 0, 0, 0], o.l5 [b, 0, 0, 0, 0], o.l5 (o.sub [(a + b) % 4294967296, 0, 0, 0, 0] [b, 0, 0, 0, 0]), o.l5 [a, 0, 0, 0, 0]]
 (some (AV.s (SV.bool (o.eq (o.sub [(a + b) % 4294967296, 0, 0, 0, 0] [b, 0, 0, 0, 0]) [a, 0, 0, 0, 0])), [])))
 (some (AV.s (SV.bool false), []))))
 (some (AV.s (SV.bool false), [])))))))) := by kernel_rfl

theorem mod_add2 (a b : Nat) : (a % P255 + b) % P255 = (a + b) % P255 := Nat.mod_add_mod _ _ _

theorem zE' : EV [0, 0, 0, 0, 0] 0 := zE

theorem ctr6 {a b c : List Nat} (ha : g32 a = true) (hb : g32 b = true) (hc : g32 c = true) : Ctr Try.prog 6 [.agg [.ints .u8 32 a], .agg [.ints .u8 32 b], .agg [.ints .u8 32 c]] [] (.s (.bool true)) [] := by
  refine ctrB (fs := envO ops) (xs := []) (m := .nat) (fuel := 7) envO_ok fn6 ?_
  have ea := ofE ha
  have eb := ofE hb
  have ec := ofE hc
  have la := P2_lt (vB 256 a)
  have lb := P2_lt (vB 256 b)
  have lc := P2_lt (vB 256 c)
  rw [r6]
  simp only [ops_mul, ops_sub, ops_add, ops_pd, ops_of, ops_bytes, ops_isz, ops_odd, ops_eq, ops_can, ops_neg, ops_swl, ops_swr, ops_pow, ops_inv, ops_l5, ops_a5, ops_g16, ops_g32, ops_mulR, ops_addR, ops_subR, ops_negR, ops_canR, ops_bytesR, ops_ofR, ops_smR, nb_val la, nb_val lb, nb_val lc]
  generalize vB 256 a % 57896044618658097711785492504343953926634992332820282019728792003956564819968 = u at *
  generalize vB 256 b % 57896044618658097711785492504343953926634992332820282019728792003956564819968 = v at *
  generalize vB 256 c % 57896044618658097711785492504343953926634992332820282019728792003956564819968 = w at *
  have ea : EV (ofF a) u := ea
  have eb : EV (ofF b) v := eb
  have ec : EV (ofF c) w := ec
  obtain ⟨m1, m2⟩ := fvAdd la lb
  obtain ⟨m3, m4⟩ := fvAdd m1 lc
  obtain ⟨m5, m6⟩ := fvAdd la (ngLt v)
  have e1 := addE3 ea eb ec
  have e2 := subE ea eb
  have e3 := negE ea
  rw [nb_val m1, nb_val m3, nb_val m5, nb_val (ngLt u), bytesE e1, bytesE e2, bytesE e3, m4, m6, eqE addE0 zE']
  refine nd_of ?_ (cond_t (decide_eq_true ?_) (nd_of ?_ (cond_t (decide_eq_true rfl) (nd_of ?_ (cond_t (decide_eq_true rfl) (nd_of ?_ ?_))))))
  · simp only [List.mem_cons, List.not_mem_nil, or_false, forall_eq_or_imp, forall_eq, ha, hb, hc, l5T e1, g16_nb, and_self]
  · rw [Nat.add_mod (fv (u + v)), m2, ← Nat.add_mod]
  · simp only [List.mem_cons, List.not_mem_nil, or_false, forall_eq_or_imp, forall_eq, l5T ea, l5T eb, l5T e2, g16_nb, and_self]
  · simp only [List.mem_cons, List.not_mem_nil, or_false, forall_eq_or_imp, forall_eq, l5T ea, l5T e3, g16_nb, and_self]
  · simp only [List.mem_cons, List.not_mem_nil, or_false, forall_eq_or_imp, forall_eq, l5T addE0, l5T zE', and_self]
  · simp

theorem sw_t {a b : Nat} (ha : a < 18446744073709551616) (hb : b < 18446744073709551616) : sw 18446744073709551615 a b = b ∧ sw' 18446744073709551615 a b = a := by
  have hx : a ^^^ b < 2 ^ 64 := Nat.xor_lt_two_pow ha hb
  have e : 18446744073709551615 &&& (a ^^^ b) = a ^^^ b := by
    rw [Nat.and_comm, show 18446744073709551615 = 2 ^ 64 - 1 from rfl, Nat.and_two_pow_sub_one_eq_mod, Nat.mod_eq_of_lt hx]
  unfold sw sw'
  rw [e]
  refine ⟨by rw [← Nat.xor_assoc, Nat.xor_self, Nat.zero_xor], ?_⟩
  rw [Nat.xor_comm a b, ← Nat.xor_assoc, Nat.xor_self, Nat.zero_xor]

theorem sw_f (a b : Nat) : sw 0 a b = a ∧ sw' 0 a b = b := by
  unfold sw sw'
  simp

theorem swE {x y : List Nat} (hx : lim5 L52 x) (hy : lim5 L52 y) : swL (swM true) x y = y ∧ swR (swM true) x y = x ∧ swL (swM false) x y = x ∧ swR (swM false) x y = y := by
  obtain ⟨x0, x1, x2, x3, x4, rfl⟩ := five hx.1
  obtain ⟨y0, y1, y2, y3, y4, rfl⟩ := five hy.1
  have hL : L52 < 18446744073709551616 := by decide
  have a0 := Nat.lt_trans (hx.2 0) hL
  have a1 := Nat.lt_trans (hx.2 1) hL
  have a2 := Nat.lt_trans (hx.2 2) hL
  have a3 := Nat.lt_trans (hx.2 3) hL
  have a4 := Nat.lt_trans (hx.2 4) hL
  have b0 := Nat.lt_trans (hy.2 0) hL
  have b1 := Nat.lt_trans (hy.2 1) hL
  have b2 := Nat.lt_trans (hy.2 2) hL
  have b3 := Nat.lt_trans (hy.2 3) hL
  have b4 := Nat.lt_trans (hy.2 4) hL
  refine ⟨list5 (sw_t a0 b0).1 (sw_t a1 b1).1 (sw_t a2 b2).1 (sw_t a3 b3).1 (sw_t a4 b4).1, list5 (sw_t a0 b0).2 (sw_t a1 b1).2 (sw_t a2 b2).2 (sw_t a3 b3).2 (sw_t a4 b4).2,
    list5 (sw_f _ _).1 (sw_f _ _).1 (sw_f _ _).1 (sw_f _ _).1 (sw_f _ _).1, list5 (sw_f _ _).2 (sw_f _ _).2 (sw_f _ _).2 (sw_f _ _).2 (sw_f _ _).2⟩

theorem dB_g32 {v : Nat} : g32 (dB 256 32 v) = true := by
  rw [g32, Bool.and_eq_true, dB_len]
  exact ⟨rfl, allB_mem (dB_lt (by decide) 32 v)⟩

theorem vB_bytes {v : Nat} (hv : v < P255) : vB 256 (dB 256 32 v) % P2 = v := by
  rw [vB_dB, Nat.mod_eq_of_lt (Nat.lt_trans hv (by decide)), Nat.mod_eq_of_lt (Nat.lt_trans hv (by decide))]

theorem mul_add_mod (u v w : Nat) : u * (v + w) % P255 = (u * v + u * w) % P255 := by rw [Nat.mul_add]

theorem eq_of_mod {x y : List Nat} {v w : Nat} (hx : EV x v) (hy : EV y w) (h : v % P255 = w % P255) : eqF x y = true := by
  rw [eqE hx hy]; exact decide_eq_true h

theorem ctr11 {a b c : List Nat} (ha : g32 a = true) (hb : g32 b = true) (hc : g32 c = true) : Ctr Try.prog 11 [.agg [.ints .u8 32 a], .agg [.ints .u8 32 b], .agg [.ints .u8 32 c]] [] (.s (.bool true)) [] := by
  refine ctrB (fs := envO ops) (xs := []) (m := .nat) (fuel := 7) envO_ok fn11 ?_
  have ea := ofE ha
  have eb := ofE hb
  have ec := ofE hc
  generalize vB 256 a % P2 = u at *
  generalize vB 256 b % P2 = v at *
  generalize vB 256 c % P2 = w at *
  rw [r11]
  simp only [ops_mul, ops_sub, ops_add, ops_pd, ops_of, ops_bytes, ops_isz, ops_odd, ops_eq, ops_can, ops_neg, ops_swl, ops_swr, ops_pow, ops_inv, ops_l5, ops_a5, ops_g16, ops_g32, ops_mulR, ops_addR, ops_subR, ops_negR, ops_canR, ops_bytesR, ops_ofR, ops_smR]
  have ey := mulE eb ec
  have ez := subE ec ea
  generalize mulF (ofF b) (ofF c) = y at *
  generalize hz : subF (ofF c) (ofF a) = z at *
  generalize ofF a = x at *
  generalize v * w = n at *
  generalize w + ngV u = k at *
  have e1 := addE2 ey ez
  have e2 := mulE ea e1
  have e3 := mulE ea ey
  have e4 := mulE ea ez
  have e5 := addE2 e3 e4
  have e6 := negE ea
  have e7 := addE2 ea e6
  have e8 := addE2 ea ey
  have e9 := subE e8 ey
  obtain ⟨s1, s2, s3, s4⟩ := swE ea.1 ey.1
  have hb1 : ofF (bytesF z) = ofF (dB 256 32 (k % P255)) := by rw [bytesE ez]
  have e10 : EV (ofF (bytesF z)) k := by
    rw [hb1]
    exact (ofE dB_g32).of_eq (by rw [vB_bytes (mod_lt' k), Nat.mod_mod])
  have hcan : canF (bytesF y) = true := by
    rw [bytesE ey, canE dB_g32, vB_bytes (mod_lt' n), Nat.mod_mod]
    exact decide_eq_true rfl
  rw [s1, s2, s3, s4, hcan]
  refine nd_of ?_ (cond_t (eq_of_mod e2 e5 (mul_add_mod u n k)) (nd_of ?_ (cond_t (eq_of_mod e7 zE' (by rw [ng_add, Nat.zero_mod])) (nd_of ?_ (cond_t (eq_of_mod e9 ea ?_) (nd_of ?_ (cond_t (eq_of_mod ey ey rfl) (nd_of ?_ (cond_t (eq_of_mod ea ea rfl) (nd_of ?_ (cond_t (eq_of_mod ea ea rfl) (nd_of ?_ (cond_t (eq_of_mod ey ey rfl) (nd_of ?_ (cond_t rfl (nd_of ?_ ?_))))))))))))))))
  · simp only [List.mem_cons, List.not_mem_nil, or_false, forall_eq_or_imp, forall_eq, l5T ea, l5T eb, l5T ec, l5T ey, l5T ez, l5T e1, l5T e2, l5T e5, l5T e3, l5T e4, and_self]
  · simp only [List.mem_cons, List.not_mem_nil, or_false, forall_eq_or_imp, forall_eq, l5T ea, l5T e7, l5T zE', and_self]
  · simp only [List.mem_cons, List.not_mem_nil, or_false, forall_eq_or_imp, forall_eq, l5T ea, l5T e8, l5T ey, l5T e9, and_self]
  · rw [Nat.add_assoc, Nat.add_mod, ng_add, Nat.add_zero, Nat.mod_mod]
  · simp only [List.mem_cons, List.not_mem_nil, or_false, forall_eq_or_imp, forall_eq, l5T ea, l5T ey, and_self]
  · simp only [List.mem_cons, List.not_mem_nil, or_false, forall_eq_or_imp, forall_eq, l5T ea, l5T ey, and_self]
  · simp only [List.mem_cons, List.not_mem_nil, or_false, forall_eq_or_imp, forall_eq, l5T ea, l5T ey, and_self]
  · simp only [List.mem_cons, List.not_mem_nil, or_false, forall_eq_or_imp, forall_eq, l5T ea, l5T ey, and_self]
  · simp only [List.mem_cons, List.not_mem_nil, or_false, forall_eq_or_imp, forall_eq, l5T ea, l5T ey, and_self]
  · simp only [List.mem_cons, List.not_mem_nil, or_false, forall_eq_or_imp, forall_eq, l5T ez, l5T e10, and_self]
  · rw [eq_of_mod e10 ez rfl]

theorem ng_mod (v : Nat) (h : v % P255 ≠ 0) : ngV v % P255 = P255 - v % P255 := by
  unfold ngV
  rw [Nat.mod_mod]
  exact Nat.mod_eq_of_lt (Nat.sub_lt (by decide) (by omega))

theorem ng_zero (v : Nat) (h : v % P255 = 0) : ngV v % P255 = 0 := by
  unfold ngV
  rw [h, Nat.sub_zero]
  decide

theorem ctr7 {k : List Nat} {a b : Nat} (hk : g32 k = true) (ha : a < 65536) (hb : b < 65536) : Ctr Try.prog 7 [.agg [.ints .u8 32 k], .s (.nat .u16 a), .s (.nat .u16 b)] [] (.s (.bool true)) [] := by
  refine ctrB (fs := envO ops) (xs := []) (m := .nat) (fuel := 7) envO_ok fn7 ?_
  have ek := ofE hk
  generalize vB 256 k % P2 = v at *
  have hab : a * b ≤ 65535 * 65535 := Nat.mul_le_mul (by omega) (by omega)
  have m1 : (a + b) % 4294967296 = a + b := Nat.mod_eq_of_lt (by omega)
  have m2 : a * b % 4294967296 = a * b := Nat.mod_eq_of_lt (by omega)
  rw [r7, m1, m2]
  simp only [ops_mul, ops_sub, ops_add, ops_pd, ops_of, ops_bytes, ops_isz, ops_odd, ops_eq, ops_can, ops_neg, ops_swl, ops_swr, ops_pow, ops_inv, ops_l5, ops_a5, ops_g16, ops_g32, ops_mulR, ops_addR, ops_subR, ops_negR, ops_canR, ops_bytesR, ops_ofR, ops_smR]
  have e1 := smallE (n := a) (by omega)
  have e2 := smallE (n := b) (by omega)
  have e3 := smallE (n := a + b) (by omega)
  have e4 := smallE (n := a * b) (by omega)
  have e5 := addE2 e1 e2
  have e6 := mulE e1 e2
  have e7 := subE e3 e2
  have en := negE ek
  have hlast : ∀ T : Option (AV × List (Option Blk)), (nd [decide ((addF [[a, 0, 0, 0, 0], [b, 0, 0, 0, 0]]).length = 5), decide ([a + b, 0, 0, 0, 0].length = 5)]
 (cond (eqF (addF [[a, 0, 0, 0, 0], [b, 0, 0, 0, 0]]) [a + b, 0, 0, 0, 0])
 (nd [decide ([a, 0, 0, 0, 0].length = 5), decide ([b, 0, 0, 0, 0].length = 5), decide ((mulF [a, 0, 0, 0, 0] [b, 0, 0, 0, 0]).length = 5), decide ([a * b, 0, 0, 0, 0].length = 5)]
 (cond (eqF (mulF [a, 0, 0, 0, 0] [b, 0, 0, 0, 0]) [a * b, 0, 0, 0, 0])
 (nd [decide ([a + b, 0, 0, 0, 0].length = 5), decide ([b, 0, 0, 0, 0].length = 5), decide ((subF [a + b, 0, 0, 0, 0] [b, 0, 0, 0, 0]).length = 5), decide ([a, 0, 0, 0, 0].length = 5)]
 (some (AV.s (SV.bool (eqF (subF [a + b, 0, 0, 0, 0] [b, 0, 0, 0, 0]) [a, 0, 0, 0, 0])), ([] : List (Option Blk)))))
 T)) T)) = some (AV.s (SV.bool true), []) := by
    intro T
    refine nd_of ?_ (cond_t (eq_of_mod e5 e3 rfl) (nd_of ?_ (cond_t (eq_of_mod e6 e4 rfl) (nd_of ?_ ?_))))
    · simp only [List.mem_cons, List.not_mem_nil, or_false, forall_eq_or_imp, forall_eq, l5T e5, l5T e3, and_self]
    · simp only [List.mem_cons, List.not_mem_nil, or_false, forall_eq_or_imp, forall_eq, l5T e1, l5T e2, l5T e6, l5T e4, and_self]
    · simp only [List.mem_cons, List.not_mem_nil, or_false, forall_eq_or_imp, forall_eq, l5T e1, l5T e2, l5T e3, l5T e7, and_self]
    · rw [eq_of_mod e7 e1 (by rw [Nat.add_assoc, Nat.add_mod, ng_add, Nat.add_zero, Nat.mod_mod])]
  rw [isZE ek, oddE ek, oddE en, isZE en]
  refine nd_of ?_ ?_
  · simp only [List.mem_cons, List.not_mem_nil, or_false, forall_eq_or_imp, forall_eq, l5T ek, and_self]
  by_cases hv : v % P255 = 0
  · rw [hv, ng_zero v hv]
    refine cond_t rfl (nd_of ?_ (cond_f rfl (nd_of ?_ (cond_f rfl (nd_of ?_ (cond_f rfl (hlast _)))))))
    · simp only [List.mem_cons, List.not_mem_nil, or_false, forall_eq_or_imp, forall_eq, l5T ek, and_self]
    · simp only [List.mem_cons, List.not_mem_nil, or_false, forall_eq_or_imp, forall_eq, l5T en, and_self]
    · simp only [List.mem_cons, List.not_mem_nil, or_false, forall_eq_or_imp, forall_eq, l5T en, and_self]
  · refine cond_f (decide_eq_false hv) (nd_of ?_ (cond_f ?_ (hlast _)))
    · simp only [List.mem_cons, List.not_mem_nil, or_false, forall_eq_or_imp, forall_eq, l5T ek, l5T en, and_self]
    · rw [ng_mod v hv]
      have h1 := mod_lt' v
      have hP : P255 % 2 = 1 := by decide
      rw [beq_eq_false_iff_ne]
      intro h
      have h2 := decide_eq_decide.1 h
      generalize P255 = p at *
      omega

end Go.Proofs.Yteaoegdmhoepiaa

namespace Go.Proofs.Yteaoegdmhoepiaa
open Go

/-- b to the power of e modulo m, for e below 2^f. -/
def pm : Nat → Nat → Nat → Nat → Nat
  | 0, _, _, m => 1 % m
  | f + 1, b, e, m => match Nat.beq (e % 2) 1 with
    | true => pm f (b * b % m) (e / 2) m * b % m
    | false => pm f (b * b % m) (e / 2) m

theorem pm_eq : ∀ (f b e m : Nat), e < 2 ^ f → pm f b e m = b ^ e % m
  | 0, b, e, m, h => by
    have : e = 0 := by simpa using h
    subst this
    simp [pm]
  | f + 1, b, e, m, h => by
    have ih := pm_eq f (b * b % m) (e / 2) m (by rw [Nat.pow_succ] at h; omega)
    have e1 : (b * b % m) ^ (e / 2) % m = b ^ (2 * (e / 2)) % m := by
      rw [← Nat.pow_mod, Nat.pow_mul, Nat.pow_two]
    rw [e1] at ih
    unfold pm
    split
    · rename_i hb
      have hb : e % 2 = 1 := Nat.eq_of_beq_eq_true hb
      rw [ih, Nat.mod_mul_mod, ← Nat.pow_succ, show (2 * (e / 2)).succ = e by omega]
    · rename_i hb
      have hb : e % 2 ≠ 1 := Nat.ne_of_beq_eq_false hb
      rw [ih, show 2 * (e / 2) = e by omega]

def PrimeU (n : Nat) : Prop := 1 < n ∧ ∀ d, d ∣ n → d = 1 ∨ d = n

def prodL : List Nat → Nat
  | [] => 1
  | q :: qs => q * prodL qs

theorem prime_cop {q r : Nat} (hq : PrimeU q) (h : ¬ q ∣ r) : Nat.gcd r q = 1 := by
  rcases hq.2 _ (Nat.gcd_dvd_right r q) with h1 | h1
  · exact h1
  · exact absurd (h1 ▸ Nat.gcd_dvd_left r q) h

theorem dvd_prod : ∀ {qs : List Nat} {r : Nat}, (∀ q ∈ qs, PrimeU q) → r ∣ prodL qs → r ≠ 1 → ∃ q ∈ qs, q ∣ r
  | [], r, _, h, h1 => absurd (Nat.dvd_one.1 h) h1
  | q :: qs, r, hq, h, h1 => by
    by_cases hd : q ∣ r
    · exact ⟨q, List.mem_cons_self, hd⟩
    · have hc := prime_cop (hq q List.mem_cons_self) hd
      obtain ⟨p, hp, hpr⟩ := dvd_prod (fun q hm => hq q (List.mem_cons_of_mem _ hm)) (Nat.Coprime.dvd_of_dvd_mul_left hc h) h1
      exact ⟨p, List.mem_cons_of_mem _ hp, hpr⟩

theorem surj_of_inj : ∀ (m : Nat) (f : Nat → Nat), (∀ i, i < m → f i < m) → (∀ i j, i < m → j < m → f i = f j → i = j) → ∀ v, v < m → ∃ i, i < m ∧ f i = v
  | 0, _, _, _, v, h => by omega
  | m + 1, f, hf, hinj, v, hv => by
    have hw : ∀ i, i < m → f i ≠ f m := fun i hi e => by
      have := hinj i m (by omega) (by omega) e
      omega
    have h1 : ∀ i, i < m → (if f i = m then f m else f i) < m := fun i hi => by
      have a := hf i (by omega)
      have b := hf m (by omega)
      have c := hw i hi
      split <;> omega
    have h2 : ∀ i j, i < m → j < m → (if f i = m then f m else f i) = (if f j = m then f m else f j) → i = j := fun i j hi hj e => by
      have c1 := hw i hi
      have c2 := hw j hj
      split at e
      · split at e
        · exact hinj i j (by omega) (by omega) (by omega)
        · exact absurd e.symm c2
      · split at e
        · exact absurd e c1
        · exact hinj i j (by omega) (by omega) e
    have ih := surj_of_inj m _ h1 h2
    by_cases hvw : v = f m
    · exact ⟨m, by omega, hvw.symm⟩
    · by_cases hvm : v = m
      · have hb := hf m (by omega)
        obtain ⟨i, hi, he⟩ := ih (f m) (by omega)
        refine ⟨i, by omega, ?_⟩
        have := hw i hi
        split at he
        · omega
        · exact absurd he this
      · obtain ⟨i, hi, he⟩ := ih v (by omega)
        refine ⟨i, by omega, ?_⟩
        split at he
        · exact absurd he.symm hvw
        · exact he

/-- All that is not nought is a power of g. -/
def Gen (g n : Nat) : Prop := 1 < n ∧ g ^ (n - 1) % n = 1 ∧ ∀ a, 0 < a → a < n → ∃ k, k < n - 1 ∧ g ^ k % n = a

theorem pow_one_mul {g n a : Nat} (h1 : 1 < n) (h : g ^ a % n = 1) (k : Nat) : g ^ (a * k) % n = 1 := by
  rw [Nat.pow_mul, Nat.pow_mod, h, Nat.one_pow, Nat.mod_eq_of_lt h1]

theorem pow_gcd {g n : Nat} (h1 : 1 < n) : ∀ {a b : Nat}, g ^ a % n = 1 → g ^ b % n = 1 → g ^ (Nat.gcd a b) % n = 1 := by
  intro a b
  induction a, b using Nat.gcd.induction with
  | H0 b => intro _ h; rw [Nat.gcd_zero_left]; exact h
  | H1 a b ha ih =>
    intro h2 h3
    rw [Nat.gcd_rec]
    refine ih ?_ h2
    have e : b = a * (b / a) + b % a := (Nat.div_add_mod b a).symm
    rw [e, Nat.pow_add, Nat.mul_mod, pow_one_mul h1 h2, Nat.one_mul, Nat.mod_mod] at h3
    exact h3

theorem lucas {n g : Nat} {qs : List Nat} (hn : 2 < n) (hp : n - 1 = prodL qs) (hq : ∀ q ∈ qs, PrimeU q) (h1 : g ^ (n - 1) % n = 1) (h2 : ∀ q ∈ qs, g ^ ((n - 1) / q) % n ≠ 1) : Gen g n := by
  have hn1 : 1 < n := by omega
  -- no smaller power is one
  have ord : ∀ d, 0 < d → d < n - 1 → g ^ d % n ≠ 1 := by
    intro d hd0 hd hpow
    have he := pow_gcd hn1 hpow h1
    generalize hE : Nat.gcd d (n - 1) = e at he
    have e1 : e ∣ n - 1 := hE ▸ Nat.gcd_dvd_right d (n - 1)
    have e2 : e ≤ d := hE ▸ Nat.le_of_dvd hd0 (Nat.gcd_dvd_left d (n - 1))
    obtain ⟨r, hr⟩ := e1
    have hr1 : r ≠ 1 := fun h => by rw [h, Nat.mul_one] at hr; omega
    obtain ⟨q, hqm, s, hs⟩ := dvd_prod hq (r := r) (by rw [← hp, hr]; exact Nat.dvd_mul_left r e) hr1
    have hq0 : 0 < q := by have := (hq q hqm).1; omega
    refine h2 q hqm ?_
    have : (n - 1) / q = e * s := by
      rw [hr, hs, Nat.mul_left_comm, Nat.mul_div_cancel_left _ hq0]
    rw [this]
    exact pow_one_mul hn1 he s
  have unit : ∀ i, i < n - 1 → g ^ i % n * (g ^ (n - 1 - i) % n) % n = 1 := fun i hi => by
    rw [← Nat.mul_mod, ← Nat.pow_add, show i + (n - 1 - i) = n - 1 by omega, h1]
  have pos : ∀ i, i < n - 1 → 0 < g ^ i % n := fun i hi => by
    refine Nat.pos_of_ne_zero fun h0 => ?_
    have := unit i hi
    rw [h0, Nat.zero_mul, Nat.zero_mod] at this
    cases this
  have inj : ∀ i j, i < j → j < n - 1 → g ^ i % n ≠ g ^ j % n := by
    intro i j hij hj he
    refine ord (j - i) (by omega) (by omega) ?_
    have h3 := unit i (by omega)
    rw [he, ← Nat.mul_mod, ← Nat.pow_add, show j + (n - 1 - i) = (n - 1) + (j - i) by omega, Nat.pow_add, Nat.mul_mod, h1, Nat.one_mul, Nat.mod_mod] at h3
    exact h3
  refine ⟨hn1, h1, fun a ha0 ha => ?_⟩
  obtain ⟨i, hi, he⟩ := surj_of_inj (n - 1) (fun i => g ^ i % n - 1) (fun i hi => by
      have := pos i hi
      have : g ^ i % n < n := Nat.mod_lt _ (by omega)
      show g ^ i % n - 1 < n - 1
      omega) (fun i j hi hj e => by
      have e : g ^ i % n - 1 = g ^ j % n - 1 := e
      have p1 := pos i hi
      have p2 := pos j hj
      rcases Nat.lt_trichotomy i j with h | h | h
      · exact absurd (by omega) (inj i j h hj)
      · exact h
      · exact absurd (by omega) (inj j i h hi)) (a - 1) (by omega)
  have he : g ^ i % n - 1 = a - 1 := he
  have := pos i hi
  exact ⟨i, hi, by omega⟩

theorem Gen.prime {g n : Nat} (h : Gen g n) : PrimeU n := by
  obtain ⟨h1, h2, h3⟩ := h
  refine ⟨h1, fun d hd => ?_⟩
  by_cases hdn : d = n
  · exact .inr hdn
  · have hd0 : 0 < d := Nat.pos_of_dvd_of_pos hd (by omega)
    have hlt : d < n := by have := Nat.le_of_dvd (by omega) hd; omega
    obtain ⟨k, hk, he⟩ := h3 d hd0 hlt
    have e : d * (g ^ (n - 1 - k) % n) % n = 1 := by
      rw [← he, ← Nat.mul_mod, ← Nat.pow_add, show k + (n - 1 - k) = n - 1 by omega, h2]
    refine .inl (Nat.dvd_one.1 ?_)
    have h4 : d ∣ d * (g ^ (n - 1 - k) % n) % n := (Nat.dvd_mod_iff hd).2 (Nat.dvd_mul_right _ _)
    rwa [e] at h4

/-- Fermat. -/
theorem Gen.fermat {g n a : Nat} (h : Gen g n) (ha : a % n ≠ 0) : a ^ (n - 1) % n = 1 := by
  obtain ⟨h1, h2, h3⟩ := h
  obtain ⟨k, hk, he⟩ := h3 (a % n) (by omega) (Nat.mod_lt _ (by omega))
  rw [Nat.pow_mod, ← he, ← Nat.pow_mod, ← Nat.pow_mul, Nat.mul_comm, Nat.pow_mul, Nat.pow_mod, h2, Nat.one_pow, Nat.mod_eq_of_lt h1]

theorem prime2 : PrimeU 2 := ⟨by omega, fun d hd => by
  have := Nat.le_of_dvd (by omega) hd
  have := Nat.pos_of_dvd_of_pos hd (by omega)
  omega⟩

/-- A certificate, checked by the kernel. -/
def certOk (f n g : Nat) (qs : List Nat) : Bool :=
  Nat.blt 2 n && Nat.blt (n - 1) (2 ^ f) && Nat.beq (n - 1) (prodL qs) && Nat.beq (pm f g (n - 1) n) 1 && qs.all fun q => Nat.blt 0 q && !Nat.beq (pm f g ((n - 1) / q) n) 1

theorem cert {f n g : Nat} {qs : List Nat} (h : certOk f n g qs = true) (hq : ∀ q ∈ qs, PrimeU q) : Gen g n := by
  unfold certOk at h
  simp only [Bool.and_eq_true] at h
  obtain ⟨⟨⟨⟨h1, h2⟩, h3⟩, h4⟩, h5⟩ := h
  have h1 : 2 < n := Nat.le_of_ble_eq_true h1
  have h2 : n - 1 < 2 ^ f := Nat.le_of_ble_eq_true h2
  have h3 := Nat.eq_of_beq_eq_true h3
  have h4 := Nat.eq_of_beq_eq_true h4
  rw [pm_eq _ _ _ _ h2] at h4
  refine lucas h1 h3 hq h4 fun q hm => ?_
  have h6 := List.all_eq_true.1 h5 q hm
  rw [Bool.and_eq_true, Bool.not_eq_true'] at h6
  have h7 := Nat.ne_of_beq_eq_false h6.2
  rwa [pm_eq _ _ _ _ (Nat.lt_of_le_of_lt (Nat.div_le_self _ _) h2)] at h7

end Go.Proofs.Yteaoegdmhoepiaa

namespace Go.Proofs.Yteaoegdmhoepiaa
open Go

theorem primesCons {q : Nat} {qs : List Nat} (h : PrimeU q) (hs : ∀ r ∈ qs, PrimeU r) : ∀ r ∈ q :: qs, PrimeU r := fun r hr => by
  rcases List.mem_cons.1 hr with e | e
  · exact e ▸ h
  · exact hs r e
theorem primesNil : ∀ r ∈ ([] : List Nat), PrimeU r := fun r hr => by cases hr

theorem pr0 : PrimeU 3 := (cert (f := 2) (n := 3) (g := 2) (qs := [2]) (by kernel_rfl) (primesCons prime2 primesNil)).prime
theorem pr1 : PrimeU 17 := (cert (f := 5) (n := 17) (g := 3) (qs := [2, 2, 2, 2]) (by kernel_rfl) (primesCons prime2 (primesCons prime2 (primesCons prime2 (primesCons prime2 primesNil))))).prime
theorem pr2 : PrimeU 7 := (cert (f := 3) (n := 7) (g := 3) (qs := [2, 3]) (by kernel_rfl) (primesCons prime2 (primesCons pr0 primesNil))).prime
theorem pr3 : PrimeU 239 := (cert (f := 8) (n := 239) (g := 7) (qs := [2, 7, 17]) (by kernel_rfl) (primesCons prime2 (primesCons pr2 (primesCons pr1 primesNil)))).prime
theorem pr4 : PrimeU 479 := (cert (f := 9) (n := 479) (g := 13) (qs := [2, 239]) (by kernel_rfl) (primesCons prime2 (primesCons pr3 primesNil))).prime
theorem pr5 : PrimeU 32573 := (cert (f := 15) (n := 32573) (g := 2) (qs := [2, 2, 17, 479]) (by kernel_rfl) (primesCons prime2 (primesCons prime2 (primesCons pr1 (primesCons pr4 primesNil))))).prime
theorem pr6 : PrimeU 65147 := (cert (f := 16) (n := 65147) (g := 2) (qs := [2, 32573]) (by kernel_rfl) (primesCons prime2 (primesCons pr5 primesNil))).prime
theorem pr7 : PrimeU 5 := (cert (f := 3) (n := 5) (g := 2) (qs := [2, 2]) (by kernel_rfl) (primesCons prime2 (primesCons prime2 primesNil))).prime
theorem pr8 : PrimeU 11 := (cert (f := 4) (n := 11) (g := 2) (qs := [2, 5]) (by kernel_rfl) (primesCons prime2 (primesCons pr7 primesNil))).prime
theorem pr9 : PrimeU 353 := (cert (f := 9) (n := 353) (g := 3) (qs := [2, 2, 2, 2, 2, 11]) (by kernel_rfl) (primesCons prime2 (primesCons prime2 (primesCons prime2 (primesCons prime2 (primesCons prime2 (primesCons pr8 primesNil))))))).prime
theorem pr10 : PrimeU 29 := (cert (f := 5) (n := 29) (g := 2) (qs := [2, 2, 7]) (by kernel_rfl) (primesCons prime2 (primesCons prime2 (primesCons pr2 primesNil)))).prime
theorem pr11 : PrimeU 59 := (cert (f := 6) (n := 59) (g := 2) (qs := [2, 29]) (by kernel_rfl) (primesCons prime2 (primesCons pr10 primesNil))).prime
theorem pr12 : PrimeU 487 := (cert (f := 9) (n := 487) (g := 3) (qs := [2, 3, 3, 3, 3, 3]) (by kernel_rfl) (primesCons prime2 (primesCons pr0 (primesCons pr0 (primesCons pr0 (primesCons pr0 (primesCons pr0 primesNil))))))).prime
theorem pr13 : PrimeU 57467 := (cert (f := 16) (n := 57467) (g := 2) (qs := [2, 59, 487]) (by kernel_rfl) (primesCons prime2 (primesCons pr11 (primesCons pr12 primesNil)))).prime
theorem pr14 : PrimeU 13 := (cert (f := 4) (n := 13) (g := 2) (qs := [2, 2, 3]) (by kernel_rfl) (primesCons prime2 (primesCons prime2 (primesCons pr0 primesNil)))).prime
theorem pr15 : PrimeU 131 := (cert (f := 8) (n := 131) (g := 2) (qs := [2, 5, 13]) (by kernel_rfl) (primesCons prime2 (primesCons pr7 (primesCons pr14 primesNil)))).prime
theorem pr16 : PrimeU 132049 := (cert (f := 18) (n := 132049) (g := 26) (qs := [2, 2, 2, 2, 3, 3, 7, 131]) (by kernel_rfl) (primesCons prime2 (primesCons prime2 (primesCons prime2 (primesCons prime2 (primesCons pr0 (primesCons pr0 (primesCons pr2 (primesCons pr15 primesNil))))))))).prime
theorem pr17 : PrimeU 43 := (cert (f := 6) (n := 43) (g := 3) (qs := [2, 3, 7]) (by kernel_rfl) (primesCons prime2 (primesCons pr0 (primesCons pr2 primesNil)))).prime
theorem pr18 : PrimeU 23 := (cert (f := 5) (n := 23) (g := 5) (qs := [2, 11]) (by kernel_rfl) (primesCons prime2 (primesCons pr8 primesNil))).prime
theorem pr19 : PrimeU 3727 := (cert (f := 12) (n := 3727) (g := 3) (qs := [2, 3, 3, 3, 3, 23]) (by kernel_rfl) (primesCons prime2 (primesCons pr0 (primesCons pr0 (primesCons pr0 (primesCons pr0 (primesCons pr18 primesNil))))))).prime
theorem pr20 : PrimeU 1923133 := (cert (f := 21) (n := 1923133) (g := 2) (qs := [2, 2, 3, 43, 3727]) (by kernel_rfl) (primesCons prime2 (primesCons prime2 (primesCons pr0 (primesCons pr17 (primesCons pr19 primesNil)))))).prime
theorem pr21 : PrimeU 31 := (cert (f := 5) (n := 31) (g := 3) (qs := [2, 3, 5]) (by kernel_rfl) (primesCons prime2 (primesCons pr0 (primesCons pr7 primesNil)))).prime
theorem pr22 : PrimeU 53 := (cert (f := 6) (n := 53) (g := 2) (qs := [2, 2, 13]) (by kernel_rfl) (primesCons prime2 (primesCons prime2 (primesCons pr14 primesNil)))).prime
theorem pr23 : PrimeU 107 := (cert (f := 7) (n := 107) (g := 2) (qs := [2, 53]) (by kernel_rfl) (primesCons prime2 (primesCons pr22 primesNil))).prime
theorem pr24 : PrimeU 37 := (cert (f := 6) (n := 37) (g := 2) (qs := [2, 2, 3, 3]) (by kernel_rfl) (primesCons prime2 (primesCons prime2 (primesCons pr0 (primesCons pr0 primesNil))))).prime
theorem pr25 : PrimeU 223 := (cert (f := 8) (n := 223) (g := 3) (qs := [2, 3, 37]) (by kernel_rfl) (primesCons prime2 (primesCons pr0 (primesCons pr24 primesNil)))).prime
theorem pr26 : PrimeU 173 := (cert (f := 8) (n := 173) (g := 2) (qs := [2, 2, 43]) (by kernel_rfl) (primesCons prime2 (primesCons prime2 (primesCons pr17 primesNil)))).prime
theorem pr27 : PrimeU 4153 := (cert (f := 13) (n := 4153) (g := 5) (qs := [2, 2, 2, 3, 173]) (by kernel_rfl) (primesCons prime2 (primesCons prime2 (primesCons prime2 (primesCons pr0 (primesCons pr26 primesNil)))))).prime
theorem pr28 : PrimeU 41 := (cert (f := 6) (n := 41) (g := 6) (qs := [2, 2, 2, 5]) (by kernel_rfl) (primesCons prime2 (primesCons prime2 (primesCons prime2 (primesCons pr7 primesNil))))).prime
theorem pr29 : PrimeU 1723 := (cert (f := 11) (n := 1723) (g := 3) (qs := [2, 3, 7, 41]) (by kernel_rfl) (primesCons prime2 (primesCons pr0 (primesCons pr2 (primesCons pr28 primesNil))))).prime
theorem pr30 : PrimeU 430751 := (cert (f := 19) (n := 430751) (g := 17) (qs := [2, 5, 5, 5, 1723]) (by kernel_rfl) (primesCons prime2 (primesCons pr7 (primesCons pr7 (primesCons pr7 (primesCons pr29 primesNil)))))).prime
theorem pr31 : PrimeU 31757755568855353 := (cert (f := 55) (n := 31757755568855353) (g := 10) (qs := [2, 2, 2, 3, 31, 107, 223, 4153, 430751]) (by kernel_rfl) (primesCons prime2 (primesCons prime2 (primesCons prime2 (primesCons pr0 (primesCons pr21 (primesCons pr23 (primesCons pr25 (primesCons pr27 (primesCons pr30 primesNil)))))))))).prime
theorem pr32 : PrimeU 19 := (cert (f := 5) (n := 19) (g := 2) (qs := [2, 3, 3]) (by kernel_rfl) (primesCons prime2 (primesCons pr0 (primesCons pr0 primesNil)))).prime
theorem pr33 : PrimeU 83 := (cert (f := 7) (n := 83) (g := 2) (qs := [2, 41]) (by kernel_rfl) (primesCons prime2 (primesCons pr28 primesNil))).prime
theorem pr34 : PrimeU 9463 := (cert (f := 14) (n := 9463) (g := 3) (qs := [2, 3, 19, 83]) (by kernel_rfl) (primesCons prime2 (primesCons pr0 (primesCons pr32 (primesCons pr33 primesNil))))).prime
theorem pr35 : PrimeU 37853 := (cert (f := 16) (n := 37853) (g := 2) (qs := [2, 2, 9463]) (by kernel_rfl) (primesCons prime2 (primesCons prime2 (primesCons pr34 primesNil)))).prime
theorem pr36 : PrimeU 75707 := (cert (f := 17) (n := 75707) (g := 2) (qs := [2, 37853]) (by kernel_rfl) (primesCons prime2 (primesCons pr35 primesNil))).prime
theorem pr37 : PrimeU 2437 := (cert (f := 12) (n := 2437) (g := 2) (qs := [2, 2, 3, 7, 29]) (by kernel_rfl) (primesCons prime2 (primesCons prime2 (primesCons pr0 (primesCons pr2 (primesCons pr10 primesNil)))))).prime
theorem pr38 : PrimeU 97 := (cert (f := 7) (n := 97) (g := 5) (qs := [2, 2, 2, 2, 2, 3]) (by kernel_rfl) (primesCons prime2 (primesCons prime2 (primesCons prime2 (primesCons prime2 (primesCons prime2 (primesCons pr0 primesNil))))))).prime
theorem pr39 : PrimeU 419 := (cert (f := 9) (n := 419) (g := 2) (qs := [2, 11, 19]) (by kernel_rfl) (primesCons prime2 (primesCons pr8 (primesCons pr32 primesNil)))).prime
theorem pr40 : PrimeU 569003 := (cert (f := 20) (n := 569003) (g := 2) (qs := [2, 7, 97, 419]) (by kernel_rfl) (primesCons prime2 (primesCons pr2 (primesCons pr38 (primesCons pr39 primesNil))))).prime
theorem pr41 : PrimeU 2773320623 := (cert (f := 32) (n := 2773320623) (g := 5) (qs := [2, 2437, 569003]) (by kernel_rfl) (primesCons prime2 (primesCons pr37 (primesCons pr40 primesNil)))).prime
theorem pr42 : PrimeU 72106336199 := (cert (f := 37) (n := 72106336199) (g := 7) (qs := [2, 13, 2773320623]) (by kernel_rfl) (primesCons prime2 (primesCons pr14 (primesCons pr41 primesNil)))).prime
theorem pr43 : PrimeU 47 := (cert (f := 6) (n := 47) (g := 5) (qs := [2, 23]) (by kernel_rfl) (primesCons prime2 (primesCons pr18 primesNil))).prime
theorem pr44 : PrimeU 127 := (cert (f := 7) (n := 127) (g := 3) (qs := [2, 3, 3, 7]) (by kernel_rfl) (primesCons prime2 (primesCons pr0 (primesCons pr0 (primesCons pr2 primesNil))))).prime
theorem pr45 : PrimeU 103 := (cert (f := 7) (n := 103) (g := 5) (qs := [2, 3, 17]) (by kernel_rfl) (primesCons prime2 (primesCons pr0 (primesCons pr1 primesNil)))).prime
theorem pr46 : PrimeU 991 := (cert (f := 10) (n := 991) (g := 6) (qs := [2, 3, 3, 5, 11]) (by kernel_rfl) (primesCons prime2 (primesCons pr0 (primesCons pr0 (primesCons pr7 (primesCons pr8 primesNil)))))).prime
theorem pr47 : PrimeU 8574133 := (cert (f := 24) (n := 8574133) (g := 2) (qs := [2, 2, 3, 7, 103, 991]) (by kernel_rfl) (primesCons prime2 (primesCons prime2 (primesCons pr0 (primesCons pr2 (primesCons pr45 (primesCons pr46 primesNil))))))).prime
theorem pr48 : PrimeU 1919519569386763 := (cert (f := 51) (n := 1919519569386763) (g := 2) (qs := [2, 3, 7, 19, 47, 47, 127, 8574133]) (by kernel_rfl) (primesCons prime2 (primesCons pr0 (primesCons pr2 (primesCons pr32 (primesCons pr43 (primesCons pr43 (primesCons pr44 (primesCons pr47 primesNil))))))))).prime
theorem pr49 : PrimeU 75445702479781427272750846543864801 := (cert (f := 116) (n := 75445702479781427272750846543864801) (g := 7) (qs := [2, 2, 2, 2, 2, 3, 3, 5, 5, 75707, 72106336199, 1919519569386763]) (by kernel_rfl) (primesCons prime2 (primesCons prime2 (primesCons prime2 (primesCons prime2 (primesCons prime2 (primesCons pr0 (primesCons pr0 (primesCons pr7 (primesCons pr7 (primesCons pr36 (primesCons pr42 (primesCons pr48 primesNil))))))))))))).prime
theorem pr50 : PrimeU 74058212732561358302231226437062788676166966415465897661863160754340907 := (cert (f := 236) (n := 74058212732561358302231226437062788676166966415465897661863160754340907) (g := 2) (qs := [2, 3, 353, 57467, 132049, 1923133, 31757755568855353, 75445702479781427272750846543864801]) (by kernel_rfl) (primesCons prime2 (primesCons pr0 (primesCons pr9 (primesCons pr13 (primesCons pr16 (primesCons pr20 (primesCons pr31 (primesCons pr49 primesNil))))))))).prime
theorem gen_p255 : Gen 2 P255 := cert (f := 255) (qs := [2, 2, 3, 65147, 74058212732561358302231226437062788676166966415465897661863160754340907]) (by kernel_rfl) (primesCons prime2 (primesCons prime2 (primesCons pr0 (primesCons pr6 (primesCons pr50 primesNil)))))
theorem prime_p255 : PrimeU P255 := gen_p255.prime

end Go.Proofs.Yteaoegdmhoepiaa

namespace Go.Proofs.Yteaoegdmhoepiaa
open Go

theorem bitK_val {k : List Nat} (h : g32 k = true) {i : Nat} (hi : i < 256) : bitK k i = decide (vB 256 k / 2 ^ i % 2 = 1) := by
  unfold bitK
  rw [and1, g32_bit h hi]

theorem half_bit (V n : Nat) : V / 2 ^ n = 2 * (V / 2 ^ (n + 1)) + V / 2 ^ n % 2 := by
  rw [Nat.pow_succ, ← Nat.div_div_eq_div_mul, Nat.div_add_mod]

theorem pwE {x k : List Nat} {v : Nat} (hx : EV x v) (hk : g32 k = true) : ∀ i, i ≤ 256 → EV (pwN x k i) (v ^ (vB 256 k / 2 ^ (256 - i)))
  | 0, _ => by
    have h : vB 256 k < 2 ^ 256 := by
      exact g32_lt hk
    rw [Nat.div_eq_of_lt h, Nat.pow_zero]
    exact oneE
  | i + 1, hi => by
    have ih := pwE hx hk i (by omega)
    have hb := half_bit (vB 256 k) (255 - i)
    rw [show 255 - i + 1 = 256 - i by omega] at hb
    rw [show 256 - (i + 1) = 255 - i by omega, hb]
    unfold pwN
    rw [bitK_val hk (by omega)]
    have e2 := mulE ih ih
    rw [← Nat.pow_add, ← Nat.two_mul] at e2
    by_cases h : vB 256 k / 2 ^ (255 - i) % 2 = 1
    · rw [decide_eq_true h, h, Nat.pow_succ]
      exact mulE e2 hx
    · have h0 : vB 256 k / 2 ^ (255 - i) % 2 = 0 := by omega
      rw [decide_eq_false h, h0, Nat.add_zero]
      exact e2

theorem powE {x k : List Nat} {v : Nat} (hx : EV x v) (hk : g32 k = true) : EV (powF x k) (v ^ vB 256 k) := by
  have := pwE hx hk 256 (Nat.le_refl _)
  rwa [Nat.sub_self, Nat.pow_zero, Nat.div_one] at this

theorem invE {x : List Nat} {v : Nat} (hx : EV x v) : EV (invF x) (v ^ (P255 - 2)) := by
  have e : vB 256 (ones0 235 127) = P255 - 2 := by decide +kernel
  have := powE hx (k := ones0 235 127) (by decide +kernel)
  rwa [e] at this

theorem pow_pred (v n : Nat) (h : 0 < n) : v ^ n = v ^ (n - 1) * v := by rw [← Nat.pow_succ, Nat.succ_eq_add_one, Nat.sub_add_cancel h]
theorem pow_pred2 (v n : Nat) (h : 1 < n) : v * v ^ (n - 2) = v ^ (n - 1) := by rw [Nat.mul_comm, ← Nat.pow_succ]; congr 1; omega

/-- Fermat. -/
theorem pow_p (v : Nat) : v ^ P255 % P255 = v % P255 := by
  by_cases h : v % P255 = 0
  · rw [Nat.pow_mod, h, Nat.zero_pow (by decide), Nat.zero_mod]
  · rw [pow_pred v P255 (by decide), Nat.mul_mod, gen_p255.fermat h, Nat.one_mul, Nat.mod_mod]

theorem inv_mul {v : Nat} (h : v % P255 ≠ 0) : v * v ^ (P255 - 2) % P255 = 1 := by
  rw [pow_pred2 v P255 (by decide), gen_p255.fermat h]

end Go.Proofs.Yteaoegdmhoepiaa

namespace Go.Proofs.Yteaoegdmhoepiaa
open Go

/-- The prime, as a name that nothing unfolds by itself. -/
@[irreducible] def PP : Nat := P255
theorem PP_eq : PP = P255 := by unfold PP; rfl
instance : NeZero PP := ⟨by rw [PP_eq]; decide⟩
/-- The numbers modulo the prime: the core's ring of numbers below a bound. -/
abbrev Fq := Fin PP

namespace Fq

def v (a : Fq) : Nat := a.val
theorem lt (a : Fq) : a.v < P255 := Nat.lt_of_lt_of_eq a.isLt PP_eq
theorem ext {a b : Fq} (h : a.v = b.v) : a = b := Fin.ext h

def c (n : Nat) : Fq := Fin.ofNat PP n

theorem c_v (n : Nat) : (c n).v = n % P255 := (show (c n).v = n % PP from rfl).trans (by rw [PP_eq])
theorem c_eq {n m : Nat} : c n = c m ↔ n % P255 = m % P255 := by
  rw [← c_v, ← c_v]
  exact ⟨fun h => congrArg Fq.v h, fun h => ext h⟩
theorem v_mod (a : Fq) : a.v % P255 = a.v := Nat.mod_eq_of_lt a.lt
theorem c_self (a : Fq) : c a.v = a := ext ((c_v _).trans (v_mod a))

/-- The power; chosen, so that nothing unfolds it. -/
noncomputable def fpow (a : Fq) (n : Nat) : Fq := Classical.choose (⟨c (a.v ^ n), rfl⟩ : ∃ b, b = c (a.v ^ n))
theorem inv_ex (a : Fq) : ∃ b : Fq, b = c (a.v ^ (P255 - 2)) := ⟨_, rfl⟩
noncomputable def finv (a : Fq) : Fq := Classical.choose (inv_ex a)
noncomputable instance : Inv Fq := ⟨finv⟩
theorem add_d (a b : Fq) : a + b = c (a.v + b.v) := rfl
theorem mul_d (a b : Fq) : a * b = c (a.v * b.v) := rfl
theorem neg_d (a : Fq) : -a = c (P255 - a.v) := by
  rw [← PP_eq]
  rfl
theorem pow_d (a : Fq) (n : Nat) : fpow a n = c (a.v ^ n) := Classical.choose_spec (⟨c (a.v ^ n), rfl⟩ : ∃ b, b = c (a.v ^ n))
theorem inv_d (a : Fq) : a⁻¹ = c (a.v ^ (P255 - 2)) := Classical.choose_spec (inv_ex a)
theorem nat_d (n : Nat) : OfNat.ofNat n = c n := rfl

theorem c_add (n m : Nat) : c (n + m) = c n + c m := by
  rw [add_d, c_eq, c_v, c_v]
  exact Nat.add_mod n m P255
theorem c_mul (n m : Nat) : c (n * m) = c n * c m := by
  rw [mul_d, c_eq, c_v, c_v]
  exact Nat.mul_mod n m P255
theorem c_pow (n k : Nat) : c (n ^ k) = fpow (c n) k := by
  rw [pow_d, c_eq, c_v]
  exact Nat.pow_mod n k P255
theorem c_mod (n : Nat) : c (n % P255) = c n := c_eq.2 (Nat.mod_mod n P255)

theorem add_comm (a b : Fq) : a + b = b + a := by rw [add_d, add_d, Nat.add_comm]
theorem mul_comm (a b : Fq) : a * b = b * a := by rw [mul_d, mul_d, Nat.mul_comm]
theorem add_assoc (a b e : Fq) : a + b + e = a + (b + e) := by
  rw [← c_self a, ← c_self b, ← c_self e, ← c_add, ← c_add, ← c_add, ← c_add, Nat.add_assoc]
theorem mul_assoc (a b e : Fq) : a * b * e = a * (b * e) := by
  rw [← c_self a, ← c_self b, ← c_self e, ← c_mul, ← c_mul, ← c_mul, ← c_mul, Nat.mul_assoc]
theorem left_distrib (a b e : Fq) : a * (b + e) = a * b + a * e := by
  rw [← c_self a, ← c_self b, ← c_self e, ← c_mul, ← c_mul, ← c_add, ← c_add, ← c_mul, Nat.mul_add]
theorem add_zero (a : Fq) : a + 0 = a := by
  show a + c 0 = a
  rw [← c_self a, ← c_add, Nat.add_zero]
theorem mul_one (a : Fq) : a * 1 = a := by
  show a * c 1 = a
  rw [← c_self a, ← c_mul, Nat.mul_one]
theorem zero_mul (a : Fq) : 0 * a = 0 := by
  show c 0 * a = c 0
  rw [← c_self a, ← c_mul, Nat.zero_mul]
theorem neg_add (a : Fq) : -a + a = 0 := by
  have h : c (P255 - a.v) + c a.v = c 0 := by
    rw [← c_add, Nat.sub_add_cancel (Nat.le_of_lt a.lt)]
    exact c_eq.2 (by decide)
  rw [c_self, ← neg_d] at h
  exact h

theorem add_neg (a : Fq) : a + -a = 0 := by rw [add_comm, neg_add]
theorem zero_add (a : Fq) : 0 + a = a := by rw [add_comm, add_zero]
theorem neg_uniq {a b : Fq} (h : a + b = 0) : -a = b := by
  rw [← add_zero (-a), ← h, ← add_assoc, neg_add, zero_add]
theorem neg_neg (a : Fq) : - -a = a := neg_uniq (neg_add a)
theorem right_distrib (a b e : Fq) : (a + b) * e = a * e + b * e := by
  rw [mul_comm, left_distrib, mul_comm e, mul_comm e]
theorem neg_mul (a b : Fq) : -a * b = -(a * b) := by
  refine (neg_uniq ?_).symm
  rw [← right_distrib, add_neg, zero_mul]

theorem pow_0 (a : Fq) : fpow a 0 = 1 := by rw [pow_d, Nat.pow_zero]; rfl
theorem pow_s (a : Fq) (n : Nat) : fpow a (n + 1) = fpow a n * a := by rw [pow_d, pow_d, Nat.pow_succ, c_mul, c_self]

theorem pow_1 (a : Fq) : fpow a 1 = a := (pow_s a 0).trans (by rw [pow_0]; grind -lia)
theorem pow_2 (a : Fq) : fpow a 2 = a * a := (pow_s a 1).trans (by rw [pow_1])

theorem sub_d (a b : Fq) : a - b = a + -b := by grind -lia

theorem zero_ne_one : (0 : Fq) ≠ 1 := fun h => by
  have : c 0 = c 1 := h
  have := c_eq.1 this
  exact absurd this (by decide)

theorem ne_zero {a : Fq} (h : a ≠ 0) : a.v % P255 ≠ 0 := fun e => h (by
  rw [v_mod] at e
  have : c a.v = c 0 := by rw [e]
  rwa [c_self] at this)

theorem mul_inv {a : Fq} (h : a ≠ 0) : a * a⁻¹ = 1 := by
  have e : c (a.v * a.v ^ (P255 - 2)) = c 1 := c_eq.2 (by rw [inv_mul (ne_zero h), Nat.mod_eq_of_lt (by decide)])
  rw [c_mul, c_self, ← inv_d] at e
  exact e

theorem z_pow {x n : Nat} (h : x = 0) (hn : 0 < n) : x ^ n = 0 := by rw [h, Nat.zero_pow hn]

theorem inv_zero : (0 : Fq)⁻¹ = 0 := by
  rw [inv_d, z_pow (x := (0 : Fq).v) rfl (by decide)]
  rfl

theorem inv_one : (1 : Fq)⁻¹ = 1 := by
  have h := mul_inv (a := 1) (fun h => zero_ne_one h.symm)
  rwa [mul_comm, mul_one] at h

theorem inv_uniq {a b : Fq} (h : a * b = 1) : a⁻¹ = b := by
  have ha : a ≠ 0 := fun e => by rw [e, zero_mul] at h; exact zero_ne_one h
  have h2 := mul_inv ha
  rw [← mul_one (a⁻¹), ← h, ← mul_assoc, mul_comm (a⁻¹), h2, mul_comm 1, mul_one]

theorem inv_inv (a : Fq) : (a⁻¹)⁻¹ = a := by
  by_cases h : a = 0
  · rw [h, inv_zero, inv_zero]
  · exact inv_uniq (by rw [mul_comm, mul_inv h])

end Fq

end Go.Proofs.Yteaoegdmhoepiaa

namespace Go.Proofs.Yteaoegdmhoepiaa
open Go
namespace Fq

theorem pow_add (a : Fq) (m n : Nat) : fpow a (m + n) = fpow a m * fpow a n := by
  rw [pow_d, pow_d, pow_d, Nat.pow_add, c_mul]
theorem pow_mul (a : Fq) (m n : Nat) : fpow a (m * n) = fpow (fpow a m) n := by
  rw [pow_d a, pow_d a, Nat.pow_mul, c_pow]
theorem mul_pow (a b : Fq) (n : Nat) : fpow (a * b) n = fpow a n * fpow b n := by
  rw [mul_d, ← c_pow, Nat.mul_pow, c_mul, pow_d, pow_d]
theorem one_pow (n : Nat) : fpow (1 : Fq) n = 1 := by
  show fpow (c 1) n = c 1
  rw [← c_pow, Nat.one_pow]
theorem zero_pow {n : Nat} (h : 0 < n) : fpow (0 : Fq) n = 0 := by
  show fpow (c 0) n = c 0
  rw [← c_pow, Nat.zero_pow h]
theorem c_inv (n : Nat) : c (n ^ (P255 - 2)) = (c n)⁻¹ := by
  rw [inv_d, c_pow, c_pow, c_self]

theorem fermat {a : Fq} (h : a ≠ 0) : fpow a (P255 - 1) = 1 := by
  rw [pow_d]
  exact c_eq.2 (by rw [gen_p255.fermat (ne_zero h), Nat.mod_eq_of_lt (by decide)])

theorem mul_ne {a b : Fq} (ha : a ≠ 0) (hb : b ≠ 0) : a * b ≠ 0 := fun h => by
  have := mul_inv ha
  grind -lia

theorem sq_one {q : Fq} (h : q * q = 1) : q = 1 ∨ q = -1 := by
  by_cases h1 : q - 1 = 0
  · left; grind -lia
  · by_cases h2 : q + 1 = 0
    · right; grind -lia
    · exact absurd (show (q - 1) * (q + 1) = 0 by grind -lia) (mul_ne h1 h2)

theorem two_ne : (1 : Fq) ≠ -1 := fun h => by
  have h : c 1 = c (P255 - (1 : Fq).v) := h.trans (neg_d 1)
  rw [show (1 : Fq).v = 1 % P255 from c_v 1] at h
  have := c_eq.1 h
  exact absurd this (by decide)

/-- The half power is 1 or -1. -/
theorem half_pow {h : Nat} (hh : P255 - 1 = h * 2) {a : Fq} (ha : a ≠ 0) : fpow a h = 1 ∨ fpow a h = -1 := by
  refine sq_one ?_
  have := fermat ha
  rw [hh, pow_mul] at this
  rw [← this, pow_2]

theorem two_half {h : Nat} (hh : h = P255 / 2) : fpow (2 : Fq) h = -1 := by
  show fpow (c 2) h = -c 1
  rw [← c_pow]
  refine c_eq.2 ?_
  rw [hh, ← pm_eq 255 2 (P255 / 2) P255 (by decide)]
  kernel_rfl

theorem eq_of_sub {a b : Fq} (h : a - b = 0) : b = a := by grind -lia
theorem of_add {a b : Fq} (h : a + b = 0) : b = -a := by grind -lia
theorem twice0 {x : Fq} (h : x = -x) : (1 + 1) * x = 0 := by grind -lia
theorem aux1 {a q : Fq} (h : a * q = a) : a * (q - 1) = 0 := by grind -lia
theorem aux2 {a q : Fq} (h : a * q = -a) : a * (q + 1) = 0 := by grind -lia
theorem aux3 {q : Fq} (h : q - 1 = 0) : q = 1 := by grind -lia
theorem aux4 {q : Fq} (h : q + 1 = 0) : q = -1 := by grind -lia
theorem aux5 {x : Fq} (h : x = 1 * 1) (e : x = -1) : (1 : Fq) = -1 := by grind -lia
theorem aux6 {x : Fq} (h : x = -1 * -1) (e : x = -1) : (1 : Fq) = -1 := by grind -lia

/-- What the code reckons: T, and what it is the root of. -/
theorem root_alg {m h : Nat} (hm : h = (2 * m + 1) * 2) (hh : P255 - 1 = h * 2) {a b : Fq} (ha : a ≠ 0) (hb : b ≠ 0) {T i : Fq} (hT : T = a * (b * b * b) * fpow (a * (b * b * b) * (b * b * b) * b) m) (hi : i * i = -1) :
    (fpow (a * b⁻¹) h = 1 ∧ (b * T * T = a ∨ (b * T * T = -a ∧ b * T * T ≠ a ∧ b * (T * i) * (T * i) = a))) ∨ (fpow (a * b⁻¹) h = -1 ∧ b * T * T ≠ a ∧ b * T * T ≠ -a) := by
  generalize hw : a * (b * b * b) * (b * b * b) * b = w at hT
  have hw0 : w ≠ 0 := by
    have h1 := mul_ne hb hb
    have h2 := mul_ne h1 hb
    rw [← hw]
    exact mul_ne (mul_ne (mul_ne ha h2) h2) hb
  have hs : b * T * T = a * fpow w (2 * m + 1) := by
    rw [show 2 * m + 1 = m + m + 1 by omega, pow_add, pow_add, hT, ← hw]
    generalize fpow (a * (b * b * b) * (b * b * b) * b) m = z
    have e := pow_1 (a * (b * b * b) * (b * b * b) * b)
    rw [e]
    grind -lia
  have hq : fpow w h = fpow w (2 * m + 1) * fpow w (2 * m + 1) := by rw [hm, show (2 * m + 1) * 2 = (2 * m + 1) + (2 * m + 1) by omega, pow_add]
  have hwh : fpow w h = fpow a h * fpow b h := by
    have hb2 := half_pow hh hb
    rw [← hw, mul_pow, mul_pow, mul_pow, mul_pow, mul_pow]
    rcases hb2 with e | e <;> rw [e] <;> grind -lia
  have hinv : fpow (a * b⁻¹) h = fpow a h * fpow b h := by
    rw [mul_pow]
    have h1 := mul_inv hb
    have h2 : fpow b h * fpow (b⁻¹) h = 1 := by rw [← mul_pow, h1, one_pow]
    rcases half_pow hh hb with e | e <;> rw [e] at h2 ⊢ <;> grind -lia
  have t1 := two_ne
  rw [hinv, ← hwh]
  generalize hQ : fpow w (2 * m + 1) = q at *
  have h2a : ∀ x : Fq, x = -x → x = 0 := fun x hx => by
    have h2 : (1 : Fq) + 1 ≠ 0 := fun e => t1 (neg_uniq e).symm
    by_cases hx0 : x = 0
    · exact hx0
    · exact absurd (twice0 hx) (mul_ne h2 hx0)
  rcases half_pow hh hw0 with e | e
  · left
    refine ⟨e, ?_⟩
    rcases sq_one (q := q) (by rw [← hq, e]) with e1 | e1
    · left; rw [hs, e1]; grind -lia
    · right
      have e2 : b * T * T = -a := by rw [hs, e1]; grind -lia
      refine ⟨e2, fun e3 => ha (h2a a (by rw [← e2]; exact e3.symm)), ?_⟩
      have : b * (T * i) * (T * i) = b * T * T * (i * i) := by grind -lia
      rw [this, e2, hi]
      grind -lia
  · right
    refine ⟨e, fun e3 => ?_, fun e3 => ?_⟩
    · rw [hs] at e3
      exact mul_ne ha (fun h0 => t1 (aux5 (by rw [hq, aux3 h0]) e)) (aux1 e3)
    · rw [hs] at e3
      exact mul_ne ha (fun h0 => t1 (aux6 (by rw [hq, aux4 h0]) e)) (aux2 e3)

end Fq
end Go.Proofs.Yteaoegdmhoepiaa

namespace Go.Proofs.Yteaoegdmhoepiaa
open Go

def key2 (n : Nat) : List Nat := [n % 256, n / 2 ^ 8 % 256, 0, 0, 0, 0, 0, 0, 0, 0, 0, 0, 0, 0, 0, 0, 0, 0, 0, 0, 0, 0, 0, 0, 0, 0, 0, 0, 0, 0, 0, 0]
def key3 (n : Nat) : List Nat := [n % 256, n / 2 ^ 8 % 256, n / 2 ^ 16 % 256, 0, 0, 0, 0, 0, 0, 0, 0, 0, 0, 0, 0, 0, 0, 0, 0, 0, 0, 0, 0, 0, 0, 0, 0, 0, 0, 0, 0, 0]
def keyP : List Nat := [237, 255, 255, 255, 255, 255, 255, 255, 255, 255, 255, 255, 255, 255, 255, 255, 255, 255, 255, 255, 255, 255, 255, 255, 255, 255, 255, 255, 255, 255, 255, 127]

theorem fn9 : Fn Try.prog 9 Try.f9 := ⟨mixedF, Try.func9, by kernel_rfl, of_decide_eq_true (by kernel_rfl)⟩

set_option maxRecDepth 100000 in
theorem r9 (o : Ops) (k : List Nat) (a b : Nat) : runB Try.prog ((54, F54) :: envO o) [] .nat 17 Try.f9 [.agg [.ints .u8 32 k], .s (.nat .u16 a), .s (.nat .u16 b)] [] =
(nd [o.l5 (o.of k), o.l5 (o.of k), o.l5 (o.of k), o.l5 (o.pow (o.of k) (key2 a)), o.l5 (o.pow (o.of k) (key2 b)), o.l5 (o.pow (o.of k) (key3 ((a + b) % 4294967296))), o.l5 (o.mul (o.pow (o.of k) (key2 a)) (o.pow (o.of k) (key2 b)))]
 (cond (o.eq (o.pow (o.of k) (key3 ((a + b) % 4294967296))) (o.mul (o.pow (o.of k) (key2 a)) (o.pow (o.of k) (key2 b))))
 (nd [o.l5 (o.of k), o.l5 (o.pow (o.of k) keyP), o.l5 (o.of k)]
 (some (AV.s (SV.bool (o.eq (o.pow (o.of k) keyP) (o.of k))), [])))
 (some (AV.s (SV.bool false), [])))) := by kernel_rfl

theorem vB_zeros : ∀ n, vB 256 (List.replicate n 0) = 0
  | 0 => rfl
  | n + 1 => by rw [List.replicate_succ, vB, vB_zeros n]

theorem all_zeros (n : Nat) : ∀ x ∈ List.replicate n 0, x < 256 := fun x hx => by rw [(List.mem_replicate.1 hx).2]; decide

theorem key2_ok {n : Nat} (h : n < 65536) : g32 (key2 n) = true ∧ vB 256 (key2 n) = n := by
  have e : key2 n = n % 256 :: n / 2 ^ 8 % 256 :: List.replicate 30 0 := rfl
  rw [e]
  constructor
  · rw [g32, Bool.and_eq_true]
    refine ⟨rfl, allB_mem fun x hx => ?_⟩
    simp only [List.mem_cons] at hx
    rcases hx with rfl | rfl | hx
    · omega
    · omega
    · exact all_zeros 30 x hx
  · rw [vB, vB, vB_zeros]
    omega

theorem key3_ok {n : Nat} (h : n < 16777216) : g32 (key3 n) = true ∧ vB 256 (key3 n) = n := by
  have e : key3 n = n % 256 :: n / 2 ^ 8 % 256 :: n / 2 ^ 16 % 256 :: List.replicate 29 0 := rfl
  rw [e]
  constructor
  · rw [g32, Bool.and_eq_true]
    refine ⟨rfl, allB_mem fun x hx => ?_⟩
    simp only [List.mem_cons] at hx
    rcases hx with rfl | rfl | rfl | hx
    · omega
    · omega
    · omega
    · exact all_zeros 29 x hx
  · rw [vB, vB, vB, vB_zeros]
    omega

theorem keyP_ok : g32 keyP = true ∧ vB 256 keyP = P255 := ⟨by decide +kernel, by decide +kernel⟩

theorem ctr9 {k : List Nat} {a b : Nat} (hk : g32 k = true) (ha : a < 65536) (hb : b < 65536) : Ctr Try.prog 9 [.agg [.ints .u8 32 k], .s (.nat .u16 a), .s (.nat .u16 b)] [] (.s (.bool true)) [] := by
  refine ctrB (fs := (54, F54) :: envO ops) (xs := []) (m := .nat) (fuel := 17) (.cons ok54 envO_ok) fn9 ?_
  have ek := ofE hk
  generalize vB 256 k % P2 = v at *
  rw [r9, Nat.mod_eq_of_lt (show a + b < 4294967296 by omega)]
  simp only [ops_mul, ops_of, ops_eq, ops_pow, ops_l5]
  obtain ⟨a1, a2⟩ := key2_ok ha
  obtain ⟨b1, b2⟩ := key2_ok hb
  obtain ⟨c1, c2⟩ := key3_ok (show a + b < 16777216 by omega)
  have e1 := powE ek a1
  have e2 := powE ek b1
  have e3 := powE ek c1
  have e4 := powE ek keyP_ok.1
  rw [a2] at e1
  rw [b2] at e2
  rw [c2] at e3
  rw [keyP_ok.2] at e4
  have e5 := mulE e1 e2
  refine nd_of ?_ (cond_t (eq_of_mod e3 e5 (by rw [Nat.pow_add])) (nd_of ?_ ?_))
  · simp only [List.mem_cons, List.not_mem_nil, or_false, forall_eq_or_imp, forall_eq, l5T ek, l5T e1, l5T e2, l5T e3, l5T e5, and_self]
  · simp only [List.mem_cons, List.not_mem_nil, or_false, forall_eq_or_imp, forall_eq, l5T ek, l5T e4, and_self]
  · rw [eq_of_mod e4 ek (pow_p v)]

end Go.Proofs.Yteaoegdmhoepiaa

namespace Go.Proofs.Yteaoegdmhoepiaa
open Go Go.ChangeShapes Go.WideShapes Go.ChangeAt Go.RowKit

theorem law9 : Law Yteaoegdmhoepiaa.Rows.fieldExponentsSpec Try.f9.params.toList.length := by
  have e : Try.f9.params.toList.length = 3 := by kernel_rfl
  rw [e]
  exact law_of ⟨rfl, fun _ _ _ _ => rfl⟩

set_option maxRecDepth 100000 in
theorem lifted9 (os : Os) (started : os.Started) (H : Type) (enc : TypeId × Value → H) :
    ReturnsInHanded {} Try.checked os 9 .any (Yteaoegdmhoepiaa.Rows.fieldExponentsSpec.pre6 enc Try.prog Try.f9 Yteaoegdmhoepiaa.Rows.fieldExponentsRow.domain false) (Yteaoegdmhoepiaa.Rows.fieldExponentsSpec.post enc Try.prog Try.f9 false true false false) := by
  refine returnsInHanded_of_change (C := Try.checked) own started (by kernel_rfl) Try.func9
    (ChangeSpec.witness6 (enc := enc) (C := Try.checked) false ⟨#[], #[.agg (Array.replicate 32 (.int .u8 0)), .int .u16 0, .int .u16 0], []⟩ 8 (by kernel_rfl) (by kernel_rfl) (by kernel_rfl) (by kernel_rfl)) ?_
  intro W base args ds gs before hval0 hW hcnd _
  have hval : ∀ (j : Nat) t v, Try.f9.params[j]? = some t → args[j]? = some v → Value.okWide Try.prog W .any base t v := hval0
  have hW' := hW
  obtain ⟨p, q, hA0, hV, rfl, hfz, hnd⟩ := hW
  have hA : DataW.TrodAll enc Try.prog W 0 (fun _ => true) true Try.f9.params.toList args.toList ds p := hA0
  rw [Try.params9] at hA hval
  obtain ⟨v0, v1, v2, d0, d1, d2, p0, p1, p2, rfl, rfl, rfl, h0, h1, h2⟩ := trodAll_three hA
  obtain ⟨a0, l0, b0, rfl⟩ := open_arrV rfl u5 c5 u23 c23 (hval 0 23 v0 rfl rfl) h0
  obtain ⟨a1, b1, rfl⟩ := open_uintV u52 rfl (hval 1 52 v1 rfl rfl) h1
  obtain ⟨a2, b2, rfl⟩ := open_uintV u52 rfl (hval 2 52 v2 rfl rfl) h2
  exact law_calls (E := ⟨Try.prog, [], []⟩) laidOut law9 (by rw [Try.params9]; decide +kernel) rfl u4 hW' (relCons (relAgg l0 b0) (relCons (relNat b1) (relCons (relNat b2) relNil))) (ctr9 (g32_of l0 b0) b1 b2)

theorem fieldExponents_holds : Yteaoegdmhoepiaa.Rows.FieldExponentsSaid :=
  OpenClaim.holds_of_wide 9 Try.f9 rfl rfl rfl rfl rfl rfl rfl ⟨rfl, rfl, rfl, rfl, rfl⟩ rfl rfl rfl rfl rfl (by kernel_rfl) Try.func9 (by kernel_rfl)
    (of_decide_eq_true (by kernel_rfl)) (by unfold Func.isWrapper; first | (rw [if_pos (by decide +kernel)]; kernel_rfl) | (rw [if_neg (by decide +kernel)]; exact ⟨rfl, rfl⟩))
    (fun os started H enc _ => lifted9 os started H enc)

end Go.Proofs.Yteaoegdmhoepiaa

namespace Go.Proofs.Yteaoegdmhoepiaa
open Go

def pwR (A V : Nat) : Nat → Nat
  | 0 => 1
  | i + 1 => cond (decide (V / 2 ^ (255 - i) % 2 = 1)) (fv (fv (pwR A V i * pwR A V i) * A)) (fv (pwR A V i * pwR A V i))

theorem pwR_lt {A V : Nat} (hA : A < M256) : ∀ i, pwR A V i < M256
  | 0 => by show 1 < M256; decide
  | i + 1 => by
    have h := pwR_lt (V := V) hA i
    obtain ⟨h1, _⟩ := fvMul h h
    rw [pwR]
    cases decide (V / 2 ^ (255 - i) % 2 = 1)
    · exact h1
    · exact (fvMul h1 hA).1

theorem pwR_mod {A V : Nat} (hA : A < M256) (hV : V < 2 ^ 256) : ∀ i, i ≤ 256 → pwR A V i % P255 = A ^ (V / 2 ^ (256 - i)) % P255
  | 0, _ => by rw [Nat.div_eq_of_lt hV, Nat.pow_zero]; rfl
  | i + 1, hi => by
    have ih := pwR_mod hA hV i (by omega)
    have h := pwR_lt (V := V) hA i
    obtain ⟨h1, h2⟩ := fvMul h h
    have hb := half_bit V (255 - i)
    rw [show 255 - i + 1 = 256 - i by omega] at hb
    rw [Nat.mul_mod, ih, ← Nat.mul_mod, ← Nat.pow_add, ← Nat.two_mul] at h2
    rw [show 256 - (i + 1) = 255 - i by omega, hb, pwR]
    by_cases c : V / 2 ^ (255 - i) % 2 = 1
    · rw [decide_eq_true c, c, Nat.pow_succ]
      obtain ⟨_, h4⟩ := fvMul h1 hA
      show fv _ % P255 = _
      rw [h4, Nat.mul_mod, h2, ← Nat.mul_mod]
    · have h0 : V / 2 ^ (255 - i) % 2 = 0 := by omega
      rw [decide_eq_false c, h0, Nat.add_zero]
      exact h2

theorem nb_bit {V i : Nat} (hi : i < 256) : (nb V).getD (i / 16) 0 / 2 ^ (i % 16) % 2 = V / 2 ^ i % 2 := by
  rw [nb, dB_get, if_pos (by omega), show (65536 : Nat) ^ (i / 16) = 2 ^ (16 * (i / 16)) by rw [Nat.pow_mul], show (65536 : Nat) = 2 ^ 16 from rfl, bit_dig 16 _ _ (by decide)]

def W0 : LSem := ⟨[2, 3, 5, 6], [5], fun args hin => match args, hin with
  | [.s (.ptr 0 0), .s (.ptr 1 0), .s (.ptr 2 0), .s (.nat .i64 255)], [[.ints .u64 16 a], [.ints .u64 16 k], [.ints .u64 16 x]] =>
    some (Tr.needs [g16 a, g16 k, decide (x = nb 1)] (.leaf (.normal, [.s (.ptr 2 0)], [some [.ints .u64 16 a], some [.ints .u64 16 k], some [.ints .u64 16 (nb (pwR (vB 65536 a) (vB 65536 k) 256))]])))
  | _, _ => none⟩

set_option maxRecDepth 100000 in
theorem rW1 (o : Ops) (a k x : List Nat) (j : Nat) : runR Try.prog [(37, O37 o)] [] .down 7 [(2, W2)] Try.f56 0 W0 3 [.s (.ptr 0 0), .s (.ptr 1 0), .s (.ptr 2 0), .s (.nat .i64 (j + 1))] [some [.ints .u64 16 a], some [.ints .u64 16 k], some [.ints .u64 16 x]] =
(nd [o.g16 x, o.g16 x, decide ((j + 1) / 16 < 16), decide ((j + 1) / 16 < 16)]
 (cond (decide (k.getD ((j + 1) / 16) 0 / 2 ^ ((j + 1) % 16) % 2 = 1))
 (nd [o.g16 (o.mulR x x), o.g16 a]
 (some (Ex.normal, [AV.s (SV.ptr 0 0), AV.s (SV.ptr 1 0), AV.s (SV.ptr 2 0), AV.s (SV.nat IntKind.i64 j)], [some [Ch.ints IntKind.u64 16 a], some [Ch.ints IntKind.u64 16 k], some [Ch.ints IntKind.u64 16 (o.mulR (o.mulR x x) a)]])))
 (some (Ex.normal, [AV.s (SV.ptr 0 0), AV.s (SV.ptr 1 0), AV.s (SV.ptr 2 0), AV.s (SV.nat IntKind.i64 j)], [some [Ch.ints IntKind.u64 16 a], some [Ch.ints IntKind.u64 16 k], some [Ch.ints IntKind.u64 16 (o.mulR x x)]])))) := by kernel_rfl

set_option maxRecDepth 100000 in
theorem rW0 (o : Ops) (a k x : List Nat) : runR Try.prog [(37, O37 o)] [] .down 7 [(2, W2)] Try.f56 0 W0 3 [.s (.ptr 0 0), .s (.ptr 1 0), .s (.ptr 2 0), .s (.nat .i64 0)] [some [.ints .u64 16 a], some [.ints .u64 16 k], some [.ints .u64 16 x]] =
(nd [o.g16 x, o.g16 x]
 (cond (decide (k.getD (0 / 16) 0 / 2 ^ (0 % 16) % 2 = 1))
 (nd [o.g16 (o.mulR x x), o.g16 a]
 (some (Ex.normal, [AV.s (SV.ptr 0 0), AV.s (SV.ptr 1 0), AV.s (SV.ptr 2 0), AV.s (SV.int (Int.negSucc 0))], [some [Ch.ints IntKind.u64 16 a], some [Ch.ints IntKind.u64 16 k], some [Ch.ints IntKind.u64 16 (o.mulR (o.mulR x x) a)]])))
 (some (Ex.normal, [AV.s (SV.ptr 0 0), AV.s (SV.ptr 1 0), AV.s (SV.ptr 2 0), AV.s (SV.int (Int.negSucc 0))], [some [Ch.ints IntKind.u64 16 a], some [Ch.ints IntKind.u64 16 k], some [Ch.ints IntKind.u64 16 (o.mulR x x)]])))) := by kernel_rfl

set_option maxRecDepth 100000 in
theorem rWm (o : Ops) (a k x : List Nat) : runR Try.prog [(37, O37 o)] [] .down 7 [(2, W2)] Try.f56 0 W0 3 [.s (.ptr 0 0), .s (.ptr 1 0), .s (.ptr 2 0), .s (.int (Int.negSucc 0))] [some [.ints .u64 16 a], some [.ints .u64 16 k], some [.ints .u64 16 x]] =
(some (Ex.exit 0, [AV.s (SV.ptr 2 0)], [some [Ch.ints IntKind.u64 16 a], some [Ch.ints IntKind.u64 16 k], some [Ch.ints IntKind.u64 16 x]])) := by kernel_rfl

theorem loopsW0 : LoopsOk Try.prog ⟨Try.f56.ntmps, 7, [(2, W2)]⟩ (lb 0 Try.f56) := by
  refine loopsOk_of ?_
  have e : loopsIn [(2, W2)] (lb 0 Try.f56) = [(2, .loop (lb 2 Try.f56), W2)] := by kernel_rfl
  simp only [e]
  intro x hx
  simp only [List.mem_cons, List.not_mem_nil, or_false] at hx
  rcases hx with rfl
  · exact lokW2

theorem lokW0 : LOk Try.prog Try.f56.ntmps (.block 0 (.loop (lb 0 Try.f56))) W0 := by
  refine lokR (fs := [(37, O37 ops)]) (xs := []) (m := .down) (fuel := 7) (sums := [(2, W2)]) (.cons oo37 .nil) mixedF loopsW0 ?_
  intro args hin t e vs hout h hg
  unfold W0 at h
  simp only at h
  split at h
  · rename_i a k x
    cases h
    obtain ⟨hc, hgt⟩ := Tr.needs_get hg
    cases hgt
    have ga : g16 a = true := hc (g16 a) (by simp)
    have gk : g16 k = true := hc (g16 k) (by simp)
    have ex : x = nb 1 := of_decide_eq_true (hc (decide (x = nb 1)) (by simp))
    subst ex
    obtain ⟨A, hA, rfl⟩ : ∃ v, v < M256 ∧ a = nb v := ⟨vB 65536 a, g16_lt ga, g16_eq ga⟩
    obtain ⟨V, hV, rfl⟩ : ∃ v, v < M256 ∧ k = nb v := ⟨vB 65536 k, g16_lt gk, g16_eq gk⟩
    rw [nb_val hA, nb_val hV]
    have hb : ∀ i, i < 256 → decide ((nb V).getD (i / 16) 0 / 2 ^ (i % 16) % 2 = 1) = decide (V / 2 ^ i % 2 = 1) := fun i hi => by rw [nb_bit hi]
    refine ⟨256, fun i => ([.s (.ptr 0 0), .s (.ptr 1 0), .s (.ptr 2 0), downV 256 i], [some [.ints .u64 16 (nb A)], some [.ints .u64 16 (nb V)], some [.ints .u64 16 (nb (pwR A V i))]]), .exit 0, rfl, fun i hi => ?_, ?_, rfl⟩
    · have hp := pwR_lt (V := V) hA i
      have hm := (fvMul hp hp).1
      simp only [List.length_cons, List.length_nil]
      by_cases h255 : i = 255
      · subst h255
        rw [show downV 256 255 = .s (.nat .i64 0) from rfl, rW0, hb 0 (by decide)]
        simp only [ops_g16, ops_mulR, nb_val hp, nb_val hm, nb_val hA]
        refine nd_of ?_ ?_
        · simp only [List.mem_cons, List.not_mem_nil, or_false, forall_eq_or_imp, forall_eq, g16_nb, and_self]
        · rw [show pwR A V (255 + 1) = cond (decide (V / 2 ^ 0 % 2 = 1)) (fv (fv (pwR A V 255 * pwR A V 255) * A)) (fv (pwR A V 255 * pwR A V 255)) from rfl]
          cases decide (V / 2 ^ 0 % 2 = 1)
          · exact cond_f rfl rfl
          · refine cond_t rfl (nd_of ?_ rfl)
            simp only [List.mem_cons, List.not_mem_nil, or_false, forall_eq_or_imp, forall_eq, g16_nb, and_self]
      · obtain ⟨j, hj⟩ : ∃ j, 255 - i = j + 1 := ⟨254 - i, by omega⟩
        have e1 : downV 256 i = .s (.nat .i64 (j + 1)) := by unfold downV; rw [if_pos hi, show 256 - 1 - i = j + 1 by omega]
        have e2 : downV 256 (i + 1) = .s (.nat .i64 j) := by unfold downV; rw [if_pos (by omega), show 256 - 1 - (i + 1) = j by omega]
        rw [e1, e2, rW1, hb (j + 1) (by omega)]
        simp only [ops_g16, ops_mulR, nb_val hp, nb_val hm, nb_val hA]
        refine nd_of ?_ ?_
        · simp only [List.mem_cons, List.not_mem_nil, or_false, forall_eq_or_imp, forall_eq, g16_nb, decide_eq_true_eq, true_and, and_true]; omega
        · rw [show pwR A V (i + 1) = cond (decide (V / 2 ^ (255 - i) % 2 = 1)) (fv (fv (pwR A V i * pwR A V i) * A)) (fv (pwR A V i * pwR A V i)) from rfl, hj]
          cases decide (V / 2 ^ (j + 1) % 2 = 1)
          · exact cond_f rfl rfl
          · refine cond_t rfl (nd_of ?_ rfl)
            simp only [List.mem_cons, List.not_mem_nil, or_false, forall_eq_or_imp, forall_eq, g16_nb, and_self]
    · simp only [List.length_cons, List.length_nil]
      rw [show downV 256 256 = .s (.int (Int.negSucc 0)) from rfl, rWm]
  · cases h

def F56 : FSem := ⟨false, fun args hin => match args, hin with
  | [.agg [.ints .u64 16 a], .agg [.ints .u64 16 k]], [] => some (.need (g16 a) (.need (g16 k) (.leaf (.agg [.ints .u64 16 (nb (pwR (vB 65536 a) (vB 65536 k) 256))], []))))
  | _, _ => none⟩

theorem fn56 : Fn Try.prog 56 Try.f56 := ⟨mixedF, Try.func56, by kernel_rfl, of_decide_eq_true (by kernel_rfl)⟩

theorem loops56 : LoopsOk Try.prog ⟨Try.f56.ntmps, 7, [(0, W0)]⟩ (bodyOf Try.f56) := by
  refine loopsOk_of ?_
  have e : loopsIn [(0, W0)] (bodyOf Try.f56) = [(0, .loop (lb 0 Try.f56), W0)] := by kernel_rfl
  simp only [e]
  intro x hx
  simp only [List.mem_cons, List.not_mem_nil, or_false] at hx
  rcases hx with rfl
  · exact lokW0

set_option maxRecDepth 100000 in
theorem r56 (a k : List Nat) : runL Try.prog [(36, F36)] [] .down 7 [(0, W0)] Try.f56 [.agg [.ints .u64 16 a], .agg [.ints .u64 16 k]] [] =
    nd [g16 a, g16 k, decide (nb (1 % 4294967296) = nb 1)] (some (.agg [.ints .u64 16 (nb (pwR (vB 65536 a) (vB 65536 k) 256))], [])) := by kernel_rfl

theorem ok56 : FOk Try.prog 56 F56 := by
  refine fokL (fs := [(36, F36)]) (xs := []) (m := .down) (fuel := 7) (sums := [(0, W0)]) (.cons ok36 .nil) fn56 loops56 ?_
  intro args hin t r h hg
  unfold F56 at h
  simp only at h
  split at h
  · cases h
    obtain ⟨ha, hg⟩ := need1 hg
    obtain ⟨hk, hg⟩ := need1 hg
    cases hg
    rw [r56, ha, hk]
    exact nd_of (by simp only [List.mem_cons, List.not_mem_nil, or_false, forall_eq_or_imp, forall_eq, decide_eq_true_eq, true_and, and_true]) rfl
  · cases h

end Go.Proofs.Yteaoegdmhoepiaa

namespace Go.Proofs.Yteaoegdmhoepiaa
open Go

theorem fn55 : Fn Try.prog 55 Try.f55 := ⟨mixedF, Try.func55, by kernel_rfl, of_decide_eq_true (by kernel_rfl)⟩
theorem fn60 : Fn Try.prog 60 Try.f60 := ⟨mixedF, Try.func60, by kernel_rfl, of_decide_eq_true (by kernel_rfl)⟩
theorem fn61 : Fn Try.prog 61 Try.f61 := ⟨mixedF, Try.func61, by kernel_rfl, of_decide_eq_true (by kernel_rfl)⟩
theorem fn94 : Fn Try.prog 94 Try.f94 := ⟨mixedF, Try.func94, by kernel_rfl, of_decide_eq_true (by kernel_rfl)⟩

/-- The document's power of a number. -/
def pwV (A V : Nat) : Nat := pwR A V 256

theorem pwV_lt {A V : Nat} (hA : A < M256) : pwV A V < M256 := pwR_lt hA 256

theorem pwV_mod {A V : Nat} (hA : A < M256) (hV : V < M256) : pwV A V % P255 = A ^ V % P255 := by
  have := pwR_mod hA hV 256 (Nat.le_refl _)
  rwa [Nat.sub_self, Nat.pow_zero, Nat.div_one] at this

def F55 : FSem := ⟨false, fun args hin => match args, hin with
  | [.agg [.ints .u64 16 a]], [] => some (.need (g16 a) (.leaf (.agg [.ints .u64 16 (nb (pwV (vB 65536 a) (P255 - 2)))], [])))
  | _, _ => none⟩

set_option maxRecDepth 100000 in
theorem r55 (a : List Nat) : runB Try.prog [(54, F54), (36, F36), (79, F79), (56, F56)] [] .nat 7 Try.f55 [.agg [.ints .u64 16 a]] [] =
(nd [g16 a]
 (some (AV.agg [Ch.ints IntKind.u64 16 (nb (pwR (vB 65536 a) (vB 65536 (nb (vB 65536 (nb P255) - vB 65536 (nb (2 % 4294967296))))) 256))], []))) := by kernel_rfl

theorem ok55 : FOk Try.prog 55 F55 := by
  refine fokB (fs := [(54, F54), (36, F36), (79, F79), (56, F56)]) (xs := []) (m := .nat) (fuel := 7) (.cons ok54 (.cons ok36 (.cons ok79 (.cons ok56 .nil)))) fn55 ?_
  intro args hin t r h hg
  unfold F55 at h
  simp only at h
  split at h
  · cases h
    obtain ⟨ha, hg⟩ := need1 hg
    cases hg
    rw [r55, vP, nb_val (show 2 % 4294967296 < M256 by decide), nb_val (show P255 - 2 % 4294967296 < M256 by decide), ha]
    rfl
  · cases h

def F94 : FSem := ⟨false, fun args hin => match args, hin with
  | [.agg [.ints .u64 16 a]], [] => some (.need (decide (a = nb P255)) (.leaf (.agg [.ints .u64 16 (nb (P255 / 2))], [])))
  | _, _ => none⟩

set_option maxRecDepth 100000 in
theorem r94 : runB Try.prog [] [] .down 17 Try.f94 [.agg [.ints .u64 16 (nb P255)]] [] = some (.agg [.ints .u64 16 (nb (P255 / 2))], []) := by kernel_rfl

theorem ok94 : FOk Try.prog 94 F94 := by
  refine fokB (fs := []) (xs := []) (m := .down) (fuel := 17) .nil fn94 ?_
  intro args hin t r h hg
  unfold F94 at h
  simp only at h
  split at h
  · cases h
    obtain ⟨ha, hg⟩ := need1 hg
    cases hg
    cases of_decide_eq_true ha
    exact r94
  · cases h

def sqV (A : Nat) : Bool := decide (A ^ (P255 / 2) % P255 = 0 ∨ A ^ (P255 / 2) % P255 = 1)

def F60 : FSem := ⟨false, fun args hin => match args, hin with
  | [.agg [.ints .u64 16 a]], [] => some (.need (g16 a) (.leaf (.s (.bool (decide (pwV (vB 65536 a) (P255 / 2) % P255 = 0 ∨ pwV (vB 65536 a) (P255 / 2) % P255 = 1))), [])))
  | _, _ => none⟩

set_option maxRecDepth 100000 in
theorem r60 (a : List Nat) : runB Try.prog [(54, F54), (36, F36), (94, F94), (59, F59), (56, F56)] [] .nat 7 Try.f60 [.agg [.ints .u64 16 a]] [] =
(nd [g16 a, g16 (nb (pwR (vB 65536 a) (vB 65536 (nb (P255 / 2))) 256))]
 (cond (decide (nb (vB 65536 (nb (pwR (vB 65536 a) (vB 65536 (nb (P255 / 2))) 256)) % P255) = zero16))
 (some (AV.s (SV.bool true), []))
 (some (AV.s (SV.bool (decide (nb (vB 65536 (nb (pwR (vB 65536 a) (vB 65536 (nb (P255 / 2))) 256)) % P255) = nb (1 % 4294967296)))), [])))) := by kernel_rfl

theorem nb_inj {v w : Nat} (hv : v < M256) (hw : w < M256) (h : nb v = nb w) : v = w := by
  rw [← nb_val hv, ← nb_val hw, h]

theorem modP_lt (v : Nat) : v % P255 < M256 := Nat.lt_trans (Nat.mod_lt _ (by decide)) (by decide)

theorem ok60 : FOk Try.prog 60 F60 := by
  refine fokB (fs := [(54, F54), (36, F36), (94, F94), (59, F59), (56, F56)]) (xs := []) (m := .nat) (fuel := 7) (.cons ok54 (.cons ok36 (.cons ok94 (.cons ok59 (.cons ok56 .nil))))) fn60 ?_
  intro args hin t r h hg
  unfold F60 at h
  simp only at h
  split at h
  · rename_i a
    cases h
    obtain ⟨ha, hg⟩ := need1 hg
    cases hg
    have hp := pwV_lt (V := P255 / 2) (g16_lt ha)
    rw [r60, nb_val (show P255 / 2 < M256 by decide)]
    have e : pwR (vB 65536 a) (P255 / 2) 256 = pwV (vB 65536 a) (P255 / 2) := rfl
    rw [e, nb_val hp]
    have hm := modP_lt (pwV (vB 65536 a) (P255 / 2))
    generalize pwV (vB 65536 a) (P255 / 2) % P255 = w at *
    refine nd_of (by simp only [List.mem_cons, List.not_mem_nil, or_false, forall_eq_or_imp, forall_eq, ha, g16_nb, and_self]) ?_
    by_cases h0 : w = 0
    · subst h0
      refine cond_t (by rw [nb_zero]; simp) ?_
      rw [decide_eq_true (.inl rfl)]
    · refine cond_f (decide_eq_false (nb_ne hm h0)) ?_
      have : decide (nb w = nb (1 % 4294967296)) = decide (w = 0 ∨ w = 1) := decide_eq_decide.2 ⟨fun h => .inr (nb_inj hm (by decide) h), fun h => by
        rcases h with h | h
        · exact absurd h h0
        · rw [h]⟩
      rw [this]
  · cases h

def F61 : FSem := ⟨false, fun args hin => match args, hin with
  | [.agg [.ints .u64 16 x], .agg [.ints .u64 16 u], .agg [.ints .u64 16 v]], [] => some (Tr.needs [g16 x, g16 u, g16 v] (.leaf (.s (.bool (decide (fv (fv (vB 65536 x * vB 65536 x) * vB 65536 v) % P255 = vB 65536 u % P255))), [])))
  | _, _ => none⟩

set_option maxRecDepth 100000 in
theorem r61 (o : Ops) (x u v : List Nat) : runB Try.prog [(37, O37 o), (59, O59 o)] [] .nat 7 Try.f61 [.agg [.ints .u64 16 x], .agg [.ints .u64 16 u], .agg [.ints .u64 16 v]] [] =
(nd [o.g16 x, o.g16 x, o.g16 (o.mulR x x), o.g16 v, o.g16 (o.mulR (o.mulR x x) v), o.g16 u]
 (some (AV.s (SV.bool (decide (o.canR (o.mulR (o.mulR x x) v) = o.canR u))), []))) := by kernel_rfl

theorem ok61 : FOk Try.prog 61 F61 := by
  refine fokB (fs := [(37, O37 ops), (59, O59 ops)]) (xs := []) (m := .nat) (fuel := 7) (.cons oo37 (.cons oo59 .nil)) fn61 ?_
  intro args hin t r h hg
  unfold F61 at h
  simp only at h
  split at h
  · rename_i x u v
    cases h
    obtain ⟨hc, hgt⟩ := Tr.needs_get hg
    cases hgt
    have gx : g16 x = true := hc (g16 x) (by simp)
    have gu : g16 u = true := hc (g16 u) (by simp)
    have gv : g16 v = true := hc (g16 v) (by simp)
    have lx := g16_lt gx
    have lv := g16_lt gv
    have l1 := (fvMul lx lx).1
    have l2 := (fvMul l1 lv).1
    rw [r61]
    simp only [ops_g16, ops_mulR, ops_canR, nb_val l1, nb_val l2]
    refine nd_of (by simp only [List.mem_cons, List.not_mem_nil, or_false, forall_eq_or_imp, forall_eq, gx, gu, gv, g16_nb, and_self]) ?_
    have : decide (nb (fv (fv (vB 65536 x * vB 65536 x) * vB 65536 v) % P255) = nb (vB 65536 u % P255)) = decide (fv (fv (vB 65536 x * vB 65536 x) * vB 65536 v) % P255 = vB 65536 u % P255) :=
      decide_eq_decide.2 ⟨fun h => nb_inj (modP_lt _) (modP_lt _) h, fun h => by rw [h]⟩
    rw [this]
  · cases h

end Go.Proofs.Yteaoegdmhoepiaa

namespace Go.Proofs.Yteaoegdmhoepiaa
open Go

structure Ops2 extends Ops where
  powR : List Nat → List Nat → List Nat
  invR : List Nat → List Nat
  sqR : List Nat → Bool
  isrR : List Nat → List Nat → List Nat → Bool
  rtl : List Nat → List Nat → List Nat
  rtr : List Nat → List Nat → Bool

def ops2 : Ops2 := {
  toOps := ops,
  powR := fun a k => nb (pwR (vB 65536 a) (vB 65536 k) 256),
  invR := fun a => nb (pwV (vB 65536 a) (P255 - 2)),
  sqR := fun a => decide (pwV (vB 65536 a) (P255 / 2) % P255 = 0 ∨ pwV (vB 65536 a) (P255 / 2) % P255 = 1),
  isrR := fun x u v => decide (fv (fv (vB 65536 x * vB 65536 x) * vB 65536 v) % P255 = vB 65536 u % P255),
  rtl := fun u v => (rootF u v).1,
  rtr := fun u v => (rootF u v).2
}

theorem ops2_powR : ops2.powR = (fun a k => nb (pwV (vB 65536 a) (vB 65536 k))) := by kernel_rfl
theorem ops2_invR : ops2.invR = (fun a => nb (pwV (vB 65536 a) (P255 - 2))) := by kernel_rfl
theorem ops2_sqR : ops2.sqR = (fun a => decide (pwV (vB 65536 a) (P255 / 2) % P255 = 0 ∨ pwV (vB 65536 a) (P255 / 2) % P255 = 1)) := by kernel_rfl
theorem ops2_isrR : ops2.isrR = (fun x u v => decide (fv (fv (vB 65536 x * vB 65536 x) * vB 65536 v) % P255 = vB 65536 u % P255)) := by kernel_rfl
theorem ops2_rtl : ops2.rtl = (fun u v => (rootF u v).1) := by kernel_rfl
theorem ops2_rtr : ops2.rtr = (fun u v => (rootF u v).2) := by kernel_rfl
theorem ops2_ops : ops2.toOps = ops := by kernel_rfl

def O55 (o : Ops2) : FSem := ⟨false, fun args hin => match args, hin with
  | [.agg [.ints .u64 16 a]], [] => some (.need (o.g16 a) (.leaf (.agg [.ints .u64 16 (o.invR a)], [])))
  | _, _ => none⟩
theorem oo55 : FOk Try.prog 55 (O55 ops2) := by
  have e : O55 ops2 = F55 := by kernel_rfl
  rw [e]
  exact ok55

def O56 (o : Ops2) : FSem := ⟨false, fun args hin => match args, hin with
  | [.agg [.ints .u64 16 a], .agg [.ints .u64 16 k]], [] => some (.need (o.g16 a) (.need (o.g16 k) (.leaf (.agg [.ints .u64 16 (o.powR a k)], []))))
  | _, _ => none⟩
theorem oo56 : FOk Try.prog 56 (O56 ops2) := by
  have e : O56 ops2 = F56 := by kernel_rfl
  rw [e]
  exact ok56

def O60 (o : Ops2) : FSem := ⟨false, fun args hin => match args, hin with
  | [.agg [.ints .u64 16 a]], [] => some (.need (o.g16 a) (.leaf (.s (.bool (o.sqR a)), [])))
  | _, _ => none⟩
theorem oo60 : FOk Try.prog 60 (O60 ops2) := by
  have e : O60 ops2 = F60 := by kernel_rfl
  rw [e]
  exact ok60

def O61 (o : Ops2) : FSem := ⟨false, fun args hin => match args, hin with
  | [.agg [.ints .u64 16 x], .agg [.ints .u64 16 u], .agg [.ints .u64 16 v]], [] => some (Tr.needs [o.g16 x, o.g16 u, o.g16 v] (.leaf (.s (.bool (o.isrR x u v)), [])))
  | _, _ => none⟩
theorem oo61 : FOk Try.prog 61 (O61 ops2) := by
  have e : O61 ops2 = F61 := by kernel_rfl
  rw [e]
  exact ok61

def envP (o : Ops2) : List (Nat × FSem) := (55, O55 o) :: (56, O56 o) :: (60, O60 o) :: (61, O61 o) :: envO o.toOps

theorem envP_ok : EnvOk ⟨Try.prog, envP ops2, []⟩ := .cons oo55 (.cons oo56 (.cons oo60 (.cons oo61 envO_ok)))

end Go.Proofs.Yteaoegdmhoepiaa

namespace Go.Proofs.Yteaoegdmhoepiaa
open Go

def low (n : List Nat) : List Nat := n.set 31 (n.getD 31 0 % 128)
def two32 : List Nat := [2, 0, 0, 0, 0, 0, 0, 0, 0, 0, 0, 0, 0, 0, 0, 0, 0, 0, 0, 0, 0, 0, 0, 0, 0, 0, 0, 0, 0, 0, 0, 0]

theorem fn10 : Fn Try.prog 10 Try.f10 := ⟨mixedF, Try.func10, by kernel_rfl, of_decide_eq_true (by kernel_rfl)⟩

set_option maxRecDepth 100000 in
theorem r10 (o : Ops2) (a n : List Nat) : runB Try.prog (envP o) [] .nat 7 Try.f10 [.agg [.ints .u8 32 a], .agg [.ints .u8 32 n]] [] =
(nd [o.g32 a, o.l5 (o.of a), o.l5 (o.inv (o.of a)), o.g16 (o.ofR a), o.g16 (o.invR (o.ofR a))]
 (cond (!decide (o.bytes (o.inv (o.of a)) = o.bytesR (o.invR (o.ofR a))))
 (some (AV.s (SV.bool false), []))
 (nd [o.l5 (o.of a), o.l5 (o.pow (o.of a) (low n)), o.g32 (low n), o.g16 (o.ofR a), o.g16 (o.ofR (low n)), o.g16 (o.powR (o.ofR a) (o.ofR (low n)))]
 (cond (!decide (o.bytes (o.pow (o.of a) (low n)) = o.bytesR (o.powR (o.ofR a) (o.ofR (low n)))))
 (some (AV.s (SV.bool false), []))
 (nd [o.l5 (o.of a), o.l5 (o.inv (o.of a)), o.l5 (o.of a)]
 (cond (o.isz (o.of a))
 (nd [o.l5 (o.mul (o.of a) (o.inv (o.of a)))]
 (cond (o.isz (o.mul (o.of a) (o.inv (o.of a))))
 (nd [o.l5 (o.inv (o.of a))]
 (some (AV.s (SV.bool (o.isz (o.inv (o.of a)))), [])))
 (some (AV.s (SV.bool false), []))))
 (nd [o.l5 (o.mul (o.of a) (o.inv (o.of a))), o.l5 [1, 0, 0, 0, 0], o.eq (o.mul (o.of a) (o.inv (o.of a))) [1, 0, 0, 0, 0]]
 (cond (!decide (128 ≤ n.getD 31 0))
 (some (AV.s (SV.bool true), []))
 (nd [o.l5 (o.of a), o.l5 (o.of a), o.l5 (o.of a), o.l5 (o.pow (o.of a) two32), o.l5 (o.mul (o.of a) (o.of a))]
 (some (AV.s (SV.bool (o.eq (o.pow (o.of a) two32) (o.mul (o.of a) (o.of a)))), []))))))))))) := by kernel_rfl

theorem low_ok {n : List Nat} (h : g32 n = true) : g32 (low n) = true ∧ vB 256 (low n) < P2 := by
  obtain ⟨h1, h2⟩ := g32_get h
  have hl : (low n).length = 32 := by rw [low, List.length_set, h1]
  have hg : ∀ i, (low n).getD i 0 = if 31 = i ∧ i < n.length then n.getD 31 0 % 128 else n.getD i 0 := fun i => by rw [low, getD_set]
  have g : g32 (low n) = true := by
    rw [g32, Bool.and_eq_true]
    refine ⟨decide_eq_true hl, allB_of fun i => ?_⟩
    rw [hg]
    split
    · omega
    · exact h2 i
  refine ⟨g, ?_⟩
  have hd := g32_dig g (i := 31) (by decide)
  rw [hg, if_pos ⟨rfl, by omega⟩] at hd
  have hlt := g32_lt g
  generalize vB 256 (low n) = w at *
  have e : w / 256 ^ 31 < 256 := Nat.div_lt_of_lt_mul hlt
  have e2 : w / 256 ^ 31 < 128 := by
    generalize w / 256 ^ 31 = q at *
    omega
  have := Nat.lt_mul_of_div_lt e2 (by decide)
  exact this

theorem two_ok : g32 two32 = true ∧ vB 256 two32 = 2 := ⟨by decide +kernel, by decide +kernel⟩

theorem ctr10 {a n : List Nat} (ha : g32 a = true) (hn : g32 n = true) : Ctr Try.prog 10 [.agg [.ints .u8 32 a], .agg [.ints .u8 32 n]] [] (.s (.bool true)) [] := by
  refine ctrB (fs := envP ops2) (xs := []) (m := .nat) (fuel := 7) envP_ok fn10 ?_
  have ea := ofE ha
  obtain ⟨g1, g2⟩ := low_ok hn
  have lu := P2_lt (vB 256 a)
  have lm := P2_lt (vB 256 (low n))
  rw [r10]
  simp only [ops2_ops, ops2_powR, ops2_invR, ops_mul, ops_of, ops_bytes, ops_isz, ops_eq, ops_pow, ops_inv, ops_l5, ops_g16, ops_g32, ops_bytesR, ops_ofR, nb_val lu, nb_val lm]
  have em : vB 256 (low n) % P2 = vB 256 (low n) := Nat.mod_eq_of_lt g2
  have ep := powE ea g1
  have e2 := powE ea two_ok.1
  rw [two_ok.2] at e2
  rw [em]
  rw [em] at lm
  generalize vB 256 a % P2 = u at *
  generalize vB 256 (low n) = m at *
  generalize hx : ofF a = x at *
  have ei := invE ea
  have ex := mulE ea ei
  have q1 := pwV_lt (V := P255 - 2) lu
  have q2 := pwV_lt (V := m) lu
  have k1 := pwV_mod lu (show P255 - 2 < M256 by decide)
  have k2 := pwV_mod lu lm
  rw [nb_val q1, nb_val q2, bytesE ei, bytesE ep, k1, k2, isZE ea, isZE ex, isZE ei, eqE ex oneE, eqE e2 (mulE ea ea)]
  have hsq : decide (u ^ 2 % P255 = u * u % P255) = true := decide_eq_true (by rw [Nat.pow_two])
  rw [hsq]
  generalize hP : P255 - 2 = t at *
  refine nd_of ?_ (cond_f (by simp) (nd_of ?_ (cond_f (by simp) (nd_of ?_ ?_))))
  · simp only [List.mem_cons, List.not_mem_nil, or_false, forall_eq_or_imp, forall_eq, ha, l5T ea, l5T ei, g16_nb, and_self]
  · simp only [List.mem_cons, List.not_mem_nil, or_false, forall_eq_or_imp, forall_eq, l5T ea, l5T ep, g1, g16_nb, and_self]
  · simp only [List.mem_cons, List.not_mem_nil, or_false, forall_eq_or_imp, forall_eq, l5T ea, l5T ei, and_self]
  by_cases hu : u % P255 = 0
  · have h1 : u * u ^ t % P255 = 0 := by rw [Nat.mul_mod, hu, Nat.zero_mul, Nat.zero_mod]
    have h2 : u ^ t % P255 = 0 := by rw [Nat.pow_mod, hu, Nat.zero_pow (by rw [← hP]; decide), Nat.zero_mod]
    rw [hu, h1, h2]
    refine cond_t rfl (nd_of ?_ (cond_t rfl (nd_of ?_ rfl)))
    · simp only [List.mem_cons, List.not_mem_nil, or_false, forall_eq_or_imp, forall_eq, l5T ex, and_self]
    · simp only [List.mem_cons, List.not_mem_nil, or_false, forall_eq_or_imp, forall_eq, l5T ei, and_self]
  · have h1 : u * u ^ t % P255 = 1 % P255 := by rw [← hP, inv_mul hu]; rfl
    refine cond_f (decide_eq_false hu) (nd_of ?_ ?_)
    · simp only [List.mem_cons, List.not_mem_nil, or_false, forall_eq_or_imp, forall_eq, l5T ex, l5T oneE, h1, decide_true, and_self]
    · cases decide (128 ≤ n.getD 31 0)
      · exact cond_t rfl rfl
      · refine cond_f rfl (nd_of ?_ rfl)
        simp only [List.mem_cons, List.not_mem_nil, or_false, forall_eq_or_imp, forall_eq, l5T ea, l5T e2, l5T (mulE ea ea), and_self]

end Go.Proofs.Yteaoegdmhoepiaa

namespace Go.Proofs.Yteaoegdmhoepiaa
open Go

def cubeO (o : Ops) (v : List Nat) : List Nat := o.pd [v, v, v]
def try1O (o : Ops) (u v : List Nat) : List Nat := o.pd [u, cubeO o v, o.pow (o.pd [u, cubeO o v, cubeO o v, v]) (ones0 253 15)]
def sqrO (o : Ops) (u v : List Nat) : List Nat := o.pd [v, try1O o u v, try1O o u v]
def try2O (o : Ops) (u v : List Nat) : List Nat := o.mul (try1O o u v) (o.pow [2, 0, 0, 0, 0] (ones0 251 31))

set_option maxRecDepth 100000 in
theorem r58 (o : Ops) (u v : List Nat) : runB Try.prog ((77, F77) :: envO o) [] .nat 7 Try.f58 [.agg [.ints .u64 5 u], .agg [.ints .u64 5 v]] [] =
(nd [o.a5 [v, v, v], o.a5 [u, cubeO o v, cubeO o v, v], o.l5 (o.pd [u, cubeO o v, cubeO o v, v]), o.a5 [u, cubeO o v, o.pow (o.pd [u, cubeO o v, cubeO o v, v]) (ones0 253 15)], o.a5 [v, try1O o u v, try1O o u v], o.l5 (sqrO o u v), o.l5 u]
 (cond (o.eq (sqrO o u v) u)
 (nd [o.l5 (try1O o u v)]
 (cond (o.odd (try1O o u v))
 (nd [o.l5 (try1O o u v)]
 (some (AV.tup [AV.agg [Ch.ints IntKind.u64 5 (o.neg (try1O o u v))], AV.s (SV.bool true)], [])))
 (some (AV.tup [AV.agg [Ch.ints IntKind.u64 5 (try1O o u v)], AV.s (SV.bool true)], []))))
 (nd [o.l5 u, o.l5 (sqrO o u v), o.l5 (o.neg u)]
 (cond (o.eq (sqrO o u v) (o.neg u))
 (nd [o.l5 [2, 0, 0, 0, 0], o.l5 (try1O o u v), o.l5 (o.pow [2, 0, 0, 0, 0] (ones0 251 31)), o.l5 (try2O o u v)]
 (cond (o.odd (try2O o u v))
 (nd [o.l5 (try2O o u v)]
 (some (AV.tup [AV.agg [Ch.ints IntKind.u64 5 (o.neg (try2O o u v))], AV.s (SV.bool true)], [])))
 (some (AV.tup [AV.agg [Ch.ints IntKind.u64 5 (try2O o u v)], AV.s (SV.bool true)], []))))
 (some (AV.tup [AV.agg [Ch.ints IntKind.u64 5 [0, 0, 0, 0, 0]], AV.s (SV.bool false)], [])))))) := by kernel_rfl

theorem try1_o (u v : List Nat) : try1O ops u v = try1 u v := by kernel_rfl
theorem sqr_o (u v : List Nat) : sqrO ops u v = sqrF u v := by kernel_rfl
theorem try2_o (u v : List Nat) : try2O ops u v = try2 u v := by kernel_rfl
theorem cube_o (v : List Nat) : cubeO ops v = cubeF v := by kernel_rfl

theorem all5_of {xs : List (List Nat)} (h : ∀ x ∈ xs, x.length = 5) : all5 xs = true := by
  unfold all5
  exact List.all_eq_true.2 fun x hx => decide_eq_true (h x hx)

theorem powF_len (x k : List Nat) : (powF x k).length = 5 := pwN_len x k 256

theorem ok58 : FOk Try.prog 58 F58 := by
  refine fokB (fs := (77, F77) :: envO ops) (xs := []) (m := .nat) (fuel := 7) (.cons ok77 envO_ok) fn58 ?_
  intro args hin t r h hg
  unfold F58 at h
  simp only at h
  split at h
  · rename_i u v
    cases h
    obtain ⟨hu, hg⟩ := need1 hg
    obtain ⟨hv, hg⟩ := need1 hg
    cases hg
    have lu : u.length = 5 := of_decide_eq_true hu
    have lv : v.length = 5 := of_decide_eq_true hv
    have lc : (cubeF v).length = 5 := pdN_len _ _
    have l1 : (try1 u v).length = 5 := pdN_len _ _
    have l2 : (sqrF u v).length = 5 := pdN_len _ _
    have l3 : (try2 u v).length = 5 := rfl
    have l4 : (negF u).length = 5 := rfl
    have l6 : ∀ k, (powF [2, 0, 0, 0, 0] k).length = 5 := fun k => powF_len _ k
    have l7 : ∀ x k, (powF x k).length = 5 := fun x k => powF_len x k
    have l8 : ∀ xs n, (pdN xs n).length = 5 := pdN_len
    rw [r58]
    simp only [try1_o, sqr_o, try2_o, cube_o, ops_l5, ops_a5, ops_pd, ops_pow, ops_eq, ops_odd, ops_neg]
    unfold rootF evenF
    generalize hc1 : eqF (sqrF u v) u = c1
    generalize hc2 : eqF (sqrF u v) (negF u) = c2
    generalize hc3 : oddF (try1 u v) = c3
    generalize hc4 : oddF (try2 u v) = c4
    refine nd_of ?_ ?_
    · intro b hb
      simp only [List.mem_cons, List.not_mem_nil, or_false] at hb
      rcases hb with rfl | rfl | rfl | rfl | rfl | rfl | rfl
      · exact all5_of (by simp only [List.mem_cons, List.not_mem_nil, or_false, forall_eq_or_imp, forall_eq, lv, and_self])
      · exact all5_of (by simp only [List.mem_cons, List.not_mem_nil, or_false, forall_eq_or_imp, forall_eq, lu, lv, lc, and_self])
      · exact decide_eq_true (l8 _ _)
      · exact all5_of (by simp only [List.mem_cons, List.not_mem_nil, or_false, forall_eq_or_imp, forall_eq, lu, lc, l7, and_self])
      · exact all5_of (by simp only [List.mem_cons, List.not_mem_nil, or_false, forall_eq_or_imp, forall_eq, l1, lv, and_self])
      · exact decide_eq_true l2
      · exact hu
    cases c1 with
    | true =>
      refine cond_t rfl (nd_of ?_ ?_)
      · simp only [List.mem_cons, List.not_mem_nil, or_false, forall_eq, l1, decide_true]
      · cases c3 with
        | true =>
          refine cond_t rfl (nd_of ?_ rfl)
          simp only [List.mem_cons, List.not_mem_nil, or_false, forall_eq, l1, decide_true]
        | false => exact cond_f rfl rfl
    | false =>
      refine cond_f rfl (nd_of ?_ ?_)
      · simp only [List.mem_cons, List.not_mem_nil, or_false, forall_eq_or_imp, forall_eq, lu, l2, l4, decide_true, and_self]
      · cases c2 with
        | true =>
          refine cond_t rfl (nd_of ?_ ?_)
          · simp only [List.mem_cons, List.not_mem_nil, or_false, forall_eq_or_imp, forall_eq, l1, l3, l6, decide_true, and_self, List.length_cons, List.length_nil]
          · cases c4 with
            | true =>
              refine cond_t rfl (nd_of ?_ rfl)
              simp only [List.mem_cons, List.not_mem_nil, or_false, forall_eq, l3, decide_true]
            | false => exact cond_f rfl rfl
        | false => exact cond_f rfl rfl
  · cases h

end Go.Proofs.Yteaoegdmhoepiaa

namespace Go.Proofs.Yteaoegdmhoepiaa
open Go

theorem pd3E {x y z : List Nat} {a b d : Nat} (hx : EV x a) (hy : EV y b) (hz : EV z d) : EV (pdN [x, y, z] 3) (a * b * d) := by
  have h := mulE (mulE (mulE oneE hx) hy) hz
  rw [Nat.one_mul] at h
  exact h

theorem pd4E {x y z w : List Nat} {a b d e : Nat} (hx : EV x a) (hy : EV y b) (hz : EV z d) (hw : EV w e) : EV (pdN [x, y, z, w] 4) (a * b * d * e) := by
  have h := mulE (mulE (mulE (mulE oneE hx) hy) hz) hw
  rw [Nat.one_mul] at h
  exact h

namespace Fq
theorem c_neg (v : Nat) : c (ngV v) = -c v := by
  refine (neg_uniq ?_).symm
  rw [← c_add]
  exact c_eq.2 (by rw [ng_add]; rfl)
theorem c_zero {n : Nat} : c n = 0 ↔ n % P255 = 0 := by
  constructor
  · intro h
    have : c n = c 0 := h
    exact c_eq.1 this
  · intro h
    exact c_eq.2 (by rw [h]; rfl)
theorem neg_sq (x b : Fq) : b * (-x) * (-x) = b * x * x := by grind -lia
theorem sq_com (x b : Fq) : x * x * b = b * x * x := by grind -lia
theorem sq_neg2 (i : Fq) (x : Fq) (h : i * i = x) : i * i = x := h
end Fq
open Fq

def em : Nat := vB 256 (ones0 253 15)
def ei : Nat := vB 256 (ones0 251 31)
theorem em_eq : P255 / 2 = (2 * em + 1) * 2 := by decide +kernel
theorem ei_eq : ei + ei = P255 / 2 := by decide +kernel
theorem hh_eq : P255 - 1 = P255 / 2 * 2 := by decide +kernel
theorem g1 : g32 (ones0 253 15) = true := by decide +kernel
theorem g2 : g32 (ones0 251 31) = true := by decide +kernel

def T1 (m a b : Nat) : Nat := a * (b * b * b) * (a * (b * b * b) * (b * b * b) * b) ^ m

theorem try1E {u v : List Nat} {a b : Nat} (hu : EV u a) (hv : EV v b) : EV (try1 u v) (T1 em a b) := by
  have hc : EV (cubeF v) (b * b * b) := pd3E hv hv hv
  exact pd3E hu hc (powE (pd4E hu hc hc hv) g1)

theorem sqrE {u v : List Nat} {a b : Nat} (hu : EV u a) (hv : EV v b) : EV (sqrF u v) (b * T1 em a b * T1 em a b) :=
  pd3E hv (try1E hu hv) (try1E hu hv)

theorem twoE : EV [2, 0, 0, 0, 0] 2 := smallE (by decide)

theorem pow2E {k : List Nat} {n : Nat} (h : g32 k = true) (hn : vB 256 k = n) : EV (powF [2, 0, 0, 0, 0] k) (2 ^ n) := by
  subst hn
  exact powE twoE h

theorem try2E {u v : List Nat} {a b n : Nat} (hn : vB 256 (ones0 251 31) = n) (hu : EV u a) (hv : EV v b) : EV (try2 u v) (T1 em a b * 2 ^ n) :=
  mulE (try1E hu hv) (pow2E g2 hn)

theorem ei_ex : ∃ n, vB 256 (ones0 251 31) = n ∧ n + n = P255 / 2 := ⟨ei, rfl, ei_eq⟩

theorem c_T1 (m a b : Nat) : c (T1 m a b) = c a * (c b * c b * c b) * fpow (c a * (c b * c b * c b) * (c b * c b * c b) * c b) m := by
  unfold T1
  rw [c_mul, c_mul, c_mul, c_mul, c_pow, c_mul, c_mul, c_mul, c_mul, c_mul]

/-- An even one of the two. -/
theorem evenE {x : List Nat} {a : Nat} (hx : EV x a) : ∃ w, EV (evenF x) w ∧ w % P255 % 2 = 0 ∧ ∀ B : Fq, B * c w * c w = B * c a * c a := by
  unfold evenF
  rw [oddE hx]
  by_cases h : a % P255 % 2 = 1
  · rw [decide_eq_true h]
    refine ⟨ngV a, negE hx, ?_, fun B => by rw [c_neg, neg_sq]⟩
    rw [ng_mod a (by omega)]
    have h1 := mod_lt' a
    have hP : P255 % 2 = 1 := by decide
    generalize P255 = p at *
    omega
  · rw [decide_eq_false h]
    exact ⟨a, hx, by omega, fun B => rfl⟩

theorem eqEc {x y : List Nat} {v w : Nat} (hx : EV x v) (hy : EV y w) : eqF x y = decide (c v = c w) := by
  rw [eqE hx hy]
  exact decide_eq_decide.2 c_eq.symm

theorem i_sq {n : Nat} (h : n + n = P255 / 2) : c (2 ^ n) * c (2 ^ n) = -1 := by
  rw [c_pow, ← pow_add]
  exact two_half h

theorem rootE {u v : List Nat} {a b : Nat} (hu : EV u a) (hv : EV v b) (hb : c b ≠ 0) :
    ((rootF u v).2 = true → (fpow (c a * (c b)⁻¹) (P255 / 2) = 0 ∨ fpow (c a * (c b)⁻¹) (P255 / 2) = 1) ∧ ∃ w, EV (rootF u v).1 w ∧ w % P255 % 2 = 0 ∧ c b * c w * c w = c a) ∧
    ((rootF u v).2 = false → ¬ (fpow (c a * (c b)⁻¹) (P255 / 2) = 0 ∨ fpow (c a * (c b)⁻¹) (P255 / 2) = 1) ∧ (rootF u v).1 = z5) := by
  have e1 := try1E hu hv
  have e2 := sqrE hu hv
  obtain ⟨n, hn, hnn⟩ := ei_ex
  have e3 := try2E hn hu hv
  obtain ⟨w1, f1, p1, q1⟩ := evenE e1
  obtain ⟨w2, f2, p2, q2⟩ := evenE e3
  unfold rootF
  rw [eqEc e2 hu, eqEc e2 (negE hu), c_neg]
  have hT := c_T1 em a b
  have hi := i_sq hnn
  have q2' := q2 (c b)
  have q1' := q1 (c b)
  rw [c_mul (T1 em a b)] at q2'
  rw [c_mul, c_mul]
  clear q1 q2 e1 e2 e3
  generalize c (T1 em a b) = T at *
  clear hn hnn
  generalize c (2 ^ n) = i at *
  have hpos : 0 < P255 / 2 := by decide
  have hh := hh_eq
  have hm := em_eq
  generalize P255 / 2 = h at *
  by_cases ha : c a = 0
  · have hT0 : T = 0 := by rw [hT, ha]; grind -lia
    have h0 : c b * T * T = c a := by rw [hT0, ha]; grind -lia
    rw [decide_eq_true h0]
    refine ⟨fun _ => ⟨.inl ?_, w1, f1, p1, ?_⟩, fun hx => by cases hx⟩
    · rw [ha, zero_mul, zero_pow hpos]
    · rw [q1', h0]
  · rcases root_alg hm hh ha hb hT hi with ⟨k1, k2⟩ | ⟨k1, k2, k3⟩
    · rcases k2 with k2 | ⟨k2, k3, k4⟩
      · rw [decide_eq_true k2]
        exact ⟨fun _ => ⟨.inr k1, w1, f1, p1, by rw [q1', k2]⟩, fun hx => by cases hx⟩
      · rw [decide_eq_false k3, decide_eq_true k2]
        exact ⟨fun _ => ⟨.inr k1, w2, f2, p2, by rw [q2', k4]⟩, fun hx => by cases hx⟩
    · rw [decide_eq_false k2, decide_eq_false k3]
      refine ⟨fun hx => (by cases hx), fun _ => ⟨fun hx => ?_, rfl⟩⟩
      rw [k1] at hx
      rcases hx with hx | hx
      · exact zero_ne_one (by rw [← neg_neg (1 : Fq), hx]; exact (neg_uniq (add_zero 0)).symm)
      · exact two_ne hx.symm

theorem rootZ {u v : List Nat} {a b : Nat} (hu : EV u a) (hv : EV v b) (hb : c b = 0) :
    (rootF u v).2 = decide (a % P255 = 0) ∧ ∃ w, EV (rootF u v).1 w ∧ w % P255 = 0 := by
  have e1 := try1E hu hv
  have e2 := sqrE hu hv
  have hT : c (T1 em a b) = 0 := by
    rw [c_T1, hb]
    generalize fpow (c a * (0 * 0 * 0) * (0 * 0 * 0) * 0) em = z
    grind -lia
  have hs : c (b * T1 em a b * T1 em a b) = 0 := by
    rw [c_mul, c_mul, hT]
    grind -lia
  unfold rootF
  rw [eqEc e2 hu, eqEc e2 (negE hu), c_neg, hs]
  have hT := c_zero.1 hT
  by_cases ha : c a = 0
  · have ha' := c_zero.1 ha
    rw [ha', ha]
    refine ⟨rfl, T1 em a b, ?_, hT⟩
    have : evenF (try1 u v) = try1 u v := by
      unfold evenF
      rw [oddE e1, hT]
      rfl
    show EV (evenF (try1 u v)) _
    rw [this]
    exact e1
  · have ha' : ¬ a % P255 = 0 := fun h => ha (c_zero.2 h)
    have h1 : ¬ ((0 : Fq) = c a) := fun h => ha h.symm
    have h2 : ¬ ((0 : Fq) = -c a) := fun h => ha (by
      rw [← neg_neg (c a), ← h]
      exact neg_uniq (add_zero 0))
    rw [decide_eq_false h1, decide_eq_false h2, decide_eq_false ha']
    exact ⟨rfl, 0, zE, rfl⟩

end Go.Proofs.Yteaoegdmhoepiaa

namespace Go.Proofs.Yteaoegdmhoepiaa
open Go
open Fq (c c_eq c_zero c_mul c_inv)

def O58 (o : Ops2) : FSem := ⟨false, fun args hin => match args, hin with
  | [.agg [.ints .u64 5 u], .agg [.ints .u64 5 v]], [] => some (.need (o.l5 u) (.need (o.l5 v) (.leaf (.tup [.agg [.ints .u64 5 (o.rtl u v)], .s (.bool (o.rtr u v))], []))))
  | _, _ => none⟩
theorem oo58 : FOk Try.prog 58 (O58 ops2) := by
  have e : O58 ops2 = F58 := by
    unfold O58 F58
    simp only [ops2_ops, ops2_rtl, ops2_rtr, ops_l5]
    rfl
  rw [e]
  exact ok58

theorem fn12 : Fn Try.prog 12 Try.f12 := ⟨mixedF, Try.func12, by kernel_rfl, of_decide_eq_true (by kernel_rfl)⟩

set_option maxRecDepth 100000 in
theorem r12 (o : Ops2) (a b : List Nat) : runB Try.prog ((58, O58 o) :: envP o) [] .nat 7 Try.f12 [.agg [.ints .u8 32 a], .agg [.ints .u8 32 b]] [] =
(nd [o.g32 a, o.g32 b, o.l5 (o.of a), o.l5 (o.of b), o.g16 (o.ofR b)]
 (cond (decide (o.canR (o.ofR b) = zero16))
 (nd [o.g16 (o.ofR a)]
 (cond (o.rtr (o.of a) (o.of b) == decide (o.canR (o.ofR a) = zero16))
 (nd [o.l5 (o.rtl (o.of a) (o.of b))]
 (some (AV.s (SV.bool (o.isz (o.rtl (o.of a) (o.of b)))), [])))
 (some (AV.s (SV.bool false), []))))
 (nd [o.g16 (o.ofR b), o.g16 (o.ofR a), o.g16 (o.invR (o.ofR b)), o.g16 (o.mulR (o.ofR a) (o.invR (o.ofR b)))]
 (cond (!(o.rtr (o.of a) (o.of b) == o.sqR (o.mulR (o.ofR a) (o.invR (o.ofR b)))))
 (some (AV.s (SV.bool false), []))
 (cond (!o.rtr (o.of a) (o.of b))
 (nd [o.l5 (o.rtl (o.of a) (o.of b))]
 (some (AV.s (SV.bool (o.isz (o.rtl (o.of a) (o.of b)))), [])))
 (nd [o.l5 (o.rtl (o.of a) (o.of b))]
 (cond (!o.odd (o.rtl (o.of a) (o.of b)))
 (nd [o.l5 (o.rtl (o.of a) (o.of b)), o.g32 (o.bytes (o.rtl (o.of a) (o.of b))), o.g16 (o.ofR (o.bytes (o.rtl (o.of a) (o.of b)))), o.g16 (o.ofR a), o.g16 (o.ofR b)]
 (some (AV.s (SV.bool (o.isrR (o.ofR (o.bytes (o.rtl (o.of a) (o.of b)))) (o.ofR a) (o.ofR b))), [])))
 (some (AV.s (SV.bool false), []))))))))) := by kernel_rfl

theorem nbz {w : Nat} (hw : w < M256) : decide (nb w = zero16) = decide (w = 0) :=
  decide_eq_decide.2 ⟨fun h => Classical.byContradiction fun h0 => nb_ne hw h0 h, fun h => by rw [h, nb_zero]⟩

theorem ctr12 {a b : List Nat} (ha : g32 a = true) (hb : g32 b = true) : Ctr Try.prog 12 [.agg [.ints .u8 32 a], .agg [.ints .u8 32 b]] [] (.s (.bool true)) [] := by
  refine ctrB (fs := (58, O58 ops2) :: envP ops2) (xs := []) (m := .nat) (fuel := 7) (.cons oo58 envP_ok) fn12 ?_
  have ea := ofE ha
  have eb := ofE hb
  have lu := P2_lt (vB 256 a)
  have lv := P2_lt (vB 256 b)
  rw [r12]
  simp only [ops2_ops, ops2_invR, ops2_sqR, ops2_isrR, ops2_rtl, ops2_rtr, ops_of, ops_bytes, ops_isz, ops_odd, ops_l5, ops_g16, ops_g32, ops_mulR, ops_canR, ops_ofR, nb_val lu, nb_val lv]
  generalize vB 256 a % P2 = u at *
  generalize vB 256 b % P2 = v at *
  generalize ofF a = x at *
  generalize ofF b = y at *
  have ea : EV x u := ea
  have eb : EV y v := eb
  have lu : u < M256 := lu
  have lv : v < M256 := lv
  rw [nbz (modP_lt v), nbz (modP_lt u)]
  refine nd_of ?_ ?_
  · simp only [List.mem_cons, List.not_mem_nil, or_false, forall_eq_or_imp, forall_eq, ha, hb, l5T ea, l5T eb, g16_nb, and_self]
  by_cases hv : v % P255 = 0
  · obtain ⟨h1, w, h2, h3⟩ := rootZ ea eb (c_zero.2 hv)
    refine cond_t (decide_eq_true hv) (nd_of ?_ (cond_t ?_ (nd_of ?_ ?_)))
    · simp only [List.mem_cons, List.not_mem_nil, or_false, forall_eq, g16_nb]
    · rw [h1]
      exact beq_self_eq_true _
    · simp only [List.mem_cons, List.not_mem_nil, or_false, forall_eq, l5T h2]
    · rw [isZE h2, decide_eq_true h3]
  · have hc : c v ≠ 0 := fun h => hv (c_zero.1 h)
    obtain ⟨k1, k2⟩ := rootE ea eb hc
    have q1 := pwV_lt (V := P255 - 2) lv
    have m1 := pwV_mod lv (show P255 - 2 < M256 by decide)
    obtain ⟨l1, m2⟩ := fvMul lu q1
    have q2 := pwV_lt (V := P255 / 2) l1
    have m3 := pwV_mod l1 (show P255 / 2 < M256 by decide)
    rw [nb_val q1, nb_val l1, m3]
    have e1 : c (fv (u * pwV v (P255 - 2))) = c u * (c v)⁻¹ := by
      rw [← c_inv, ← c_mul]
      refine c_eq.2 (m2.trans ?_)
      rw [Nat.mul_mod, m1, ← Nat.mul_mod]
    have hsq : decide (fv (u * pwV v (P255 - 2)) ^ (P255 / 2) % P255 = 0 ∨ fv (u * pwV v (P255 - 2)) ^ (P255 / 2) % P255 = 1) = decide (Fq.fpow (c u * (c v)⁻¹) (P255 / 2) = 0 ∨ Fq.fpow (c u * (c v)⁻¹) (P255 / 2) = 1) := by
      rw [← e1, ← Fq.c_pow]
      refine decide_eq_decide.2 ⟨fun h => ?_, fun h => ?_⟩
      · rcases h with h | h
        · exact .inl (c_zero.2 h)
        · exact .inr (c_eq.2 (h.trans (Nat.mod_eq_of_lt (by decide)).symm))
      · rcases h with h | h
        · exact .inl (c_zero.1 h)
        · have h : c _ = c 1 := h
          exact .inr ((c_eq.1 h).trans (Nat.mod_eq_of_lt (by decide)))
    rw [hsq]
    clear hsq e1 m3 m2 m1
    generalize hR : rootF x y = R at *
    obtain ⟨rl, rr⟩ := R
    refine cond_f (decide_eq_false hv) (nd_of ?_ ?_)
    · simp only [List.mem_cons, List.not_mem_nil, or_false, forall_eq_or_imp, forall_eq, g16_nb, and_self]
    cases rr with
    | false =>
      obtain ⟨n1, n2⟩ := k2 rfl
      have n2 : rl = z5 := n2
      subst n2
      refine cond_f ?_ (cond_t rfl (nd_of ?_ ?_))
      · rw [decide_eq_false n1]; rfl
      · simp only [List.mem_cons, List.not_mem_nil, or_false, forall_eq, l5T zE]
      · rw [isZE zE]
        rfl
    | true =>
      obtain ⟨n1, w, n2, n3, n4⟩ := k1 rfl
      have n2 : EV rl w := n2
      have lw : w % P255 < P2 := Nat.lt_trans (mod_lt' w) (by decide)
      have lw2 := modP_lt w
      obtain ⟨l3, m4⟩ := fvMul lw2 lw2
      obtain ⟨l4, m5⟩ := fvMul l3 lv
      have hby : vB 256 (dB 256 32 (w % P255)) % P2 = w % P255 := vB_bytes (mod_lt' w)
      have hby' : vB 256 (dB 256 32 (w % P255)) % 57896044618658097711785492504343953926634992332820282019728792003956564819968 = w % P255 := hby
      refine cond_f ?_ (cond_f rfl (nd_of ?_ (cond_t ?_ (nd_of ?_ ?_))))
      · rw [decide_eq_true n1]; rfl
      · simp only [List.mem_cons, List.not_mem_nil, or_false, forall_eq, l5T n2]
      · rw [oddE n2, n3]; rfl
      · simp only [List.mem_cons, List.not_mem_nil, or_false, forall_eq_or_imp, forall_eq, l5T n2, g16_nb, bytesE n2, dB_g32, and_self]
      · show some (AV.s (SV.bool (decide (fv (fv (vB 65536 (nb (vB 256 (bytesF rl) % 57896044618658097711785492504343953926634992332820282019728792003956564819968)) * vB 65536 (nb (vB 256 (bytesF rl) % 57896044618658097711785492504343953926634992332820282019728792003956564819968))) * v) % P255 = u % P255))), []) = _
        rw [bytesE n2, hby', nb_val lw2]
        have : fv (fv (w % P255 * (w % P255)) * v) % P255 = u % P255 := by
          rw [m5, Nat.mul_mod, m4, ← Nat.mul_mod]
          refine c_eq.1 ?_
          rw [c_mul, c_mul, Fq.c_mod, ← n4]
          exact Fq.sq_com _ _
        rw [decide_eq_true this]

end Go.Proofs.Yteaoegdmhoepiaa

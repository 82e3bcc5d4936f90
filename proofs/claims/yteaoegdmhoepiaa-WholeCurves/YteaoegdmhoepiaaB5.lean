/-
  Part 5 of what the last text stands on: Roots in the field: Euler's rule.
-/
import Derived.Test.YteaoegdmhoepiaaB4

set_option linter.unusedSimpArgs false
set_option linter.unusedVariables false

namespace Go.Proofs.Yteaoegdmhoepiaa
open Go
namespace Fq

theorem pow_add (a : Fq) (m n : Nat) : fpow a (m + n) = fpow a m * fpow a n := by
  rw [pow_d, pow_d, pow_d, Nat.pow_add, c_mul]
theorem pow_mul (a : Fq) (m n : Nat) : fpow a (m * n) = fpow (fpow a m) n := by
  rw [pow_d a, pow_d a, Nat.pow_mul, c_pow]
theorem mul_pow (a b : Fq) (n : Nat) : fpow (a * b) n = fpow a n * fpow b n := by
  rw [mul_d, ← c_pow, Nat.mul_pow, c_mul, pow_d, pow_d]
theorem one_pow (n : Nat) : fpow (1 : Fq) n = 1 := by
  show fpow (c 1) n = c 1
  rw [← c_pow, Nat.one_pow]
theorem zero_pow {n : Nat} (h : 0 < n) : fpow (0 : Fq) n = 0 := by
  show fpow (c 0) n = c 0
  rw [← c_pow, Nat.zero_pow h]
theorem c_inv (n : Nat) : c (n ^ (P255 - 2)) = (c n)⁻¹ := by
  rw [inv_d, c_pow, c_pow, c_self]

theorem fermat {a : Fq} (h : a ≠ 0) : fpow a (P255 - 1) = 1 := by
  rw [pow_d]
  exact c_eq.2 (by rw [gen_p255.fermat (ne_zero h), Nat.mod_eq_of_lt (by decide)])

theorem mul_ne {a b : Fq} (ha : a ≠ 0) (hb : b ≠ 0) : a * b ≠ 0 := fun h => by
  have := mul_inv ha
  grind -lia

theorem sq_one {q : Fq} (h : q * q = 1) : q = 1 ∨ q = -1 := by
  by_cases h1 : q - 1 = 0
  · left; grind -lia
  · by_cases h2 : q + 1 = 0
    · right; grind -lia
    · exact absurd (show (q - 1) * (q + 1) = 0 by grind -lia) (mul_ne h1 h2)

theorem two_ne : (1 : Fq) ≠ -1 := fun h => by
  have h : c 1 = c (P255 - (1 : Fq).v) := h.trans (neg_d 1)
  rw [show (1 : Fq).v = 1 % P255 from c_v 1] at h
  have := c_eq.1 h
  exact absurd this (by decide)

/-- The half power is 1 or -1. -/
theorem half_pow {h : Nat} (hh : P255 - 1 = h * 2) {a : Fq} (ha : a ≠ 0) : fpow a h = 1 ∨ fpow a h = -1 := by
  refine sq_one ?_
  have := fermat ha
  rw [hh, pow_mul] at this
  rw [← this, pow_2]

theorem two_half {h : Nat} (hh : h = P255 / 2) : fpow (2 : Fq) h = -1 := by
  show fpow (c 2) h = -c 1
  rw [← c_pow]
  refine c_eq.2 ?_
  rw [hh, ← pm_eq 255 2 (P255 / 2) P255 (by decide)]
  kernel_rfl

theorem eq_of_sub {a b : Fq} (h : a - b = 0) : b = a := by grind -lia
theorem of_add {a b : Fq} (h : a + b = 0) : b = -a := by grind -lia
theorem twice0 {x : Fq} (h : x = -x) : (1 + 1) * x = 0 := by grind -lia
theorem aux1 {a q : Fq} (h : a * q = a) : a * (q - 1) = 0 := by grind -lia
theorem aux2 {a q : Fq} (h : a * q = -a) : a * (q + 1) = 0 := by grind -lia
theorem aux3 {q : Fq} (h : q - 1 = 0) : q = 1 := by grind -lia
theorem aux4 {q : Fq} (h : q + 1 = 0) : q = -1 := by grind -lia
theorem aux5 {x : Fq} (h : x = 1 * 1) (e : x = -1) : (1 : Fq) = -1 := by grind -lia
theorem aux6 {x : Fq} (h : x = -1 * -1) (e : x = -1) : (1 : Fq) = -1 := by grind -lia

/-- What the code reckons: T, and what it is the root of. -/
theorem root_alg {m h : Nat} (hm : h = (2 * m + 1) * 2) (hh : P255 - 1 = h * 2) {a b : Fq} (ha : a ≠ 0) (hb : b ≠ 0) {T i : Fq} (hT : T = a * (b * b * b) * fpow (a * (b * b * b) * (b * b * b) * b) m) (hi : i * i = -1) :
    (fpow (a * b⁻¹) h = 1 ∧ (b * T * T = a ∨ (b * T * T = -a ∧ b * T * T ≠ a ∧ b * (T * i) * (T * i) = a))) ∨ (fpow (a * b⁻¹) h = -1 ∧ b * T * T ≠ a ∧ b * T * T ≠ -a) := by
  generalize hw : a * (b * b * b) * (b * b * b) * b = w at hT
  have hw0 : w ≠ 0 := by
    have h1 := mul_ne hb hb
    have h2 := mul_ne h1 hb
    rw [← hw]
    exact mul_ne (mul_ne (mul_ne ha h2) h2) hb
  have hs : b * T * T = a * fpow w (2 * m + 1) := by
    rw [show 2 * m + 1 = m + m + 1 by omega, pow_add, pow_add, hT, ← hw]
    generalize fpow (a * (b * b * b) * (b * b * b) * b) m = z
    have e := pow_1 (a * (b * b * b) * (b * b * b) * b)
    rw [e]
    grind -lia
  have hq : fpow w h = fpow w (2 * m + 1) * fpow w (2 * m + 1) := by rw [hm, show (2 * m + 1) * 2 = (2 * m + 1) + (2 * m + 1) by omega, pow_add]
  have hwh : fpow w h = fpow a h * fpow b h := by
    have hb2 := half_pow hh hb
    rw [← hw, mul_pow, mul_pow, mul_pow, mul_pow, mul_pow]
    rcases hb2 with e | e <;> rw [e] <;> grind -lia
  have hinv : fpow (a * b⁻¹) h = fpow a h * fpow b h := by
    rw [mul_pow]
    have h1 := mul_inv hb
    have h2 : fpow b h * fpow (b⁻¹) h = 1 := by rw [← mul_pow, h1, one_pow]
    rcases half_pow hh hb with e | e <;> rw [e] at h2 ⊢ <;> grind -lia
  have t1 := two_ne
  rw [hinv, ← hwh]
  generalize hQ : fpow w (2 * m + 1) = q at *
  have h2a : ∀ x : Fq, x = -x → x = 0 := fun x hx => by
    have h2 : (1 : Fq) + 1 ≠ 0 := fun e => t1 (neg_uniq e).symm
    by_cases hx0 : x = 0
    · exact hx0
    · exact absurd (twice0 hx) (mul_ne h2 hx0)
  rcases half_pow hh hw0 with e | e
  · left
    refine ⟨e, ?_⟩
    rcases sq_one (q := q) (by rw [← hq, e]) with e1 | e1
    · left; rw [hs, e1]; grind -lia
    · right
      have e2 : b * T * T = -a := by rw [hs, e1]; grind -lia
      refine ⟨e2, fun e3 => ha (h2a a (by rw [← e2]; exact e3.symm)), ?_⟩
      have : b * (T * i) * (T * i) = b * T * T * (i * i) := by grind -lia
      rw [this, e2, hi]
      grind -lia
  · right
    refine ⟨e, fun e3 => ?_, fun e3 => ?_⟩
    · rw [hs] at e3
      exact mul_ne ha (fun h0 => t1 (aux5 (by rw [hq, aux3 h0]) e)) (aux1 e3)
    · rw [hs] at e3
      exact mul_ne ha (fun h0 => t1 (aux6 (by rw [hq, aux4 h0]) e)) (aux2 e3)

end Fq
end Go.Proofs.Yteaoegdmhoepiaa

namespace Go.Proofs.Yteaoegdmhoepiaa
open Go

def low (n : List Nat) : List Nat := n.set 31 (n.getD 31 0 % 128)
def two32 : List Nat := [2, 0, 0, 0, 0, 0, 0, 0, 0, 0, 0, 0, 0, 0, 0, 0, 0, 0, 0, 0, 0, 0, 0, 0, 0, 0, 0, 0, 0, 0, 0, 0]

theorem fn10 : Fn Try.prog 10 Try.f10 := ⟨mixedF, Try.func10, by kernel_rfl, of_decide_eq_true (by kernel_rfl)⟩

set_option maxRecDepth 100000 in
theorem r10 (o : Ops2) (a n : List Nat) : runB Try.prog (envP o) [] .nat 7 Try.f10 [.agg [.ints .u8 32 a], .agg [.ints .u8 32 n]] [] =
(nd [o.g32 a, o.l5 (o.of a), o.l5 (o.inv (o.of a)), o.g16 (o.ofR a), o.g16 (o.invR (o.ofR a))]
 (cond (!decide (o.bytes (o.inv (o.of a)) = o.bytesR (o.invR (o.ofR a))))
 (some (AV.s (SV.bool false), []))
 (nd [o.l5 (o.of a), o.l5 (o.pow (o.of a) (low n)), o.g32 (low n), o.g16 (o.ofR a), o.g16 (o.ofR (low n)), o.g16 (o.powR (o.ofR a) (o.ofR (low n)))]
 (cond (!decide (o.bytes (o.pow (o.of a) (low n)) = o.bytesR (o.powR (o.ofR a) (o.ofR (low n)))))
 (some (AV.s (SV.bool false), []))
 (nd [o.l5 (o.of a), o.l5 (o.inv (o.of a)), o.l5 (o.of a)]
 (cond (o.isz (o.of a))
 (nd [o.l5 (o.mul (o.of a) (o.inv (o.of a)))]
 (cond (o.isz (o.mul (o.of a) (o.inv (o.of a))))
 (nd [o.l5 (o.inv (o.of a))]
 (some (AV.s (SV.bool (o.isz (o.inv (o.of a)))), [])))
 (some (AV.s (SV.bool false), []))))
 (nd [o.l5 (o.mul (o.of a) (o.inv (o.of a))), o.l5 [1, 0, 0, 0, 0], o.eq (o.mul (o.of a) (o.inv (o.of a))) [1, 0, 0, 0, 0]]
 (cond (!decide (128 ≤ n.getD 31 0))
 (some (AV.s (SV.bool true), []))
 (nd [o.l5 (o.of a), o.l5 (o.of a), o.l5 (o.of a), o.l5 (o.pow (o.of a) two32), o.l5 (o.mul (o.of a) (o.of a))]
 (some (AV.s (SV.bool (o.eq (o.pow (o.of a) two32) (o.mul (o.of a) (o.of a)))), []))))))))))) := by kernel_rfl

theorem low_ok {n : List Nat} (h : g32 n = true) : g32 (low n) = true ∧ vB 256 (low n) < P2 := by
  obtain ⟨h1, h2⟩ := g32_get h
  have hl : (low n).length = 32 := by rw [low, List.length_set, h1]
  have hg : ∀ i, (low n).getD i 0 = if 31 = i ∧ i < n.length then n.getD 31 0 % 128 else n.getD i 0 := fun i => by rw [low, getD_set]
  have g : g32 (low n) = true := by
    rw [g32, Bool.and_eq_true]
    refine ⟨decide_eq_true hl, allB_of fun i => ?_⟩
    rw [hg]
    split
    · omega
    · exact h2 i
  refine ⟨g, ?_⟩
  have hd := g32_dig g (i := 31) (by decide)
  rw [hg, if_pos ⟨rfl, by omega⟩] at hd
  have hlt := g32_lt g
  generalize vB 256 (low n) = w at *
  have e : w / 256 ^ 31 < 256 := Nat.div_lt_of_lt_mul hlt
  have e2 : w / 256 ^ 31 < 128 := by
    generalize w / 256 ^ 31 = q at *
    omega
  have := Nat.lt_mul_of_div_lt e2 (by decide)
  exact this

theorem two_ok : g32 two32 = true ∧ vB 256 two32 = 2 := ⟨by decide +kernel, by decide +kernel⟩

theorem ctr10 {a n : List Nat} (ha : g32 a = true) (hn : g32 n = true) : Ctr Try.prog 10 [.agg [.ints .u8 32 a], .agg [.ints .u8 32 n]] [] (.s (.bool true)) [] := by
  refine ctrB (fs := envP ops2) (xs := []) (m := .nat) (fuel := 7) envP_ok fn10 ?_
  have ea := ofE ha
  obtain ⟨g1, g2⟩ := low_ok hn
  have lu := P2_lt (vB 256 a)
  have lm := P2_lt (vB 256 (low n))
  rw [r10]
  simp only [ops2_ops, ops2_powR, ops2_invR, ops_mul, ops_of, ops_bytes, ops_isz, ops_eq, ops_pow, ops_inv, ops_l5, ops_g16, ops_g32, ops_bytesR, ops_ofR, nb_val lu, nb_val lm]
  have em : vB 256 (low n) % P2 = vB 256 (low n) := Nat.mod_eq_of_lt g2
  have ep := powE ea g1
  have e2 := powE ea two_ok.1
  rw [two_ok.2] at e2
  rw [em]
  rw [em] at lm
  generalize vB 256 a % P2 = u at *
  generalize vB 256 (low n) = m at *
  generalize hx : ofF a = x at *
  have ei := invE ea
  have ex := mulE ea ei
  have q1 := pwV_lt (V := P255 - 2) lu
  have q2 := pwV_lt (V := m) lu
  have k1 := pwV_mod lu (show P255 - 2 < M256 by decide)
  have k2 := pwV_mod lu lm
  rw [nb_val q1, nb_val q2, bytesE ei, bytesE ep, k1, k2, isZE ea, isZE ex, isZE ei, eqE ex oneE, eqE e2 (mulE ea ea)]
  have hsq : decide (u ^ 2 % P255 = u * u % P255) = true := decide_eq_true (by rw [Nat.pow_two])
  rw [hsq]
  generalize hP : P255 - 2 = t at *
  refine nd_of ?_ (cond_f (by simp) (nd_of ?_ (cond_f (by simp) (nd_of ?_ ?_))))
  · simp only [List.mem_cons, List.not_mem_nil, or_false, forall_eq_or_imp, forall_eq, ha, l5T ea, l5T ei, g16_nb, and_self]
  · simp only [List.mem_cons, List.not_mem_nil, or_false, forall_eq_or_imp, forall_eq, l5T ea, l5T ep, g1, g16_nb, and_self]
  · simp only [List.mem_cons, List.not_mem_nil, or_false, forall_eq_or_imp, forall_eq, l5T ea, l5T ei, and_self]
  by_cases hu : u % P255 = 0
  · have h1 : u * u ^ t % P255 = 0 := by rw [Nat.mul_mod, hu, Nat.zero_mul, Nat.zero_mod]
    have h2 : u ^ t % P255 = 0 := by rw [Nat.pow_mod, hu, Nat.zero_pow (by rw [← hP]; decide), Nat.zero_mod]
    rw [hu, h1, h2]
    refine cond_t rfl (nd_of ?_ (cond_t rfl (nd_of ?_ rfl)))
    · simp only [List.mem_cons, List.not_mem_nil, or_false, forall_eq_or_imp, forall_eq, l5T ex, and_self]
    · simp only [List.mem_cons, List.not_mem_nil, or_false, forall_eq_or_imp, forall_eq, l5T ei, and_self]
  · have h1 : u * u ^ t % P255 = 1 % P255 := by rw [← hP, inv_mul hu]; rfl
    refine cond_f (decide_eq_false hu) (nd_of ?_ ?_)
    · simp only [List.mem_cons, List.not_mem_nil, or_false, forall_eq_or_imp, forall_eq, l5T ex, l5T oneE, h1, decide_true, and_self]
    · cases decide (128 ≤ n.getD 31 0)
      · exact cond_t rfl rfl
      · refine cond_f rfl (nd_of ?_ rfl)
        simp only [List.mem_cons, List.not_mem_nil, or_false, forall_eq_or_imp, forall_eq, l5T ea, l5T e2, l5T (mulE ea ea), and_self]

end Go.Proofs.Yteaoegdmhoepiaa

namespace Go.Proofs.Yteaoegdmhoepiaa
open Go

def cubeO (o : Ops) (v : List Nat) : List Nat := o.pd [v, v, v]
def try1O (o : Ops) (u v : List Nat) : List Nat := o.pd [u, cubeO o v, o.pow (o.pd [u, cubeO o v, cubeO o v, v]) (ones0 253 15)]
def sqrO (o : Ops) (u v : List Nat) : List Nat := o.pd [v, try1O o u v, try1O o u v]
def try2O (o : Ops) (u v : List Nat) : List Nat := o.mul (try1O o u v) (o.pow [2, 0, 0, 0, 0] (ones0 251 31))

set_option maxRecDepth 100000 in
theorem r58 (o : Ops) (u v : List Nat) : runB Try.prog ((77, F77) :: envO o) [] .nat 7 Try.f58 [.agg [.ints .u64 5 u], .agg [.ints .u64 5 v]] [] =
(nd [o.a5 [v, v, v], o.a5 [u, cubeO o v, cubeO o v, v], o.l5 (o.pd [u, cubeO o v, cubeO o v, v]), o.a5 [u, cubeO o v, o.pow (o.pd [u, cubeO o v, cubeO o v, v]) (ones0 253 15)], o.a5 [v, try1O o u v, try1O o u v], o.l5 (sqrO o u v), o.l5 u]
 (cond (o.eq (sqrO o u v) u)
 (nd [o.l5 (try1O o u v)]
 (cond (o.odd (try1O o u v))
 (nd [o.l5 (try1O o u v)]
 (some (AV.tup [AV.agg [Ch.ints IntKind.u64 5 (o.neg (try1O o u v))], AV.s (SV.bool true)], [])))
 (some (AV.tup [AV.agg [Ch.ints IntKind.u64 5 (try1O o u v)], AV.s (SV.bool true)], []))))
 (nd [o.l5 u, o.l5 (sqrO o u v), o.l5 (o.neg u)]
 (cond (o.eq (sqrO o u v) (o.neg u))
 (nd [o.l5 [2, 0, 0, 0, 0], o.l5 (try1O o u v), o.l5 (o.pow [2, 0, 0, 0, 0] (ones0 251 31)), o.l5 (try2O o u v)]
 (cond (o.odd (try2O o u v))
 (nd [o.l5 (try2O o u v)]
 (some (AV.tup [AV.agg [Ch.ints IntKind.u64 5 (o.neg (try2O o u v))], AV.s (SV.bool true)], [])))
 (some (AV.tup [AV.agg [Ch.ints IntKind.u64 5 (try2O o u v)], AV.s (SV.bool true)], []))))
 (some (AV.tup [AV.agg [Ch.ints IntKind.u64 5 [0, 0, 0, 0, 0]], AV.s (SV.bool false)], [])))))) := by kernel_rfl

theorem try1_o (u v : List Nat) : try1O ops u v = try1 u v := by kernel_rfl
theorem sqr_o (u v : List Nat) : sqrO ops u v = sqrF u v := by kernel_rfl
theorem try2_o (u v : List Nat) : try2O ops u v = try2 u v := by kernel_rfl
theorem cube_o (v : List Nat) : cubeO ops v = cubeF v := by kernel_rfl

theorem all5_of {xs : List (List Nat)} (h : ∀ x ∈ xs, x.length = 5) : all5 xs = true := by
  unfold all5
  exact List.all_eq_true.2 fun x hx => decide_eq_true (h x hx)

theorem powF_len (x k : List Nat) : (powF x k).length = 5 := pwN_len x k 256

theorem ok58 : FOk Try.prog 58 F58 := by
  refine fokB (fs := (77, F77) :: envO ops) (xs := []) (m := .nat) (fuel := 7) (.cons ok77 envO_ok) fn58 ?_
  intro args hin t r h hg
  unfold F58 at h
  simp only at h
  split at h
  · rename_i u v
    cases h
    obtain ⟨hu, hg⟩ := need1 hg
    obtain ⟨hv, hg⟩ := need1 hg
    cases hg
    have lu : u.length = 5 := of_decide_eq_true hu
    have lv : v.length = 5 := of_decide_eq_true hv
    have lc : (cubeF v).length = 5 := pdN_len _ _
    have l1 : (try1 u v).length = 5 := pdN_len _ _
    have l2 : (sqrF u v).length = 5 := pdN_len _ _
    have l3 : (try2 u v).length = 5 := rfl
    have l4 : (negF u).length = 5 := rfl
    have l6 : ∀ k, (powF [2, 0, 0, 0, 0] k).length = 5 := fun k => powF_len _ k
    have l7 : ∀ x k, (powF x k).length = 5 := fun x k => powF_len x k
    have l8 : ∀ xs n, (pdN xs n).length = 5 := pdN_len
    rw [r58]
    simp only [try1_o, sqr_o, try2_o, cube_o, ops_l5, ops_a5, ops_pd, ops_pow, ops_eq, ops_odd, ops_neg]
    unfold rootF evenF
    generalize hc1 : eqF (sqrF u v) u = c1
    generalize hc2 : eqF (sqrF u v) (negF u) = c2
    generalize hc3 : oddF (try1 u v) = c3
    generalize hc4 : oddF (try2 u v) = c4
    refine nd_of ?_ ?_
    · intro b hb
      simp only [List.mem_cons, List.not_mem_nil, or_false] at hb
      rcases hb with rfl | rfl | rfl | rfl | rfl | rfl | rfl
      · exact all5_of (by simp only [List.mem_cons, List.not_mem_nil, or_false, forall_eq_or_imp, forall_eq, lv, and_self])
      · exact all5_of (by simp only [List.mem_cons, List.not_mem_nil, or_false, forall_eq_or_imp, forall_eq, lu, lv, lc, and_self])
      · exact decide_eq_true (l8 _ _)
      · exact all5_of (by simp only [List.mem_cons, List.not_mem_nil, or_false, forall_eq_or_imp, forall_eq, lu, lc, l7, and_self])
      · exact all5_of (by simp only [List.mem_cons, List.not_mem_nil, or_false, forall_eq_or_imp, forall_eq, l1, lv, and_self])
      · exact decide_eq_true l2
      · exact hu
    cases c1 with
    | true =>
      refine cond_t rfl (nd_of ?_ ?_)
      · simp only [List.mem_cons, List.not_mem_nil, or_false, forall_eq, l1, decide_true]
      · cases c3 with
        | true =>
          refine cond_t rfl (nd_of ?_ rfl)
          simp only [List.mem_cons, List.not_mem_nil, or_false, forall_eq, l1, decide_true]
        | false => exact cond_f rfl rfl
    | false =>
      refine cond_f rfl (nd_of ?_ ?_)
      · simp only [List.mem_cons, List.not_mem_nil, or_false, forall_eq_or_imp, forall_eq, lu, l2, l4, decide_true, and_self]
      · cases c2 with
        | true =>
          refine cond_t rfl (nd_of ?_ ?_)
          · simp only [List.mem_cons, List.not_mem_nil, or_false, forall_eq_or_imp, forall_eq, l1, l3, l6, decide_true, and_self, List.length_cons, List.length_nil]
          · cases c4 with
            | true =>
              refine cond_t rfl (nd_of ?_ rfl)
              simp only [List.mem_cons, List.not_mem_nil, or_false, forall_eq, l3, decide_true]
            | false => exact cond_f rfl rfl
        | false => exact cond_f rfl rfl
  · cases h

end Go.Proofs.Yteaoegdmhoepiaa

namespace Go.Proofs.Yteaoegdmhoepiaa
open Go

theorem pd3E {x y z : List Nat} {a b d : Nat} (hx : EV x a) (hy : EV y b) (hz : EV z d) : EV (pdN [x, y, z] 3) (a * b * d) := by
  have h := mulE (mulE (mulE oneE hx) hy) hz
  rw [Nat.one_mul] at h
  exact h

theorem pd4E {x y z w : List Nat} {a b d e : Nat} (hx : EV x a) (hy : EV y b) (hz : EV z d) (hw : EV w e) : EV (pdN [x, y, z, w] 4) (a * b * d * e) := by
  have h := mulE (mulE (mulE (mulE oneE hx) hy) hz) hw
  rw [Nat.one_mul] at h
  exact h

namespace Fq
theorem c_neg (v : Nat) : c (ngV v) = -c v := by
  refine (neg_uniq ?_).symm
  rw [← c_add]
  exact c_eq.2 (by rw [ng_add]; rfl)
theorem c_zero {n : Nat} : c n = 0 ↔ n % P255 = 0 := by
  constructor
  · intro h
    have : c n = c 0 := h
    exact c_eq.1 this
  · intro h
    exact c_eq.2 (by rw [h]; rfl)
theorem neg_sq (x b : Fq) : b * (-x) * (-x) = b * x * x := by grind -lia
theorem sq_com (x b : Fq) : x * x * b = b * x * x := by grind -lia
theorem sq_neg2 (i : Fq) (x : Fq) (h : i * i = x) : i * i = x := h
end Fq
open Fq

def em : Nat := vB 256 (ones0 253 15)
def ei : Nat := vB 256 (ones0 251 31)
theorem em_eq : P255 / 2 = (2 * em + 1) * 2 := by decide +kernel
theorem ei_eq : ei + ei = P255 / 2 := by decide +kernel
theorem hh_eq : P255 - 1 = P255 / 2 * 2 := by decide +kernel
theorem g1 : g32 (ones0 253 15) = true := by decide +kernel
theorem g2 : g32 (ones0 251 31) = true := by decide +kernel

def T1 (m a b : Nat) : Nat := a * (b * b * b) * (a * (b * b * b) * (b * b * b) * b) ^ m

theorem try1E {u v : List Nat} {a b : Nat} (hu : EV u a) (hv : EV v b) : EV (try1 u v) (T1 em a b) := by
  have hc : EV (cubeF v) (b * b * b) := pd3E hv hv hv
  exact pd3E hu hc (powE (pd4E hu hc hc hv) g1)

theorem sqrE {u v : List Nat} {a b : Nat} (hu : EV u a) (hv : EV v b) : EV (sqrF u v) (b * T1 em a b * T1 em a b) :=
  pd3E hv (try1E hu hv) (try1E hu hv)

theorem twoE : EV [2, 0, 0, 0, 0] 2 := smallE (by decide)

theorem pow2E {k : List Nat} {n : Nat} (h : g32 k = true) (hn : vB 256 k = n) : EV (powF [2, 0, 0, 0, 0] k) (2 ^ n) := by
  subst hn
  exact powE twoE h

theorem try2E {u v : List Nat} {a b n : Nat} (hn : vB 256 (ones0 251 31) = n) (hu : EV u a) (hv : EV v b) : EV (try2 u v) (T1 em a b * 2 ^ n) :=
  mulE (try1E hu hv) (pow2E g2 hn)

theorem ei_ex : ∃ n, vB 256 (ones0 251 31) = n ∧ n + n = P255 / 2 := ⟨ei, rfl, ei_eq⟩

theorem c_T1 (m a b : Nat) : c (T1 m a b) = c a * (c b * c b * c b) * fpow (c a * (c b * c b * c b) * (c b * c b * c b) * c b) m := by
  unfold T1
  rw [c_mul, c_mul, c_mul, c_mul, c_pow, c_mul, c_mul, c_mul, c_mul, c_mul]

/-- An even one of the two. -/
theorem evenE {x : List Nat} {a : Nat} (hx : EV x a) : ∃ w, EV (evenF x) w ∧ w % P255 % 2 = 0 ∧ ∀ B : Fq, B * c w * c w = B * c a * c a := by
  unfold evenF
  rw [oddE hx]
  by_cases h : a % P255 % 2 = 1
  · rw [decide_eq_true h]
    refine ⟨ngV a, negE hx, ?_, fun B => by rw [c_neg, neg_sq]⟩
    rw [ng_mod a (by omega)]
    have h1 := mod_lt' a
    have hP : P255 % 2 = 1 := by decide
    generalize P255 = p at *
    omega
  · rw [decide_eq_false h]
    exact ⟨a, hx, by omega, fun B => rfl⟩

theorem eqEc {x y : List Nat} {v w : Nat} (hx : EV x v) (hy : EV y w) : eqF x y = decide (c v = c w) := by
  rw [eqE hx hy]
  exact decide_eq_decide.2 c_eq.symm

theorem i_sq {n : Nat} (h : n + n = P255 / 2) : c (2 ^ n) * c (2 ^ n) = -1 := by
  rw [c_pow, ← pow_add]
  exact two_half h

theorem rootE {u v : List Nat} {a b : Nat} (hu : EV u a) (hv : EV v b) (hb : c b ≠ 0) :
    ((rootF u v).2 = true → (fpow (c a * (c b)⁻¹) (P255 / 2) = 0 ∨ fpow (c a * (c b)⁻¹) (P255 / 2) = 1) ∧ ∃ w, EV (rootF u v).1 w ∧ w % P255 % 2 = 0 ∧ c b * c w * c w = c a) ∧
    ((rootF u v).2 = false → ¬ (fpow (c a * (c b)⁻¹) (P255 / 2) = 0 ∨ fpow (c a * (c b)⁻¹) (P255 / 2) = 1) ∧ (rootF u v).1 = z5) := by
  have e1 := try1E hu hv
  have e2 := sqrE hu hv
  obtain ⟨n, hn, hnn⟩ := ei_ex
  have e3 := try2E hn hu hv
  obtain ⟨w1, f1, p1, q1⟩ := evenE e1
  obtain ⟨w2, f2, p2, q2⟩ := evenE e3
  unfold rootF
  rw [eqEc e2 hu, eqEc e2 (negE hu), c_neg]
  have hT := c_T1 em a b
  have hi := i_sq hnn
  have q2' := q2 (c b)
  have q1' := q1 (c b)
  rw [c_mul (T1 em a b)] at q2'
  rw [c_mul, c_mul]
  clear q1 q2 e1 e2 e3
  generalize c (T1 em a b) = T at *
  clear hn hnn
  generalize c (2 ^ n) = i at *
  have hpos : 0 < P255 / 2 := by decide
  have hh := hh_eq
  have hm := em_eq
  generalize P255 / 2 = h at *
  by_cases ha : c a = 0
  · have hT0 : T = 0 := by rw [hT, ha]; grind -lia
    have h0 : c b * T * T = c a := by rw [hT0, ha]; grind -lia
    rw [decide_eq_true h0]
    refine ⟨fun _ => ⟨.inl ?_, w1, f1, p1, ?_⟩, fun hx => by cases hx⟩
    · rw [ha, zero_mul, zero_pow hpos]
    · rw [q1', h0]
  · rcases root_alg hm hh ha hb hT hi with ⟨k1, k2⟩ | ⟨k1, k2, k3⟩
    · rcases k2 with k2 | ⟨k2, k3, k4⟩
      · rw [decide_eq_true k2]
        exact ⟨fun _ => ⟨.inr k1, w1, f1, p1, by rw [q1', k2]⟩, fun hx => by cases hx⟩
      · rw [decide_eq_false k3, decide_eq_true k2]
        exact ⟨fun _ => ⟨.inr k1, w2, f2, p2, by rw [q2', k4]⟩, fun hx => by cases hx⟩
    · rw [decide_eq_false k2, decide_eq_false k3]
      refine ⟨fun hx => (by cases hx), fun _ => ⟨fun hx => ?_, rfl⟩⟩
      rw [k1] at hx
      rcases hx with hx | hx
      · exact zero_ne_one (by rw [← neg_neg (1 : Fq), hx]; exact (neg_uniq (add_zero 0)).symm)
      · exact two_ne hx.symm

theorem rootZ {u v : List Nat} {a b : Nat} (hu : EV u a) (hv : EV v b) (hb : c b = 0) :
    (rootF u v).2 = decide (a % P255 = 0) ∧ ∃ w, EV (rootF u v).1 w ∧ w % P255 = 0 := by
  have e1 := try1E hu hv
  have e2 := sqrE hu hv
  have hT : c (T1 em a b) = 0 := by
    rw [c_T1, hb]
    generalize fpow (c a * (0 * 0 * 0) * (0 * 0 * 0) * 0) em = z
    grind -lia
  have hs : c (b * T1 em a b * T1 em a b) = 0 := by
    rw [c_mul, c_mul, hT]
    grind -lia
  unfold rootF
  rw [eqEc e2 hu, eqEc e2 (negE hu), c_neg, hs]
  have hT := c_zero.1 hT
  by_cases ha : c a = 0
  · have ha' := c_zero.1 ha
    rw [ha', ha]
    refine ⟨rfl, T1 em a b, ?_, hT⟩
    have : evenF (try1 u v) = try1 u v := by
      unfold evenF
      rw [oddE e1, hT]
      rfl
    show EV (evenF (try1 u v)) _
    rw [this]
    exact e1
  · have ha' : ¬ a % P255 = 0 := fun h => ha (c_zero.2 h)
    have h1 : ¬ ((0 : Fq) = c a) := fun h => ha h.symm
    have h2 : ¬ ((0 : Fq) = -c a) := fun h => ha (by
      rw [← neg_neg (c a), ← h]
      exact neg_uniq (add_zero 0))
    rw [decide_eq_false h1, decide_eq_false h2, decide_eq_false ha']
    exact ⟨rfl, 0, zE, rfl⟩

end Go.Proofs.Yteaoegdmhoepiaa

namespace Go.Proofs.Yteaoegdmhoepiaa
open Go

theorem fn63 : Fn Try.prog 63 Try.f63 := ⟨mixedF, Try.func63, by kernel_rfl, of_decide_eq_true (by kernel_rfl)⟩

def ladG {α : Type} (p q : α) (f : α → α) (g h : α → α → α) (bit : Nat → Bool) : Nat → α × α
  | 0 => (p, q)
  | i + 1 =>
    let s := ladG p q f g h bit i
    cond (bit i) (h s.1 s.2, f s.2) (f s.1, g s.1 s.2)

def ldO (o : Ops3) (x k : List Nat) : Nat → L2 × L2 :=
  ladG ([1, 0, 0, 0, 0], [0, 0, 0, 0, 0]) (x, [1, 0, 0, 0, 0]) o.dbl (o.sum x) (fun p q => o.sum x q p) (fun i => bitK k (254 - i))

def limB (x : List Nat) : Bool := decide (x.length = 5) && x.all fun v => decide (v < L52)

theorem limB_lim {x : List Nat} (h : limB x = true) : lim5 L52 x := by
  unfold limB at h
  rw [Bool.and_eq_true] at h
  refine ⟨of_decide_eq_true h.1, fun i => ?_⟩
  by_cases hi : i < x.length
  · rw [List.getD, List.getElem?_eq_getElem hi]
    exact of_decide_eq_true (List.all_eq_true.1 h.2 _ (List.getElem_mem hi))
  · rw [List.getD, List.getElem?_eq_none (by omega)]
    decide

theorem lim_limB {x : List Nat} (h : lim5 L52 x) : limB x = true := by
  unfold limB
  rw [Bool.and_eq_true]
  refine ⟨decide_eq_true h.1, List.all_eq_true.2 fun v hv => decide_eq_true ?_⟩
  obtain ⟨i, hi, e⟩ := List.getElem_of_mem hv
  have := h.2 i
  rw [List.getD, List.getElem?_eq_getElem hi, e] at this
  exact this

theorem lim_EV {x : List Nat} (h : lim5 L52 x) : EV x (v51 x) := ⟨h, rfl⟩

/-- Both lists are in their limits. -/
def Inv (p : L2) : Prop := lim5 L52 p.1 ∧ lim5 L52 p.2

theorem inv_dbl {p : L2} (h : Inv p) : Inv (ops3.dbl p) := by
  have e1 := lim_EV h.1
  have e2 := lim_EV h.2
  rw [ops3_dbl]
  unfold dblL
  simp only [ops_mul, ops_sub, ops_add]
  have s := mulE (addE2 e1 e2) (addE2 e1 e2)
  have m := mulE (subE e1 e2) (subE e1 e2)
  have e := subE s m
  exact ⟨(mulE s m).1, (mulE e (addE2 s (mulE (smallE (by decide)) e))).1⟩

theorem inv_sum {u : List Nat} {p q : L2} (hu : lim5 L52 u) (h : Inv p) (k : Inv q) : Inv (ops3.sum u p q) := by
  have e1 := lim_EV h.1
  have e2 := lim_EV h.2
  have f1 := lim_EV k.1
  have f2 := lim_EV k.2
  have eu := lim_EV hu
  rw [ops3_sum]
  unfold addL
  simp only [ops_mul, ops_sub, ops_add, ops_pd]
  have l := mulE (subE f1 f2) (addE2 e1 e2)
  have r := mulE (addE2 f1 f2) (subE e1 e2)
  have g := subE l r
  exact ⟨(mulE (addE2 l r) (addE2 l r)).1, (pd3E eu g g).1⟩

theorem inv_ld {x k : List Nat} (hx : lim5 L52 x) : ∀ i, Inv (ldO ops3 x k i).1 ∧ Inv (ldO ops3 x k i).2
  | 0 => ⟨⟨oneE.1, zE'.1⟩, ⟨hx, oneE.1⟩⟩
  | i + 1 => by
    obtain ⟨h1, h2⟩ := inv_ld (k := k) hx i
    unfold ldO at h1 h2 ⊢
    unfold ladG
    simp only
    generalize ladG ([1, 0, 0, 0, 0], [0, 0, 0, 0, 0]) (x, [1, 0, 0, 0, 0]) ops3.dbl (ops3.sum x) (fun p q => ops3.sum x q p) (fun i => bitK k (254 - i)) i = s at *
    cases bitK k (254 - i)
    · exact ⟨inv_dbl h1, inv_sum hx h1 h2⟩
    · exact ⟨inv_sum hx h2 h1, inv_dbl h2⟩

/-- One round as the code does it. -/
def rndO (o : Ops3) (x : List Nat) (c : Bool) (p q : L2) : L2 × L2 :=
  o.swp c (o.dbl (o.swp c p q).1) (o.sum x (o.swp c p q).1 (o.swp c p q).2)

theorem swp_t {p q : L2} (hp : Inv p) (hq : Inv q) : ops3.swp true p q = (q, p) := by
  rw [ops3_swp]
  simp only [ops_swl, ops_swr]
  obtain ⟨a1, a2, _, _⟩ := swE hp.1 hq.1
  obtain ⟨b1, b2, _, _⟩ := swE hp.2 hq.2
  rw [a1, a2, b1, b2]

theorem swp_f {p q : L2} (hp : Inv p) (hq : Inv q) : ops3.swp false p q = (p, q) := by
  rw [ops3_swp]
  simp only [ops_swl, ops_swr]
  obtain ⟨_, _, a1, a2⟩ := swE hp.1 hq.1
  obtain ⟨_, _, b1, b2⟩ := swE hp.2 hq.2
  rw [a1, a2, b1, b2]

theorem rnd_ld {x k : List Nat} (hx : lim5 L52 x) (i : Nat) : rndO ops3 x (bitK k (254 - i)) (ldO ops3 x k i).1 (ldO ops3 x k i).2 = ldO ops3 x k (i + 1) := by
  obtain ⟨h1, h2⟩ := inv_ld (k := k) hx i
  rw [show ldO ops3 x k (i + 1) = cond (bitK k (254 - i)) (ops3.sum x (ldO ops3 x k i).2 (ldO ops3 x k i).1, ops3.dbl (ldO ops3 x k i).2) (ops3.dbl (ldO ops3 x k i).1, ops3.sum x (ldO ops3 x k i).1 (ldO ops3 x k i).2) from rfl]
  unfold rndO
  cases bitK k (254 - i)
  · rw [swp_f h1 h2]
    exact swp_f (inv_dbl h1) (inv_sum hx h1 h2)
  · rw [swp_t h1 h2]
    exact swp_t (inv_dbl h2) (inv_sum hx h2 h1)

def Sl (o : Ops3) : LSem := ⟨[2, 5, 6, 7, 8], [6], fun args hin => match args, hin with
  | [.s (.ptr 0 0), .s (.ptr 1 0), .s (.ptr 2 0), .s (.ptr 3 0), .s (.nat .i64 254)], [[.ints .u8 32 k], [.ints .u64 5 x], [.ints .u64 5 [1, 0, 0, 0, 0], .ints .u64 5 [0, 0, 0, 0, 0]], [.ints .u64 5 y, .ints .u64 5 [1, 0, 0, 0, 0]]] =>
    some (Tr.needs [limB x, decide (y = x)] (.leaf (.normal, [.s (.ptr 2 0)], [some [.ints .u8 32 k], some [.ints .u64 5 x], some [.ints .u64 5 (ldO o x k 255).1.1, .ints .u64 5 (ldO o x k 255).1.2], some [.ints .u64 5 (ldO o x k 255).2.1, .ints .u64 5 (ldO o x k 255).2.2]])))
  | _, _ => none⟩

/-- The needs of a round. -/
def ndl (o : Ops3) (x : List Nat) (c : Bool) (p q : L2) : List Bool :=
  [o.l5 p.1, o.l5 p.2, o.l5 q.1, o.l5 q.2, o.l5 (o.swp c p q).1.1, o.l5 (o.swp c p q).1.2, o.l5 (o.swp c p q).2.1, o.l5 (o.swp c p q).2.2, o.l5 x,
    o.l5 (o.dbl (o.swp c p q).1).1, o.l5 (o.dbl (o.swp c p q).1).2, o.l5 (o.sum x (o.swp c p q).1 (o.swp c p q).2).1, o.l5 (o.sum x (o.swp c p q).1 (o.swp c p q).2).2]

set_option maxRecDepth 100000 in
theorem rl1 (o : Ops3) (k x : List Nat) (p q : L2) (j : Nat) : runR Try.prog (envQ o) [] .down 7 [] Try.f63 0 (Sl o) 4 [.s (.ptr 0 0), .s (.ptr 1 0), .s (.ptr 2 0), .s (.ptr 3 0), .s (.nat .i64 (j + 1))] [some [.ints .u8 32 k], some [.ints .u64 5 x], some [.ints .u64 5 p.1, .ints .u64 5 p.2], some [.ints .u64 5 q.1, .ints .u64 5 q.2]] =
  (nd (decide ((j + 1) / 8 < 32) :: decide ((j + 1) / 8 < 32) :: ndl o x (bitK k (j + 1)) p q)
   (some (Ex.normal, [.s (.ptr 0 0), .s (.ptr 1 0), .s (.ptr 2 0), .s (.ptr 3 0), .s (.nat .i64 j)],
     [some [.ints .u8 32 k], some [.ints .u64 5 x], some [.ints .u64 5 (rndO o x (bitK k (j + 1)) p q).1.1, .ints .u64 5 (rndO o x (bitK k (j + 1)) p q).1.2], some [.ints .u64 5 (rndO o x (bitK k (j + 1)) p q).2.1, .ints .u64 5 (rndO o x (bitK k (j + 1)) p q).2.2]]))) := by kernel_rfl

set_option maxRecDepth 100000 in
theorem rl0 (o : Ops3) (k x : List Nat) (p q : L2) : runR Try.prog (envQ o) [] .down 7 [] Try.f63 0 (Sl o) 4 [.s (.ptr 0 0), .s (.ptr 1 0), .s (.ptr 2 0), .s (.ptr 3 0), .s (.nat .i64 0)] [some [.ints .u8 32 k], some [.ints .u64 5 x], some [.ints .u64 5 p.1, .ints .u64 5 p.2], some [.ints .u64 5 q.1, .ints .u64 5 q.2]] =
  (nd (ndl o x (bitK k 0) p q)
   (some (Ex.normal, [.s (.ptr 0 0), .s (.ptr 1 0), .s (.ptr 2 0), .s (.ptr 3 0), .s (.int (Int.negSucc 0))],
     [some [.ints .u8 32 k], some [.ints .u64 5 x], some [.ints .u64 5 (rndO o x (bitK k 0) p q).1.1, .ints .u64 5 (rndO o x (bitK k 0) p q).1.2], some [.ints .u64 5 (rndO o x (bitK k 0) p q).2.1, .ints .u64 5 (rndO o x (bitK k 0) p q).2.2]]))) := by kernel_rfl

set_option maxRecDepth 100000 in
theorem rlm (o : Ops3) (k x : List Nat) (p q : L2) : runR Try.prog (envQ o) [] .down 7 [] Try.f63 0 (Sl o) 4 [.s (.ptr 0 0), .s (.ptr 1 0), .s (.ptr 2 0), .s (.ptr 3 0), .s (.int (Int.negSucc 0))] [some [.ints .u8 32 k], some [.ints .u64 5 x], some [.ints .u64 5 p.1, .ints .u64 5 p.2], some [.ints .u64 5 q.1, .ints .u64 5 q.2]] =
   (some (Ex.exit 0, [.s (.ptr 2 0)],
     [some [.ints .u8 32 k], some [.ints .u64 5 x], some [.ints .u64 5 p.1, .ints .u64 5 p.2], some [.ints .u64 5 q.1, .ints .u64 5 q.2]])) := by kernel_rfl

theorem ndl_ok {x : List Nat} {c : Bool} {p q : L2} (hx : lim5 L52 x) (hp : Inv p) (hq : Inv q) : ∀ b ∈ ndl ops3 x c p q, b = true := by
  have hl : ops3.l5 = fun x => decide (x.length = 5) := by
    rw [ops3_ops2, ops2_ops]
    exact ops_l5
  unfold ndl
  rw [hl]
  cases c
  · rw [swp_f hp hq]
    have d := inv_dbl hp
    have s := inv_sum hx hp hq
    simp only [List.mem_cons, List.not_mem_nil, or_false, forall_eq_or_imp, forall_eq, decide_eq_true_eq]
    exact ⟨hp.1.1, hp.2.1, hq.1.1, hq.2.1, hp.1.1, hp.2.1, hq.1.1, hq.2.1, hx.1, d.1.1, d.2.1, s.1.1, s.2.1⟩
  · rw [swp_t hp hq]
    have d := inv_dbl hq
    have s := inv_sum hx hq hp
    simp only [List.mem_cons, List.not_mem_nil, or_false, forall_eq_or_imp, forall_eq, decide_eq_true_eq]
    exact ⟨hp.1.1, hp.2.1, hq.1.1, hq.2.1, hq.1.1, hq.2.1, hp.1.1, hp.2.1, hx.1, d.1.1, d.2.1, s.1.1, s.2.1⟩

theorem lokL : LOk Try.prog Try.f63.ntmps (.block 0 (.loop (lb 0 Try.f63))) (Sl ops3) := by
  refine lokR (fs := envQ ops3) (xs := []) (m := .down) (fuel := 7) (sums := []) envQ_ok mixedF (loopsOk_none rfl _) ?_
  intro args hin t e vs hout h hg
  unfold Sl at h
  simp only at h
  split at h
  · rename_i k x y
    simp only [Option.some.injEq] at h
    subst h
    obtain ⟨hc, hgt⟩ := Tr.needs_get hg
    cases hgt
    have hx : lim5 L52 x := limB_lim (hc (limB x) (by simp))
    have ey : y = x := of_decide_eq_true (hc (decide (y = x)) (by simp))
    subst ey
    refine ⟨255, fun i => ([.s (.ptr 0 0), .s (.ptr 1 0), .s (.ptr 2 0), .s (.ptr 3 0), downV 255 i], [some [.ints .u8 32 k], some [.ints .u64 5 y], some [.ints .u64 5 (ldO ops3 y k i).1.1, .ints .u64 5 (ldO ops3 y k i).1.2], some [.ints .u64 5 (ldO ops3 y k i).2.1, .ints .u64 5 (ldO ops3 y k i).2.2]]), .exit 0, rfl, fun i hi => ?_, ?_, rfl⟩
    · obtain ⟨h1, h2⟩ := inv_ld (k := k) hx i
      have hr := rnd_ld (k := k) hx i
      simp only [List.length_cons, List.length_nil]
      by_cases h254 : i = 254
      · subst h254
        rw [show downV 255 254 = .s (.nat .i64 0) from rfl, rl0]
        refine nd_of (ndl_ok hx h1 h2) ?_
        rw [show 254 - 254 = 0 from rfl] at hr
        rw [hr]
        rfl
      · obtain ⟨j, hj⟩ : ∃ j, 254 - i = j + 1 := ⟨253 - i, by omega⟩
        have e1 : downV 255 i = .s (.nat .i64 (j + 1)) := by unfold downV; rw [if_pos hi, show 255 - 1 - i = j + 1 by omega]
        have e2 : downV 255 (i + 1) = .s (.nat .i64 j) := by unfold downV; rw [if_pos (by omega), show 255 - 1 - (i + 1) = j by omega]
        rw [e1, e2, rl1]
        rw [hj] at hr
        rw [hr]
        refine nd_of ?_ rfl
        simp only [List.mem_cons, forall_eq_or_imp, decide_eq_true_eq]
        exact ⟨by omega, by omega, ndl_ok hx h1 h2⟩
    · simp only [List.length_cons, List.length_nil]
      rw [show downV 255 255 = .s (.int (Int.negSucc 0)) from rfl, rlm]
  · cases h

theorem loops63 : LoopsOk Try.prog ⟨Try.f63.ntmps, 7, [(0, Sl ops3)]⟩ (bodyOf Try.f63) := by
  refine loopsOk_of ?_
  have e : loopsIn [(0, Sl ops3)] (bodyOf Try.f63) = [(0, .loop (lb 0 Try.f63), Sl ops3)] := by kernel_rfl
  simp only [e]
  intro x hx
  simp only [List.mem_cons, List.not_mem_nil, or_false] at hx
  rcases hx with rfl
  · exact lokL

def mlO (o : Ops3) (k u : List Nat) : List Nat :=
  o.bytes (o.mul (ldO o (o.of u) (o.cl k) 255).1.1 (o.inv (ldO o (o.of u) (o.cl k) 255).1.2))

set_option maxRecDepth 100000 in
theorem r63 (o : Ops3) (k u : List Nat) : runL Try.prog (envQ o) [] .down 7 [(0, Sl o)] Try.f63 [.agg [.ints .u8 32 k], .agg [.ints .u8 32 u]] [] =
    nd [limB (o.of u), decide (o.of u = o.of u), o.l5 (ldO o (o.of u) (o.cl k) 255).1.2, o.l5 (ldO o (o.of u) (o.cl k) 255).1.1, o.l5 (o.inv (ldO o (o.of u) (o.cl k) 255).1.2), o.l5 (o.mul (ldO o (o.of u) (o.cl k) 255).1.1 (o.inv (ldO o (o.of u) (o.cl k) 255).1.2))] (some (.agg [.ints .u8 32 (mlO o k u)], [])) := by kernel_rfl

def F63 : FSem := ⟨false, fun args hin => match args, hin with
  | [.agg [.ints .u8 32 k], .agg [.ints .u8 32 u]], [] => some (.need (g32 u) (.leaf (.agg [.ints .u8 32 (mlO ops3 k u)], [])))
  | _, _ => none⟩

theorem ops3_l5 : ops3.l5 = fun x => decide (x.length = 5) := by
  rw [ops3_ops2, ops2_ops]
  exact ops_l5
theorem ops3_of : ops3.of = ofF := by
  rw [ops3_ops2, ops2_ops]
  exact ops_of
theorem ops3_inv : ops3.inv = invF := by
  rw [ops3_ops2, ops2_ops]
  exact ops_inv
theorem ops3_mul : ops3.mul = mulF := by
  rw [ops3_ops2, ops2_ops]
  exact ops_mul
theorem ops3_bytes : ops3.bytes = bytesF := by
  rw [ops3_ops2, ops2_ops]
  exact ops_bytes

theorem ok63 : FOk Try.prog 63 F63 := by
  refine fokL (fs := envQ ops3) (xs := []) (m := .down) (fuel := 7) (sums := [(0, Sl ops3)]) envQ_ok fn63 loops63 ?_
  intro args hin t r h hg
  unfold F63 at h
  simp only at h
  split at h
  · rename_i k u
    cases h
    obtain ⟨hl, hg⟩ := need1 hg
    cases hg
    rw [r63]
    have eu := ofE hl
    obtain ⟨h1, h2⟩ := inv_ld (k := ops3.cl k) eu.1 255
    have ei := invE (lim_EV h1.2)
    have em := mulE (lim_EV h1.1) ei
    refine nd_of ?_ rfl
    rw [ops3_l5, ops3_of, ops3_inv, ops3_mul]
    simp only [List.mem_cons, List.not_mem_nil, or_false, forall_eq_or_imp, forall_eq, decide_eq_true_eq, true_and]
    exact ⟨lim_limB eu.1, h1.2.1, h1.1.1, ei.1.1, em.1.1⟩
  · cases h

end Go.Proofs.Yteaoegdmhoepiaa

namespace Go.Proofs.Yteaoegdmhoepiaa
open Go

theorem fn64 : Fn Try.prog 64 Try.f64 := ⟨mixedF, Try.func64, by kernel_rfl, of_decide_eq_true (by kernel_rfl)⟩

def X2 : LSem := ⟨[8, 9, 10], [9], fun args hin => match args, hin with
  | [.s (.nat .i64 i), .s (.nat .i64 b), .s (.nat .i64 0)], [] => some (.leaf (.normal, [.s (.nat .i64 (b / 2 ^ (i % 8)))], []))
  | _, _ => none⟩

set_option maxRecDepth 100000 in
theorem rx2 (i b n : Nat) : runR Try.prog [] [] .nat 7 [] Try.f64 2 X2 0 [.s (.nat .i64 i), .s (.nat .i64 b), .s (.nat .i64 n)] [] =
(cond (decide (n < i % 8))
 (nd [decide (n + 1 < 9223372036854775808)]
 (some (Ex.normal, [AV.s (SV.nat IntKind.i64 i), AV.s (SV.nat IntKind.i64 (b / 2)), AV.s (SV.nat IntKind.i64 (n + 1))], [])))
 (some (Ex.exit 2, [AV.s (SV.nat IntKind.i64 b)], []))) := by kernel_rfl

theorem lokX2 : LOk Try.prog Try.f64.ntmps (.block 2 (.loop (lb 2 Try.f64))) X2 := by
  refine lokR (fs := []) (xs := []) (m := .nat) (fuel := 7) (sums := []) .nil mixedF (loopsOk_none rfl _) ?_
  intro args hin t e vs hout h hg
  unfold X2 at h
  simp only at h
  split at h
  · rename_i i b
    cases h
    cases hg
    refine ⟨i % 8, fun n => ([.s (.nat .i64 i), .s (.nat .i64 (b / 2 ^ n)), .s (.nat .i64 n)], []), .exit 2, by simp [someL], fun n hn => ?_, ?_, rfl⟩
    · simp only [List.length_nil]
      rw [rx2]
      refine cond_t (decide_eq_true hn) (nd_of ?_ ?_)
      · simp only [List.mem_cons, List.not_mem_nil, or_false, forall_eq_or_imp, forall_eq, decide_eq_true_eq, true_and, and_true]; omega
      · rw [Nat.pow_succ, ← Nat.div_div_eq_div_mul]
    · simp only [List.length_nil]
      rw [rx2]
      exact cond_f (decide_eq_false (by omega)) rfl
  · cases h

def bitR (k : List Nat) (i : Nat) : Bool := decide (k.getD (i / 8) 0 / 2 ^ (i % 8) % 2 = 1)

def z16 : List Nat := [0, 0, 0, 0, 0, 0, 0, 0, 0, 0, 0, 0, 0, 0, 0, 0]

def ldR (o : Ops3) (x k : List Nat) : Nat → L2 × L2 :=
  ladG (o.smR 1, z16) (x, o.smR 1) o.dblR (o.sumR x) (o.sumR x) (fun i => bitR k (255 - i))

def X0 (o : Ops3) : LSem := ⟨[2, 5, 6, 7, 8], [6], fun args hin => match args, hin with
  | [.s (.ptr 0 0), .s (.ptr 1 0), .s (.ptr 2 0), .s (.ptr 3 0), .s (.nat .i64 255)], [[.ints .u8 32 k], [.ints .u64 16 x], [.ints .u64 16 y, .ints .u64 16 z], [.ints .u64 16 v, .ints .u64 16 w]] =>
    some (Tr.needs [o.g16 x, decide (y = o.smR 1), decide (z = z16), decide (v = x), decide (w = o.smR 1)] (.leaf (.normal, [.s (.ptr 2 0)], [some [.ints .u8 32 k], some [.ints .u64 16 x], some [.ints .u64 16 (ldR o x k 256).1.1, .ints .u64 16 (ldR o x k 256).1.2], some [.ints .u64 16 (ldR o x k 256).2.1, .ints .u64 16 (ldR o x k 256).2.2]])))
  | _, _ => none⟩

/-- One round as the document has it. -/
def rndR (o : Ops3) (x : List Nat) (c : Bool) (p q : L2) : L2 × L2 := cond c (o.sumR x p q, o.dblR q) (o.dblR p, o.sumR x p q)

set_option maxRecDepth 100000 in
theorem rx1 (o : Ops3) (k x : List Nat) (p q : L2) (j : Nat) : runR Try.prog (envQ o) [] .down 7 [(2, X2)] Try.f64 0 (X0 o) 4 [.s (.ptr 0 0), .s (.ptr 1 0), .s (.ptr 2 0), .s (.ptr 3 0), .s (.nat .i64 (j + 1))] [some [.ints .u8 32 k], some [.ints .u64 16 x], some [.ints .u64 16 p.1, .ints .u64 16 p.2], some [.ints .u64 16 q.1, .ints .u64 16 q.2]] =
(nd [decide ((j + 1) / 8 < 32), decide ((j + 1) / 8 < 32), o.g16 p.1, o.g16 p.2, o.g16 q.1, o.g16 q.2, o.g16 x]
 (cond (bitR k (j + 1))
 (nd [o.g16 q.1, o.g16 q.2]
 (some (Ex.normal, [.s (.ptr 0 0), .s (.ptr 1 0), .s (.ptr 2 0), .s (.ptr 3 0), .s (.nat .i64 j)], [some [.ints .u8 32 k], some [.ints .u64 16 x], some [.ints .u64 16 (o.sumR x p q).1, .ints .u64 16 (o.sumR x p q).2], some [.ints .u64 16 (o.dblR q).1, .ints .u64 16 (o.dblR q).2]])))
 (nd [o.g16 p.1, o.g16 p.2]
 (some (Ex.normal, [.s (.ptr 0 0), .s (.ptr 1 0), .s (.ptr 2 0), .s (.ptr 3 0), .s (.nat .i64 j)], [some [.ints .u8 32 k], some [.ints .u64 16 x], some [.ints .u64 16 (o.dblR p).1, .ints .u64 16 (o.dblR p).2], some [.ints .u64 16 (o.sumR x p q).1, .ints .u64 16 (o.sumR x p q).2]]))))) := by kernel_rfl

set_option maxRecDepth 100000 in
theorem rx0 (o : Ops3) (k x : List Nat) (p q : L2) : runR Try.prog (envQ o) [] .down 7 [(2, X2)] Try.f64 0 (X0 o) 4 [.s (.ptr 0 0), .s (.ptr 1 0), .s (.ptr 2 0), .s (.ptr 3 0), .s (.nat .i64 0)] [some [.ints .u8 32 k], some [.ints .u64 16 x], some [.ints .u64 16 p.1, .ints .u64 16 p.2], some [.ints .u64 16 q.1, .ints .u64 16 q.2]] =
(nd [o.g16 p.1, o.g16 p.2, o.g16 q.1, o.g16 q.2, o.g16 x]
 (cond (bitR k 0)
 (nd [o.g16 q.1, o.g16 q.2]
 (some (Ex.normal, [.s (.ptr 0 0), .s (.ptr 1 0), .s (.ptr 2 0), .s (.ptr 3 0), .s (.int (Int.negSucc 0))], [some [.ints .u8 32 k], some [.ints .u64 16 x], some [.ints .u64 16 (o.sumR x p q).1, .ints .u64 16 (o.sumR x p q).2], some [.ints .u64 16 (o.dblR q).1, .ints .u64 16 (o.dblR q).2]])))
 (nd [o.g16 p.1, o.g16 p.2]
 (some (Ex.normal, [.s (.ptr 0 0), .s (.ptr 1 0), .s (.ptr 2 0), .s (.ptr 3 0), .s (.int (Int.negSucc 0))], [some [.ints .u8 32 k], some [.ints .u64 16 x], some [.ints .u64 16 (o.dblR p).1, .ints .u64 16 (o.dblR p).2], some [.ints .u64 16 (o.sumR x p q).1, .ints .u64 16 (o.sumR x p q).2]]))))) := by kernel_rfl

set_option maxRecDepth 100000 in
theorem rxm (o : Ops3) (k x : List Nat) (p q : L2) : runR Try.prog (envQ o) [] .down 7 [(2, X2)] Try.f64 0 (X0 o) 4 [.s (.ptr 0 0), .s (.ptr 1 0), .s (.ptr 2 0), .s (.ptr 3 0), .s (.int (Int.negSucc 0))] [some [.ints .u8 32 k], some [.ints .u64 16 x], some [.ints .u64 16 p.1, .ints .u64 16 p.2], some [.ints .u64 16 q.1, .ints .u64 16 q.2]] =
   (some (Ex.exit 0, [.s (.ptr 2 0)],
     [some [.ints .u8 32 k], some [.ints .u64 16 x], some [.ints .u64 16 p.1, .ints .u64 16 p.2], some [.ints .u64 16 q.1, .ints .u64 16 q.2]])) := by kernel_rfl

def Inv16 (p : L2) : Prop := ops3.g16 p.1 = true ∧ ops3.g16 p.2 = true

theorem ops3_g16 : ops3.g16 = g16 := by
  rw [ops3_ops2, ops2_ops]
  exact ops_g16
theorem ops3_g32 : ops3.g32 = g32 := by
  rw [ops3_ops2, ops2_ops]
  exact ops_g32
theorem ops3_smR : ops3.smR = fun n => nb (n % 4294967296) := by
  rw [ops3_ops2, ops2_ops]
  exact ops_smR
theorem ops3_mulR : ops3.mulR = fun a b => nb (fv (vB 65536 a * vB 65536 b)) := by
  rw [ops3_ops2, ops2_ops]
  exact ops_mulR
theorem ops3_ofR : ops3.ofR = fun k => nb (vB 256 k % 57896044618658097711785492504343953926634992332820282019728792003956564819968) := by
  rw [ops3_ops2, ops2_ops]
  exact ops_ofR
theorem ops3_bytesR : ops3.bytesR = fun a => dB 256 32 (vB 65536 a % P255) := by
  rw [ops3_ops2, ops2_ops]
  exact ops_bytesR
theorem ops3_invR : ops3.invR = fun a => nb (pwV (vB 65536 a) (P255 - 2)) := by
  rw [ops3_ops2]
  exact ops2_invR

theorem inv16_dbl (p : L2) : Inv16 (ops3.dblR p) := by
  unfold Inv16
  rw [ops3_g16, ops3_dblR]
  unfold dblLR
  simp only [ops_mulR, g16_nb, and_self]
theorem inv16_sum (u : List Nat) (p q : L2) : Inv16 (ops3.sumR u p q) := by
  unfold Inv16
  rw [ops3_g16, ops3_sumR]
  unfold addLR
  simp only [ops_mulR, g16_nb, and_self]
theorem g16_sm (n : Nat) : ops3.g16 (ops3.smR n) = true := by
  rw [ops3_g16, ops3_smR]
  exact g16_nb _
theorem g16_z : ops3.g16 z16 = true := by
  rw [ops3_g16]
  decide

theorem inv16_ld {x k : List Nat} (hx : ops3.g16 x = true) : ∀ i, Inv16 (ldR ops3 x k i).1 ∧ Inv16 (ldR ops3 x k i).2
  | 0 => ⟨⟨g16_sm 1, g16_z⟩, ⟨hx, g16_sm 1⟩⟩
  | i + 1 => by
    rw [show ldR ops3 x k (i + 1) = rndR ops3 x (bitR k (255 - i)) (ldR ops3 x k i).1 (ldR ops3 x k i).2 from rfl]
    unfold rndR
    cases bitR k (255 - i)
    · exact ⟨inv16_dbl _, inv16_sum _ _ _⟩
    · exact ⟨inv16_sum _ _ _, inv16_dbl _⟩

theorem rnd_ldR (x k : List Nat) (i : Nat) : ldR ops3 x k (i + 1) = cond (bitR k (255 - i)) (ops3.sumR x (ldR ops3 x k i).1 (ldR ops3 x k i).2, ops3.dblR (ldR ops3 x k i).2) (ops3.dblR (ldR ops3 x k i).1, ops3.sumR x (ldR ops3 x k i).1 (ldR ops3 x k i).2) := rfl

theorem loopsX0 : LoopsOk Try.prog ⟨Try.f64.ntmps, 7, [(2, X2)]⟩ (lb 0 Try.f64) := by
  refine loopsOk_of ?_
  have e : loopsIn [(2, X2)] (lb 0 Try.f64) = [(2, .loop (lb 2 Try.f64), X2)] := by kernel_rfl
  simp only [e]
  intro x hx
  simp only [List.mem_cons, List.not_mem_nil, or_false] at hx
  rcases hx with rfl
  · exact lokX2

theorem lokX0 : LOk Try.prog Try.f64.ntmps (.block 0 (.loop (lb 0 Try.f64))) (X0 ops3) := by
  refine lokR (fs := envQ ops3) (xs := []) (m := .down) (fuel := 7) (sums := [(2, X2)]) envQ_ok mixedF loopsX0 ?_
  intro args hin t e vs hout h hg
  unfold X0 at h
  simp only at h
  split at h
  · rename_i k x y z v w
    simp only [Option.some.injEq] at h
    subst h
    obtain ⟨hc, hgt⟩ := Tr.needs_get hg
    cases hgt
    have hx : ops3.g16 x = true := hc (ops3.g16 x) (by simp)
    have e1 : y = ops3.smR 1 := of_decide_eq_true (hc (decide (y = ops3.smR 1)) (by simp))
    have e2 : z = z16 := of_decide_eq_true (hc (decide (z = z16)) (by simp))
    have e3 : v = x := of_decide_eq_true (hc (decide (v = x)) (by simp))
    have e4 : w = ops3.smR 1 := of_decide_eq_true (hc (decide (w = ops3.smR 1)) (by simp))
    clear hc hg
    subst e1 e2 e3 e4
    refine ⟨256, fun i => ([.s (.ptr 0 0), .s (.ptr 1 0), .s (.ptr 2 0), .s (.ptr 3 0), downV 256 i], [some [.ints .u8 32 k], some [.ints .u64 16 v], some [.ints .u64 16 (ldR ops3 v k i).1.1, .ints .u64 16 (ldR ops3 v k i).1.2], some [.ints .u64 16 (ldR ops3 v k i).2.1, .ints .u64 16 (ldR ops3 v k i).2.2]]), .exit 0, rfl, fun i hi => ?_, ?_, rfl⟩
    · obtain ⟨h1, h2⟩ := inv16_ld (k := k) hx i
      have hr := rnd_ldR v k i
      simp only [List.length_cons, List.length_nil]
      by_cases h255 : i = 255
      · subst h255
        rw [show downV 256 255 = .s (.nat .i64 0) from rfl, rx0]
        rw [show 255 - 255 = 0 from rfl] at hr
        rw [hr]
        refine nd_of ?_ ?_
        · simp only [List.mem_cons, List.not_mem_nil, or_false, forall_eq_or_imp, forall_eq]
          exact ⟨h1.1, h1.2, h2.1, h2.2, hx⟩
        · cases bitR k 0
          · refine cond_f rfl (nd_of ?_ rfl)
            simp only [List.mem_cons, List.not_mem_nil, or_false, forall_eq_or_imp, forall_eq]
            exact ⟨h1.1, h1.2⟩
          · refine cond_t rfl (nd_of ?_ rfl)
            simp only [List.mem_cons, List.not_mem_nil, or_false, forall_eq_or_imp, forall_eq]
            exact ⟨h2.1, h2.2⟩
      · obtain ⟨j, hj⟩ : ∃ j, 255 - i = j + 1 := ⟨254 - i, by omega⟩
        have e1 : downV 256 i = .s (.nat .i64 (j + 1)) := by unfold downV; rw [if_pos hi, show 256 - 1 - i = j + 1 by omega]
        have e2 : downV 256 (i + 1) = .s (.nat .i64 j) := by unfold downV; rw [if_pos (by omega), show 256 - 1 - (i + 1) = j by omega]
        rw [e1, e2, rx1]
        rw [hj] at hr
        rw [hr]
        refine nd_of ?_ ?_
        · simp only [List.mem_cons, List.not_mem_nil, or_false, forall_eq_or_imp, forall_eq, decide_eq_true_eq]
          exact ⟨by omega, by omega, h1.1, h1.2, h2.1, h2.2, hx⟩
        · cases bitR k (j + 1)
          · refine cond_f rfl (nd_of ?_ rfl)
            simp only [List.mem_cons, List.not_mem_nil, or_false, forall_eq_or_imp, forall_eq]
            exact ⟨h1.1, h1.2⟩
          · refine cond_t rfl (nd_of ?_ rfl)
            simp only [List.mem_cons, List.not_mem_nil, or_false, forall_eq_or_imp, forall_eq]
            exact ⟨h2.1, h2.2⟩
    · simp only [List.length_cons, List.length_nil]
      rw [show downV 256 256 = .s (.int (Int.negSucc 0)) from rfl, rxm]
  · cases h

theorem loops64 : LoopsOk Try.prog ⟨Try.f64.ntmps, 7, [(0, X0 ops3)]⟩ (bodyOf Try.f64) := by
  refine loopsOk_of ?_
  have e : loopsIn [(0, X0 ops3)] (bodyOf Try.f64) = [(0, .loop (lb 0 Try.f64), X0 ops3)] := by kernel_rfl
  simp only [e]
  intro x hx
  simp only [List.mem_cons, List.not_mem_nil, or_false] at hx
  rcases hx with rfl
  · exact lokX0

def clR (k : List Nat) : List Nat :=
  (k.set 0 ((k.getD 0 0 + 256 - k.getD 0 0 % 8) % 256)).set 31 (((k.set 0 ((k.getD 0 0 + 256 - k.getD 0 0 % 8) % 256)).getD 31 0 % 64 + 64) % 256)

def mlR (o : Ops3) (k u : List Nat) : List Nat :=
  o.bytesR (o.mulR (ldR o (o.ofR u) (clR k) 256).1.1 (o.invR (ldR o (o.ofR u) (clR k) 256).1.2))

set_option maxRecDepth 100000 in
theorem r64 (o : Ops3) (k u : List Nat) : runL Try.prog (envQ o) [] .down 7 [(0, X0 o)] Try.f64 [.agg [.ints .u8 32 k], .agg [.ints .u8 32 u]] [] =
    nd [o.g32 u, o.g16 (o.ofR u), decide (o.smR 1 = o.smR 1), decide (o.ofR u = o.ofR u), decide (o.smR 1 = o.smR 1), o.g16 (ldR o (o.ofR u) (clR k) 256).1.2, o.g16 (ldR o (o.ofR u) (clR k) 256).1.1, o.g16 (o.invR (ldR o (o.ofR u) (clR k) 256).1.2), o.g16 (o.mulR (ldR o (o.ofR u) (clR k) 256).1.1 (o.invR (ldR o (o.ofR u) (clR k) 256).1.2))] (some (.agg [.ints .u8 32 (mlR o k u)], [])) := by kernel_rfl

def F64 : FSem := ⟨false, fun args hin => match args, hin with
  | [.agg [.ints .u8 32 k], .agg [.ints .u8 32 u]], [] => some (.need (g32 u) (.leaf (.agg [.ints .u8 32 (mlR ops3 k u)], [])))
  | _, _ => none⟩

theorem ok64 : FOk Try.prog 64 F64 := by
  refine fokL (fs := envQ ops3) (xs := []) (m := .down) (fuel := 7) (sums := [(0, X0 ops3)]) envQ_ok fn64 loops64 ?_
  intro args hin t r h hg
  unfold F64 at h
  simp only at h
  split at h
  · rename_i k u
    cases h
    obtain ⟨hl, hg⟩ := need1 hg
    cases hg
    rw [r64]
    have hx : ops3.g16 (ops3.ofR u) = true := by
      rw [ops3_g16, ops3_ofR]
      exact g16_nb _
    obtain ⟨h1, h2⟩ := inv16_ld (k := clR k) hx 256
    have hi : ∀ a, ops3.g16 (ops3.invR a) = true := fun a => by
      rw [ops3_g16, ops3_invR]
      exact g16_nb _
    have hm : ∀ a b, ops3.g16 (ops3.mulR a b) = true := fun a b => by
      rw [ops3_g16, ops3_mulR]
      exact g16_nb _
    refine nd_of ?_ rfl
    simp only [List.mem_cons, List.not_mem_nil, or_false, forall_eq_or_imp, forall_eq, decide_eq_true_eq, true_and]
    exact ⟨by rw [ops3_g32]; exact hl, hx, h1.2, h1.1, hi _, hm _ _⟩
  · cases h

end Go.Proofs.Yteaoegdmhoepiaa

namespace Go.Proofs.Yteaoegdmhoepiaa
open Go

theorem ed_clos (d x1 y1 x2 y2 : Fq) (h1 : x1*x1 + y1*y1 = 1 + d*x1*x1*y1*y1) (h2 : x2*x2 + y2*y2 = 1 + d*x2*x2*y2*y2) :
  let t := d*x1*x2*y1*y2
  let n := x1*y2+x2*y1
  let m := y1*y2-x1*x2
  n*n*(1-t)*(1-t) + m*m*(1+t)*(1+t) = (1-t)*(1-t)*(1+t)*(1+t) + d*n*n*m*m := by
  intro t n m
  grind -lia

theorem ed_assoc_x (d x1 y1 x2 y2 x3 y3 : Fq) (h1 : x1*x1 + y1*y1 = 1 + d*x1*x1*y1*y1) (h2 : x2*x2 + y2*y2 = 1 + d*x2*x2*y2*y2) (h3 : x3*x3 + y3*y3 = 1 + d*x3*x3*y3*y3) :
  let t := d*x1*x2*y1*y2
  let n := x1*y2+x2*y1
  let m := y1*y2-x1*x2
  let s := d*x2*x3*y2*y3
  let p := x2*y3+x3*y2
  let q := y2*y3-x2*x3
  (n*y3*(1-t) + x3*m*(1+t)) * ((1+s)*(1-s) + d*x1*y1*p*q) = (x1*q*(1+s) + p*y1*(1-s)) * ((1+t)*(1-t) + d*n*m*x3*y3) := by
  intro t n m s p q
  grind -lia (ringSteps := 1000000)

theorem ed_assoc_y (d x1 y1 x2 y2 x3 y3 : Fq) (h1 : x1*x1 + y1*y1 = 1 + d*x1*x1*y1*y1) (h2 : x2*x2 + y2*y2 = 1 + d*x2*x2*y2*y2) (h3 : x3*x3 + y3*y3 = 1 + d*x3*x3*y3*y3) :
  let t := d*x1*x2*y1*y2
  let n := x1*y2+x2*y1
  let m := y1*y2-x1*x2
  let s := d*x2*x3*y2*y3
  let p := x2*y3+x3*y2
  let q := y2*y3-x2*x3
  (m*y3*(1+t) - n*x3*(1-t)) * ((1+s)*(1-s) - d*x1*y1*p*q) = (y1*q*(1+s) - x1*p*(1-s)) * ((1+t)*(1-t) - d*n*m*x3*y3) := by
  intro t n m s p q
  grind -lia (ringSteps := 1000000)

end Go.Proofs.Yteaoegdmhoepiaa

namespace Go.Proofs.Yteaoegdmhoepiaa
open Go
namespace Fq

/-- d is no square. -/
def NS (d : Fq) : Prop := ∀ r : Fq, r * r ≠ d

theorem eq_zero {a b : Fq} (h : a * b = 0) (ha : a ≠ 0) : b = 0 := by
  by_cases hb : b = 0
  · exact hb
  · exact absurd h (mul_ne ha hb)

theorem ns_div {d s t : Fq} (hd : NS d) (h : s * s = d * (t * t)) : t = 0 := by
  by_cases ht : t = 0
  · exact ht
  · have hi := mul_inv ht
    refine absurd ?_ (hd (s * t⁻¹))
    have e : s * t⁻¹ * (s * t⁻¹) = s * s * (t⁻¹ * t⁻¹) := by grind -lia
    rw [e, h]
    grind -lia

theorem den_aux1 {d x1 y1 x2 y2 e : Fq} (h1 : x1*x1 + y1*y1 = 1 + d*x1*x1*y1*y1) (h2 : x2*x2 + y2*y2 = 1 + d*x2*x2*y2*y2) (he : e = d*x1*x2*y1*y2) (h : e * e = 1) :
    (x1 + e * y1) * (x1 + e * y1) = d * ((x1 * y1 * (x2 + y2)) * (x1 * y1 * (x2 + y2))) := by
  have a1 : d*x1*x1*y1*y1*(x2*x2+y2*y2) = d*x1*x1*y1*y1 + e*e := by rw [h2, he]; grind -lia
  have a2 : (x1 + e * y1) * (x1 + e * y1) = x1*x1 + (e*e)*(y1*y1) + (1+1)*(x1*y1)*e := by grind -lia
  rw [a2, h]
  have a3 : d * ((x1 * y1 * (x2 + y2)) * (x1 * y1 * (x2 + y2))) = d*x1*x1*y1*y1*(x2*x2+y2*y2) + (1+1)*(x1*y1)*(d*x1*x2*y1*y2) := by grind -lia
  rw [a3, a1, h, ← he]
  grind -lia

theorem den_ne {d x1 y1 x2 y2 e : Fq} (hd : NS d) (h1 : x1*x1 + y1*y1 = 1 + d*x1*x1*y1*y1) (h2 : x2*x2 + y2*y2 = 1 + d*x2*x2*y2*y2) (he : e = d*x1*x2*y1*y2) : e * e ≠ 1 := fun h => by
  have hx : x1 * y1 ≠ 0 := fun h0 => by
    have : e = 0 := by rw [he]; grind -lia
    rw [this] at h
    exact zero_ne_one (by grind -lia)
  have b1 := ns_div hd (den_aux1 h1 h2 he h)
  have b2 := eq_zero b1 hx
  have h2' : x2*x2 + (-y2)*(-y2) = 1 + d*x2*x2*(-y2)*(-y2) := by grind -lia
  have b3 := ns_div hd (den_aux1 (e := -e) h1 h2' (by grind -lia) (by grind -lia))
  have b4 := eq_zero b3 hx
  have b5 : (1 + 1) * x2 = 0 := by grind -lia
  have b6 := eq_zero b5 (fun e => two_ne (by grind -lia))
  have : e = 0 := by rw [he, b6]; grind -lia
  rw [this] at h
  exact zero_ne_one (by grind -lia)

theorem den_p {d x1 y1 x2 y2 : Fq} (hd : NS d) (h1 : x1*x1 + y1*y1 = 1 + d*x1*x1*y1*y1) (h2 : x2*x2 + y2*y2 = 1 + d*x2*x2*y2*y2) : 1 + d*x1*x2*y1*y2 ≠ 0 := fun h =>
  den_ne hd h1 h2 rfl (by
    generalize d*x1*x2*y1*y2 = e at h
    have : e = -1 := by grind -lia
    rw [this]
    grind -lia)
theorem den_m {d x1 y1 x2 y2 : Fq} (hd : NS d) (h1 : x1*x1 + y1*y1 = 1 + d*x1*x1*y1*y1) (h2 : x2*x2 + y2*y2 = 1 + d*x2*x2*y2*y2) : 1 - d*x1*x2*y1*y2 ≠ 0 := fun h =>
  den_ne hd h1 h2 rfl (by
    generalize d*x1*x2*y1*y2 = e at h
    have : e = 1 := by grind -lia
    rw [this]
    grind -lia)

theorem frac {n m a b : Fq} (ha : a ≠ 0) (hb : b ≠ 0) (h : n * b = m * a) : n * a⁻¹ = m * b⁻¹ := by
  have h1 := mul_inv ha
  have h2 := mul_inv hb
  generalize a⁻¹ = A at *
  generalize b⁻¹ = B at *
  have e1 : n * A = n * b * (A * B) := by grind -lia
  rw [e1, h]
  grind -lia

structure Pt (d : Fq) where
  x : Fq
  y : Fq
  on : x*x + y*y = 1 + d*x*x*y*y

theorem Pt.ext {d : Fq} {p q : Pt d} (hx : p.x = q.x) (hy : p.y = q.y) : p = q := by
  cases p; cases q
  cases hx; cases hy
  rfl

theorem clos {d x1 y1 x2 y2 A B : Fq} (h1 : x1*x1 + y1*y1 = 1 + d*x1*x1*y1*y1) (h2 : x2*x2 + y2*y2 = 1 + d*x2*x2*y2*y2)
    (hA : (1 + d*x1*x2*y1*y2) * A = 1) (hB : (1 - d*x1*x2*y1*y2) * B = 1) :
    ((x1*y2+x2*y1)*A)*((x1*y2+x2*y1)*A) + ((y1*y2-x1*x2)*B)*((y1*y2-x1*x2)*B) = 1 + d*((x1*y2+x2*y1)*A)*((x1*y2+x2*y1)*A)*((y1*y2-x1*x2)*B)*((y1*y2-x1*x2)*B) := by
  have h := ed_clos d x1 y1 x2 y2 h1 h2
  simp only at h
  generalize d*x1*x2*y1*y2 = t at *
  generalize x1*y2+x2*y1 = n at *
  generalize y1*y2-x1*x2 = m at *
  clear h1 h2
  have e1 : n*A*(n*A) + m*B*(m*B) = (n*n*(1-t)*(1-t) + m*m*(1+t)*(1+t)) * (A*A*B*B) := by
    have : (n*n*(1-t)*(1-t) + m*m*(1+t)*(1+t)) * (A*A*B*B) = n*n*A*A*(((1-t)*B)*((1-t)*B)) + m*m*B*B*(((1+t)*A)*((1+t)*A)) := by grind -lia
    rw [this, hA, hB]
    grind -lia
  have e2 : ((1-t)*(1-t)*(1+t)*(1+t) + d*n*n*m*m) * (A*A*B*B) = ((1-t)*B)*((1-t)*B)*(((1+t)*A)*((1+t)*A)) + d*(n*A)*(n*A)*(m*B)*(m*B) := by grind -lia
  rw [e1, h, e2, hA, hB]
  grind -lia

noncomputable def add {d : Fq} (hd : NS d) (p q : Pt d) : Pt d :=
  ⟨(p.x*q.y+q.x*p.y)*(1 + d*p.x*q.x*p.y*q.y)⁻¹, (p.y*q.y-p.x*q.x)*(1 - d*p.x*q.x*p.y*q.y)⁻¹,
    clos p.on q.on (mul_inv (den_p hd p.on q.on)) (mul_inv (den_m hd p.on q.on))⟩

def zeroP (d : Fq) : Pt d := ⟨0, 1, by grind -lia⟩
def negP {d : Fq} (p : Pt d) : Pt d := ⟨-p.x, p.y, by have := p.on; grind -lia⟩

theorem addP_comm {d : Fq} (hd : NS d) (p q : Pt d) : add hd p q = add hd q p := by
  refine Pt.ext ?_ ?_
  · show (p.x*q.y+q.x*p.y)*(1 + d*p.x*q.x*p.y*q.y)⁻¹ = (q.x*p.y+p.x*q.y)*(1 + d*q.x*p.x*q.y*p.y)⁻¹
    rw [show d*q.x*p.x*q.y*p.y = d*p.x*q.x*p.y*q.y by grind -lia, add_comm (q.x*p.y)]
  · show (p.y*q.y-p.x*q.x)*(1 - d*p.x*q.x*p.y*q.y)⁻¹ = (q.y*p.y-q.x*p.x)*(1 - d*q.x*p.x*q.y*p.y)⁻¹
    rw [show d*q.x*p.x*q.y*p.y = d*p.x*q.x*p.y*q.y by grind -lia, mul_comm q.y, mul_comm q.x]

theorem one_mul (a : Fq) : 1 * a = a := by rw [mul_comm, mul_one]

theorem addP_zero {d : Fq} (hd : NS d) (p : Pt d) : add hd p (zeroP d) = p := by
  refine Pt.ext ?_ ?_
  · show (p.x*1+0*p.y)*(1 + d*p.x*0*p.y*1)⁻¹ = p.x
    rw [show (1 : Fq) + d*p.x*0*p.y*1 = 1 by grind -lia, inv_one]
    grind -lia
  · show (p.y*1-p.x*0)*(1 - d*p.x*0*p.y*1)⁻¹ = p.y
    rw [show (1 : Fq) - d*p.x*0*p.y*1 = 1 by grind -lia, inv_one]
    grind -lia

theorem addP_neg {d : Fq} (hd : NS d) (p : Pt d) : add hd p (negP p) = zeroP d := by
  have hp := p.on
  refine Pt.ext ?_ ?_
  · show (p.x*p.y+(-p.x)*p.y)*(1 + d*p.x*(-p.x)*p.y*p.y)⁻¹ = 0
    generalize (1 + d*p.x*(-p.x)*p.y*p.y)⁻¹ = z
    grind -lia
  · show (p.y*p.y-p.x*(-p.x))*(1 - d*p.x*(-p.x)*p.y*p.y)⁻¹ = 1
    have e : p.y*p.y-p.x*(-p.x) = 1 - d*p.x*(-p.x)*p.y*p.y := by grind -lia
    have hne := den_m hd p.on (negP p).on
    rw [e]
    exact mul_inv hne

theorem as_x {d x1 y1 x2 y2 x3 y3 A B A' B' E E' : Fq} (h1 : x1*x1 + y1*y1 = 1 + d*x1*x1*y1*y1) (h2 : x2*x2 + y2*y2 = 1 + d*x2*x2*y2*y2) (h3 : x3*x3 + y3*y3 = 1 + d*x3*x3*y3*y3)
    (hA : (1 + d*x1*x2*y1*y2) * A = 1) (hB : (1 - d*x1*x2*y1*y2) * B = 1)
    (hA' : (1 + d*x2*x3*y2*y3) * A' = 1) (hB' : (1 - d*x2*x3*y2*y3) * B' = 1)
    (hE : E = 1 + d*((x1*y2+x2*y1)*A)*x3*((y1*y2-x1*x2)*B)*y3) (hE' : E' = 1 + d*x1*((x2*y3+x3*y2)*A')*y1*((y2*y3-x2*x3)*B')) (hn : E ≠ 0) (hn' : E' ≠ 0) :
    ((x1*y2+x2*y1)*A*y3 + x3*((y1*y2-x1*x2)*B)) * E⁻¹ = (x1*((y2*y3-x2*x3)*B') + (x2*y3+x3*y2)*A'*y1) * E'⁻¹ := by
  have h := ed_assoc_x d x1 y1 x2 y2 x3 y3 h1 h2 h3
  simp only at h
  refine frac hn hn' ?_
  subst hE
  subst hE'
  clear hn hn' h1 h2 h3
  generalize d*x1*x2*y1*y2 = t at *
  generalize x1*y2+x2*y1 = n at *
  generalize y1*y2-x1*x2 = m at *
  generalize d*x2*x3*y2*y3 = s at *
  generalize x2*y3+x3*y2 = p at *
  generalize y2*y3-x2*x3 = q at *
  have e1 : n*A*y3 + x3*(m*B) = (n*y3*(1-t) + x3*m*(1+t)) * (A*B) := by
    have : (n*y3*(1-t) + x3*m*(1+t)) * (A*B) = n*A*y3*((1-t)*B) + x3*(m*B)*((1+t)*A) := by grind -lia
    rw [this, hA, hB]; grind -lia
  have e2 : 1 + d*(n*A)*x3*(m*B)*y3 = ((1+t)*(1-t) + d*n*m*x3*y3) * (A*B) := by
    have : ((1+t)*(1-t) + d*n*m*x3*y3) * (A*B) = ((1+t)*A)*((1-t)*B) + d*(n*A)*x3*(m*B)*y3 := by grind -lia
    rw [this, hA, hB]; grind -lia
  have e3 : x1*(q*B') + p*A'*y1 = (x1*q*(1+s) + p*y1*(1-s)) * (A'*B') := by
    have : (x1*q*(1+s) + p*y1*(1-s)) * (A'*B') = x1*(q*B')*((1+s)*A') + p*A'*y1*((1-s)*B') := by grind -lia
    rw [this, hA', hB']; grind -lia
  have e4 : 1 + d*x1*(p*A')*y1*(q*B') = ((1+s)*(1-s) + d*x1*y1*p*q) * (A'*B') := by
    have : ((1+s)*(1-s) + d*x1*y1*p*q) * (A'*B') = ((1+s)*A')*((1-s)*B') + d*x1*(p*A')*y1*(q*B') := by grind -lia
    rw [this, hA', hB']; grind -lia
  rw [e1, e2, e3, e4]
  generalize n*y3*(1-t) + x3*m*(1+t) = N at *
  generalize (1+t)*(1-t) + d*n*m*x3*y3 = D at *
  generalize x1*q*(1+s) + p*y1*(1-s) = N' at *
  generalize (1+s)*(1-s) + d*x1*y1*p*q = D' at *
  have : N * (A*B) * (D' * (A'*B')) = N * D' * (A*B*(A'*B')) := by grind -lia
  rw [this, h]
  grind -lia

theorem as_y {d x1 y1 x2 y2 x3 y3 A B A' B' E E' : Fq} (h1 : x1*x1 + y1*y1 = 1 + d*x1*x1*y1*y1) (h2 : x2*x2 + y2*y2 = 1 + d*x2*x2*y2*y2) (h3 : x3*x3 + y3*y3 = 1 + d*x3*x3*y3*y3)
    (hA : (1 + d*x1*x2*y1*y2) * A = 1) (hB : (1 - d*x1*x2*y1*y2) * B = 1)
    (hA' : (1 + d*x2*x3*y2*y3) * A' = 1) (hB' : (1 - d*x2*x3*y2*y3) * B' = 1)
    (hE : E = 1 - d*((x1*y2+x2*y1)*A)*x3*((y1*y2-x1*x2)*B)*y3) (hE' : E' = 1 - d*x1*((x2*y3+x3*y2)*A')*y1*((y2*y3-x2*x3)*B')) (hn : E ≠ 0) (hn' : E' ≠ 0) :
    ((y1*y2-x1*x2)*B*y3 - (x1*y2+x2*y1)*A*x3) * E⁻¹ = (y1*((y2*y3-x2*x3)*B') - x1*((x2*y3+x3*y2)*A')) * E'⁻¹ := by
  have h := ed_assoc_y d x1 y1 x2 y2 x3 y3 h1 h2 h3
  simp only at h
  refine frac hn hn' ?_
  subst hE
  subst hE'
  clear hn hn' h1 h2 h3
  generalize d*x1*x2*y1*y2 = t at *
  generalize x1*y2+x2*y1 = n at *
  generalize y1*y2-x1*x2 = m at *
  generalize d*x2*x3*y2*y3 = s at *
  generalize x2*y3+x3*y2 = p at *
  generalize y2*y3-x2*x3 = q at *
  have e1 : m*B*y3 - n*A*x3 = (m*y3*(1+t) - n*x3*(1-t)) * (A*B) := by
    have : (m*y3*(1+t) - n*x3*(1-t)) * (A*B) = m*B*y3*((1+t)*A) - n*A*x3*((1-t)*B) := by grind -lia
    rw [this, hA, hB]; grind -lia
  have e2 : 1 - d*(n*A)*x3*(m*B)*y3 = ((1+t)*(1-t) - d*n*m*x3*y3) * (A*B) := by
    have : ((1+t)*(1-t) - d*n*m*x3*y3) * (A*B) = ((1+t)*A)*((1-t)*B) - d*(n*A)*x3*(m*B)*y3 := by grind -lia
    rw [this, hA, hB]; grind -lia
  have e3 : y1*(q*B') - x1*(p*A') = (y1*q*(1+s) - x1*p*(1-s)) * (A'*B') := by
    have : (y1*q*(1+s) - x1*p*(1-s)) * (A'*B') = y1*(q*B')*((1+s)*A') - x1*(p*A')*((1-s)*B') := by grind -lia
    rw [this, hA', hB']; grind -lia
  have e4 : 1 - d*x1*(p*A')*y1*(q*B') = ((1+s)*(1-s) - d*x1*y1*p*q) * (A'*B') := by
    have : ((1+s)*(1-s) - d*x1*y1*p*q) * (A'*B') = ((1+s)*A')*((1-s)*B') - d*x1*(p*A')*y1*(q*B') := by grind -lia
    rw [this, hA', hB']; grind -lia
  rw [e1, e2, e3, e4]
  generalize m*y3*(1+t) - n*x3*(1-t) = N at *
  generalize (1+t)*(1-t) - d*n*m*x3*y3 = D at *
  generalize y1*q*(1+s) - x1*p*(1-s) = N' at *
  generalize (1+s)*(1-s) - d*x1*y1*p*q = D' at *
  have : N * (A*B) * (D' * (A'*B')) = N * D' * (A*B*(A'*B')) := by grind -lia
  rw [this, h]
  grind -lia

theorem addP_assoc {d : Fq} (hd : NS d) (p q r : Pt d) : add hd (add hd p q) r = add hd p (add hd q r) := by
  have hA := mul_inv (den_p hd p.on q.on)
  have hB := mul_inv (den_m hd p.on q.on)
  have hA' := mul_inv (den_p hd q.on r.on)
  have hB' := mul_inv (den_m hd q.on r.on)
  refine Pt.ext ?_ ?_
  · exact as_x p.on q.on r.on hA hB hA' hB' rfl rfl (den_p hd (add hd p q).on r.on) (den_p hd p.on (add hd q r).on)
  · exact as_y p.on q.on r.on hA hB hA' hB' rfl rfl (den_m hd (add hd p q).on r.on) (den_m hd p.on (add hd q r).on)

/-- So many times a point. -/
noncomputable def smul {d : Fq} (hd : NS d) : Nat → Pt d → Pt d
  | 0, _ => zeroP d
  | n + 1, p => add hd (smul hd n p) p

theorem zero_addP {d : Fq} (hd : NS d) (p : Pt d) : add hd (zeroP d) p = p := by rw [addP_comm, addP_zero]

theorem smul_one {d : Fq} (hd : NS d) (p : Pt d) : smul hd 1 p = p := zero_addP hd p

theorem smul_add {d : Fq} (hd : NS d) (m n : Nat) (p : Pt d) : smul hd (m + n) p = add hd (smul hd m p) (smul hd n p) := by
  induction n with
  | zero => exact (addP_zero hd _).symm
  | succ n ih =>
    show add hd (smul hd (m + n) p) p = add hd (smul hd m p) (add hd (smul hd n p) p)
    rw [ih, addP_assoc]

theorem smul_mul {d : Fq} (hd : NS d) (m n : Nat) (p : Pt d) : smul hd (m * n) p = smul hd m (smul hd n p) := by
  induction m with
  | zero => rw [Nat.zero_mul]; rfl
  | succ m ih => rw [Nat.succ_mul, smul_add, ih]; rfl

theorem smul_zero {d : Fq} (hd : NS d) (n : Nat) : smul hd n (zeroP d) = zeroP d := by
  induction n with
  | zero => rfl
  | succ n ih => show add hd (smul hd n (zeroP d)) (zeroP d) = zeroP d; rw [ih, addP_zero]

theorem smul_sum {d : Fq} (hd : NS d) (n : Nat) (p q : Pt d) : smul hd n (add hd p q) = add hd (smul hd n p) (smul hd n q) := by
  induction n with
  | zero => exact (addP_zero hd _).symm
  | succ n ih =>
    show add hd (smul hd n (add hd p q)) (add hd p q) = add hd (add hd (smul hd n p) p) (add hd (smul hd n q) q)
    rw [ih, addP_assoc, addP_assoc, ← addP_assoc hd (smul hd n q) p, addP_comm hd (smul hd n q) p, addP_assoc hd p]

end Fq
end Go.Proofs.Yteaoegdmhoepiaa

namespace Go.Proofs.Yteaoegdmhoepiaa
open Go
namespace Fq

abbrev Rg := Fq × Fq

def dblR (p : Rg) : Rg :=
  ((p.1 * p.1 - p.2 * p.2) * (p.1 * p.1 - p.2 * p.2), 4 * (p.1 * p.2) * (p.1 * p.1 + p.2 * p.2 + 486662 * (p.1 * p.2)))
def addR (u : Fq) (p q : Rg) : Rg :=
  ((p.1 * q.1 - p.2 * q.2) * (p.1 * q.1 - p.2 * q.2), u * ((p.1 * q.2 - p.2 * q.1) * (p.1 * q.2 - p.2 * q.1)))

/-- The code's sums. -/
def dblC (p : Rg) : Rg :=
  let s := (p.1 + p.2) * (p.1 + p.2)
  let m := (p.1 - p.2) * (p.1 - p.2)
  let e := s - m
  (s * m, e * (s + 121665 * e))
def addC (u : Fq) (p q : Rg) : Rg :=
  let l := (q.1 - q.2) * (p.1 + p.2)
  let r := (q.1 + q.2) * (p.1 - p.2)
  ((l + r) * (l + r), u * (l - r) * (l - r))

theorem dblC_eq (p : Rg) : dblC p = dblR p := by
  unfold dblC dblR
  refine Prod.ext ?_ ?_ <;> simp only <;> grind -lia

theorem addC_eq (u : Fq) (p q : Rg) : addC u p q = (4 * (addR u p q).1, 4 * (addR u p q).2) := by
  unfold addC addR
  refine Prod.ext ?_ ?_ <;> simp only <;> grind -lia

/-- The curve, or its twist. -/
structure Good (ε d : Fq) : Prop where
  e : ε * ε = 1
  k : ε * 486662 - 2 = d * (ε * 486662 + 2)
  ns : NS d

def Rep (ε y : Fq) (p : Rg) : Prop := ∃ s : Fq, s ≠ 0 ∧ p.1 = ε * s * (1 + y) ∧ p.2 = s * (1 - y)

theorem c_ne {n m : Nat} (h : n % P255 ≠ m % P255) : c n ≠ c m := fun e => h (c_eq.1 e)
theorem four_ne : (4 : Fq) ≠ 0 := c_ne (n := 4) (m := 0) (by decide)
theorem two_ne0 : (2 : Fq) ≠ 0 := c_ne (n := 2) (m := 0) (by decide)

theorem kne {ε d : Fq} (h : Good ε d) : ε * 486662 + 2 ≠ 0 := fun e => four_ne (by have := h.k; grind -lia)

theorem k_id {a d Y : Fq} (hk : a - 2 = d * (a + 2)) : (a + 2) * (1 - d * Y) = (a + 2) - (a - 2) * Y := by
  rw [hk]
  grind -lia

theorem dbl_id {ε d x y s t y3 : Fq} (he : ε * ε = 1) (hk : ε * 486662 - 2 = d * (ε * 486662 + 2)) (hc : x*x + y*y = 1 + d*x*x*y*y) (ht : t = d*x*x*y*y) (h3 : y3 * (1 - t) = y*y - x*x) :
    dblR (ε * s * (1 + y), s * (1 - y)) = (ε * (2 * ε * (s*s*s*s) * (ε * 486662 + 2) * (1 - d*(y*y)) * (1 - t)) * (1 + y3), 2 * ε * (s*s*s*s) * (ε * 486662 + 2) * (1 - d*(y*y)) * (1 - t) * (1 - y3)) := by
  unfold dblR
  have hk2 : (ε * 486662 + 2) * (1 - d) = 4 := by grind -lia
  have hx2 : (1 - d*(y*y)) * (1 - x*x) = y*y*(1-d) := by grind -lia
  have a1 : (1 - t) * (1 + y3) = 2 * (1 - x*x) := by grind -lia
  have a2 : (1 - t) * (1 - y3) = 2 * (1 - y*y) := by grind -lia
  refine Prod.ext ?_ ?_
  · simp only
    have e1 : ε * (2 * ε * (s*s*s*s) * (ε * 486662 + 2) * (1 - d*(y*y)) * (1 - t)) * (1 + y3) = 2 * (ε * ε) * (s*s*s*s) * (ε * 486662 + 2) * (1 - d*(y*y)) * ((1 - t) * (1 + y3)) := by grind -lia
    have e2 : 2 * (ε * ε) * (s*s*s*s) * (ε * 486662 + 2) * (1 - d*(y*y)) * (2 * (1 - x*x)) = 4 * (ε * ε) * (s*s*s*s) * (ε * 486662 + 2) * ((1 - d*(y*y)) * (1 - x*x)) := by grind -lia
    have e3 : 4 * (ε * ε) * (s*s*s*s) * (ε * 486662 + 2) * (y*y*(1-d)) = 4 * (ε * ε) * (s*s*s*s) * (y * y) * ((ε * 486662 + 2) * (1-d)) := by grind -lia
    rw [e1, a1, e2, hx2, e3, hk2, he]
    have e4 : ε * s * (1 + y) * (ε * s * (1 + y)) = (ε * ε) * (s * (1 + y) * (s * (1 + y))) := by grind -lia
    rw [e4, he]
    grind -lia
  · simp only
    have e1 : 2 * ε * (s*s*s*s) * (ε * 486662 + 2) * (1 - d*(y*y)) * (1 - t) * (1 - y3) = 2 * ε * (s*s*s*s) * (ε * 486662 + 2) * (1 - d*(y*y)) * ((1 - t) * (1 - y3)) := by grind -lia
    rw [e1, a2]
    have e4 : ε * s * (1 + y) * (ε * s * (1 + y)) = (ε * ε) * (s * (1 + y) * (s * (1 + y))) := by grind -lia
    rw [e4, he]
    have e5 := k_id (Y := y * y) hk
    clear hk hk2 hx2 hc ht h3 a1 a2 e1 e4
    have e6 : 2 * ε * (s*s*s*s) * (ε * 486662 + 2) * (1 - d*(y*y)) * (2 * (1 - y*y)) = 4 * ε * (s*s*s*s) * (1 - y*y) * ((ε * 486662 + 2) * (1 - d*(y*y))) := by grind -lia
    rw [e6, e5]
    grind -lia

theorem add_id1 {d x1 y1 x2 y2 t : Fq} (h1 : x1*x1 + y1*y1 = 1 + d*x1*x1*y1*y1) (h2 : x2*x2 + y2*y2 = 1 + d*x2*x2*y2*y2) (ht : t = d*x1*x2*y1*y2) :
    (1 - t - y1*y2 + x1*x2) * (1 + t - y1*y2 - x1*x2) * ((y1+y2)*(y1+y2)) = (1 - t + y1*y2 - x1*x2) * (1 + t + y1*y2 + x1*x2) * ((y1-y2)*(y1-y2)) := by
  subst ht
  grind -lia

end Fq
end Go.Proofs.Yteaoegdmhoepiaa

namespace Go.Proofs.Yteaoegdmhoepiaa
open Go
namespace Fq

theorem one_ne : (1 : Fq) ≠ 0 := fun h => zero_ne_one h.symm

theorem cancel {a b k : Fq} (hk : k ≠ 0) (h : k * a = k * b) : a = b := by
  have h2 : k * (a - b) = 0 := by grind -lia
  have := eq_zero h2 hk
  grind -lia

theorem sq_zero {a : Fq} (h : a * a = 0) : a = 0 := by
  by_cases ha : a = 0
  · exact ha
  · exact eq_zero h ha

theorem dy_ne {d y : Fq} (hd : NS d) : 1 - d*(y*y) ≠ 0 := fun h => by
  have hy : y ≠ 0 := fun h0 => zero_ne_one (by grind -lia)
  have hi := mul_inv hy
  refine hd (y⁻¹) ?_
  have e : d = d * (y * y⁻¹) * (y * y⁻¹) := by rw [hi]; grind -lia
  have e1 : d * (y * y) = 1 := by grind -lia
  rw [e]
  have : d * (y * y⁻¹) * (y * y⁻¹) = d*(y*y) * (y⁻¹ * y⁻¹) := by grind -lia
  rw [this, e1]
  grind -lia

theorem add_y {d : Fq} (hd : NS d) (P Q : Pt d) : (add hd P Q).y * (1 - d*P.x*Q.x*P.y*Q.y) = P.y*Q.y - P.x*Q.x := by
  have h := mul_inv (den_m hd P.on Q.on)
  show (P.y*Q.y-P.x*Q.x) * (1 - d*P.x*Q.x*P.y*Q.y)⁻¹ * (1 - d*P.x*Q.x*P.y*Q.y) = _
  generalize (1 - d*P.x*Q.x*P.y*Q.y)⁻¹ = i at *
  generalize 1 - d*P.x*Q.x*P.y*Q.y = k at *
  generalize P.y*Q.y-P.x*Q.x = l at *
  grind -lia

theorem Rep.dbl {ε d : Fq} (g : Good ε d) {P : Pt d} {p : Rg} (h : Rep ε P.y p) : Rep ε (add g.ns P P).y (dblR p) := by
  obtain ⟨s, hs, h1, h2⟩ := h
  have hp : p = (ε * s * (1 + P.y), s * (1 - P.y)) := Prod.ext h1 h2
  have hid := dbl_id (s := s) (x := P.x) g.e g.k P.on rfl (add_y g.ns P P)
  have hε : ε ≠ 0 := fun e => zero_ne_one (by have := g.e; grind -lia)
  refine ⟨2 * ε * (s*s*s*s) * (ε * 486662 + 2) * (1 - d*(P.y*P.y)) * (1 - d*P.x*P.x*P.y*P.y), ?_, ?_, ?_⟩
  · exact mul_ne (mul_ne (mul_ne (mul_ne (mul_ne two_ne0 hε) (mul_ne (mul_ne (mul_ne hs hs) hs) hs)) (kne g)) (dy_ne g.ns)) (den_m g.ns P.on P.on)
  · rw [hp, hid]
  · rw [hp, hid]

theorem sub_P {d : Fq} (hd : NS d) {P Q P0 : Pt d} (h : Q = add hd P P0) : P0 = add hd Q (negP P) := by
  rw [h, addP_comm hd P, addP_assoc, addP_neg, addP_zero]

theorem ee_mul {ε a : Fq} (he : ε * ε = 1) : a = ε * (ε * a) := by grind -lia
theorem add_core {ε y0 y1 y2 y3 t u x1 x2 : Fq} (m1 : 1 - t ≠ 0) (m2 : 1 + t ≠ 0) (n1 : 1 - y0 ≠ 0) (he : ε * ε = 1)
    (h3 : y3 * (1 - t) = y1*y2 - x1*x2) (h0 : y0 * (1 + t) = y1*y2 + x1*x2) (hu : u * (1 - y0) = ε * (1 + y0))
    (hid : (1 - t - y1*y2 + x1*x2) * (1 + t - y1*y2 - x1*x2) * ((y1+y2)*(y1+y2)) = (1 - t + y1*y2 - x1*x2) * (1 + t + y1*y2 + x1*x2) * ((y1-y2)*(y1-y2))) :
    (1 - y3) * ((y1+y2)*(y1+y2)) = ε * u * (1 + y3) * ((y1-y2)*(y1-y2)) := by
  have b1 : 1 - t - y1*y2 + x1*x2 = (1 - y3) * (1 - t) := by clear hid; grind -lia
  have b2 : 1 - t + y1*y2 - x1*x2 = (1 + y3) * (1 - t) := by clear hid; grind -lia
  have b3 : 1 + t - y1*y2 - x1*x2 = (1 - y0) * (1 + t) := by clear hid; grind -lia
  have b4 : 1 + t + y1*y2 + x1*x2 = (1 + y0) * (1 + t) := by clear hid; grind -lia
  rw [b1, b2, b3, b4] at hid
  generalize (y1+y2)*(y1+y2) = a at *
  generalize (y1-y2)*(y1-y2) = b at *
  have b5 : 1 + y0 = ε * u * (1 - y0) := by
    have : ε * u * (1 - y0) = ε * (u * (1 - y0)) := by grind -lia
    rw [this, hu]
    exact ee_mul he
  rw [b5] at hid
  refine cancel (mul_ne (mul_ne m1 m2) n1) ?_
  clear b1 b2 b3 b4 b5 h3 h0 hu
  grind -lia

theorem add_fin {ε a b u y3 w h : Fq} (he : ε * ε = 1) (hh : 2 * h = 1) (hc : (1 - y3) * a = ε * u * (1 + y3) * b) :
    w * a = ε * (h * w * (ε * a + u * b)) * (1 + y3) ∧ w * (u * b) = h * w * (ε * a + u * b) * (1 - y3) := by
  constructor
  · have e : ε * (h * w * (ε * a + u * b)) * (1 + y3) = h * w * ((ε * ε) * a * (1 + y3) + ε * u * (1 + y3) * b) := by grind -lia
    rw [e, ← hc, he]
    grind -lia
  · have e : h * w * (ε * a + u * b) * (1 - y3) = h * w * (ε * ((1 - y3) * a) + u * b * (1 - y3)) := by grind -lia
    rw [e, hc]
    have e2 : ε * (ε * u * (1 + y3) * b) = (ε * ε) * (u * (1 + y3) * b) := by grind -lia
    rw [e2, he]
    grind -lia

theorem Rep.add {ε d u : Fq} (g : Good ε d) {P Q P0 : Pt d} {p q : Rg} (hq : Q = add g.ns P P0) (hP : Rep ε P.y p) (hQ : Rep ε Q.y q)
    (hu : u * (1 - P0.y) = ε * (1 + P0.y)) (n1 : P0.y ≠ 1) (n2 : P0.y ≠ -1) : Rep ε (add g.ns P Q).y (addR u p q) := by
  obtain ⟨s, hs, hp1, hp2⟩ := hP
  obtain ⟨r, hr, hq1, hq2⟩ := hQ
  have hε : ε ≠ 0 := fun e => zero_ne_one (by have := g.e; grind -lia)
  have h3 := add_y g.ns P Q
  have h0 := add_y g.ns Q (negP P)
  rw [← sub_P g.ns hq] at h0
  have h0' : P0.y * (1 + d*P.x*Q.x*P.y*Q.y) = P.y*Q.y + P.x*Q.x := by
    have e1 : 1 - d*Q.x*(negP P).x*Q.y*(negP P).y = 1 + d*P.x*Q.x*P.y*Q.y := by
      show 1 - d*Q.x*(-P.x)*Q.y*P.y = _
      grind -lia
    have e2 : Q.y*(negP P).y - Q.x*(negP P).x = P.y*Q.y + P.x*Q.x := by
      show Q.y*P.y - Q.x*(-P.x) = _
      grind -lia
    rw [e1, e2] at h0
    exact h0
  have m1 := den_m g.ns P.on Q.on
  have m2 := den_p g.ns P.on Q.on
  have hid := add_id1 P.on Q.on rfl
  have n1' : 1 - P0.y ≠ 0 := fun e => n1 (eq_of_sub e)
  have hcore := add_core m1 m2 n1' g.e h3 h0' hu hid
  have hu0 : u ≠ 0 := fun e => by
    have : ε * (1 + P0.y) = 0 := by rw [← hu, e]; grind -lia
    have := eq_zero this hε
    exact n2 (of_add this)
  have hh := mul_inv two_ne0
  obtain ⟨f1, f2⟩ := add_fin (w := 4 * (s * r * (s * r))) g.e hh hcore
  refine ⟨2⁻¹ * (4 * (s * r * (s * r))) * (ε * ((P.y+Q.y)*(P.y+Q.y)) + u * ((P.y-Q.y)*(P.y-Q.y))), fun e => ?_, ?_, ?_⟩
  · have hw : 4 * (s * r * (s * r)) ≠ 0 := mul_ne four_ne (mul_ne (mul_ne hs hr) (mul_ne hs hr))
    rw [e] at f1 f2
    have a1 : 4 * (s * r * (s * r)) * ((P.y+Q.y)*(P.y+Q.y)) = 0 := by rw [f1]; grind -lia
    have a2 : 4 * (s * r * (s * r)) * (u * ((P.y-Q.y)*(P.y-Q.y))) = 0 := by rw [f2]; grind -lia
    have a3 := sq_zero (eq_zero a1 hw)
    have a4 := sq_zero (eq_zero (eq_zero a2 hw) hu0)
    have a5 : 2 * P.y = 0 := by grind -lia
    have a6 := eq_zero a5 two_ne0
    have a7 : Q.y = 0 := by grind -lia
    have c1 := P.on
    have c2 := Q.on
    rw [a6] at c1
    rw [a7] at c2
    rw [a6, a7] at h0'
    have c3 : P.x * P.x = 1 := by grind -lia
    have c4 : Q.x * Q.x = 1 := by grind -lia
    have c5 : P0.y = P.x * Q.x := by grind -lia
    have c6 : P0.y * P0.y = 1 := by
      rw [c5]
      have : P.x * Q.x * (P.x * Q.x) = P.x * P.x * (Q.x * Q.x) := by grind -lia
      rw [this, c3, c4]
      grind -lia
    rcases sq_one c6 with c7 | c7
    · exact n1 c7
    · exact n2 c7
  · rw [← f1]
    unfold addR
    simp only
    rw [hp1, hp2, hq1, hq2]
    have e1 : ε * s * (1 + P.y) * (ε * r * (1 + Q.y)) = (ε * ε) * (s * (1 + P.y) * (r * (1 + Q.y))) := by grind -lia
    rw [e1, g.e]
    generalize P.y = a
    generalize Q.y = b
    grind -lia
  · rw [← f2]
    unfold addR
    simp only
    rw [hp1, hp2, hq1, hq2]
    generalize P.y = a
    generalize Q.y = b
    have e1 : ε * s * (1 + a) * (r * (1 - b)) - s * (1 - a) * (ε * r * (1 + b)) = ε * (2 * (s * r) * (a - b)) := by grind -lia
    rw [e1]
    have e2 : ε * (2 * (s * r) * (a - b)) * (ε * (2 * (s * r) * (a - b))) = (ε * ε) * (2 * (s * r) * (a - b) * (2 * (s * r) * (a - b))) := by grind -lia
    rw [e2, g.e]
    grind -lia

/-- Scaled. -/
theorem Rep.scale {ε y k : Fq} {p : Rg} (h : Rep ε y p) (hk : k ≠ 0) : Rep ε y (k * p.1, k * p.2) := by
  obtain ⟨s, hs, h1, h2⟩ := h
  refine ⟨k * s, mul_ne hk hs, ?_, ?_⟩
  · simp only; rw [h1]; grind -lia
  · simp only; rw [h2]; grind -lia

/-- The first coordinate; nothing for the point that is nothing. -/
noncomputable def ux (ε y : Fq) : Fq := ε * (1 + y) * (1 - y)⁻¹

theorem Rep.val {ε y : Fq} {p : Rg} (h : Rep ε y p) : p.1 * p.2⁻¹ = ux ε y := by
  obtain ⟨s, hs, h1, h2⟩ := h
  unfold ux
  rw [h1, h2]
  by_cases hy : 1 - y = 0
  · rw [hy]
    have : s * (0 : Fq) = 0 := by grind -lia
    rw [this, inv_zero]
    grind -lia
  · have := frac (n := ε * s * (1 + y)) (m := ε * (1 + y)) (mul_ne hs hy) hy (by grind -lia)
    exact this

theorem Rep.zero (ε : Fq) (he : ε * ε = 1) : Rep ε 1 (1, 0) := by
  have hh := mul_inv two_ne0
  refine ⟨ε * 2⁻¹, mul_ne (fun e => zero_ne_one (by grind -lia)) (fun e => zero_ne_one (by grind -lia)), ?_, ?_⟩
  · simp only; grind -lia
  · simp only; grind -lia

theorem Rep.one {ε y u : Fq} (hu : u * (1 - y) = ε * (1 + y)) (n1 : y ≠ 1) : Rep ε y (u, 1) := by
  have n1' : 1 - y ≠ 0 := fun e => n1 (eq_of_sub e)
  have hi := mul_inv n1'
  refine ⟨(1 - y)⁻¹, fun e => zero_ne_one (by rw [← hi, e]; grind -lia), ?_, ?_⟩
  · simp only; grind -lia
  · simp only; grind -lia

/-- The state of a ladder behind i rounds: with the bits from the highest on. -/
def lad (f : Rg → Rg) (g : Rg → Rg → Rg) (u : Fq) (bit : Nat → Bool) : Nat → Rg × Rg
  | 0 => ((1, 0), (u, 1))
  | i + 1 =>
    let s := lad f g u bit i
    cond (bit i) (g s.1 s.2, f s.2) (f s.1, g s.1 s.2)

def top (bit : Nat → Bool) : Nat → Nat
  | 0 => 0
  | i + 1 => 2 * top bit i + (bit i).toNat

theorem lad_rep {ε d u : Fq} (g : Good ε d) {P : Pt d} (hu : u * (1 - P.y) = ε * (1 + P.y)) (n1 : P.y ≠ 1) (n2 : P.y ≠ -1)
    {f : Rg → Rg} {a : Rg → Rg → Rg} (hf : ∀ {R : Pt d} {p}, Rep ε R.y p → Rep ε (Fq.add g.ns R R).y (f p))
    (ha : ∀ {R Q : Pt d} {p q}, Q = Fq.add g.ns R P → Rep ε R.y p → Rep ε Q.y q → Rep ε (Fq.add g.ns R Q).y (a p q)) (bit : Nat → Bool) :
    ∀ i, Rep ε (smul g.ns (top bit i) P).y (lad f a u bit i).1 ∧ Rep ε (smul g.ns (top bit i + 1) P).y (lad f a u bit i).2
  | 0 => ⟨Rep.zero ε g.e, by rw [show top bit 0 + 1 = 1 from rfl, smul_one]; exact Rep.one hu n1⟩
  | i + 1 => by
    obtain ⟨h1, h2⟩ := lad_rep g hu n1 n2 hf ha bit i
    have hadd := ha (R := smul g.ns (top bit i) P) (Q := smul g.ns (top bit i + 1) P) rfl h1 h2
    rw [← smul_add] at hadd
    have d1 := hf h1
    have d2 := hf h2
    rw [← smul_add] at d1 d2
    unfold lad top
    simp only
    cases bit i
    · refine ⟨?_, ?_⟩
      · rw [show 2 * top bit i + false.toNat = top bit i + top bit i by simp only [Bool.toNat_false]; omega]
        exact d1
      · rw [show 2 * top bit i + false.toNat + 1 = top bit i + (top bit i + 1) by simp only [Bool.toNat_false]; omega]
        exact hadd
    · refine ⟨?_, ?_⟩
      · rw [show 2 * top bit i + true.toNat = top bit i + (top bit i + 1) by simp only [Bool.toNat_true]; omega]
        exact hadd
      · rw [show 2 * top bit i + true.toNat + 1 = top bit i + 1 + (top bit i + 1) by simp only [Bool.toNat_true]; omega]
        exact d2

theorem ladR_rep {ε d u : Fq} (g : Good ε d) {P : Pt d} (hu : u * (1 - P.y) = ε * (1 + P.y)) (n1 : P.y ≠ 1) (n2 : P.y ≠ -1) (bit : Nat → Bool) (i : Nat) :
    Rep ε (smul g.ns (top bit i) P).y (lad dblR (addR u) u bit i).1 :=
  (lad_rep g hu n1 n2 (fun h => Rep.dbl g h) (fun hq h1 h2 => Rep.add g hq h1 h2 hu n1 n2) bit i).1

theorem ladC_rep {ε d u : Fq} (g : Good ε d) {P : Pt d} (hu : u * (1 - P.y) = ε * (1 + P.y)) (n1 : P.y ≠ 1) (n2 : P.y ≠ -1) (bit : Nat → Bool) (i : Nat) :
    Rep ε (smul g.ns (top bit i) P).y (lad dblC (addC u) u bit i).1 :=
  (lad_rep g hu n1 n2 (fun h => by rw [dblC_eq]; exact Rep.dbl g h)
    (fun hq h1 h2 => by rw [addC_eq]; exact Rep.scale (Rep.add g hq h1 h2 hu n1 n2) four_ne) bit i).1

/-- With nought as the first coordinate nothing comes. -/
theorem lad_nought {f : Rg → Rg} {a : Rg → Rg → Rg} (hf : ∀ p : Rg, p.1 * p.2 = 0 → (f p).2 = 0) (ha : ∀ p q : Rg, (a p q).2 = 0) (bit : Nat → Bool) :
    ∀ i, ((lad f a 0 bit i).1.1 * (lad f a 0 bit i).1.2 = 0) ∧ ((lad f a 0 bit i).2.1 * (lad f a 0 bit i).2.2 = 0) ∧ (lad f a 0 bit i).1.2 = 0 ∨ (i = 0)
  | 0 => .inr rfl
  | i + 1 => by
    have h0 : ((lad f a 0 bit i).1.1 * (lad f a 0 bit i).1.2 = 0) ∧ ((lad f a 0 bit i).2.1 * (lad f a 0 bit i).2.2 = 0) := by
      rcases lad_nought hf ha bit i with h | h
      · exact ⟨h.1, h.2.1⟩
      · subst h
        exact ⟨by show (1 : Fq) * 0 = 0; grind -lia, by show (0 : Fq) * 1 = 0; grind -lia⟩
    have a1 := hf _ h0.1
    have a2 := hf _ h0.2
    have a3 := ha (lad f a 0 bit i).1 (lad f a 0 bit i).2
    refine .inl ?_
    unfold lad
    simp only
    cases bit i
    · refine ⟨?_, ?_, a1⟩
      · show (f _).1 * (f _).2 = 0
        rw [a1]; grind -lia
      · show (a _ _).1 * (a _ _).2 = 0
        rw [a3]; grind -lia
    · refine ⟨?_, ?_, a3⟩
      · show (a _ _).1 * (a _ _).2 = 0
        rw [a3]; grind -lia
      · show (f _).1 * (f _).2 = 0
        rw [a2]; grind -lia

theorem ladR_nought (bit : Nat → Bool) (i : Nat) : (lad dblR (addR 0) 0 bit (i + 1)).1.2 = 0 := by
  rcases lad_nought (f := dblR) (a := addR 0) (fun p h => by unfold dblR; simp only; rw [h]; grind -lia) (fun p q => by unfold addR; simp only; grind -lia) bit (i + 1) with h | h
  · exact h.2.2
  · cases h
theorem ladC_nought (bit : Nat → Bool) (i : Nat) : (lad dblC (addC 0) 0 bit (i + 1)).1.2 = 0 := by
  rcases lad_nought (f := dblC) (a := addC 0) (fun p h => by rw [dblC_eq]; unfold dblR; simp only; rw [h]; grind -lia) (fun p q => by unfold addC; simp only; grind -lia) bit (i + 1) with h | h
  · exact h.2.2
  · cases h

end Fq
end Go.Proofs.Yteaoegdmhoepiaa

namespace Go.Proofs.Yteaoegdmhoepiaa
open Go

theorem s0_fact : 48802004052532134862652268456126542835229456083994414501085850622543968879637 * 48802004052532134862652268456126542835229456083994414501085850622543968879637 % P255 = 486664 % P255 := by decide +kernel
theorem ns_fact : pm 255 486660 (P255 / 2) P255 = ngV 1 % P255 := by kernel_rfl

namespace Fq

def s0 : Fq := c 48802004052532134862652268456126542835229456083994414501085850622543968879637
theorem s0_sq : s0 * s0 = 486664 := by
  show c _ * c _ = c 486664
  rw [← c_mul]
  exact c_eq.2 s0_fact

theorem ns_half {h : Nat} (hh : h = P255 / 2) : fpow (486660 : Fq) h = -1 := by
  show fpow (c 486660) h = -c 1
  rw [← c_pow, ← c_neg]
  refine c_eq.2 ?_
  rw [hh, ← pm_eq 255 486660 (P255 / 2) P255 (by decide)]
  have := ns_fact
  rw [← this]

theorem sq_half {h : Nat} (hh : P255 - 1 = h * 2) {r a : Fq} (ha : a ≠ 0) (e : r * r = a) : fpow a h = 1 := by
  have hr : r ≠ 0 := fun h0 => ha (by rw [← e, h0]; grind -lia)
  have := fermat hr
  rw [hh, Nat.mul_comm, pow_mul] at this
  have e2 : fpow r 2 = a := by rw [pow_2, e]
  rwa [e2] at this

theorem one_mul2 {t a : Fq} (h : 1 * t * t = a) : t * t = a := by rw [one_mul] at h; exact h

theorem half_sqrt {a : Fq} (ha : a ≠ 0) (h : fpow a (P255 / 2) = 1) : ∃ r, r * r = a := by
  obtain ⟨n, hn, hnn⟩ := ei_ex
  have hi := i_sq hnn
  have hm := em_eq
  have hh := hh_eq
  clear hn hnn
  generalize P255 / 2 = k at *
  rcases root_alg hm hh ha one_ne rfl hi with ⟨_, k2⟩ | ⟨k1, _, _⟩
  · rcases k2 with k2 | ⟨_, _, k4⟩
    · exact ⟨_, one_mul2 k2⟩
    · exact ⟨_, one_mul2 k4⟩
  · rw [inv_one, mul_one, h] at k1
    exact absurd k1 two_ne

theorem ns_486660 : NS 486660 := fun r h => by
  have h0 : (486660 : Fq) ≠ 0 := c_ne (n := 486660) (m := 0) (by decide)
  have h1 := ns_half (h := P255 / 2) rfl
  have h2 := sq_half hh_eq h0 h
  rw [h2] at h1
  exact two_ne h1

theorem n486664 : (486664 : Fq) ≠ 0 := c_ne (n := 486664) (m := 0) (by decide)
theorem n486660 : (486660 : Fq) ≠ 0 := c_ne (n := 486660) (m := 0) (by decide)
theorem s0_ne : s0 ≠ 0 := fun h => n486664 (by rw [← s0_sq, h]; grind -lia)

noncomputable def d1 : Fq := 486660 * (486664)⁻¹
noncomputable def d2 : Fq := 486664 * (486660)⁻¹

theorem ns_d1 : NS d1 := fun r h => ns_486660 (r * s0) (by
  have hi := mul_inv n486664
  have e : r * s0 * (r * s0) = (r * r) * (s0 * s0) := by grind -lia
  rw [e, h, s0_sq]
  unfold d1
  generalize (486664 : Fq)⁻¹ = i at *
  grind -lia)

theorem ns_d2 : NS d2 := fun r h => by
  have hi := mul_inv n486660
  have hr : r ≠ 0 := fun h0 => by
    have e : (486660 : Fq) * d2 = 0 := by rw [← h, h0]; grind -lia
    have e2 : (486660 : Fq) * d2 = 486664 := by
      unfold d2
      generalize (486660 : Fq)⁻¹ = i at *
      grind -lia
    exact n486664 (by rw [← e2, e])
  have hri := mul_inv hr
  refine ns_486660 (s0 * r⁻¹) ?_
  have e : s0 * r⁻¹ * (s0 * r⁻¹) = (s0 * s0) * (r⁻¹ * r⁻¹) := by grind -lia
  have e2 : (486660 : Fq) * (r * r) = 486664 := by
    rw [h]
    unfold d2
    generalize (486660 : Fq)⁻¹ = i at *
    grind -lia
  rw [e, s0_sq, ← e2]
  generalize r⁻¹ = i at *
  have : (486660 : Fq) * (r * r) * (i * i) = 486660 * ((r * i) * (r * i)) := by grind -lia
  rw [this, hri]
  grind -lia

theorem good1 : Good 1 d1 := ⟨by grind -lia, by
  have hi := mul_inv n486664
  unfold d1
  generalize (486664 : Fq)⁻¹ = i at *
  grind -lia, ns_d1⟩
theorem good2 : Good (-1) d2 := ⟨by grind -lia, by
  have hi := mul_inv n486660
  unfold d2
  generalize (486660 : Fq)⁻¹ = i at *
  grind -lia, ns_d2⟩

theorem pt_on {d K α U w q v : Fq} (hK : K = α + 2) (hk : α - 2 = d * K) (hw : w * w = K * U * (U*U + α*U + 1)) (hq : w * q = 1) (hv : (U + 1) * v = 1) :
    K*U*q*(K*U*q) + (U-1)*v*((U-1)*v) = 1 + d*(K*U*q)*(K*U*q)*((U-1)*v)*((U-1)*v) := by
  have e0 : K*K*U*U*((U+1)*(U+1)) + w*w*((U-1)*(U-1)) = w*w*((U+1)*(U+1)) + (d*K)*K*U*U*((U-1)*(U-1)) := by
    rw [hw, ← hk, hK]
    clear hw hq hv hk
    grind -lia
  have e1 : K*U*q*(K*U*q) + (U-1)*v*((U-1)*v) = (K*K*U*U*((U+1)*(U+1)) + w*w*((U-1)*(U-1))) * (q*q*(v*v)) := by
    have : (K*K*U*U*((U+1)*(U+1)) + w*w*((U-1)*(U-1))) * (q*q*(v*v)) = K*K*U*U*(q*q)*(((U+1)*v)*((U+1)*v)) + ((w*q)*(w*q))*((U-1)*(U-1)*(v*v)) := by
      clear e0 hw hq hv hk
      grind -lia
    rw [this, hq, hv]
    clear e0 hw hq hv hk
    grind -lia
  rw [e1, e0]
  have : (w*w*((U+1)*(U+1)) + (d*K)*K*U*U*((U-1)*(U-1))) * (q*q*(v*v)) = ((w*q)*(w*q))*(((U+1)*v)*((U+1)*v)) + d*K*K*U*U*((U-1)*(U-1))*(q*q*(v*v)) := by
    clear e0 e1 hw hq hv hk
    grind -lia
  rw [this, hq, hv]
  clear e0 e1 this hw hq hv hk
  grind -lia

theorem mk_pt {ε d u w : Fq} (g : Good ε d) (hu : u ≠ 0) (hw : w * w = (ε * 486662 + 2) * (ε * u) * (u*u + 486662*u + 1)) (hw0 : w ≠ 0) (hn : ε * u + 1 ≠ 0) :
    ∃ P : Pt d, u * (1 - P.y) = ε * (1 + P.y) ∧ P.y ≠ 1 ∧ P.y ≠ -1 := by
  have hq := mul_inv hw0
  have hv := mul_inv hn
  have he := g.e
  have hon := pt_on (K := ε * 486662 + 2) (α := ε * 486662) (U := ε * u) (w := w) (q := w⁻¹) (v := (ε * u + 1)⁻¹) rfl g.k (by
    rw [hw]
    have : ε * u * (ε * u) + ε * 486662 * (ε * u) + 1 = (ε * ε) * (u * u) + (ε * ε) * (486662 * u) + 1 := by grind -lia
    rw [this, he]
    grind -lia) hq hv
  refine ⟨⟨_, _, hon⟩, ?_, ?_, ?_⟩
  · show u * (1 - (ε * u - 1) * (ε * u + 1)⁻¹) = ε * (1 + (ε * u - 1) * (ε * u + 1)⁻¹)
    generalize (ε * u + 1)⁻¹ = v at *
    have a1 : 1 - (ε * u - 1) * v = 2 * v := by
      have : (1 : Fq) - (ε * u - 1) * v = (ε * u + 1) * v - (ε * u - 1) * v := by rw [hv]
      rw [this]
      grind -lia
    have a2 : 1 + (ε * u - 1) * v = 2 * (ε * u * v) := by
      have : (1 : Fq) + (ε * u - 1) * v = (ε * u + 1) * v + (ε * u - 1) * v := by rw [hv]
      rw [this]
      grind -lia
    rw [a1, a2]
    have : ε * (2 * (ε * u * v)) = (ε * ε) * (2 * (u * v)) := by grind -lia
    rw [this, he]
    grind -lia
  · show (ε * u - 1) * (ε * u + 1)⁻¹ ≠ 1
    generalize (ε * u + 1)⁻¹ = v at *
    intro h
    have a1 : 2 * v = 0 := by
      have : 2 * v = (ε * u + 1) * v - (ε * u - 1) * v := by grind -lia
      rw [this, hv, h]
      grind -lia
    have a2 := eq_zero a1 two_ne0
    rw [a2] at hv
    exact zero_ne_one (by rw [← hv]; grind -lia)
  · show (ε * u - 1) * (ε * u + 1)⁻¹ ≠ -1
    generalize (ε * u + 1)⁻¹ = v at *
    intro h
    have a1 : 2 * (ε * (u * v)) = 0 := by
      have : 2 * (ε * (u * v)) = (ε * u + 1) * v + (ε * u - 1) * v := by grind -lia
      rw [this, hv, h]
      grind -lia
    have a2 := eq_zero a1 two_ne0
    have a3 := eq_zero a2 (fun e => zero_ne_one (by rw [← he, e]; grind -lia))
    have a4 := eq_zero a3 hu
    rw [a4] at hv
    exact zero_ne_one (by rw [← hv]; grind -lia)

theorem ns_c : NS (486660 * 486664) := fun r h => ns_486660 (r * s0⁻¹) (by
  have hi := mul_inv s0_ne
  have e : r * s0⁻¹ * (r * s0⁻¹) = (r * r) * (s0⁻¹ * s0⁻¹) := by grind -lia
  rw [e, h, ← s0_sq]
  generalize s0⁻¹ = i at *
  have : 486660 * (s0 * s0) * (i * i) = 486660 * ((s0 * i) * (s0 * i)) := by grind -lia
  rw [this, hi]
  grind -lia)

theorem quad_ne (u : Fq) : u*u + 486662*u + 1 ≠ 0 := fun h => ns_c (2 * u + 486662) (by grind -lia)

theorem other_sqrt {a : Fq} {k : Nat} (hk : P255 - 1 = k * 2) (h2 : fpow (486660 : Fq) k = -1) (hsq : ∀ a : Fq, a ≠ 0 → fpow a k = 1 → ∃ r, r * r = a) (ha : a ≠ 0) (hs : ¬ ∃ r, r * r = a) :
    ∃ w, w * w = 486660 * a := by
  have h1 : fpow a k = -1 := by
    rcases half_pow hk ha with h | h
    · exact absurd (hsq a ha h) hs
    · exact h
  refine hsq _ (mul_ne n486660 ha) ?_
  rw [mul_pow, h1, h2]
  grind -lia

theorem classify {u : Fq} (hu : u ≠ 0) : ∃ (ε d : Fq) (_ : Good ε d) (P : Pt d), u * (1 - P.y) = ε * (1 + P.y) ∧ P.y ≠ 1 ∧ P.y ≠ -1 := by
  have hg : u * (u*u + 486662*u + 1) ≠ 0 := mul_ne hu (quad_ne u)
  by_cases hs : ∃ r, r * r = u * (u*u + 486662*u + 1)
  · obtain ⟨r, hr⟩ := hs
    have hr0 : r ≠ 0 := fun h => hg (by rw [← hr, h]; grind -lia)
    refine ⟨1, d1, good1, mk_pt (w := s0 * r) good1 hu ?_ (mul_ne s0_ne hr0) ?_⟩
    · have : s0 * r * (s0 * r) = (s0 * s0) * (r * r) := by grind -lia
      rw [this, s0_sq, hr]
      grind -lia
    · intro h
      have hu1 : u = -1 := by grind -lia
      refine ns_486660 r ?_
      rw [hr, hu1]
      grind -lia
  · obtain ⟨w, hw⟩ := other_sqrt hh_eq (ns_half rfl) (fun a ha h => half_sqrt ha h) hg hs
    have hw0 : w ≠ 0 := fun h => mul_ne n486660 hg (by rw [← hw, h]; grind -lia)
    refine ⟨-1, d2, good2, mk_pt (w := w) good2 hu ?_ hw0 ?_⟩
    · rw [hw]
      grind -lia
    · intro h
      have hu1 : u = 1 := by grind -lia
      refine hs ⟨s0, ?_⟩
      rw [s0_sq, hu1]
      grind -lia

/-! The value of a ladder. -/
def Lad (u : Fq) (G : Nat → Fq) : Prop :=
  (u = 0 ∧ ∀ n, G n = 0) ∨
  ∃ (ε d : Fq) (g : Good ε d) (P : Pt d), u * (1 - P.y) = ε * (1 + P.y) ∧ P.y ≠ 1 ∧ P.y ≠ -1 ∧ ∀ n, G n = ux ε (smul g.ns n P).y

theorem lad_ex (u : Fq) : ∃ G, Lad u G := by
  by_cases hu : u = 0
  · exact ⟨fun _ => 0, .inl ⟨hu, fun _ => rfl⟩⟩
  · obtain ⟨ε, d, g, P, h1, h2, h3⟩ := classify hu
    exact ⟨_, .inr ⟨ε, d, g, P, h1, h2, h3, fun _ => rfl⟩⟩

theorem lad_C {u : Fq} {G : Nat → Fq} (h : Lad u G) (bit : Nat → Bool) (i : Nat) :
    (lad dblC (addC u) u bit (i + 1)).1.1 * ((lad dblC (addC u) u bit (i + 1)).1.2)⁻¹ = G (top bit (i + 1)) := by
  rcases h with ⟨h1, h2⟩ | ⟨ε, d, g, P, h1, h2, h3, h4⟩
  · rw [h1, h2, ladC_nought, inv_zero]
    grind -lia
  · rw [h4, (ladC_rep g h1 h2 h3 bit (i + 1)).val]

theorem lad_R {u : Fq} {G : Nat → Fq} (h : Lad u G) (bit : Nat → Bool) (i : Nat) :
    (lad dblR (addR u) u bit (i + 1)).1.1 * ((lad dblR (addR u) u bit (i + 1)).1.2)⁻¹ = G (top bit (i + 1)) := by
  rcases h with ⟨h1, h2⟩ | ⟨ε, d, g, P, h1, h2, h3, h4⟩
  · rw [h1, h2, ladR_nought, inv_zero]
    grind -lia
  · rw [h4, (ladR_rep g h1 h2 h3 bit (i + 1)).val]

theorem d_ne1 {ε d : Fq} (g : Good ε d) : d ≠ 1 := fun h => four_ne (by have := g.k; rw [h] at this; grind -lia)

theorem y_one {ε d : Fq} (g : Good ε d) {P : Pt d} (h : P.y * P.y = 1) : P.x = 0 := by
  have h1 := P.on
  have h2 : (1 - d) * (P.x * P.x) = 0 := by
    have : d*P.x*P.x*P.y*P.y = d*P.x*P.x*(P.y*P.y) := by grind -lia
    rw [this, h] at h1
    grind -lia
  exact sq_zero (eq_zero h2 (fun e => d_ne1 g (by grind -lia)))

theorem y_zero {ε d : Fq} (g : Good ε d) {P : Pt d} (h : P.y = 1) : P = zeroP d :=
  Pt.ext (y_one g (by rw [h]; grind -lia)) h

theorem y_low {ε d : Fq} (g : Good ε d) {P : Pt d} (h : P.y = 1 ∨ P.y = -1) (k : Nat) : smul g.ns (k * 2) P = zeroP d := by
  have h2 : smul g.ns 2 P = zeroP d := by
    have hx : P.x = 0 := y_one g (by rcases h with h | h <;> rw [h] <;> grind -lia)
    show Fq.add g.ns (Fq.add g.ns (zeroP d) P) P = zeroP d
    rw [zero_addP]
    refine y_zero g ?_
    have := add_y g.ns P P
    rw [hx] at this
    rcases h with h | h <;> rw [h] at this <;> grind -lia
  rw [smul_mul, h2, smul_zero]

theorem ux_one (ε : Fq) : ux ε 1 = 0 := by
  unfold ux
  have : (1 : Fq) - 1 = 0 := by grind -lia
  rw [this, inv_zero]
  grind -lia

theorem lad_uniq {u : Fq} {G G' : Nat → Fq} (h : Lad u G) (h' : Lad u G') (bit : Nat → Bool) (i : Nat) : G (top bit (i + 1)) = G' (top bit (i + 1)) := by
  rw [← lad_C h bit i, ← lad_C h' bit i]

theorem lad_comp {u : Fq} {G G' : Nat → Fq} (h : Lad u G) (n : Nat) (h' : Lad (G n) G') (bit : Nat → Bool) (i k : Nat) (hk : top bit (i + 1) = k * 2) :
    G' (top bit (i + 1)) = G (top bit (i + 1) * n) := by
  rcases h with ⟨h1, h2⟩ | ⟨ε, d, g, P, h1, h2, h3, h4⟩
  · rw [h2, ← lad_C h' bit i, h2, ladC_nought, inv_zero]
    grind -lia
  · rw [h4, smul_mul]
    generalize hQ : smul g.ns n P = Q at *
    by_cases hy : Q.y = 1 ∨ Q.y = -1
    · rw [hk, y_low g hy, ← hk, ← lad_C h' bit i]
      have : G n = 0 := by
        rw [h4, hQ]
        rcases hy with hy | hy
        · rw [hy, ux_one]
        · unfold ux
          rw [hy]
          generalize ((1 : Fq) - -1)⁻¹ = z
          grind -lia
      rw [this, ladC_nought, inv_zero]
      show _ = ux ε 1
      rw [ux_one]
      grind -lia
    · have hy1 : Q.y ≠ 1 := fun e => hy (.inl e)
      have hy2 : Q.y ≠ -1 := fun e => hy (.inr e)
      have hn : G n * (1 - Q.y) = ε * (1 + Q.y) := by
        rw [h4, hQ]
        unfold ux
        have hne : 1 - Q.y ≠ 0 := fun e => hy1 (by grind -lia)
        have := mul_inv hne
        generalize (1 - Q.y)⁻¹ = z at *
        grind -lia
      rw [← lad_C h' bit i, (ladC_rep g hn hy1 hy2 bit (i + 1)).val]

/-- A point of which eight times is nothing. -/
theorem lad_low {u : Fq} {G : Nat → Fq} (h : Lad u G) (hz : (dblR (dblR (dblR (u, 1)))).2 = 0) (n : Nat) : G (n * 8) = 0 := by
  rcases h with ⟨h1, h2⟩ | ⟨ε, d, g, P, h1, h2, h3, h4⟩
  · exact h2 _
  · rw [h4, smul_mul]
    have r0 := Rep.one h1 h2
    have r1 := Rep.dbl g r0
    have r2 := Rep.dbl g r1
    have r3 := Rep.dbl g r2
    have e8 : smul g.ns 8 P = Fq.add g.ns (Fq.add g.ns (Fq.add g.ns P P) (Fq.add g.ns P P)) (Fq.add g.ns (Fq.add g.ns P P) (Fq.add g.ns P P)) := by
      have a1 := smul_add g.ns 1 1 P
      have a2 := smul_add g.ns 2 2 P
      have a3 := smul_add g.ns 4 4 P
      rw [smul_one] at a1
      rw [a1] at a2
      rw [a2] at a3
      exact a3
    rw [← e8] at r3
    obtain ⟨s, hs, _, hz2⟩ := r3
    rw [hz] at hz2
    have hy : (smul g.ns 8 P).y = 1 := by
      have := eq_zero hz2.symm hs
      grind -lia
    rw [y_zero g hy, smul_zero]
    exact ux_one ε

end Fq
end Go.Proofs.Yteaoegdmhoepiaa

namespace Go.Proofs.Yteaoegdmhoepiaa
open Go
open Fq

/-! Keys. -/
theorem g32_len {k : List Nat} (h : g32 k = true) : k.length = 32 := (g32_get h).1
theorem g32_b {k : List Nat} (h : g32 k = true) (i : Nat) : k.getD i 0 < 256 := (g32_get h).2 i

theorem getD_set2 (k : List Nat) (a b i : Nat) (hl : k.length = 32) : ((k.set 0 a).set 31 b).getD i 0 = if i = 31 then b else if i = 0 then a else k.getD i 0 := by
  rw [List.getD, List.getD, List.getElem?_set, List.getElem?_set]
  simp only [List.length_set, hl]
  by_cases h1 : 31 = i
  · subst h1; simp
  · by_cases h0 : 0 = i
    · subst h0; simp
    · rw [if_neg h1, if_neg h0, if_neg (fun e => h1 e.symm), if_neg (fun e => h0 e.symm)]

theorem getD_set1 (k : List Nat) (b i : Nat) (hl : k.length = 32) : (k.set 31 b).getD i 0 = if i = 31 then b else k.getD i 0 := by
  rw [List.getD, List.getD, List.getElem?_set]
  simp only [hl]
  by_cases h1 : 31 = i
  · subst h1; simp
  · rw [if_neg h1, if_neg (fun e => h1 e.symm)]

theorem list32 {k l : List Nat} (hk : k.length = 32) (hl : l.length = 32) (h : ∀ i, k.getD i 0 = l.getD i 0) : k = l := by
  apply List.ext_getElem?
  intro i
  have := h i
  rw [List.getD, List.getD] at this
  by_cases hi : i < 32
  · rw [List.getElem?_eq_getElem (by omega), List.getElem?_eq_getElem (by omega)] at this ⊢
    exact congrArg some this
  · rw [List.getElem?_eq_none (by omega), List.getElem?_eq_none (by omega)]

def byteFact (x : Nat) : Bool := decide (x &&& 248 = (x + 256 - x % 8) % 256) && decide (x &&& 127 ||| 64 = (x % 64 + 64) % 256) && decide ((x &&& 248) % 8 = 0) && decide (x &&& 248 < 256) && decide (x &&& 127 ||| 64 < 128) &&
  decide ((x ^^^ 5) &&& 248 = x &&& 248) && decide ((x ^^^ 192) &&& 127 ||| 64 = x &&& 127 ||| 64) && decide (x ^^^ 5 < 256) && decide (x ^^^ 192 < 256) && decide (x ^^^ 128 < 256) && decide ((x ^^^ 128) % 128 = x % 128) && decide (x ||| 128 < 256) && decide ((x ||| 128) % 128 = x % 128)

theorem byteFacts : ∀ x, x < 256 → byteFact x = true := by
  have h : (List.range 256).all byteFact = true := by decide +kernel
  intro x hx
  exact List.all_eq_true.1 h x (List.mem_range.2 hx)

theorem byteF {x : Nat} (hx : x < 256) : x &&& 248 = (x + 256 - x % 8) % 256 ∧ x &&& 127 ||| 64 = (x % 64 + 64) % 256 ∧ (x &&& 248) % 8 = 0 ∧ x &&& 248 < 256 ∧ x &&& 127 ||| 64 < 128 ∧
    (x ^^^ 5) &&& 248 = x &&& 248 ∧ (x ^^^ 192) &&& 127 ||| 64 = x &&& 127 ||| 64 ∧ x ^^^ 5 < 256 ∧ x ^^^ 192 < 256 ∧ x ^^^ 128 < 256 ∧ (x ^^^ 128) % 128 = x % 128 ∧ x ||| 128 < 256 ∧ (x ||| 128) % 128 = x % 128 := by
  have h := byteFacts x hx
  unfold byteFact at h
  simp only [Bool.and_eq_true, decide_eq_true_eq] at h
  obtain ⟨⟨⟨⟨⟨⟨⟨⟨⟨⟨⟨⟨a, b⟩, c⟩, d⟩, e⟩, f⟩, g⟩, h⟩, i⟩, j⟩, k⟩, l⟩, m⟩ := h
  exact ⟨a, b, c, d, e, f, g, h, i, j, k, l, m⟩

theorem get_set0 (k : List Nat) (a : Nat) (hl : k.length = 32) : (k.set 0 a).getD 31 0 = k.getD 31 0 := by
  rw [List.getD, List.getD, List.getElem?_set]
  simp

theorem clF_get {k : List Nat} (hl : k.length = 32) (i : Nat) : (clF k).getD i 0 = if i = 31 then k.getD 31 0 &&& 127 ||| 64 else if i = 0 then k.getD 0 0 &&& 248 else k.getD i 0 := by
  unfold clF
  rw [getD_set2 _ _ _ _ hl, get_set0 _ _ hl]

theorem clF_len {k : List Nat} : (clF k).length = k.length := by
  unfold clF
  rw [List.length_set, List.length_set]

theorem cl_eq {k : List Nat} (h : g32 k = true) : clR k = clF k := by
  have hl := g32_len h
  have h0 := byteF (g32_b h 0)
  have h1 := byteF (g32_b h 31)
  unfold clR clF
  rw [get_set0 _ _ hl, get_set0 _ _ hl, ← h0.1, ← h1.2.1]

theorem g32_mk {k : List Nat} (hl : k.length = 32) (h : ∀ i, k.getD i 0 < 256) : g32 k = true := by
  rw [g32, Bool.and_eq_true]
  refine ⟨decide_eq_true hl, allB_mem fun x hx => ?_⟩
  obtain ⟨i, hi, e⟩ := List.getElem_of_mem hx
  have := h i
  rw [List.getD, List.getElem?_eq_getElem hi, e] at this
  exact this

theorem cl_g32 {k : List Nat} (h : g32 k = true) : g32 (clF k) = true := by
  have hl := g32_len h
  refine g32_mk (by rw [clF_len, hl]) fun i => ?_
  rw [clF_get hl]
  have h0 := byteF (g32_b h 0)
  have h1 := byteF (g32_b h 31)
  have h2 := g32_b h i
  split
  · omega
  · split
    · omega
    · exact h2

/-- The clamped number. -/
def nK (k : List Nat) : Nat := vB 256 (clF k)

theorem nK_lt {k : List Nat} (h : g32 k = true) : nK k < P2 := by
  have hg := cl_g32 h
  have hl := g32_len h
  have hb := g32_bit hg (i := 255) (by decide)
  rw [clF_get hl, if_pos rfl] at hb
  have h1 := (byteF (g32_b h 31)).2.2.2.2.1
  have h2 := g32_lt hg
  unfold nK
  generalize vB 256 (clF k) = V at *
  rw [show 255 % 8 = 7 from rfl] at hb
  have h3 : (k.getD 31 0 &&& 127 ||| 64) / 2 ^ 7 = 0 := Nat.div_eq_of_lt h1
  rw [h3] at hb
  have e : (2 : Nat) ^ 255 = P2 := by decide
  rw [e] at hb
  have e2 : M256 = 2 * P2 := by decide
  rw [e2] at h2
  generalize P2 = p at *
  have h4 : V / p < 2 := Nat.div_lt_of_lt_mul (by omega)
  have h5 : V / p = 0 := by
    generalize V / p = q at *
    omega
  by_cases hp : p = 0
  · subst hp; omega
  · rcases Nat.div_eq_zero_iff.1 h5 with h6 | h6
    · exact absurd h6 hp
    · exact h6

theorem nK_8 {k : List Nat} (h : g32 k = true) : nK k = nK k / 8 * 8 := by
  have hg := cl_g32 h
  have hl := g32_len h
  have b0 := g32_bit hg (i := 0) (by decide)
  have b1 := g32_bit hg (i := 1) (by decide)
  have b2 := g32_bit hg (i := 2) (by decide)
  rw [clF_get hl, if_neg (by decide), if_pos rfl] at b0 b1 b2
  have h1 := (byteF (g32_b h 0)).2.2.1
  unfold nK
  generalize vB 256 (clF k) = V at *
  generalize k.getD 0 0 &&& 248 = x at *
  simp only [show (0 : Nat) % 8 = 0 from rfl, show 1 % 8 = 1 from rfl, show 2 % 8 = 2 from rfl, Nat.pow_zero, Nat.pow_one, Nat.div_one, show (2 : Nat) ^ 2 = 4 from rfl] at b0 b1 b2
  omega

theorem top_val {V N : Nat} (hV : V < 2 ^ N) {bit : Nat → Bool} (hb : ∀ i, i < N → bit i = decide (V / 2 ^ (N - 1 - i) % 2 = 1)) : ∀ i, i ≤ N → top bit i = V / 2 ^ (N - i)
  | 0, _ => by
    rw [Nat.sub_zero, Nat.div_eq_of_lt hV]
    rfl
  | i + 1, hi => by
    have ih := top_val hV hb i (by omega)
    have hh := half_bit V (N - (i + 1))
    rw [show N - (i + 1) + 1 = N - i by omega] at hh
    unfold top
    rw [ih, hb i (by omega), show N - 1 - i = N - (i + 1) by omega]
    by_cases h : V / 2 ^ (N - (i + 1)) % 2 = 1
    · rw [decide_eq_true h]
      rw [h] at hh
      exact hh.symm
    · rw [decide_eq_false h]
      rw [show V / 2 ^ (N - (i + 1)) % 2 = 0 by omega] at hh
      exact hh.symm

/-! The code's ladder. -/
theorem c_sub' (v w : Nat) : c (v + ngV w) = c v - c w := by
  rw [c_add, c_neg]
  exact (sub_d _ _).symm

theorem ladG_rel {α : Type} {R : α → Rg → Prop} {p q : α} {u : Fq} {f : α → α} {g h : α → α → α} {F : Rg → Rg} {A : Rg → Rg → Rg} (bit : Nat → Bool)
    (hp : R p (1, 0)) (hq : R q (u, 1)) (hf : ∀ {a r}, R a r → R (f a) (F r)) (hg : ∀ {a b r s}, R a r → R b s → R (g a b) (A r s)) (hh : ∀ {a b r s}, R a r → R b s → R (h a b) (A r s)) :
    ∀ i, R (ladG p q f g h bit i).1 (lad F A u bit i).1 ∧ R (ladG p q f g h bit i).2 (lad F A u bit i).2
  | 0 => ⟨hp, hq⟩
  | i + 1 => by
    obtain ⟨h1, h2⟩ := ladG_rel bit hp hq hf hg hh i
    unfold ladG lad
    simp only
    cases bit i
    · exact ⟨hf h1, hg h1 h2⟩
    · exact ⟨hh h1 h2, hf h2⟩

def RC (p : L2) (r : Rg) : Prop := ∃ v w, EV p.1 v ∧ EV p.2 w ∧ r = (c v, c w)

theorem RC_mk {a b : List Nat} {v w : Nat} (h : EV a v) (k : EV b w) : RC (a, b) (c v, c w) := ⟨v, w, h, k, rfl⟩

theorem RC_dbl {p : L2} {r : Rg} (h : RC p r) : RC (ops3.dbl p) (dblC r) := by
  obtain ⟨v, w, e1, e2, rfl⟩ := h
  have s := mulE (addE2 e1 e2) (addE2 e1 e2)
  have m := mulE (subE e1 e2) (subE e1 e2)
  have e := subE s m
  rw [ops3_dbl]
  unfold dblL
  simp only [ops_mul, ops_sub, ops_add]
  refine ⟨_, _, mulE s m, mulE e (addE2 s (mulE (smallE (n := 121665) (by decide)) e)), ?_⟩
  unfold dblC
  simp only [c_mul, c_add, c_neg, sub_d] <;> rfl

theorem RC_sum {u : List Nat} {x : Nat} (hu : EV u x) {p q : L2} {r s : Rg} (h : RC p r) (h' : RC q s) : RC (ops3.sum u p q) (addC (c x) r s) := by
  obtain ⟨v, w, e1, e2, rfl⟩ := h
  obtain ⟨v', w', f1, f2, rfl⟩ := h'
  have l := mulE (subE f1 f2) (addE2 e1 e2)
  have m := mulE (addE2 f1 f2) (subE e1 e2)
  have g := subE l m
  rw [ops3_sum]
  unfold addL
  simp only [ops_mul, ops_sub, ops_add, ops_pd]
  refine ⟨_, _, mulE (addE2 l m) (addE2 l m), pd3E hu g g, ?_⟩
  unfold addC
  simp only [c_mul, c_add, c_neg, sub_d] <;> rfl

theorem addC_comm (u : Fq) (p q : Rg) : addC u q p = addC u p q := by
  unfold addC
  refine Prod.ext ?_ ?_ <;> simp only <;> grind

theorem c_fq (a : Fq) : ∃ v, v < P255 ∧ a = c v := ⟨a.v, a.lt, (c_self a).symm⟩

theorem bitK_cl {k : List Nat} (h : g32 k = true) (i : Nat) (hi : i < 255) : bitK (clF k) (254 - i) = decide (nK k / 2 ^ (255 - 1 - i) % 2 = 1) :=
  bitK_val (cl_g32 h) (by omega)

/-- The number of a first coordinate's bytes. -/
def uV (u : List Nat) : Nat := vB 256 u % P2

theorem ml_val' {k u : List Nat} {x : Nat} (hk : g32 k = true) (eu : EV (ofF u) x) {G : Nat → Fq} (hG : Lad (c x) G) : mlO ops3 k u = dB 256 32 (G (nK k)).v := by
  have h1 : RC ([1, 0, 0, 0, 0], [0, 0, 0, 0, 0]) (1, 0) := by
    refine ⟨1, 0, ?_, ?_, ?_⟩
    · exact oneE
    · exact zE'
    · exact Prod.ext (nat_d 1) (nat_d 0)
  have h2 : RC (ofF u, [1, 0, 0, 0, 0]) (c x, 1) := by
    rw [show (1 : Fq) = c 1 from nat_d 1]
    exact RC_mk eu oneE
  have h3 : ∀ {a b : L2} {r s : Rg}, RC a r → RC b s → RC (ops3.sum (ofF u) b a) (addC (c x) r s) := fun a b => by
    rw [← addC_comm]
    exact RC_sum eu b a
  have hrel := ladG_rel (R := RC) (u := c x) (F := dblC) (A := addC (c x)) (p := ([1, 0, 0, 0, 0], [0, 0, 0, 0, 0])) (q := (ofF u, [1, 0, 0, 0, 0]))
    (f := ops3.dbl) (g := ops3.sum (ofF u)) (h := fun p q => ops3.sum (ofF u) q p) (fun i => bitK (clF k) (254 - i)) h1 h2 RC_dbl (RC_sum eu) h3 255
  obtain ⟨⟨v, w, e1, e2, e3⟩, _⟩ := hrel
  have hv := lad_C hG (fun i => bitK (clF k) (254 - i)) 254
  rw [show 254 + 1 = 255 from rfl, e3] at hv
  have ht := top_val (V := nK k) (N := 255) (by have := nK_lt hk; rw [show (2 : Nat) ^ 255 = P2 by decide]; exact this) (bitK_cl hk) 255 (Nat.le_refl _)
  rw [Nat.sub_self, Nat.pow_zero, Nat.div_one] at ht
  rw [ht] at hv
  have em := mulE e1 (invE e2)
  unfold mlO ldO
  rw [ops3_bytes, ops3_mul, ops3_inv, ops3_of, ops3_cl, bytesE em]
  have hc : c (v * w ^ (P255 - 2)) = G (nK k) := by
    rw [c_mul, c_inv]
    exact hv
  rw [← hc, c_v]

theorem ml_val {k u : List Nat} (hk : g32 k = true) (hu : g32 u = true) {G : Nat → Fq} (hG : Lad (c (uV u)) G) : mlO ops3 k u = dB 256 32 (G (nK k)).v :=
  ml_val' hk (ofE hu) hG

/-! The document's ladder. -/
def RR (p : L2) (r : Rg) : Prop := ∃ v w, v < M256 ∧ w < M256 ∧ p = (nb v, nb w) ∧ r = (c v, c w)

theorem c_fm {u v : Nat} (hu : u < M256) (hv : v < M256) : fv (u * v) < M256 ∧ c (fv (u * v)) = c u * c v :=
  ⟨(fvMul hu hv).1, by rw [← c_mul]; exact c_eq.2 (fvMul hu hv).2⟩
theorem c_fa {u v : Nat} (hu : u < M256) (hv : v < M256) : fv (u + v) < M256 ∧ c (fv (u + v)) = c u + c v :=
  ⟨(fvAdd hu hv).1, by rw [← c_add]; exact c_eq.2 (fvAdd hu hv).2⟩
theorem c_fs {u v : Nat} (hu : u < M256) : fv (u + ngV v) < M256 ∧ c (fv (u + ngV v)) = c u - c v :=
  ⟨(fvAdd hu (ngLt v)).1, by rw [← c_sub']; exact c_eq.2 (fvAdd hu (ngLt v)).2⟩

theorem RR_dbl {p : L2} {r : Rg} (h : RR p r) : RR (ops3.dblR p) (Fq.dblR r) := by
  obtain ⟨v, w, hv, hw, rfl, rfl⟩ := h
  rw [ops3_dblR]
  unfold dblLR Fq.dblR
  simp only [ops_mulR, ops_subR, ops_addR, ops_smR]
  have c4 : 4 % 4294967296 < M256 := by decide
  have cA : 486662 % 4294967296 < M256 := by decide
  obtain ⟨x1, x2⟩ := c_fm hv hv
  obtain ⟨z1, z2⟩ := c_fm hw hw
  obtain ⟨b1, b2⟩ := c_fm hv hw
  obtain ⟨d1, d2⟩ := c_fs (v := fv (w * w)) x1
  obtain ⟨a1, a2⟩ := c_fa x1 z1
  obtain ⟨m1, m2⟩ := c_fm cA b1
  obtain ⟨i1, i2⟩ := c_fa a1 m1
  obtain ⟨f1, f2⟩ := c_fm c4 b1
  obtain ⟨r1, r2⟩ := c_fm d1 d1
  obtain ⟨s1, s2⟩ := c_fm f1 i1
  simp only [nb_val hv, nb_val hw, nb_val c4, nb_val cA, nb_val x1, nb_val z1, nb_val b1, nb_val d1, nb_val a1, nb_val m1, nb_val i1, nb_val f1]
  refine ⟨_, _, r1, s1, rfl, ?_⟩
  rw [r2, s2, d2, f2, i2, a2, m2, b2, x2, z2]
  rfl

theorem RR_sum {x : Nat} (hx : x < M256) {p q : L2} {r s : Rg} (h : RR p r) (h' : RR q s) : RR (ops3.sumR (nb x) p q) (Fq.addR (c x) r s) := by
  obtain ⟨v, w, hv, hw, rfl, rfl⟩ := h
  obtain ⟨v', w', hv', hw', rfl, rfl⟩ := h'
  rw [ops3_sumR]
  unfold addLR Fq.addR
  simp only [ops_mulR, ops_subR]
  obtain ⟨x1, x2⟩ := c_fm hv hv'
  obtain ⟨z1, z2⟩ := c_fm hw hw'
  obtain ⟨y1, y2⟩ := c_fm hv hw'
  obtain ⟨t1, t2⟩ := c_fm hw hv'
  obtain ⟨a1, a2⟩ := c_fs (v := fv (w * w')) x1
  obtain ⟨b1, b2⟩ := c_fs (v := fv (w * v')) y1
  obtain ⟨r1, r2⟩ := c_fm a1 a1
  obtain ⟨q1, q2⟩ := c_fm b1 b1
  obtain ⟨s1, s2⟩ := c_fm hx q1
  simp only [nb_val hv, nb_val hw, nb_val hv', nb_val hw', nb_val x1, nb_val z1, nb_val y1, nb_val t1, nb_val a1, nb_val b1, nb_val q1, nb_val hx]
  refine ⟨_, _, r1, s1, rfl, ?_⟩
  rw [r2, s2, q2, a2, b2, x2, z2, y2, t2]

theorem bitR_cl {k : List Nat} (h : g32 k = true) (i : Nat) (hi : i < 256) : bitR (clF k) (255 - i) = decide (nK k / 2 ^ (256 - 1 - i) % 2 = 1) := by
  unfold bitR
  rw [g32_bit (cl_g32 h) (by omega)]
  rfl

theorem hq0 {x : Nat} (hx : x < M256) : RR (nb x, nb (1 % 4294967296)) (c x, 1) := ⟨x, 1, hx, by decide, rfl, Prod.ext (Eq.refl (c x)) (nat_d 1)⟩

theorem mlR_val {k u : List Nat} (hk : g32 k = true) (hu : g32 u = true) {G : Nat → Fq} (hG : Lad (c (uV u)) G) : mlR ops3 k u = dB 256 32 (G (nK k)).v := by
  have hx : uV u < M256 := P2_lt _
  have h1 : 1 % 4294967296 < M256 := by decide
  have hz : z16 = nb 0 := by decide
  have hrel := ladG_rel (R := RR) (u := c (uV u)) (F := Fq.dblR) (A := Fq.addR (c (uV u))) (p := (nb (1 % 4294967296), z16)) (q := (nb (uV u), nb (1 % 4294967296)))
    (f := ops3.dblR) (g := ops3.sumR (nb (uV u))) (h := ops3.sumR (nb (uV u))) (fun i => bitR (clF k) (255 - i)) ⟨1, 0, by decide, by decide, by rw [hz], Prod.ext (nat_d 1) (nat_d 0)⟩ (hq0 hx) RR_dbl (RR_sum hx) (RR_sum hx) 256
  obtain ⟨⟨v, w, hv, hw, e1, e2⟩, _⟩ := hrel
  have hl := lad_R hG (fun i => bitR (clF k) (255 - i)) 255
  rw [show 255 + 1 = 256 from rfl, e2] at hl
  have ht := top_val (V := nK k) (N := 256) (by have := g32_lt (cl_g32 hk); exact this) (bitR_cl hk) 256 (Nat.le_refl _)
  rw [Nat.sub_self, Nat.pow_zero, Nat.div_one] at ht
  rw [ht] at hl
  have p1 := pwV_lt (V := P255 - 2) hw
  have p2 := pwV_mod (V := P255 - 2) hw (by decide)
  obtain ⟨m1, m2⟩ := c_fm hv p1
  unfold mlR ldR
  rw [cl_eq hk, ops3_ofR, ops3_smR]
  simp only
  rw [show vB 256 u % 57896044618658097711785492504343953926634992332820282019728792003956564819968 = uV u from rfl, e1, ops3_mulR, ops3_invR, ops3_bytesR]
  simp only
  rw [nb_val hv, nb_val hw, nb_val p1, nb_val m1]
  have hc : c (fv (v * pwV w (P255 - 2))) = G (nK k) := by
    rw [m2, ← hl, ← c_inv]
    refine congrArg (c v * ·) ?_
    exact c_eq.2 p2
  rw [← hc, c_v]

end Go.Proofs.Yteaoegdmhoepiaa

namespace Go.Proofs.Yteaoegdmhoepiaa
open Go

structure OpsL where
  ml : List Nat → List Nat → List Nat
  mr : List Nat → List Nat → List Nat
  g32 : List Nat → Bool

def opsL : OpsL := { ml := mlO ops3, mr := mlR ops3, g32 := g32 }
theorem opsL_ml : opsL.ml = mlO ops3 := by kernel_rfl
theorem opsL_mr : opsL.mr = mlR ops3 := by kernel_rfl
theorem opsL_g32 : opsL.g32 = g32 := by kernel_rfl

def O63 (o : OpsL) : FSem := ⟨false, fun args hin => match args, hin with
  | [.agg [.ints .u8 32 k], .agg [.ints .u8 32 u]], [] => some (.need (o.g32 u) (.leaf (.agg [.ints .u8 32 (o.ml k u)], [])))
  | _, _ => none⟩
theorem oo63 : FOk Try.prog 63 (O63 opsL) := by
  have e : O63 opsL = F63 := by kernel_rfl
  rw [e]
  exact ok63

def O64 (o : OpsL) : FSem := ⟨false, fun args hin => match args, hin with
  | [.agg [.ints .u8 32 k], .agg [.ints .u8 32 u]], [] => some (.need (o.g32 u) (.leaf (.agg [.ints .u8 32 (o.mr k u)], [])))
  | _, _ => none⟩
theorem oo64 : FOk Try.prog 64 (O64 opsL) := by
  have e : O64 opsL = F64 := by kernel_rfl
  rw [e]
  exact ok64

theorem fn65 : Fn Try.prog 65 Try.f65 := ⟨mixedF, Try.func65, by kernel_rfl, of_decide_eq_true (by kernel_rfl)⟩
theorem fn66 : Fn Try.prog 66 Try.f66 := ⟨mixedF, Try.func66, by kernel_rfl, of_decide_eq_true (by kernel_rfl)⟩
theorem fn67 : Fn Try.prog 67 Try.f67 := ⟨mixedF, Try.func67, by kernel_rfl, of_decide_eq_true (by kernel_rfl)⟩
theorem fn21 : Fn Try.prog 21 Try.f21 := ⟨mixedF, Try.func21, by kernel_rfl, of_decide_eq_true (by kernel_rfl)⟩

def nine : List Nat := 9 :: List.replicate 31 0

/-- The error's number. -/
def erz (k : List Nat) : Nat := cond (decide (k = zero32)) 50 0

def O65 (o : OpsL) : FSem := ⟨false, fun args hin => match args, hin with
  | [.agg [.ints .u8 32 k], .agg [.ints .u8 32 u]], [] => some (.need (o.g32 u) (.leaf (.tup [.agg [.ints .u8 32 (o.ml k u)], .s (.nat .i64 (erz (o.ml k u)))], [])))
  | _, _ => none⟩
def O66 (o : OpsL) : FSem := ⟨false, fun args hin => match args, hin with
  | [.agg [.ints .u8 32 k], .agg [.ints .u8 32 u]], [] => some (.need (o.g32 u) (.leaf (.tup [.agg [.ints .u8 32 (o.mr k u)], .s (.nat .i64 (erz (o.mr k u)))], [])))
  | _, _ => none⟩
def O21 (o : OpsL) : FSem := ⟨false, fun args hin => match args, hin with
  | [.agg [.ints .u8 32 k]], [] => some (.leaf (.agg [.ints .u8 32 (o.ml k nine)], []))
  | _, _ => none⟩
def O67 (o : OpsL) : FSem := ⟨false, fun args hin => match args, hin with
  | [.agg [.ints .u8 32 k]], [] => some (.leaf (.agg [.ints .u8 32 (o.mr k nine)], []))
  | _, _ => none⟩

set_option maxRecDepth 100000 in
theorem r65 (o : OpsL) (k u : List Nat) : runB Try.prog [(63, O63 o)] [] .nat 7 Try.f65 [.agg [.ints .u8 32 k], .agg [.ints .u8 32 u]] [] =
(nd [o.g32 u]
 (cond (decide (o.ml k u = zero32))
 (some (AV.tup [AV.agg [Ch.ints IntKind.u8 32 zero32], AV.s (SV.nat IntKind.i64 50)], []))
 (some (AV.tup [AV.agg [Ch.ints IntKind.u8 32 (o.ml k u)], AV.s (SV.nat IntKind.i64 0)], [])))) := by kernel_rfl

set_option maxRecDepth 100000 in
theorem r66 (o : OpsL) (k u : List Nat) : runB Try.prog [(64, O64 o)] [] .nat 7 Try.f66 [.agg [.ints .u8 32 k], .agg [.ints .u8 32 u]] [] =
(nd [o.g32 u]
 (cond (decide (o.mr k u = zero32))
 (some (AV.tup [AV.agg [Ch.ints IntKind.u8 32 (o.mr k u)], AV.s (SV.nat IntKind.i64 50)], []))
 (some (AV.tup [AV.agg [Ch.ints IntKind.u8 32 (o.mr k u)], AV.s (SV.nat IntKind.i64 0)], [])))) := by kernel_rfl

set_option maxRecDepth 100000 in
theorem r21 (o : OpsL) (k : List Nat) : runB Try.prog [(63, O63 o)] [] .nat 7 Try.f21 [.agg [.ints .u8 32 k]] [] =
(nd [o.g32 nine]
 (some (AV.agg [Ch.ints IntKind.u8 32 (o.ml k nine)], []))) := by kernel_rfl

set_option maxRecDepth 100000 in
theorem r67 (o : OpsL) (k : List Nat) : runB Try.prog [(64, O64 o)] [] .nat 7 Try.f67 [.agg [.ints .u8 32 k]] [] =
(nd [o.g32 nine]
 (some (AV.agg [Ch.ints IntKind.u8 32 (o.mr k nine)], []))) := by kernel_rfl

theorem nine32 : g32 nine = true := by decide +kernel

theorem oo65 : FOk Try.prog 65 (O65 opsL) := by
  refine fokB (fs := [(63, O63 opsL)]) (xs := []) (m := .nat) (fuel := 7) (.cons oo63 .nil) fn65 ?_
  intro args hin t r h hg
  unfold O65 at h
  simp only at h
  split at h
  · rename_i k u
    cases h
    obtain ⟨hl, hg⟩ := need1 hg
    cases hg
    rw [r65, hl]
    unfold erz
    by_cases hz : opsL.ml k u = zero32
    · rw [hz]
      rfl
    · rw [decide_eq_false hz]
      rfl
  · cases h

theorem oo66 : FOk Try.prog 66 (O66 opsL) := by
  refine fokB (fs := [(64, O64 opsL)]) (xs := []) (m := .nat) (fuel := 7) (.cons oo64 .nil) fn66 ?_
  intro args hin t r h hg
  unfold O66 at h
  simp only at h
  split at h
  · rename_i k u
    cases h
    obtain ⟨hl, hg⟩ := need1 hg
    cases hg
    rw [r66, hl]
    unfold erz
    cases decide (opsL.mr k u = zero32)
    · rfl
    · rfl
  · cases h

theorem oo21 : FOk Try.prog 21 (O21 opsL) := by
  refine fokB (fs := [(63, O63 opsL)]) (xs := []) (m := .nat) (fuel := 7) (.cons oo63 .nil) fn21 ?_
  intro args hin t r h hg
  unfold O21 at h
  simp only at h
  split at h
  · cases h
    cases hg
    rw [r21, opsL_g32, nine32]
    rfl
  · cases h

theorem oo67 : FOk Try.prog 67 (O67 opsL) := by
  refine fokB (fs := [(64, O64 opsL)]) (xs := []) (m := .nat) (fuel := 7) (.cons oo64 .nil) fn67 ?_
  intro args hin t r h hg
  unfold O67 at h
  simp only at h
  split at h
  · cases h
    cases hg
    rw [r67, opsL_g32, nine32]
    rfl
  · cases h

end Go.Proofs.Yteaoegdmhoepiaa

namespace Go.Proofs.Yteaoegdmhoepiaa
open Go
open Fq

theorem top_nK {k : List Nat} (hk : g32 k = true) : ∃ bit, top bit (254 + 1) = nK k := by
  have ht := top_val (V := nK k) (N := 255) (by have := nK_lt hk; rw [show (2 : Nat) ^ 255 = P2 by decide]; exact this) (bitK_cl hk) 255 (Nat.le_refl _)
  rw [Nat.sub_self, Nat.pow_zero, Nat.div_one] at ht
  exact ⟨_, ht⟩

theorem ml_g32 {k u : List Nat} (hk : g32 k = true) (hu : g32 u = true) : g32 (mlO ops3 k u) = true := by
  obtain ⟨G, hG⟩ := lad_ex (c (uV u))
  rw [ml_val hk hu hG]
  exact dB_g32

theorem ml_eq {k u : List Nat} (hk : g32 k = true) (hu : g32 u = true) : mlO ops3 k u = mlR ops3 k u := by
  obtain ⟨G, hG⟩ := lad_ex (c (uV u))
  rw [ml_val hk hu hG, mlR_val hk hu hG]

theorem uV_dB (a : Fq) : c (uV (dB 256 32 a.v)) = a := by
  unfold uV
  rw [vB_bytes a.lt, c_self]

theorem ml_ml {a b u : List Nat} (ha : g32 a = true) (hb : g32 b = true) (hu : g32 u = true) {G : Nat → Fq} (hG : Lad (c (uV u)) G) :
    mlO ops3 a (mlO ops3 b u) = dB 256 32 (G (nK a * nK b)).v := by
  rw [ml_val hb hu hG]
  obtain ⟨G', hG'⟩ := lad_ex (G (nK b))
  have hG2 : Lad (c (uV (dB 256 32 (G (nK b)).v))) G' := by rw [uV_dB]; exact hG'
  rw [ml_val ha dB_g32 hG2]
  obtain ⟨bit, hbit⟩ := top_nK ha
  have h8 := nK_8 ha
  have := lad_comp hG (nK b) hG' bit 254 (nK a / 8 * 4) (by rw [hbit]; omega)
  rw [hbit] at this
  rw [this]

theorem ml_comm {a b u : List Nat} (ha : g32 a = true) (hb : g32 b = true) (hu : g32 u = true) : mlO ops3 a (mlO ops3 b u) = mlO ops3 b (mlO ops3 a u) := by
  obtain ⟨G, hG⟩ := lad_ex (c (uV u))
  rw [ml_ml ha hb hu hG, ml_ml hb ha hu hG, Nat.mul_comm]

/-! With numbers. -/
def dblN (p : Nat × Nat) : Nat × Nat :=
  let s := (p.1 + p.2) * (p.1 + p.2) % P255
  let m := (p.1 + (P255 - p.2)) * (p.1 + (P255 - p.2)) % P255
  let e := (s + (P255 - m)) % P255
  (s * m % P255, e * (s + 121665 * e) % P255)
def addN (u : Nat) (p q : Nat × Nat) : Nat × Nat :=
  let l := (q.1 + (P255 - q.2)) * (p.1 + p.2) % P255
  let r := (q.1 + q.2) * (p.1 + (P255 - p.2)) % P255
  ((l + r) * (l + r) % P255, u * (l + (P255 - r)) * (l + (P255 - r)) % P255)
def bitN (V i : Nat) : Bool := decide (V / 2 ^ (255 - 1 - i) % 2 = 1)
def stN (u V n : Nat) : (Nat × Nat) × (Nat × Nat) := ladG (1, 0) (u, 1) dblN (addN u) (addN u) (bitN V) n

def RN (p : Nat × Nat) (r : Rg) : Prop := p.1 < P255 ∧ p.2 < P255 ∧ r = (c p.1, c p.2)

theorem c_psub {a b : Nat} (h : b < P255) : c (a + (P255 - b)) = c a - c b := by
  rw [c_add]
  have : c (P255 - b) = -c b := by
    refine (neg_uniq ?_).symm
    rw [← c_add, Nat.add_sub_cancel' (Nat.le_of_lt h)]
    exact c_eq.2 (by decide)
  rw [this]
  exact (sub_d _ _).symm

theorem RN_dbl {p : Nat × Nat} {r : Rg} (h : RN p r) : RN (dblN p) (dblC r) := by
  obtain ⟨h1, h2, rfl⟩ := h
  refine ⟨mod_lt' _, mod_lt' _, ?_⟩
  unfold dblN dblC
  simp only [c_mod, c_mul, c_add, c_psub h2, c_psub (mod_lt' _)]
  rfl

theorem RN_sum {u : Nat} {p q : Nat × Nat} {r s : Rg} (h : RN p r) (h' : RN q s) : RN (addN u p q) (addC (c u) r s) := by
  obtain ⟨h1, h2, rfl⟩ := h
  obtain ⟨k1, k2, rfl⟩ := h'
  refine ⟨mod_lt' _, mod_lt' _, ?_⟩
  unfold addN addC
  simp only [c_mod, c_mul, c_add, c_psub h2, c_psub k2, c_psub (mod_lt' _)]

theorem stN_val {u V : Nat} (hu : u < P255) (hV : V < P2) {G : Nat → Fq} (hG : Lad (c u) G) : c (stN u V 255).1.1 * (c (stN u V 255).1.2)⁻¹ = G V := by
  have hrel := ladG_rel (R := RN) (u := c u) (F := dblC) (A := addC (c u)) (p := (1, 0)) (q := (u, 1)) (f := dblN) (g := addN u) (h := addN u) (bitN V)
    ⟨by decide, by decide, Prod.ext (nat_d 1) (nat_d 0)⟩ ⟨hu, show 1 < P255 by decide, Prod.ext (Eq.refl (c u)) (nat_d 1)⟩ RN_dbl RN_sum RN_sum 255
  have hv := lad_C hG (bitN V) 254
  rw [show 254 + 1 = 255 from rfl, hrel.1.2.2] at hv
  have ht := top_val (V := V) (N := 255) (by rw [show (2 : Nat) ^ 255 = P2 by decide]; exact hV) (bit := bitN V) (fun i _ => rfl) 255 (Nat.le_refl _)
  rw [Nat.sub_self, Nat.pow_zero, Nat.div_one] at ht
  rw [ht] at hv
  exact hv

def ka : List Nat := 1 :: List.replicate 31 0
def kb : List Nat := 2 :: 3 :: List.replicate 30 0
def wb : Nat := 18153576102998169687324876004378560906340955796637970270314680120142542142707
def na : Nat := 28948022309329048855892746252171976963317496166410141009864396001978282409984
def nb' : Nat := 28948022309329048855892746252171976963317496166410141009864396001978282410752

theorem ka32 : g32 ka = true := by decide +kernel
theorem kb32 : g32 kb = true := by decide +kernel
theorem na_eq : nK ka = na := by decide +kernel
theorem nb_eq : nK kb = nb' := by decide +kernel
theorem na_lt : na < P2 := by decide
theorem nb_lt : nb' < P2 := by decide
theorem wb_lt : wb < P255 := by decide
theorem u9 : uV nine = 9 := by decide +kernel

theorem num1 : (stN 9 nb' 255).1.2 % P255 ≠ 0 ∧ (stN 9 nb' 255).1.1 % P255 = wb * (stN 9 nb' 255).1.2 % P255 := by decide +kernel
theorem num2 : (stN wb na 255).1.2 % P255 ≠ 0 ∧ (stN wb na 255).1.1 % P255 ≠ 0 := by decide +kernel

theorem G_ne {x z : Nat} (h1 : z % P255 ≠ 0) (h2 : x % P255 ≠ 0) : c x * (c z)⁻¹ ≠ 0 := fun h => by
  have hz : c z ≠ 0 := fun e => h1 (c_zero.1 e)
  have hx : c x ≠ 0 := fun e => h2 (c_zero.1 e)
  have hi := mul_inv hz
  have := eq_zero h hx
  rw [this] at hi
  exact zero_ne_one (by rw [← hi]; grind)

theorem G_is {x z w : Nat} (h1 : z % P255 ≠ 0) (h2 : x % P255 = w * z % P255) : c x * (c z)⁻¹ = c w := by
  have hz : c z ≠ 0 := fun e => h1 (c_zero.1 e)
  have hi := mul_inv hz
  have e : c x = c w * c z := by rw [← c_mul]; exact c_eq.2 h2
  rw [e]
  generalize (c z)⁻¹ = i at *
  grind

/-- Two with known keys agree on something. -/
theorem known_ne : mlO ops3 ka (mlO ops3 kb nine) ≠ zero32 := by
  obtain ⟨G, hG⟩ := lad_ex (c 9)
  have v1 := stN_val (u := 9) (V := nb') (by decide) nb_lt hG
  rw [G_is num1.1 num1.2] at v1
  have hG9 : Lad (c (uV nine)) G := by rw [u9]; exact hG
  rw [ml_val kb32 nine32 hG9, nb_eq, ← v1]
  obtain ⟨G', hG'⟩ := lad_ex (c wb)
  have v2 := stN_val (u := wb) (V := na) wb_lt na_lt hG'
  have hne := G_ne num2.1 num2.2
  rw [v2] at hne
  have hG2 : Lad (c (uV (dB 256 32 (c wb).v))) G' := by rw [uV_dB]; exact hG'
  rw [ml_val ka32 dB_g32 hG2, na_eq]
  intro h
  rw [zero32_dB] at h
  have := dB_inj (G' na).lt (by decide) h
  exact hne (Fq.ext this)

end Go.Proofs.Yteaoegdmhoepiaa

namespace Go.Proofs.Yteaoegdmhoepiaa
open Go

theorem fn62 : Fn Try.prog 62 Try.f62 := ⟨mixedF, Try.func62, by kernel_rfl, of_decide_eq_true (by kernel_rfl)⟩

def O62 : FSem := ⟨false, fun args hin => match args, hin with
  | [], [] => some (.leaf (.s (.bool true), []))
  | _, _ => none⟩

set_option maxRecDepth 100000 in
theorem r62 (o : OpsL) : runB Try.prog [(65, O65 o), (21, O21 o)] [] .nat 7 Try.f62 [] [] =
(nd [o.g32 (o.ml kb nine), o.g32 (o.ml ka nine)]
 (cond (decide (erz (o.ml ka (o.ml kb nine)) = 0))
 (cond (decide (erz (o.ml kb (o.ml ka nine)) = 0))
 (cond (decide (o.ml ka (o.ml kb nine) = o.ml kb (o.ml ka nine)))
 (some (AV.s (SV.bool !decide (o.ml ka (o.ml kb nine) = zero32)), []))
 (some (AV.s (SV.bool false), [])))
 (some (AV.s (SV.bool false), [])))
 (some (AV.s (SV.bool false), [])))) := by kernel_rfl

theorem erz_ne {k : List Nat} (h : k ≠ zero32) : erz k = 0 := by
  unfold erz
  rw [decide_eq_false h]
  rfl
theorem erz_z : erz zero32 = 50 := by
  unfold erz
  rw [decide_eq_true rfl]
  rfl

theorem oo62 : FOk Try.prog 62 O62 := by
  refine fokB (fs := [(65, O65 opsL), (21, O21 opsL)]) (xs := []) (m := .nat) (fuel := 7) (.cons oo65 (.cons oo21 .nil)) fn62 ?_
  intro args hin t r h hg
  unfold O62 at h
  simp only at h
  split at h
  · cases h
    cases hg
    have h1 := known_ne
    have h2 := ml_comm ka32 kb32 nine32
    rw [r62, opsL_ml, opsL_g32, ← h2, erz_ne h1, decide_eq_false h1]
    refine nd_of ?_ (cond_t (decide_eq_true rfl) (cond_t (decide_eq_true rfl) (cond_t (decide_eq_true rfl) rfl)))
    simp only [List.mem_cons, List.not_mem_nil, or_false, forall_eq_or_imp, forall_eq]
    exact ⟨ml_g32 kb32 nine32, ml_g32 ka32 nine32⟩
  · cases h

def envL (o : OpsL) : List (Nat × FSem) := [(62, O62), (63, O63 o), (64, O64 o), (65, O65 o), (66, O66 o), (21, O21 o), (67, O67 o)]
theorem envL_ok : EnvOk ⟨Try.prog, envL opsL, []⟩ := .cons oo62 (.cons oo63 (.cons oo64 (.cons oo65 (.cons oo66 (.cons oo21 (.cons oo67 .nil))))))

theorem fn13 : Fn Try.prog 13 Try.f13 := ⟨mixedF, Try.func13, by kernel_rfl, of_decide_eq_true (by kernel_rfl)⟩
theorem fn14 : Fn Try.prog 14 Try.f14 := ⟨mixedF, Try.func14, by kernel_rfl, of_decide_eq_true (by kernel_rfl)⟩
theorem fn15 : Fn Try.prog 15 Try.f15 := ⟨mixedF, Try.func15, by kernel_rfl, of_decide_eq_true (by kernel_rfl)⟩
theorem fn16 : Fn Try.prog 16 Try.f16 := ⟨mixedF, Try.func16, by kernel_rfl, of_decide_eq_true (by kernel_rfl)⟩
theorem fn17 : Fn Try.prog 17 Try.f17 := ⟨mixedF, Try.func17, by kernel_rfl, of_decide_eq_true (by kernel_rfl)⟩

end Go.Proofs.Yteaoegdmhoepiaa

namespace Go.Proofs.Yteaoegdmhoepiaa
open Go

structure OpsW extends OpsM where
  ml : List Nat → List Nat → List Nat
  cl : List Nat → List Nat

def opsW : OpsW := { toOpsM := opsM, ml := mlO ops3, cl := clF }
theorem opsW_ops : opsW.toOpsM = opsM := by kernel_rfl
theorem opsW_ml : opsW.ml = mlO ops3 := by kernel_rfl
theorem opsW_cl : opsW.cl = clF := by kernel_rfl

def W18 (o : OpsW) : FSem := ⟨false, fun args hin => match args, hin with
  | [.agg [.ints .u8 32 k]], [] => some (.leaf (.agg [.ints .u8 32 (o.cl k)], []))
  | _, _ => none⟩
theorem ww18 : FOk Try.prog 18 (W18 opsW) := by
  have e : W18 opsW = F18 := by kernel_rfl
  rw [e]
  exact ok18

def W21 (o : OpsW) : FSem := ⟨false, fun args hin => match args, hin with
  | [.agg [.ints .u8 32 k]], [] => some (.leaf (.agg [.ints .u8 32 (o.ml k nine)], []))
  | _, _ => none⟩
theorem ww21 : FOk Try.prog 21 (W21 opsW) := by
  have e : W21 opsW = O21 opsL := by kernel_rfl
  rw [e]
  exact oo21

def envW (o : OpsW) : List (Nat × FSem) := (18, W18 o) :: (21, W21 o) :: envM o.toOpsM
theorem envW_ok : EnvOk ⟨Try.prog, envW opsW, []⟩ := .cons ww18 (.cons ww21 envM_ok)

theorem fn3 : Fn Try.prog 3 Try.f3 := ⟨mixedF, Try.func3, by kernel_rfl, of_decide_eq_true (by kernel_rfl)⟩

end Go.Proofs.Yteaoegdmhoepiaa

namespace Go.Proofs.Yteaoegdmhoepiaa
open Go
open Fq

namespace Fq
theorem i_ex : ∃ i : Fq, i * i = -1 := by
  obtain ⟨n, hn, hnn⟩ := ei_ex
  exact ⟨_, i_sq hnn⟩
noncomputable def iF : Fq := Classical.choose i_ex
theorem i_i : iF * iF = -1 := Classical.choose_spec i_ex

/-- What the coordinates of the code stand for. -/
def Rp (P : Pt d1) (x y z t : Fq) : Prop := z ≠ 0 ∧ x = -(iF * P.x * z) ∧ y = P.y * z ∧ t = -(iF * P.x * P.y * z)

theorem add_x {d : Fq} (hd : NS d) (P Q : Pt d) : (add hd P Q).x * (1 + d*P.x*Q.x*P.y*Q.y) = P.x*Q.y + Q.x*P.y := by
  have h := mul_inv (den_p hd P.on Q.on)
  show (P.x*Q.y+Q.x*P.y) * (1 + d*P.x*Q.x*P.y*Q.y)⁻¹ * (1 + d*P.x*Q.x*P.y*Q.y) = _
  generalize (1 + d*P.x*Q.x*P.y*Q.y)⁻¹ = i at *
  generalize 1 + d*P.x*Q.x*P.y*Q.y = k at *
  generalize P.x*Q.y+Q.x*P.y = l at *
  grind -lia

theorem pl_id {i d X Y X' Y' z z' t X3 Y3 : Fq} (hi : i * i = -1) (ht : t = d*X*X'*Y*Y') (hx : X3 * (1 + t) = X*Y' + X'*Y) (hy : Y3 * (1 - t) = Y*Y' - X*X') :
    let x := -(i * X * z)
    let y := Y * z
    let s := -(i * X * Y * z)
    let x' := -(i * X' * z')
    let y' := Y' * z'
    let s' := -(i * X' * Y' * z')
    let a := (y - x) * (y' - x')
    let b := (y + x) * (y' + x')
    let c := 1 * 2 * -d * s * s'
    let e := 1 * 2 * z * z'
    let g := b - a
    let h := e - c
    let k := e + c
    let l := b + a
    let w := h * k
    w = 4 * ((z * z') * (z * z')) * ((1 - t) * (1 + t)) ∧ g * h = -(i * X3 * w) ∧ k * l = Y3 * w ∧ g * l = -(i * X3 * Y3 * w) := by
  intro x y s x' y' s' a b c e g h k l w
  have hg : g = -(2 * i * (X3 * (1 + t)) * (z * z')) := by
    rw [hx]
    show (y + x) * (y' + x') - (y - x) * (y' - x') = _
    show (Y * z + -(i * X * z)) * (Y' * z' + -(i * X' * z')) - (Y * z - -(i * X * z)) * (Y' * z' - -(i * X' * z')) = _
    grind -lia
  have hl : l = 2 * (Y3 * (1 - t)) * (z * z') := by
    rw [hy]
    show (Y * z + -(i * X * z)) * (Y' * z' + -(i * X' * z')) + (Y * z - -(i * X * z)) * (Y' * z' - -(i * X' * z')) = _
    have : (Y * z + -(i * X * z)) * (Y' * z' + -(i * X' * z')) + (Y * z - -(i * X * z)) * (Y' * z' - -(i * X' * z')) = 2 * (Y*Y' + (i * i) * (X*X')) * (z * z') := by grind -lia
    rw [this, hi]
    grind -lia
  have hc : c = 2 * t * (z * z') := by
    rw [ht]
    show 1 * 2 * -d * -(i * X * Y * z) * -(i * X' * Y' * z') = _
    have : 1 * 2 * -d * -(i * X * Y * z) * -(i * X' * Y' * z') = -(2 * d * (i * i) * (X * X' * Y * Y') * (z * z')) := by grind -lia
    rw [this, hi]
    grind -lia
  have he : e = 2 * (z * z') := by
    show 1 * 2 * z * z' = _
    grind -lia
  have hh : h = 2 * (1 - t) * (z * z') := by
    show e - c = _
    rw [hc, he]
    grind -lia
  have hk : k = 2 * (1 + t) * (z * z') := by
    show e + c = _
    rw [hc, he]
    grind -lia
  have hw : w = 4 * ((z * z') * (z * z')) * ((1 - t) * (1 + t)) := by
    show h * k = _
    rw [hh, hk]
    grind -lia
  refine ⟨hw, ?_, ?_, ?_⟩
  · rw [hw, hg, hh]
    clear hg hl hc he hh hk hw hx hy ht
    generalize z * z' = q
    grind -lia
  · rw [hw, hk, hl]
    clear hg hl hc he hh hk hw hx hy ht
    generalize z * z' = q
    grind -lia
  · rw [hw, hg, hl]
    clear hg hl hc he hh hk hw hx hy ht
    generalize z * z' = q
    grind -lia

theorem tw_id {i d X Y z t X3 Y3 : Fq} (hi : i * i = -1) (hon : X*X + Y*Y = 1 + d*X*X*Y*Y) (ht : t = d*X*X*Y*Y) (hx : X3 * (1 + t) = X*Y + X*Y) (hy : Y3 * (1 - t) = Y*Y - X*X) :
    let x := -(i * X * z)
    let y := Y * z
    let a := x * x
    let b := y * y
    let c := 1 * 2 * z * z
    let h := a + b
    let s := x + y
    let e := h - s * s
    let g := a - b
    let f := c + g
    let w := f * g
    w = -((z * z) * (z * z) * ((1 - t) * (1 + t))) ∧ e * f = -(i * X3 * w) ∧ g * h = Y3 * w ∧ e * h = -(i * X3 * Y3 * w) := by
  intro x y a b c h s e g f w
  have ha : a = -(X * X * (z * z)) := by
    show -(i * X * z) * -(i * X * z) = _
    have : -(i * X * z) * -(i * X * z) = (i * i) * (X * X * (z * z)) := by grind -lia
    rw [this, hi]
    grind -lia
  have hb : b = Y * Y * (z * z) := by
    show Y * z * (Y * z) = _
    grind -lia
  have hg : g = -((1 + t) * (z * z)) := by
    show a - b = _
    rw [ha, hb]
    have : 1 + t = X*X + Y*Y := by rw [hon, ht]
    rw [this]
    grind -lia
  have hh : h = Y3 * (1 - t) * (z * z) := by
    show a + b = _
    rw [ha, hb, hy]
    grind -lia
  have he : e = i * (X3 * (1 + t)) * (z * z) := by
    rw [hx]
    show x * x + y * y - (x + y) * (x + y) = _
    show -(i * X * z) * -(i * X * z) + Y * z * (Y * z) - (-(i * X * z) + Y * z) * (-(i * X * z) + Y * z) = _
    grind -lia
  have hf : f = (1 - t) * (z * z) := by
    show 1 * 2 * z * z + g = _
    rw [hg]
    grind -lia
  have hw : w = -((z * z) * (z * z) * ((1 - t) * (1 + t))) := by
    show f * g = _
    rw [hf, hg]
    grind -lia
  refine ⟨hw, ?_, ?_, ?_⟩
  · rw [hw, he, hf]
    clear ha hb hg hh he hf hw hx hy ht hon
    generalize z * z = q
    grind -lia
  · rw [hw, hg, hh]
    clear ha hb hg hh he hf hw hx hy ht hon
    generalize z * z = q
    grind -lia
  · rw [hw, he, hh]
    clear ha hb hg hh he hf hw hx hy ht hon
    generalize z * z = q
    grind -lia

end Fq

def RP (p : L4) (P : Pt d1) : Prop := ∃ x y z t, EV p.x x ∧ EV p.y y ∧ EV p.z z ∧ EV p.t t ∧ Rp P (c x) (c y) (c z) (c t)

theorem RP_len {p : L4} {P : Pt d1} (h : RP p P) : Len4 p := by
  obtain ⟨x, y, z, t, e1, e2, e3, e4, _⟩ := h
  exact ⟨e1.1.1, e2.1.1, e3.1.1, e4.1.1⟩

theorem fac_fact : (uV facK * 486664 + 486660) % P255 = 0 := by decide +kernel
theorem facK32 : g32 facK = true := by decide +kernel

theorem fac_d : c (uV facK) = -d1 := by
  have h := c_zero.2 fac_fact
  rw [c_add, c_mul] at h
  have h1 : c (uV facK) * 486664 + 486660 = 0 := h
  generalize c (uV facK) = f at *
  have hi := mul_inv n486664
  unfold d1
  generalize (486664 : Fq)⁻¹ = i at *
  have : f = f * (486664 * i) := by rw [hi]; grind -lia
  rw [this]
  have h2 : f * 486664 = -486660 := by grind -lia
  have h3 : f * (486664 * i) = f * 486664 * i := by grind -lia
  rw [h3, h2]
  grind -lia

theorem facE : EV (ofF facK) (uV facK) := ofE facK32

theorem n2E : EV n2 2 := smallE (by decide)
theorem c_two : c 2 = 2 := rfl
theorem c_one : c 1 = 1 := rfl

theorem RP_pl {p q : L4} {P Q : Pt d1} (hp : RP p P) (hq : RP q Q) : RP (opsP.pl p q (ofF facK)) (add ns_d1 P Q) := by
  obtain ⟨x, y, z, t, e1, e2, e3, e4, hz, hx, hy, ht⟩ := hp
  obtain ⟨x', y', z', t', f1, f2, f3, f4, hz', hx', hy', ht'⟩ := hq
  have ef := facE
  have hf := fac_d
  generalize uV facK = fa at *
  have a := mulE (subE e2 e1) (subE f2 f1)
  have b := mulE (addE2 e2 e1) (addE2 f2 f1)
  have cc := pd4E n2E ef e4 f4
  have e := pd3E n2E e3 f3
  have g := subE b a
  have h := subE e cc
  have k := addE2 e cc
  have l := addE2 b a
  rw [opsP_pl]
  unfold plL
  simp only [ops_mul, ops_sub, ops_add, ops_pd]
  have hid := pl_id (z := c z) (z' := c z') i_i rfl (add_x ns_d1 P Q) (add_y ns_d1 P Q)
  simp only [one_mul, ← hx, ← hy, ← ht, ← hx', ← hy', ← ht', ← hf] at hid
  obtain ⟨i1, i2, i3, i4⟩ := hid
  refine ⟨_, _, _, _, mulE g h, mulE k l, mulE h k, mulE g l, ?_⟩
  simp only [c_mul, c_add, c_neg, c_two, ← sub_d]
  refine ⟨?_, i2, i3, i4⟩
  show _ * _ ≠ 0
  refine fun h0 => ?_
  have h0' := i1.symm.trans h0
  exact mul_ne (mul_ne four_ne (mul_ne (mul_ne hz hz') (mul_ne hz hz'))) (mul_ne (den_m ns_d1 P.on Q.on) (den_p ns_d1 P.on Q.on)) h0'

theorem RP_tw {p : L4} {P : Pt d1} (hp : RP p P) : RP (opsP.tw p) (add ns_d1 P P) := by
  obtain ⟨x, y, z, t, e1, e2, e3, e4, hz, hx, hy, ht⟩ := hp
  have a := mulE e1 e1
  have b := mulE e2 e2
  have cc := pd3E n2E e3 e3
  have h := addE2 a b
  have s := addE2 e1 e2
  have e := subE h (mulE s s)
  have g := subE a b
  have f := addE2 cc g
  rw [opsP_tw]
  unfold twL
  simp only [ops_mul, ops_sub, ops_add, ops_pd]
  have hid := tw_id (z := c z) i_i P.on rfl (add_x ns_d1 P P) (add_y ns_d1 P P)
  simp only [one_mul, ← hx, ← hy] at hid
  obtain ⟨i1, i2, i3, i4⟩ := hid
  refine ⟨_, _, _, _, mulE e f, mulE g h, mulE f g, mulE e h, ?_⟩
  simp only [c_mul, c_add, c_neg, c_two, ← sub_d]
  refine ⟨?_, i2, i3, i4⟩
  show _ * _ ≠ 0
  refine fun h0 => ?_
  have h0' := i1.symm.trans h0
  have h1 : c z * c z * (c z * c z) * ((1 - d1*P.x*P.x*P.y*P.y) * (1 + d1*P.x*P.x*P.y*P.y)) ≠ 0 := mul_ne (mul_ne (mul_ne hz hz) (mul_ne hz hz)) (mul_ne (den_m ns_d1 P.on P.on) (den_p ns_d1 P.on P.on))
  refine h1 ?_
  rw [← neg_neg (c z * c z * (c z * c z) * ((1 - d1*P.x*P.x*P.y*P.y) * (1 + d1*P.x*P.x*P.y*P.y))), h0']
  exact neg_uniq (add_zero 0)

theorem RP_zero : RP zer4 (zeroP d1) := by
  refine ⟨0, 1, 1, 0, zE, oneE, oneE, zE, one_ne, ?_, ?_, ?_⟩
  · show (0 : Fq) = -(iF * 0 * 1)
    grind -lia
  · show (1 : Fq) = 1 * 1
    grind -lia
  · show (0 : Fq) = -(iF * 0 * 1 * 1)
    grind -lia

theorem RP_mp {p : L4} {P : Pt d1} (hp : RP p P) {k : List Nat} (hk : g32 k = true) : ∀ i, i ≤ 256 → RP (mpN opsP p k (ofF facK) i) (smul ns_d1 (vB 256 k / 2 ^ (256 - i)) P)
  | 0, _ => by
    have h : vB 256 k < 2 ^ 256 := g32_lt hk
    rw [Nat.div_eq_of_lt h]
    exact RP_zero
  | i + 1, hi => by
    have ih := RP_mp hp hk i (by omega)
    have hb := half_bit (vB 256 k) (255 - i)
    rw [show 255 - i + 1 = 256 - i by omega] at hb
    rw [show 256 - (i + 1) = 255 - i by omega, hb]
    have e2 := RP_tw ih
    rw [← smul_add, ← Nat.two_mul] at e2
    unfold mpN
    rw [bitK_val hk (by omega)]
    by_cases h : vB 256 k / 2 ^ (255 - i) % 2 = 1
    · rw [decide_eq_true h, h]
      exact RP_pl e2 hp
    · rw [decide_eq_false h, show vB 256 k / 2 ^ (255 - i) % 2 = 0 by omega, Nat.add_zero]
      exact e2

theorem RP_mpO {p : L4} {P : Pt d1} (hp : RP p P) {k : List Nat} (hk : g32 k = true) : RP (mpO opsP p k) (smul ns_d1 (vB 256 k) P) := by
  have := RP_mp hp hk 256 (Nat.le_refl _)
  rw [Nat.sub_self, Nat.pow_zero, Nat.div_one] at this
  unfold mpO
  rw [opsP_fac]
  exact this

end Go.Proofs.Yteaoegdmhoepiaa

namespace Go.Proofs.Yteaoegdmhoepiaa
open Go
open Fq

def curQ (o : OpsW) (k : List Nat) : L4 := o.mp o.bas (o.cl k)
def curE (o : OpsW) (k : List Nat) : List Nat := o.of ((o.enc (curQ o k)).set 31 ((o.enc (curQ o k)).getD 31 0 &&& 127))

set_option maxRecDepth 100000 in
theorem r3 (o : OpsW) (k : List Nat) : runB Try.prog (envW o) [] .nat 7 Try.f3 [.agg [.ints .u8 32 k]] [] =
(nd [o.l5 o.bas.x, o.l5 o.bas.y, o.l5 o.bas.z]
 (cond (!decide ((o.enc o.bas).getD 0 0 = 88))
 (some (AV.s (SV.bool false), []))
 (cond (decide (o.ml ka nine = zero32))
 (some (AV.s (SV.bool false), []))
 (nd [o.l5 o.bas.x, o.l5 o.bas.y, o.l5 o.bas.z, o.l5 o.bas.t, o.l5 (curQ o k).x, o.l5 (curQ o k).y, o.l5 (curQ o k).z, o.l5 n1, o.l5 (curE o k), o.l5 (o.sub n1 (curE o k)), o.l5 (o.add [n1, curE o k]), o.l5 (o.inv (o.sub n1 (curE o k))), o.l5 (o.mul (o.add [n1, curE o k]) (o.inv (o.sub n1 (curE o k))))]
 (some (AV.s (SV.bool (decide (o.bytes (o.mul (o.add [n1, curE o k]) (o.inv (o.sub n1 (curE o k)))) = o.ml (o.cl k) nine))), [])))))) := by kernel_rfl

theorem bas_fact : (uV basY * 5 + (P255 - 4)) % P255 = 0 ∧ (P255 - uV basX * uV basX % P255 + uV basY * uV basY) * 486664 % P255 = (486664 + (P255 - 486660) * (uV basX * uV basX * uV basY * uV basY)) % P255 := by decide +kernel
theorem basX32 : g32 basX = true := by decide +kernel
theorem basY32 : g32 basY = true := by decide +kernel
theorem uVY_lt : uV basY < P255 := by decide +kernel
theorem dB_Y : dB 256 32 (uV basY) = basY := by decide +kernel

theorem bas_e1 (X : Nat) : c (P255 - X * X % P255) = -(c X * c X) := by
  have := c_psub (a := 0) (mod_lt' (X * X))
  rw [Nat.zero_add, c_mod, c_mul] at this
  rw [this]
  show c 0 - _ = _
  have e0 : c 0 = 0 := rfl
  rw [e0]
  grind -lia
theorem bas_e2 : c (P255 - 486660) = -486660 := by
  have := c_psub (a := 0) (b := 486660) (by decide)
  rw [Nat.zero_add] at this
  rw [this]
  show (0 : Fq) - 486660 = _
  grind -lia
theorem bas_hd : d1 * 486664 = 486660 := by
  have hn := mul_inv n486664
  unfold d1
  generalize (486664 : Fq)⁻¹ = j at *
  grind -lia
theorem bas_a1 {i x : Fq} (hi : i * i = -1) : i * x * (i * x) = -(x * x) := by
  have : i * x * (i * x) = (i * i) * (x * x) := by grind -lia
  rw [this, hi]
  grind -lia
theorem bas_a2 {i x y d : Fq} (hi : i * i = -1) : d * (i * x) * (i * x) * y * y = -(d * (x * x * y * y)) := by
  have : d * (i * x) * (i * x) * y * y = (i * i) * (d * (x * x * y * y)) := by grind -lia
  rw [this, hi]
  grind -lia
theorem bas_a3 {d x y : Fq} : 486664 * (1 + -(d * (x * x * y * y))) = 486664 - (d * 486664) * (x * x * y * y) := by grind -lia
theorem bas_f {x y : Fq} (h2 : (-(x * x) + y * y) * 486664 = 486664 + -486660 * (x * x * y * y)) : 486664 * (-(x * x) + y * y) = 486664 - 486660 * (x * x * y * y) := by
  have : 486664 * (-(x * x) + y * y) = (-(x * x) + y * y) * 486664 := by grind -lia
  rw [this, h2]
  grind -lia
theorem bas_alg {i x y d : Fq} (hi : i * i = -1) (hd : d * 486664 = 486660) (h2 : (-(x * x) + y * y) * 486664 = 486664 + -486660 * (x * x * y * y)) : i * x * (i * x) + y * y = 1 + d * (i * x) * (i * x) * y * y := by
  rw [bas_a1 hi, bas_a2 hi]
  refine cancel n486664 ?_
  rw [bas_f h2, bas_a3, hd]
theorem bas_nm0 {X Y : Nat} (h : (P255 - X * X % P255 + Y * Y) * 486664 % P255 = (486664 + (P255 - 486660) * (X * X * Y * Y)) % P255) : (-(c X * c X) + c Y * c Y) * 486664 = 486664 + -486660 * (c X * c X * c Y * c Y) := by
  have h1 : c ((P255 - X * X % P255 + Y * Y) * 486664) = c (486664 + (P255 - 486660) * (X * X * Y * Y)) := c_eq.2 h
  rw [c_mul, c_add, bas_e1, c_mul, c_add, c_mul, bas_e2, c_mul, c_mul, c_mul] at h1
  exact h1
theorem bas_gen {X Y : Nat} (h : (P255 - X * X % P255 + Y * Y) * 486664 % P255 = (486664 + (P255 - 486660) * (X * X * Y * Y)) % P255) :
    iF * c X * (iF * c X) + c Y * c Y = 1 + d1 * (iF * c X) * (iF * c X) * c Y * c Y := bas_alg i_i bas_hd (bas_nm0 h)
theorem bas_on : iF * c (uV basX) * (iF * c (uV basX)) + c (uV basY) * c (uV basY) = 1 + d1 * (iF * c (uV basX)) * (iF * c (uV basX)) * c (uV basY) * c (uV basY) := bas_gen bas_fact.2

noncomputable def basP : Pt d1 := ⟨_, _, bas_on⟩

theorem bas_y : 5 * basP.y = 4 := by
  have h := bas_fact.1
  show 5 * c (uV basY) = 4
  generalize uV basY = Y at *
  have h1 := c_zero.2 h
  rw [c_psub (by decide), c_mul] at h1
  have h2 : c Y * 5 - 4 = 0 := h1
  grind -lia

theorem RP_mk {a b l m : List Nat} {x y z t : Nat} {P : Pt d1} (h1 : EV a x) (h2 : EV b y) (h3 : EV l z) (h4 : EV m t) (h : Rp P (c x) (c y) (c z) (c t)) : RP ⟨a, b, l, m⟩ P :=
  ⟨x, y, z, t, h1, h2, h3, h4, h⟩

theorem bas_px : basP.x = iF * c (uV basX) := rfl
theorem bas_py : basP.y = c (uV basY) := rfl

theorem Rp_aff {P : Pt d1} {X Y : Nat} (hx : P.x = iF * c X) (hy : P.y = c Y) : Rp P (c X) (c Y) (c 1) (c (X * Y)) := by
  have hi := i_i
  rw [c_mul, show c 1 = (1 : Fq) from (nat_d 1).symm]
  unfold Rp
  rw [hx, hy]
  generalize c X = x
  generalize c Y = y
  generalize iF = i at *
  refine ⟨one_ne, ?_, ?_, ?_⟩
  · have : i * (i * x) * 1 = (i * i) * x := by grind -lia
    rw [this, hi]
    grind -lia
  · rw [mul_one]
  · have : i * (i * x) * y * 1 = (i * i) * (x * y) := by grind -lia
    rw [this, hi]
    grind -lia

theorem RP_bas : RP opsP.bas basP := by
  have ex : EV (ofF basX) (uV basX) := ofE basX32
  have ey : EV (ofF basY) (uV basY) := ofE basY32
  rw [opsP_bas]
  unfold basL
  simp only [ops_of, ops_mul]
  exact RP_mk ex ey (l := n1) oneE (mulE ex ey) (Rp_aff bas_px bas_py)

theorem lad_bas : Lad (c 9) (fun n => ux 1 (smul ns_d1 n basP).y) := by
  have hy := bas_y
  refine .inr ⟨1, d1, good1, basP, ?_, ?_, ?_, fun n => rfl⟩
  · show (9 : Fq) * (1 - basP.y) = 1 * (1 + basP.y)
    generalize basP.y = y at *
    have h5 : (5 : Fq) ≠ 0 := c_ne (n := 5) (m := 0) (by decide)
    refine cancel h5 ?_
    grind -lia
  · intro h
    rw [h] at hy
    exact one_ne (by grind -lia)
  · intro h
    rw [h] at hy
    have h9 : (9 : Fq) = 0 := by grind -lia
    exact c_ne (n := 9) (m := 0) (by decide) h9

theorem mul_inv_r {a w i : Fq} (h : w * i = 1) : a * w * i = a := by grind -lia

theorem val_of {n : Nat} {a : Fq} (h : c n = a) : n % P255 = a.v := by rw [← h, c_v]

/-- As 32 bytes: the second coordinate, and the highest bit. -/
theorem enc_val {p : L4} {P : Pt d1} (h : RP p P) : opsP.enc p = dB 256 32 P.y.v ∨ opsP.enc p = (dB 256 32 P.y.v).set 31 ((dB 256 32 P.y.v).getD 31 0 ||| 128) := by
  obtain ⟨x, y, z, t, e1, e2, e3, e4, hz, hx, hy, ht⟩ := h
  rw [opsP_enc]
  unfold encL
  simp only [ops_odd, ops_mul, ops_inv, ops_bytes]
  have em := mulE e2 (invE e3)
  rw [bytesE em]
  have hc : c (y * z ^ (P255 - 2)) = P.y := by
    rw [c_mul, c_inv, hy]
    exact mul_inv_r (mul_inv hz)
  have hv := val_of hc
  rw [hv]
  cases oddF (mulF p.x (invF p.z))
  · exact .inl rfl
  · exact .inr rfl

theorem dB31 {v : Nat} (hv : v < P255) : (dB 256 32 v).getD 31 0 < 128 := by
  rw [dB_get, if_pos (by decide)]
  have : v / 256 ^ 31 < 128 := Nat.div_lt_of_lt_mul (Nat.lt_trans hv (by decide))
  exact Nat.lt_of_le_of_lt (Nat.mod_le _ _) this

theorem and127 : ∀ x, x < 128 → x &&& 127 = x ∧ (x ||| 128) &&& 127 = x := by decide +kernel

theorem set_get (l : List Nat) (h : 31 < l.length) : l.set 31 (l.getD 31 0) = l := by
  rw [List.getD, List.getElem?_eq_getElem h]
  exact List.set_getElem_self h

theorem enc_off {p : L4} {P : Pt d1} (h : RP p P) : (opsP.enc p).set 31 ((opsP.enc p).getD 31 0 &&& 127) = dB 256 32 P.y.v := by
  have h31 := dB31 P.y.lt
  have hl : (dB 256 32 P.y.v).length = 32 := dB_len _ _ _
  obtain ⟨a1, a2⟩ := and127 _ h31
  rcases enc_val h with e | e
  · rw [e, a1, set_get _ (by rw [hl]; decide)]
  · rw [e, List.set_set, getD_set1 _ _ _ hl, if_pos rfl, a2, set_get _ (by rw [hl]; decide)]

theorem cl_cl {k : List Nat} (h : g32 k = true) : clF (clF k) = clF k := by
  have hl := g32_len h
  have hl2 : (clF k).length = 32 := by rw [clF_len, hl]
  refine list32 (by rw [clF_len, hl2]) hl2 fun i => ?_
  rw [clF_get hl2, clF_get hl, clF_get hl, clF_get hl]
  have e1 : ((0 : Nat) = 31) = False := by decide
  have b1 : ∀ x, x < 256 → (x &&& 127 ||| 64) &&& 127 ||| 64 = x &&& 127 ||| 64 ∧ (x &&& 248) &&& 248 = x &&& 248 := by decide +kernel
  by_cases h31 : i = 31
  · simp only [h31, if_true]
    exact (b1 _ (g32_b h 31)).1
  · by_cases h00 : i = 0
    · simp only [h00, e1, if_true, if_false]
      exact (b1 _ (g32_b h 0)).2
    · simp only [h31, h00, if_false]

theorem num3 : (stN 9 na 255).1.2 % P255 ≠ 0 ∧ (stN 9 na 255).1.1 % P255 ≠ 0 := by decide +kernel

theorem known1 : mlO ops3 ka nine ≠ zero32 := by
  obtain ⟨G, hG⟩ := lad_ex (c 9)
  have v1 := stN_val (u := 9) (V := na) (by decide) na_lt hG
  have hne := G_ne num3.1 num3.2
  rw [v1] at hne
  have hG9 : Lad (c (uV nine)) G := by rw [u9]; exact hG
  rw [ml_val ka32 nine32 hG9, na_eq]
  intro h
  rw [zero32_dB] at h
  have := dB_inj (G na).lt (by decide) h
  exact hne (Fq.ext this)

theorem opsW_opsP : opsW.toOpsM.toOpsP = opsP := by kernel_rfl

theorem ctr3 {k : List Nat} (hk : g32 k = true) : Ctr Try.prog 3 [.agg [.ints .u8 32 k]] [] (.s (.bool true)) [] := by
  refine ctrB (fs := envW opsW) (xs := []) (m := .nat) (fuel := 7) envW_ok fn3 ?_
  have hb := RP_bas
  have hcl := cl_g32 hk
  have hq := RP_mpO hb hcl
  have hQ : curQ opsW k = mpO opsP opsP.bas (clF k) := by
    unfold curQ
    rw [opsW_cl, opsW_ops, opsM_mp, opsM_ops]
  have hE : curE opsW k = ofF (dB 256 32 (smul ns_d1 (vB 256 (clF k)) basP).y.v) := by
    unfold curE
    rw [hQ, opsW_opsP, enc_off hq, opsP_ops, ops_of]
  have eE : EV (curE opsW k) (smul ns_d1 (vB 256 (clF k)) basP).y.v := by
    rw [hE]
    have := ofE (dB_g32 (v := (smul ns_d1 (vB 256 (clF k)) basP).y.v))
    rwa [vB_bytes (Fq.lt _)] at this
  obtain ⟨b1, b2, b3, b4⟩ := len4_l (RP_len hb)
  obtain ⟨q1, q2, q3, q4⟩ := len4_l (RP_len hq)
  rw [← hQ] at q1 q2 q3
  have es := subE (x := n1) oneE eE
  have ea := addE2 (x := n1) oneE eE
  have ei := invE es
  have em := mulE ea ei
  have h0 : (opsP.enc opsP.bas).getD 0 0 = 88 := by
    have hy : basP.y.v = uV basY := by
      rw [bas_py, c_v]
      exact Nat.mod_eq_of_lt uVY_lt
    rcases enc_val hb with e | e
    · rw [e, hy, dB_Y]
      rfl
    · rw [e, hy, dB_Y, getD_set1 _ _ _ rfl]
      rfl
  have hfin : dB 256 32 ((1 + (smul ns_d1 (vB 256 (clF k)) basP).y.v) * (1 + ngV (smul ns_d1 (vB 256 (clF k)) basP).y.v) ^ (P255 - 2) % P255) = mlO ops3 (clF k) nine := by
    have hG9 : Lad (c (uV nine)) (fun n => ux 1 (smul ns_d1 n basP).y) := by rw [u9]; exact lad_bas
    rw [ml_val hcl nine32 hG9]
    have hn : nK (clF k) = vB 256 (clF k) := by unfold nK; rw [cl_cl hk]
    rw [hn]
    generalize (smul ns_d1 (vB 256 (clF k)) basP).y = y
    have hc : c ((1 + y.v) * (1 + ngV y.v) ^ (P255 - 2)) = ux 1 y := by
      rw [c_mul, c_inv, c_sub', c_add, c_self]
      unfold ux
      rw [one_mul]
      rfl
    rw [← hc, c_v]
  rw [r3, opsW_opsP, opsW_ml, opsW_cl, h0, decide_eq_false known1]
  simp only [opsP_l5] at b1 b2 b3 b4
  rw [opsP_l5, opsP_ops, ops_add, ops_sub, ops_mul, ops_inv, ops_bytes, bytesE em, hfin]
  simp only [opsP_l5] at q1 q2 q3
  refine nd_of ?_ (cond_f rfl (cond_f rfl (nd_of ?_ ?_)))
  · simp only [List.mem_cons, List.not_mem_nil, or_false, forall_eq_or_imp, forall_eq]
    exact ⟨b1, b2, b3⟩
  · simp only [List.mem_cons, List.not_mem_nil, or_false, forall_eq_or_imp, forall_eq]
    exact ⟨b1, b2, b3, b4, q1, q2, q3, l5T (x := n1) oneE, l5T eE, l5T es, l5T ea, l5T ei, l5T em⟩
  · rw [decide_eq_true rfl]

end Go.Proofs.Yteaoegdmhoepiaa

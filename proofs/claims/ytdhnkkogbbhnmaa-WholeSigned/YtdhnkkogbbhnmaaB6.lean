/-
  Part 6 of what the last text stands on: Points: the opposite, the sum, are two the same; the order of the base.
-/
import Derived.Test.YtdhnkkogbbhnmaaB5

set_option linter.unusedSimpArgs false
set_option linter.unusedVariables false

namespace Go.Proofs.Ytdhnkkogbbhnmaa
open Go
open Fq

theorem RP_ng {p : L4} {P : Pt d1} (h : RP p P) : RP (ngL ops p) (negP P) := by
  obtain ⟨x, y, z, t, e1, e2, e3, e4, hz, hx, hy, ht⟩ := h
  unfold ngL
  rw [ops_neg]
  refine RP_mk (negE e1) e2 e3 (negE e4) ⟨hz, ?_, hy, ?_⟩
  · rw [c_neg, hx]
    show -(-(iF * P.x * c z)) = -(iF * (-P.x) * c z)
    grind -lia
  · rw [c_neg, ht]
    show -(-(iF * P.x * P.y * c z)) = -(iF * (-P.x) * P.y * c z)
    grind -lia

theorem RP_sum {p q : L4} {P Q : Pt d1} (hp : RP p P) (hq : RP q Q) : RP (sumL opsP p q) (add ns_d1 P Q) := by
  unfold sumL
  rw [opsP_fac]
  have h1 := RP_pl RP_zero hp
  rw [zero_addP] at h1
  exact RP_pl h1 hq

theorem cross {a b z w : Fq} (hz : z ≠ 0) (hw : w ≠ 0) (h : a * z * w = b * w * z) : a = b := by
  refine Fq.cancel hz (Fq.cancel hw ?_)
  grind -lia

theorem eq_P {p q : L4} {P Q : Pt d1} (hp : RP p P) (hq : RP q Q) : eqL ops p q = true ↔ P = Q := by
  obtain ⟨x, y, z, t, e1, e2, e3, e4, hz, hx, hy, ht⟩ := hp
  obtain ⟨x', y', z', t', f1, f2, f3, f4, hz', hx', hy', ht'⟩ := hq
  unfold eqL
  rw [ops_eq, ops_mul, eqEc (mulE e1 f3) (mulE f1 e3), eqEc (mulE e2 f3) (mulE f2 e3), c_mul, c_mul, c_mul, c_mul, Bool.and_eq_true, decide_eq_true_eq, decide_eq_true_eq, hx, hy, hx', hy']
  have hi := i_i
  constructor
  · rintro ⟨h1, h2⟩
    refine Pt.ext ?_ (cross hz hz' h2)
    have h3 : iF * iF * P.x * c z * c z' = iF * iF * Q.x * c z' * c z := by grind -lia
    rw [hi] at h3
    refine cross hz hz' ?_
    grind -lia
  · rintro rfl
    exact ⟨by grind -lia, by grind -lia⟩

/-! The base, so many times: in numbers. -/
structure Q4 where
  x : Nat
  y : Nat
  z : Nat
  t : Nat

def RQ (p : Q4) (P : Pt d1) : Prop := Rp P (c p.x) (c p.y) (c p.z) (c p.t)

def mnP (a b : Nat) : Nat := a + (P255 - b % P255)
theorem c_mnP (a b : Nat) : c (mnP a b) = c a - c b := by
  unfold mnP
  rw [c_psub (mod_lt' b), c_mod]

def twQ (p : Q4) : Q4 :=
  (fun a b cc s => (fun h g => (fun e f => ⟨e * f % P255, g * h % P255, f * g % P255, e * h % P255⟩) (mnP h (s * s) % P255) ((cc + g) % P255)) ((a + b) % P255) (mnP a b % P255))
    (p.x * p.x % P255) (p.y * p.y % P255) (2 * p.z * p.z % P255) ((p.x + p.y) % P255)
def plQ (d : Nat) (p q : Q4) : Q4 :=
  (fun a b cc e => (fun g h k l => ⟨g * h % P255, k * l % P255, h * k % P255, g * l % P255⟩) (mnP b a % P255) (mnP e cc % P255) ((e + cc) % P255) ((b + a) % P255))
    (mnP p.y p.x * mnP q.y q.x % P255) ((p.y + p.x) * (q.y + q.x) % P255) (2 * d * p.t * q.t % P255) (2 * p.z * q.z % P255)

theorem c_2 : c 2 = (2 : Fq) := (nat_d 2).symm

theorem RQ_tw {p : Q4} {P : Pt d1} (hp : RQ p P) : RQ (twQ p) (add ns_d1 P P) := by
  obtain ⟨hz, hx, hy, ht⟩ := hp
  have hid := tw_id (z := c p.z) i_i P.on rfl (add_x ns_d1 P P) (add_y ns_d1 P P)
  simp only [one_mul, ← hx, ← hy] at hid
  obtain ⟨i1, i2, i3, i4⟩ := hid
  unfold RQ twQ
  simp only [c_mod, c_mul, c_add, c_mnP, c_2]
  refine ⟨?_, i2, i3, i4⟩
  refine fun h0 => ?_
  have h0' := i1.symm.trans h0
  have h1 : c p.z * c p.z * (c p.z * c p.z) * ((1 - d1*P.x*P.x*P.y*P.y) * (1 + d1*P.x*P.x*P.y*P.y)) ≠ 0 := mul_ne (mul_ne (mul_ne hz hz) (mul_ne hz hz)) (mul_ne (den_m ns_d1 P.on P.on) (den_p ns_d1 P.on P.on))
  refine h1 ?_
  rw [← neg_neg (c p.z * c p.z * (c p.z * c p.z) * ((1 - d1*P.x*P.x*P.y*P.y) * (1 + d1*P.x*P.x*P.y*P.y))), h0']
  exact neg_uniq (add_zero 0)

theorem RQ_pl {p q : Q4} {P Q : Pt d1} (hp : RQ p P) (hq : RQ q Q) : RQ (plQ (uV facK) p q) (add ns_d1 P Q) := by
  obtain ⟨hz, hx, hy, ht⟩ := hp
  obtain ⟨hz', hx', hy', ht'⟩ := hq
  have hf := fac_d
  generalize uV facK = fa at *
  have hid := pl_id (z := c p.z) (z' := c q.z) i_i rfl (add_x ns_d1 P Q) (add_y ns_d1 P Q)
  simp only [one_mul, ← hx, ← hy, ← ht, ← hx', ← hy', ← ht', ← hf] at hid
  obtain ⟨i1, i2, i3, i4⟩ := hid
  unfold RQ plQ
  simp only [c_mod, c_mul, c_add, c_mnP, c_2]
  refine ⟨?_, i2, i3, i4⟩
  refine fun h0 => ?_
  have h0' := i1.symm.trans h0
  exact mul_ne (mul_ne four_ne (mul_ne (mul_ne hz hz') (mul_ne hz hz'))) (mul_ne (den_m ns_d1 P.on Q.on) (den_p ns_d1 P.on Q.on)) h0'

def mqN (d : Nat) (p : Q4) (V : Nat) : Nat → Q4
  | 0 => ⟨0, 1, 1, 0⟩
  | i + 1 => (fun q => cond (decide (V / 2 ^ (255 - i) % 2 = 1)) (plQ d q p) q) (twQ (mqN d p V i))

theorem RQ_zero : RQ ⟨0, 1, 1, 0⟩ (zeroP d1) := by
  have e0 : c 0 = (0 : Fq) := rfl
  unfold RQ Rp
  simp only [c_1, e0]
  refine ⟨one_ne, ?_, ?_, ?_⟩
  · show (0 : Fq) = -(iF * 0 * 1)
    grind -lia
  · show (1 : Fq) = 1 * 1
    grind -lia
  · show (0 : Fq) = -(iF * 0 * 1 * 1)
    grind -lia

theorem RQ_mp {p : Q4} {P : Pt d1} (hp : RQ p P) {V : Nat} (hV : V < 2 ^ 256) : ∀ i, i ≤ 256 → RQ (mqN (uV facK) p V i) (smul ns_d1 (V / 2 ^ (256 - i)) P)
  | 0, _ => by
    rw [Nat.div_eq_of_lt hV]
    exact RQ_zero
  | i + 1, hi => by
    have ih := RQ_mp hp hV i (by omega)
    have hb := half_bit V (255 - i)
    rw [show 255 - i + 1 = 256 - i by omega] at hb
    rw [show 256 - (i + 1) = 255 - i by omega, hb]
    have e2 := RQ_tw ih
    rw [← smul_add, ← Nat.two_mul] at e2
    unfold mqN
    by_cases h : V / 2 ^ (255 - i) % 2 = 1
    · simp only
      rw [decide_eq_true h, h]
      exact RQ_pl e2 hp
    · simp only
      rw [decide_eq_false h, show V / 2 ^ (255 - i) % 2 = 0 by omega, Nat.add_zero]
      exact e2

def bX : Nat := 15112221349535400772501151409588531511454012693041857206046113283949847762202
def bY : Nat := 46316835694926478169428394003475163141307993866256225615783033603165251855960
def dN : Nat := 37095705934669439343138083508754565189542113879843219016388785533085940283555
theorem bas_num : uV basX = bX ∧ uV basY = bY ∧ uV facK = dN := by decide +kernel

theorem order_num : (mqN dN ⟨bX, bY, 1, bX * bY % P255⟩ ell 256).x % P255 = 0 ∧ (mqN dN ⟨bX, bY, 1, bX * bY % P255⟩ ell 256).z % P255 ≠ 0 ∧
    (mqN dN ⟨bX, bY, 1, bX * bY % P255⟩ ell 256).y % P255 = (mqN dN ⟨bX, bY, 1, bX * bY % P255⟩ ell 256).z % P255 := by decide +kernel

theorem RQ_bas : RQ ⟨bX, bY, 1, bX * bY % P255⟩ basP := by
  obtain ⟨h1, h2, _⟩ := bas_num
  unfold RQ
  simp only [c_mod]
  exact Rp_aff (by rw [bas_px, h1]) (by rw [bas_py, h2])

theorem i_ne : iF ≠ 0 := fun h => by
  have hi := i_i
  rw [h] at hi
  have e : (1 : Fq) = 0 := by grind -lia
  exact one_ne e

theorem order : smul ns_d1 ell basP = zeroP d1 := by
  have h := RQ_mp RQ_bas (V := ell) (by decide) 256 (Nat.le_refl _)
  rw [Nat.sub_self, Nat.pow_zero, Nat.div_one, bas_num.2.2] at h
  obtain ⟨n1, n2, n3⟩ := order_num
  generalize mqN dN ⟨bX, bY, 1, bX * bY % P255⟩ ell 256 = q at *
  generalize smul ns_d1 ell basP = S at *
  obtain ⟨hz, hx, hy, _⟩ := h
  have hx0 : c q.x = 0 := c_zero.2 n1
  have hyz : c q.y = c q.z := c_eq.2 n3
  refine Pt.ext ?_ ?_
  · show S.x = 0
    rw [hx0] at hx
    have e : (iF * c q.z) * S.x = 0 := by grind -lia
    exact eq_zero e (mul_ne i_ne hz)
  · show S.y = 1
    rw [hyz] at hy
    refine Fq.cancel hz ?_
    grind -lia

end Go.Proofs.Ytdhnkkogbbhnmaa

namespace Go.Proofs.Ytdhnkkogbbhnmaa
open Go
open Fq

theorem smul_gcd {P : Pt d1} : ∀ {a b : Nat}, smul ns_d1 a P = zeroP d1 → smul ns_d1 b P = zeroP d1 → smul ns_d1 (Nat.gcd a b) P = zeroP d1 := by
  intro a
  induction a using Nat.strongRecOn with
  | ind a ih =>
    intro b ha hb
    by_cases h0 : a = 0
    · rw [h0, Nat.gcd_zero_left]; exact hb
    · rw [Nat.gcd_rec]
      refine ih (b % a) (Nat.mod_lt _ (by omega)) ?_ ha
      have e : b = b / a * a + b % a := by rw [Nat.mul_comm]; exact (Nat.div_add_mod b a).symm
      rw [e, smul_add, smul_mul, ha, smul_zero, zero_addP] at hb
      rw [← hb]

theorem bas_ne : basP ≠ zeroP d1 := fun h => by
  have hy := bas_y
  rw [h] at hy
  have e : (zeroP d1).y = 1 := rfl
  rw [e] at hy
  have : (1 : Fq) = 0 := by grind -lia
  exact one_ne this

theorem ell_ne {n : Nat} (h : smul ns_d1 n basP = zeroP d1) : ell ∣ n := by
  have h1 := smul_gcd order h
  rcases ell_prime.2 _ (Nat.gcd_dvd_left ell n) with e | e
  · rw [e, smul_one] at h1
    exact absurd h1 bas_ne
  · rw [← e]
    exact Nat.gcd_dvd_right ell n

theorem smul_ell (n : Nat) (P : Pt d1) (h : smul ns_d1 ell P = zeroP d1) : smul ns_d1 (n % ell) P = smul ns_d1 n P := by
  have e : n = n / ell * ell + n % ell := by rw [Nat.mul_comm]; exact (Nat.div_add_mod n ell).symm
  have e2 : smul ns_d1 n P = smul ns_d1 (n / ell * ell + n % ell) P := congrArg (fun m => smul ns_d1 m P) e
  rw [e2, smul_add, smul_mul, h, smul_zero, zero_addP]

theorem clamp_val {k : List Nat} (h : g32 k = true) : ∃ b, vB 256 (clF k) = 8 * b ∧ 2 ^ 251 ≤ b ∧ b < 2 ^ 252 := by
  have h8 := nK_8 h
  have hlt := nK_lt h
  have hl := g32_len h
  have h31 : (clF k).getD 31 0 = k.getD 31 0 &&& 127 ||| 64 := by rw [clF_get hl, if_pos rfl]
  have hge : 64 ≤ (clF k).getD 31 0 := by
    rw [h31]
    have : ∀ x, x < 256 → 64 ≤ (x &&& 127 ||| 64) := by decide +kernel
    exact this _ (g32_b h 31)
  have hv : vB 256 (clF k) = sW 256 (fun i => (clF k).getD i 0) 31 + (clF k).getD 31 0 * 256 ^ 31 := by
    have e : sW 256 (fun i => (clF k).getD i 0) (31 + 1) = sW 256 (fun i => (clF k).getD i 0) 31 + (clF k).getD 31 0 * 256 ^ 31 := rfl
    rw [vB_sW, clF_len, hl]
    exact e
  have hm : 64 * 256 ^ 31 ≤ (clF k).getD 31 0 * 256 ^ 31 := Nat.mul_le_mul_right _ hge
  unfold nK at h8 hlt
  refine ⟨vB 256 (clF k) / 8, by omega, ?_, ?_⟩
  · have : 64 * 256 ^ 31 = 8 * 2 ^ 251 := by decide
    omega
  · have : P2 = 8 * 2 ^ 252 := by decide
    omega

theorem no_mul {L b m : Nat} (hc : Nat.gcd 64 L = 1) (h : 8 * (8 * b) = L * m) (h1 : 0 < b) (h2 : b < L) : False := by
  have h3 : 64 ∣ L * m := ⟨b, by rw [← h, ← Nat.mul_assoc]⟩
  obtain ⟨q, rfl⟩ := Nat.Coprime.dvd_of_dvd_mul_left hc h3
  have h4 : b = L * q := by
    have : 64 * b = 64 * (L * q) := by rw [Nat.mul_left_comm, ← h, ← Nat.mul_assoc]
    omega
  cases q with
  | zero => omega
  | succ q =>
    rw [Nat.mul_succ] at h4
    omega

theorem clamp_big {k : List Nat} (h : g32 k = true) : smul ns_d1 8 (smul ns_d1 (vB 256 (clF k)) basP) ≠ zeroP d1 := fun h0 => by
  obtain ⟨b, e, h1, h2⟩ := clamp_val h
  rw [← smul_mul, e] at h0
  obtain ⟨m, hm⟩ := ell_ne h0
  exact no_mul (by decide +kernel) hm (Nat.lt_of_lt_of_le (by decide) h1) (Nat.lt_trans h2 (by decide +kernel))

theorem tiny_P {p : L4} {P : Pt d1} (h : RP p P) (hne : smul ns_d1 8 P ≠ zeroP d1) : tnL opsP p = false := by
  have h2 := RP_tw (RP_tw (RP_tw h))
  have e : add ns_d1 (add ns_d1 (add ns_d1 P P) (add ns_d1 P P)) (add ns_d1 (add ns_d1 P P) (add ns_d1 P P)) = smul ns_d1 8 P := by
    have e2 : add ns_d1 P P = smul ns_d1 2 P := by
      show _ = add ns_d1 (add ns_d1 (zeroP d1) P) P
      rw [zero_addP]
    rw [e2, ← smul_add, ← smul_add]
  rw [e] at h2
  unfold tnL
  rw [opsP_ops]
  cases hz : eqL ops (opsP.tw (opsP.tw (opsP.tw p))) zer4
  · rfl
  · exact absurd ((eq_P h2 RP_zero).1 hz) hne

end Go.Proofs.Ytdhnkkogbbhnmaa

namespace Go.Proofs.Ytdhnkkogbbhnmaa
open Go
open Fq

theorem mpRP {p : L4} {P : Pt d1} (h : RP p P) {k : List Nat} (hk : g32 k = true) : RP (opsSh.mp p k) (smul ns_d1 (vB 256 k) P) := by
  rw [opsSh_mp]
  exact RP_mpO h hk
theorem basRP : RP opsSh.bas basP := by
  have := RP_bas
  rw [opsP_bas] at this
  rw [opsSh_bas]
  exact this
theorem encH {p : L4} {P : Pt d1} (h : RP p P) : opsSh.enc p = encP P := by
  rw [opsSh_enc]
  exact enc_P h
theorem decH (P : Pt d1) : opsSh.dok (encP P) = true ∧ RP (opsSh.dkp (encP P)) P := by
  rw [opsSh_dok, opsSh_dkp]
  exact ⟨dec_ok P, dec_P P⟩

theorem g32_take {l : List Nat} (hl : l.length = 64) (hb : ∀ x ∈ l, x < 256) (n : Nat) (hn : n + 32 ≤ 64) : g32 (List.take 32 (List.drop n l)) = true := by
  rw [g32, Bool.and_eq_true]
  refine ⟨decide_eq_true ?_, allB_mem fun x hx => hb x (List.mem_of_mem_drop (List.mem_of_mem_take hx))⟩
  rw [List.length_take, List.length_drop, hl]
  omega

theorem hs_g32 (s : List Nat) : g32 (opsSh.hs s) = true := by
  rw [opsSh_hsf]
  exact cl_g32 (g32_take (sumF5_len _) (sumF5_mem _) 0 (by decide))

theorem red_g32 {b : List Nat} (hb : ∀ x ∈ b, x < 256) : g32 (redC b) = true ∧ vB 256 (redC b) = vB 256 b % ell := by
  have hb' : ∀ i, b.getD i 0 < 256 := allB_get (by decide) (allB_mem hb)
  rw [red_val hb']
  refine ⟨dB_g32, ?_⟩
  rw [vB_dB, Nat.mod_eq_of_lt]
  exact Nat.lt_trans (Nat.mod_lt _ (by decide)) (by decide +kernel)

theorem rd_g32 (ps : List (List Nat)) : g32 (opsSh.rd ps) = true := by
  rw [opsSh_rdf]
  exact (red_g32 (sumF5_mem ps)).1

theorem dB_ell (n : Nat) : g32 (dB 256 32 (n % ell)) = true ∧ vB 256 (dB 256 32 (n % ell)) = n % ell := by
  refine ⟨dB_g32, ?_⟩
  rw [vB_dB, Nat.mod_eq_of_lt]
  exact Nat.lt_trans (Nat.mod_lt _ (by decide)) (by decide +kernel)

theorem mad_g32 {a b e : List Nat} (ha : g32 a = true) (hb : g32 b = true) (he : g32 e = true) : opsSh.mad a b e = dB 256 32 ((vB 256 a * vB 256 b + vB 256 e) % ell) := by
  rw [opsSh_mad]
  exact mad_val (g32_len ha) (g32_len hb) (g32_len he) (g32_get ha).2 (g32_get hb).2 (g32_get he).2

theorem smul_neg {n : Nat} {P : Pt d1} : add ns_d1 (smul ns_d1 n P) (smul ns_d1 n (negP P)) = zeroP d1 := by
  rw [← smul_sum, addP_neg, smul_zero]

/-- The sum of what a signature's back and its number make is its front. -/
theorem group_eq (k a r : Nat) : add ns_d1 (smul ns_d1 ((k * a + r) % ell) basP) (smul ns_d1 k (negP (smul ns_d1 a basP))) = smul ns_d1 r basP := by
  rw [smul_ell _ _ order, smul_add, smul_mul, addP_comm ns_d1 (smul ns_d1 k (smul ns_d1 a basP)), addP_assoc, smul_neg, addP_zero]

theorem encP_len (P : Pt d1) : (encP P).length = 32 := by
  have hl : (dB 256 32 P.y.v).length = 32 := dB_len _ _ _
  unfold encP
  cases decide ((xP P).v % 2 = 1)
  · exact hl
  · rw [cond_true, List.length_set]
    exact hl

theorem ckF_app {f b : List Nat} (hf : f.length = 32) : ckF (f ++ b) = f := by
  unfold ckF
  rw [List.drop_zero, List.take_left' hf]
theorem ckB_app {f b : List Nat} (hf : f.length = 32) (hb : b.length = 32) : ckB (f ++ b) = b := by
  unfold ckB
  rw [List.drop_left' hf, List.take_of_length_le (by omega)]

/-- Whoever knows the number of a key that is not tiny signs. -/
theorem sig_ok {a r : Nat} {kk : List Nat} {ps : List (List Nat)} (hA : smul ns_d1 8 (smul ns_d1 a basP) ≠ zeroP d1) (hk : g32 kk = true)
    (hrd : opsSh.rd (encP (smul ns_d1 r basP) :: encP (smul ns_d1 a basP) :: ps) = kk) :
    ckOk opsSh (encP (smul ns_d1 a basP)) (encP (smul ns_d1 r basP) ++ dB 256 32 ((vB 256 kk * a + r) % ell)) ps = true := by
  have hf := encP_len (smul ns_d1 r basP)
  have hb : (dB 256 32 ((vB 256 kk * a + r) % ell)).length = 32 := dB_len _ _ _
  obtain ⟨d1', d2⟩ := decH (smul ns_d1 a basP)
  obtain ⟨e1, e2⟩ := decH (smul ns_d1 r basP)
  obtain ⟨b1, b2⟩ := dB_ell (vB 256 kk * a + r)
  unfold ckOk ckE ckS ckM ckN ckk
  rw [ckF_app hf, ckB_app hf hb, hrd, d1', e1]
  have htn : opsSh.tny (opsSh.dkp (encP (smul ns_d1 a basP))) = false := by
    rw [opsSh_tny]
    exact tiny_P d2 hA
  have hsc : opsSh.scan (dB 256 32 ((vB 256 kk * a + r) % ell)) = true := by
    rw [opsSh_scan, scan_val hb (g32_get b1).2, b2]
    exact decide_eq_true (Nat.mod_lt _ (by decide))
  have h1 := mpRP basRP b1
  have h2 : RP (opsSh.png (opsSh.dkp (encP (smul ns_d1 a basP)))) (negP (smul ns_d1 a basP)) := by
    rw [opsSh_png]
    exact RP_ng d2
  have h3 := RP_sum h1 (mpRP h2 hk)
  rw [b2, group_eq, ← opsSh_pls] at h3
  have he := encH h3
  rw [htn, hsc, he]
  simp

/-! What Make makes. -/
theorem pbRP (s : List Nat) : RP (pbP opsSh s) (smul ns_d1 (vB 256 (opsSh.hs s)) basP) := mpRP basRP (hs_g32 s)
theorem mkA_enc (s : List Nat) : mkA opsSh s = encP (smul ns_d1 (vB 256 (opsSh.hs s)) basP) := encH (pbRP s)
theorem mkRP (s : List Nat) (ps : List (List Nat)) : RP (mkR opsSh s ps) (smul ns_d1 (vB 256 (mkr opsSh s ps)) basP) := mpRP basRP (rd_g32 _)
theorem mkF_enc (s : List Nat) (ps : List (List Nat)) : mkF opsSh s ps = encP (smul ns_d1 (vB 256 (mkr opsSh s ps)) basP) := encH (mkRP s ps)
theorem mkSig_eq (s : List Nat) (ps : List (List Nat)) : mkSig opsSh s ps = encP (smul ns_d1 (vB 256 (mkr opsSh s ps)) basP) ++ dB 256 32 ((vB 256 (mkk opsSh s ps) * vB 256 (opsSh.hs s) + vB 256 (mkr opsSh s ps)) % ell) := by
  unfold mkSig mkB
  have h1 : g32 (mkk opsSh s ps) = true := rd_g32 _
  have h2 : g32 (mkr opsSh s ps) = true := rd_g32 _
  rw [mkF_enc, mad_g32 h1 (hs_g32 s) h2]

theorem hs_big (s : List Nat) : smul ns_d1 8 (smul ns_d1 (vB 256 (opsSh.hs s)) basP) ≠ zeroP d1 := by
  rw [opsSh_hsf]
  exact clamp_big (g32_take (sumF5_len _) (sumF5_mem _) 0 (by decide))

theorem make_ok (s : List Nat) (ps : List (List Nat)) : ckOk opsSh (mkA opsSh s) (mkSig opsSh s ps) ps = true := by
  rw [mkSig_eq, mkA_enc]
  refine sig_ok (hs_big s) (rd_g32 _) ?_
  rw [← mkF_enc, ← mkA_enc]
  rfl

end Go.Proofs.Ytdhnkkogbbhnmaa

namespace Go.Proofs.Ytdhnkkogbbhnmaa
open Go
open Fq

theorem fnLawS : Fn Try.prog 3 Try.f3 := ⟨mixedF, Try.func3, by kernel_rfl, of_decide_eq_true (by kernel_rfl)⟩

/-! What the law's function makes. -/
def lwk (o : OpsSi) (s t : List Nat) : List Nat := o.red (o.s5 [List.take 32 (o.sig s [t]), o.pub s, t])
def lwR (o : OpsSi) (s t : List Nat) : L4 := o.dkp (ckF (o.sig s [t]))
def lwA (o : OpsSi) (s t : List Nat) : L4 := o.mp (o.dkp (o.pub s)) (lwk o s t)
def lwS (o : OpsSi) (s t : List Nat) : L4 := o.mp o.bas (ckB (o.sig s [t]))
def lwE (o : OpsSi) (s t : List Nat) : L4 := o.pls (lwR o s t) (lwA o s t)
def lwX (o : OpsSi) (e : List Nat) : L4 := o.mp o.bas (o.red e)
def lwF (o : OpsSi) (e : List Nat) : List Nat := o.enc (lwX o e)
def lwj (o : OpsSi) (s t e : List Nat) : List Nat := o.red (o.s5 [lwF o e, o.pub s, t])
def lwc (o : OpsSi) (s : List Nat) : List Nat := o.cl (List.take 32 (List.drop 0 (o.s5 [s])))
def lwT (o : OpsSi) (s t e : List Nat) : List Nat := lwF o e ++ o.mad (lwj o s t e) (lwc o s) (o.red e)

set_option maxRecDepth 100000 in
theorem rLawS (o : OpsSi) (s t e : List Nat) : runB Try.prog (envSi o) [] .nat 20 Try.f3 [.agg [.ints .u8 32 s], .s (.xsl (.ints .u8 t)), .agg [.ints .u8 32 e]] [] =
  nd [decide (t.length < 9223372036854775808)]
 (cond (decide (500 < t.length)) (some (.s (.bool true), []))
 (nd [decide (s.length = 32), decide (s.length = 32), decide (t.length ≤ 1099511627776), o.dok (o.pub s), o.dok (ckF (o.sig s [t])), decide ((o.pub s).length = 32), decide ((o.sig s [t]).length = 64), decide (t.length ≤ 1099511627776), o.cok (o.pub s) (o.sig s [t]) [t],
   okParts [List.take 32 (o.sig s [t]), o.pub s, t], decide (0 < (o.s5 [List.take 32 (o.sig s [t]), o.pub s, t]).length), decide ((o.s5 [List.take 32 (o.sig s [t]), o.pub s, t]).length < 1048576),
   o.l5 o.bas.x, o.l5 o.bas.y, o.l5 o.bas.z, o.l5 o.bas.t, o.l5 (o.dkp (o.pub s)).x, o.l5 (o.dkp (o.pub s)).y, o.l5 (o.dkp (o.pub s)).z, o.l5 (o.dkp (o.pub s)).t,
   o.l5 (lwR o s t).x, o.l5 (lwR o s t).y, o.l5 (lwR o s t).z, o.l5 (lwR o s t).t, o.l5 (lwA o s t).x, o.l5 (lwA o s t).y, o.l5 (lwA o s t).z, o.l5 (lwA o s t).t,
   o.l5 (lwS o s t).x, o.l5 (lwS o s t).y, o.l5 (lwS o s t).z, o.l5 (lwE o s t).x, o.l5 (lwE o s t).y, o.l5 (lwE o s t).z]
 (cond (!o.peq (lwS o s t) (lwE o s t)) (some (.s (.bool false), []))
 (nd [okParts [s], decide (0 < e.length), decide (e.length < 1048576), o.l5 o.bas.x, o.l5 o.bas.y, o.l5 o.bas.z, o.l5 o.bas.t, o.l5 (lwX o e).x, o.l5 (lwX o e).y, o.l5 (lwX o e).z, okParts [lwF o e, o.pub s, t],
   decide (0 < (o.s5 [lwF o e, o.pub s, t]).length), decide ((o.s5 [lwF o e, o.pub s, t]).length < 1048576), decide ((lwj o s t e).length = 32), decide ((lwc o s).length = 32), decide ((o.red e).length = 32),
   decide ((o.pub s).length = 32), decide ((lwT o s t e).length = 64), decide (t.length ≤ 1099511627776), o.cok (o.pub s) (lwT o s t e) [t]]
 (some (.s (.bool (decide (0 = 0))), [])))))) := by kernel_rfl

theorem opsSi_mp (p : L4) (k : List Nat) : opsSi.mp p k = opsSh.mp p k := by rw [opsSi_sh]

theorem ctrS {s t e : List Nat} (hs : g32 s = true) (he : g32 e = true) (ht : t.length < 9223372036854775808) : Ctr Try.prog 3 [.agg [.ints .u8 32 s], .s (.xsl (.ints .u8 t)), .agg [.ints .u8 32 e]] [] (.s (.bool true)) [] := by
  refine ctrB (fs := envSi opsSi) (xs := []) (m := .nat) (fuel := 20) envSi_ok fnLawS ?_
  rw [rLawS]
  refine nd_of (by simpa using ht) ?_
  by_cases h5 : 500 < t.length
  · exact cond_t (decide_eq_true h5) rfl
  refine cond_f (decide_eq_false h5) ?_
  have hsl := g32_len hs
  have hel := g32_len he
  -- what was made
  have hpub : opsSi.pub s = encP (smul ns_d1 (vB 256 (opsSh.hs s)) basP) := by rw [opsSi_pub]; exact mkA_enc s
  have hsig : opsSi.sig s [t] = encP (smul ns_d1 (vB 256 (mkr opsSh s [t])) basP) ++ dB 256 32 ((vB 256 (mkk opsSh s [t]) * vB 256 (opsSh.hs s) + vB 256 (mkr opsSh s [t])) % ell) := by rw [opsSi_sig]; exact mkSig_eq s [t]
  have hcok : ∀ g, opsSi.cok (opsSi.pub s) g [t] = ckOk opsSh (opsSi.pub s) g [t] := fun g => by rw [opsSi_cok]
  have hc1 : opsSi.cok (opsSi.pub s) (opsSi.sig s [t]) [t] = true := by
    rw [hcok, opsSi_sig, opsSi_pub]
    exact make_ok s [t]
  have lp := encP_len (smul ns_d1 (vB 256 (opsSh.hs s)) basP)
  have lf := encP_len (smul ns_d1 (vB 256 (mkr opsSh s [t])) basP)
  have lb : (dB 256 32 ((vB 256 (mkk opsSh s [t]) * vB 256 (opsSh.hs s) + vB 256 (mkr opsSh s [t])) % ell)).length = 32 := dB_len _ _ _
  have hF : ckF (opsSi.sig s [t]) = encP (smul ns_d1 (vB 256 (mkr opsSh s [t])) basP) := by rw [hsig]; exact ckF_app lf
  have hB : ckB (opsSi.sig s [t]) = dB 256 32 ((vB 256 (mkk opsSh s [t]) * vB 256 (opsSh.hs s) + vB 256 (mkr opsSh s [t])) % ell) := by rw [hsig]; exact ckB_app lf lb
  have hT : List.take 32 (opsSi.sig s [t]) = encP (smul ns_d1 (vB 256 (mkr opsSh s [t])) basP) := by rw [hsig]; exact List.take_left' lf
  have hs5 : ∀ ps, opsSi.s5 ps = sumF5 ps := fun ps => by rw [opsSi_sh, opsSh_sg]; exact opsSg_s5 ps
  have hred : ∀ b, opsSi.red b = redC b := fun b => by rw [opsSi_sh, opsSh_sc]; exact congrFun opsSc_red b
  have hk : lwk opsSi s t = mkk opsSh s [t] := by
    unfold lwk mkk
    rw [hT, hred, hs5, opsSh_rdf, mkF_enc, hpub, mkA_enc]
  obtain ⟨d1', d2⟩ := decH (smul ns_d1 (vB 256 (opsSh.hs s)) basP)
  obtain ⟨f1, f2⟩ := decH (smul ns_d1 (vB 256 (mkr opsSh s [t])) basP)
  have hA : RP (lwA opsSi s t) (smul ns_d1 (vB 256 (mkk opsSh s [t])) (smul ns_d1 (vB 256 (opsSh.hs s)) basP)) := by
    unfold lwA
    rw [hk, hpub, opsSi_sh]
    exact mpRP d2 (rd_g32 _)
  have hR : RP (lwR opsSi s t) (smul ns_d1 (vB 256 (mkr opsSh s [t])) basP) := by
    unfold lwR
    rw [hF, opsSi_sh]
    exact f2
  obtain ⟨b1, b2⟩ := dB_ell (vB 256 (mkk opsSh s [t]) * vB 256 (opsSh.hs s) + vB 256 (mkr opsSh s [t]))
  have hS : RP (lwS opsSi s t) (smul ns_d1 ((vB 256 (mkk opsSh s [t]) * vB 256 (opsSh.hs s) + vB 256 (mkr opsSh s [t])) % ell) basP) := by
    unfold lwS
    rw [hB, opsSi_sh, ← b2]
    have := mpRP basRP b1
    rw [b2] at this ⊢
    exact this
  have hE : RP (lwE opsSi s t) (add ns_d1 (smul ns_d1 (vB 256 (mkr opsSh s [t])) basP) (smul ns_d1 (vB 256 (mkk opsSh s [t])) (smul ns_d1 (vB 256 (opsSh.hs s)) basP))) := by
    have := RP_sum hR hA
    rw [← opsSh_pls] at this
    unfold lwE
    rw [opsSi_sh] at *
    exact this
  have hpeq : opsSi.peq (lwS opsSi s t) (lwE opsSi s t) = true := by
    have e : opsSi.peq = eqL ops := by rw [opsSi_sh, opsSh_pt]; exact opsPt_peq
    rw [e]
    refine (eq_P hS hE).2 ?_
    rw [smul_ell _ _ order, smul_add, smul_mul, addP_comm]
  have hX : RP (lwX opsSi e) (smul ns_d1 (vB 256 (redC e)) basP) := by
    unfold lwX
    rw [hred, opsSi_sh]
    have hem : ∀ x ∈ e, x < 256 := fun x hx => by
      obtain ⟨i, hi, e1⟩ := List.getElem_of_mem hx
      have := (g32_get he).2 i
      rw [List.getD, List.getElem?_eq_getElem hi] at this
      rw [← e1]
      exact this
    exact mpRP basRP (red_g32 hem).1
  have hFe : lwF opsSi e = encP (smul ns_d1 (vB 256 (redC e)) basP) := by
    unfold lwF
    rw [opsSi_sh]
    exact encH hX
  have hem : ∀ x ∈ e, x < 256 := fun x hx => by
    obtain ⟨i, hi, e1⟩ := List.getElem_of_mem hx
    have := (g32_get he).2 i
    rw [List.getD, List.getElem?_eq_getElem hi] at this
    rw [← e1]
    exact this
  have hj : lwj opsSi s t e = opsSh.rd [encP (smul ns_d1 (vB 256 (redC e)) basP), encP (smul ns_d1 (vB 256 (opsSh.hs s)) basP), t] := by
    unfold lwj
    rw [hred, hs5, opsSh_rdf, hFe, hpub]
  have hcl : lwc opsSi s = opsSh.hs s := by
    unfold lwc
    rw [hs5, opsSh_hsf]
    have : opsSi.cl = clF := by rw [opsSi_sh, opsSh_sg]; exact opsSg_cl
    rw [this]
  have hTe : lwT opsSi s t e = encP (smul ns_d1 (vB 256 (redC e)) basP) ++ dB 256 32 ((vB 256 (lwj opsSi s t e) * vB 256 (opsSh.hs s) + vB 256 (redC e)) % ell) := by
    unfold lwT
    rw [hFe, hcl, hred, hj]
    have : opsSi.mad = opsSh.mad := by rw [opsSi_sh]
    rw [this, mad_g32 (rd_g32 _) (hs_g32 s) (red_g32 hem).1]
  have hc2 : opsSi.cok (opsSi.pub s) (lwT opsSi s t e) [t] = true := by
    rw [hcok, hTe, hpub]
    refine sig_ok (hs_big s) (by rw [hj]; exact rd_g32 _) hj.symm
  have l5 : ∀ x, opsSi.l5 x = opsSh.l5 x := fun x => by rw [opsSi_sh]
  have lX := len4_h (RP_len hX)
  have lS := len4_h (RP_len hS)
  have lE := len4_h (RP_len hE)
  have lA := len4_h (RP_len hA)
  have lR := len4_h (RP_len hR)
  have lD := len4_h (RP_len d2)
  have lB := basH
  have hdk : opsSi.dok = opsSh.dok := by rw [opsSi_sh]
  have hdp : opsSi.dkp = opsSh.dkp := by rw [opsSi_sh]
  have hbas : opsSi.bas = opsSh.bas := by rw [opsSi_sh]
  have lFe := encP_len (smul ns_d1 (vB 256 (redC e)) basP)
  refine nd_of ?_ (cond_f (by rw [hpeq]; rfl) (nd_of ?_ rfl))
  · simp only [List.mem_cons, List.not_mem_nil, or_false, forall_eq_or_imp, forall_eq, decide_eq_true_eq, l5, hdk, hdp, hbas, hs5, sumF5_len, hF, hT]
    rw [hpub]
    refine ⟨hsl, hsl, by omega, d1', f1, lp, by rw [hsig, List.length_append, lf, lb], by omega, by rw [← hpub]; exact hc1, okParts3 (by omega) (by omega) (by omega), by decide, by decide,
      lB.1, lB.2.1, lB.2.2.1, lB.2.2.2, lD.1, lD.2.1, lD.2.2.1, lD.2.2.2, lR.1, lR.2.1, lR.2.2.1, lR.2.2.2, lA.1, lA.2.1, lA.2.2.1, lA.2.2.2, lS.1, lS.2.1, lS.2.2.1, lE.1, lE.2.1, lE.2.2.1⟩
  · simp only [List.mem_cons, List.not_mem_nil, or_false, forall_eq_or_imp, forall_eq, decide_eq_true_eq, l5, hbas, hs5, sumF5_len, hFe, hcl, hred]
    rw [hpub]
    refine ⟨okParts1 (by omega), by omega, by omega, lB.1, lB.2.1, lB.2.2.1, lB.2.2.2, lX.1, lX.2.1, lX.2.2.1, okParts3 (by omega) (by omega) (by omega), by decide, by decide, by rw [hj]; exact rd_len _, hs_len s, redC_len e, lp,
      by rw [hTe, List.length_append, lFe, dB_len], by omega, by rw [← hpub]; exact hc2⟩

end Go.Proofs.Ytdhnkkogbbhnmaa

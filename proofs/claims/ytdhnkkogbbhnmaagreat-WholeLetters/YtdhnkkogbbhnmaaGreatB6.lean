/-
  Part 6 of what the last text stands on: Signatures: what Make makes, Check takes.
-/
import Derived.Test.YtdhnkkogbbhnmaaGreatB5
import Derived.Test.YtdhnkkogbbhnmaaGreatRows

set_option linter.unusedSimpArgs false
set_option linter.unusedVariables false

namespace Go.Proofs.YtdhnkkogbbhnmaaGreat
open Go
open Fq
theorem mpRP {p : L4} {P : Pt d1} (h : RP p P) {k : List Nat} (hk : g32 k = true) : RP (opsSh.mp p k) (smul ns_d1 (vB 256 k) P) := by
  rw [opsSh_mp]
  exact RP_mpO h hk

theorem basRP : RP opsSh.bas basP := by
  have := RP_bas
  rw [opsP_bas] at this
  rw [opsSh_bas]
  exact this

theorem encH {p : L4} {P : Pt d1} (h : RP p P) : opsSh.enc p = encP P := by
  rw [opsSh_enc]
  exact enc_P h

theorem decH (P : Pt d1) : opsSh.dok (encP P) = true ∧ RP (opsSh.dkp (encP P)) P := by
  rw [opsSh_dok, opsSh_dkp]
  exact ⟨dec_ok P, dec_P P⟩

theorem g32_take {l : List Nat} (hl : l.length = 64) (hb : ∀ x ∈ l, x < 256) (n : Nat) (hn : n + 32 ≤ 64) : g32 (List.take 32 (List.drop n l)) = true := by
  rw [g32, Bool.and_eq_true]
  refine ⟨decide_eq_true ?_, allB_mem fun x hx => hb x (List.mem_of_mem_drop (List.mem_of_mem_take hx))⟩
  rw [List.length_take, List.length_drop, hl]
  omega

theorem hs_g32 (s : List Nat) : g32 (opsSh.hs s) = true := by
  rw [opsSh_hsf]
  exact cl_g32 (g32_take (sumF5_len _) (sumF5_mem _) 0 (by decide))

theorem red_g32 {b : List Nat} (hb : ∀ x ∈ b, x < 256) : g32 (redC b) = true ∧ vB 256 (redC b) = vB 256 b % ell := by
  have hb' : ∀ i, b.getD i 0 < 256 := allB_get (by decide) (allB_mem hb)
  rw [red_val hb']
  refine ⟨dB_g32, ?_⟩
  rw [vB_dB, Nat.mod_eq_of_lt]
  exact Nat.lt_trans (Nat.mod_lt _ (by decide)) (by decide +kernel)

theorem rd_g32 (ps : List (List Nat)) : g32 (opsSh.rd ps) = true := by
  rw [opsSh_rdf]
  exact (red_g32 (sumF5_mem ps)).1

theorem dB_ell (n : Nat) : g32 (dB 256 32 (n % ell)) = true ∧ vB 256 (dB 256 32 (n % ell)) = n % ell := by
  refine ⟨dB_g32, ?_⟩
  rw [vB_dB, Nat.mod_eq_of_lt]
  exact Nat.lt_trans (Nat.mod_lt _ (by decide)) (by decide +kernel)

theorem mad_g32 {a b e : List Nat} (ha : g32 a = true) (hb : g32 b = true) (he : g32 e = true) : opsSh.mad a b e = dB 256 32 ((vB 256 a * vB 256 b + vB 256 e) % ell) := by
  rw [opsSh_mad]
  exact mad_val (g32_len ha) (g32_len hb) (g32_len he) (g32_get ha).2 (g32_get hb).2 (g32_get he).2

theorem smul_neg {n : Nat} {P : Pt d1} : add ns_d1 (smul ns_d1 n P) (smul ns_d1 n (negP P)) = zeroP d1 := by
  rw [← smul_sum, addP_neg, smul_zero]

/-- The sum of what a signature's back and its number make is its front. -/
theorem group_eq (k a r : Nat) : add ns_d1 (smul ns_d1 ((k * a + r) % ell) basP) (smul ns_d1 k (negP (smul ns_d1 a basP))) = smul ns_d1 r basP := by
  rw [smul_ell _ _ order, smul_add, smul_mul, addP_comm ns_d1 (smul ns_d1 k (smul ns_d1 a basP)), addP_assoc, smul_neg, addP_zero]

theorem encP_len (P : Pt d1) : (encP P).length = 32 := by
  have hl : (dB 256 32 P.y.v).length = 32 := dB_len _ _ _
  unfold encP
  cases decide ((xP P).v % 2 = 1)
  · exact hl
  · rw [cond_true, List.length_set]
    exact hl

theorem ckF_app {f b : List Nat} (hf : f.length = 32) : ckF (f ++ b) = f := by
  unfold ckF
  rw [List.drop_zero, List.take_left' hf]

theorem ckB_app {f b : List Nat} (hf : f.length = 32) (hb : b.length = 32) : ckB (f ++ b) = b := by
  unfold ckB
  rw [List.drop_left' hf, List.take_of_length_le (by omega)]

/-- Whoever knows the number of a key that is not tiny signs. -/
theorem sig_ok {a r : Nat} {kk : List Nat} {ps : List (List Nat)} (hA : smul ns_d1 8 (smul ns_d1 a basP) ≠ zeroP d1) (hk : g32 kk = true)
    (hrd : opsSh.rd (encP (smul ns_d1 r basP) :: encP (smul ns_d1 a basP) :: ps) = kk) :
    ckOk opsSh (encP (smul ns_d1 a basP)) (encP (smul ns_d1 r basP) ++ dB 256 32 ((vB 256 kk * a + r) % ell)) ps = true := by
  have hf := encP_len (smul ns_d1 r basP)
  have hb : (dB 256 32 ((vB 256 kk * a + r) % ell)).length = 32 := dB_len _ _ _
  obtain ⟨d1', d2⟩ := decH (smul ns_d1 a basP)
  obtain ⟨e1, e2⟩ := decH (smul ns_d1 r basP)
  obtain ⟨b1, b2⟩ := dB_ell (vB 256 kk * a + r)
  unfold ckOk ckE ckS ckM ckN ckk
  rw [ckF_app hf, ckB_app hf hb, hrd, d1', e1]
  have htn : opsSh.tny (opsSh.dkp (encP (smul ns_d1 a basP))) = false := by
    rw [opsSh_tny]
    exact tiny_P d2 hA
  have hsc : opsSh.scan (dB 256 32 ((vB 256 kk * a + r) % ell)) = true := by
    rw [opsSh_scan, scan_val hb (g32_get b1).2, b2]
    exact decide_eq_true (Nat.mod_lt _ (by decide))
  have h1 := mpRP basRP b1
  have h2 : RP (opsSh.png (opsSh.dkp (encP (smul ns_d1 a basP)))) (negP (smul ns_d1 a basP)) := by
    rw [opsSh_png]
    exact RP_ng d2
  have h3 := RP_sum h1 (mpRP h2 hk)
  rw [b2, group_eq, ← opsSh_pls] at h3
  have he := encH h3
  rw [htn, hsc, he]
  simp

theorem pbRP (s : List Nat) : RP (pbP opsSh s) (smul ns_d1 (vB 256 (opsSh.hs s)) basP) := mpRP basRP (hs_g32 s)

theorem mkA_enc (s : List Nat) : mkA opsSh s = encP (smul ns_d1 (vB 256 (opsSh.hs s)) basP) := encH (pbRP s)

theorem mkRP (s : List Nat) (ps : List (List Nat)) : RP (mkR opsSh s ps) (smul ns_d1 (vB 256 (mkr opsSh s ps)) basP) := mpRP basRP (rd_g32 _)

theorem mkF_enc (s : List Nat) (ps : List (List Nat)) : mkF opsSh s ps = encP (smul ns_d1 (vB 256 (mkr opsSh s ps)) basP) := encH (mkRP s ps)

theorem mkSig_eq (s : List Nat) (ps : List (List Nat)) : mkSig opsSh s ps = encP (smul ns_d1 (vB 256 (mkr opsSh s ps)) basP) ++ dB 256 32 ((vB 256 (mkk opsSh s ps) * vB 256 (opsSh.hs s) + vB 256 (mkr opsSh s ps)) % ell) := by
  unfold mkSig mkB
  have h1 : g32 (mkk opsSh s ps) = true := rd_g32 _
  have h2 : g32 (mkr opsSh s ps) = true := rd_g32 _
  rw [mkF_enc, mad_g32 h1 (hs_g32 s) h2]

theorem hs_big (s : List Nat) : smul ns_d1 8 (smul ns_d1 (vB 256 (opsSh.hs s)) basP) ≠ zeroP d1 := by
  rw [opsSh_hsf]
  exact clamp_big (g32_take (sumF5_len _) (sumF5_mem _) 0 (by decide))

theorem make_ok (s : List Nat) (ps : List (List Nat)) : ckOk opsSh (mkA opsSh s) (mkSig opsSh s ps) ps = true := by
  rw [mkSig_eq, mkA_enc]
  refine sig_ok (hs_big s) (rd_g32 _) ?_
  rw [← mkF_enc, ← mkA_enc]
  rfl

end Go.Proofs.YtdhnkkogbbhnmaaGreat

namespace Go.Proofs.YtdhnkkogbbhnmaaGreat
open Go

theorem fnShape : Fn Tryz.prog 17 Tryz.f17 := ⟨mixedF, Tryz.func17, by kernel_rfl, of_decide_eq_true (by kernel_rfl)⟩
theorem fnWnum : Fn Tryz.prog 18 Tryz.f18 := ⟨mixedF, Tryz.func18, by kernel_rfl, of_decide_eq_true (by kernel_rfl)⟩
theorem fnTake : Fn Tryz.prog 21 Tryz.f21 := ⟨mixedF, Tryz.func21, by kernel_rfl, of_decide_eq_true (by kernel_rfl)⟩
theorem fnRnum : Fn Tryz.prog 22 Tryz.f22 := ⟨mixedF, Tryz.func22, by kernel_rfl, of_decide_eq_true (by kernel_rfl)⟩
theorem fnData : Fn Tryz.prog 23 Tryz.f23 := ⟨mixedF, Tryz.func23, by kernel_rfl, of_decide_eq_true (by kernel_rfl)⟩

def Kshape : FSem := ⟨false, fun args hin => match args, hin with
  | [.s (.nat .i64 1)], [] => some (.leaf (.tup [.agg [.one (.nat .i64 4), .one (.nat .i64 2), .one (.nat .i64 1), .one (.bool false)], .s (.nat .i64 0)], []))
  | [.s (.nat .i64 3)], [] => some (.leaf (.tup [.agg [.one (.nat .i64 1), .one (.nat .i64 2), .one (.nat .i64 0), .one (.bool true)], .s (.nat .i64 0)], []))
  | _, _ => none⟩
theorem rShape1 : runB Tryz.prog [] [] .nat 20 Tryz.f17 [.s (.nat .i64 1)] [] = some (.tup [.agg [.one (.nat .i64 4), .one (.nat .i64 2), .one (.nat .i64 1), .one (.bool false)], .s (.nat .i64 0)], []) := by kernel_rfl
theorem rShape3 : runB Tryz.prog [] [] .nat 20 Tryz.f17 [.s (.nat .i64 3)] [] = some (.tup [.agg [.one (.nat .i64 1), .one (.nat .i64 2), .one (.nat .i64 0), .one (.bool true)], .s (.nat .i64 0)], []) := by kernel_rfl
theorem okShape : FOk Tryz.prog 17 Kshape := by
  refine fokB (fs := []) (xs := []) (m := .nat) (fuel := 20) .nil fnShape ?_
  intro args hin t r h hg
  unfold Kshape at h
  simp only at h
  split at h
  · cases h; cases hg; exact rShape1
  · cases h; cases hg; exact rShape3
  · cases h

def num4 (n : Nat) : List Nat := [n / 2 ^ 24 % 256, n / 2 ^ 16 % 256, n / 2 ^ 8 % 256, n % 256]
/-- A number's four bytes, written. -/
def Kwnum : FSem := ⟨false, fun args hin => match args, hin with
  | [.s (.ptr 0 0), .s (.nat .u32 n)], [[.one (.sl .whole 1 0 l 1)], [.ints .u8 l' xs]] =>
    some (Tr.needs [decide (l = l'), decide (l + 4 ≤ 4398046511104)] (.leaf (.tup [], [some [.one (.sl .whole 2 0 (l + 4) 1)], none, some [.ints .u8 (l + 4) (xs ++ num4 n)]])))
  | _, _ => none⟩
theorem rWnum (n l l' : Nat) (xs : List Nat) : runB Tryz.prog [] [] .nat 20 Tryz.f18 [.s (.ptr 0 0), .s (.nat .u32 n)] [[.one (.sl .whole 1 0 l 1)], [.ints .u8 l' xs]] =
  nd [decide (l = l'), decide (l + 4 ≤ 4398046511104)] (some (.tup [], [some [.one (.sl .whole 2 0 (l + 4) 1)], none, some [.ints .u8 (l + 4) (xs ++ num4 n)]])) := by kernel_rfl
theorem okWnum : FOk Tryz.prog 18 Kwnum := by
  refine fokB (fs := []) (xs := []) (m := .nat) (fuel := 20) .nil fnWnum ?_
  intro args hin t r h hg
  unfold Kwnum at h
  simp only at h
  split at h
  · simp only [Option.some.injEq] at h
    subst h
    obtain ⟨hc, hgt⟩ := Tr.needs_get hg
    cases hgt
    rw [rWnum]
    exact nd_of hc rfl
  · cases h

/-- Bytes taken, where there are as many. -/
def Ktake : FSem := ⟨false, fun args hin => match args, hin with
  | [.s (.ptr 0 0), .s (.nat .i64 n)], [[.one (.sl m 1 off len 1), .one (.nat .i64 0)], [.ints .u8 N xs]] =>
    some (Tr.needs [decide (n ≤ len), decide (len < 9223372036854775808)] (.leaf (.s (.sl (m.cut none (some n)) 1 off n 1), [some [.one (.sl (m.cut (some n) none) 1 (addOff off n) (len - n) 1), .one (.nat .i64 0)], some [.ints .u8 N xs]])))
  | _, _ => none⟩
set_option maxRecDepth 100000 in
theorem rTake (N off len n : Nat) (m : LK) (xs : List Nat) : runB Tryz.prog [] [] .nat 20 Tryz.f21 [.s (.ptr 0 0), .s (.nat .i64 n)] [[.one (.sl m 1 off len 1), .one (.nat .i64 0)], [.ints .u8 N xs]] =
(nd [decide (len < 9223372036854775808)]
 (cond (decide (len < n))
 (nd [decide (min n 64 < 9223372036854775808), decide (min n 64 ≤ min n 64), decide (min n 64 ≤ 4398046511104)]
 (some (AV.s (SV.sl LK.whole 2 0 (min n 64) 1), [some [Ch.one (SV.sl m 1 off len 1), Ch.one (SV.nat IntKind.i64 111)], some [Ch.ints IntKind.u8 N xs], some [Ch.ints IntKind.u8 (min n 64) (List.replicate (min n 64) 0)]])))
 (nd [decide (n ≤ len), decide (n ≤ len)]
 (some (.s (.sl (m.cut none (some n)) 1 off n 1), [some [.one (.sl (m.cut (some n) none) 1 (addOff off n) (len - n) 1), .one (.nat .i64 0)], some [.ints .u8 N xs]]))))) := by kernel_rfl
theorem okTake : FOk Tryz.prog 21 Ktake := by
  refine fokB (fs := []) (xs := []) (m := .nat) (fuel := 20) .nil fnTake ?_
  intro args hin t r h hg
  unfold Ktake at h
  simp only at h
  split at h
  · simp only [Option.some.injEq] at h
    subst h
    obtain ⟨hc, hgt⟩ := Tr.needs_get hg
    cases hgt
    simp only [List.mem_cons, List.not_mem_nil, or_false, forall_eq_or_imp, forall_eq, decide_eq_true_eq] at hc
    rw [rTake]
    refine nd_of ?_ (cond_f (decide_eq_false (by omega)) (nd_of ?_ rfl))
    · simp only [List.mem_cons, List.not_mem_nil, or_false, forall_eq, decide_eq_true_eq]; exact hc.2
    · simp only [List.mem_cons, List.not_mem_nil, or_false, forall_eq_or_imp, forall_eq, decide_eq_true_eq]; exact ⟨hc.1, hc.1⟩
  · cases h

def envF1 : List (Nat × FSem) := [(17, Kshape), (18, Kwnum), (21, Ktake)]
theorem envF1_ok : EnvOk ⟨Tryz.prog, envF1, []⟩ := .cons okShape (.cons okWnum (.cons okTake .nil))

/-- The number of four bytes. -/
def at4 (xs : List Nat) (off : Nat) : Nat := xs.getD (addOff off 0) 0 * 2 ^ 24 % 4294967296 ||| xs.getD (addOff off 1) 0 * 2 ^ 16 % 4294967296 ||| xs.getD (addOff off 2) 0 * 2 ^ 8 % 4294967296 ||| xs.getD (addOff off 3) 0

set_option maxRecDepth 100000 in
theorem rRnum (N off len : Nat) (m : LK) (xs : List Nat) : runB Tryz.prog envF1 [] .nat 20 Tryz.f22 [.s (.ptr 0 0)] [[.one (.sl m 1 off len 1), .one (.nat .i64 0)], [.ints .u8 N xs]] =
(nd [decide (4 ≤ len), decide (len < 9223372036854775808), decide (addOff off 0 < N), decide (addOff off 1 < N), decide (addOff off 2 < N), decide (addOff off 3 < N)]
 (some (.s (.nat .u32 (at4 xs off)), [some [.one (.sl (m.cut (some 4) none) 1 (addOff off 4) (len - 4) 1), .one (.nat .i64 0)], some [.ints .u8 N xs]]))) := by kernel_rfl

structure OpsRn where
  a4 : List Nat → Nat → Nat
def opsRn : OpsRn := ⟨at4⟩
theorem opsRn_a4 : opsRn.a4 = at4 := by kernel_rfl

def Krnum (o : OpsRn) : FSem := ⟨false, fun args hin => match args, hin with
  | [.s (.ptr 0 0)], [[.one (.sl m 1 off len 1), .one (.nat .i64 0)], [.ints .u8 N xs]] =>
    some (Tr.needs [decide (4 ≤ len), decide (off + len ≤ N), decide (len < 9223372036854775808)] (.leaf (.s (.nat .u32 (o.a4 xs off)), [some [.one (.sl (m.cut (some 4) none) 1 (addOff off 4) (len - 4) 1), .one (.nat .i64 0)], some [.ints .u8 N xs]])))
  | _, _ => none⟩
theorem okRnum : FOk Tryz.prog 22 (Krnum opsRn) := by
  refine fokB (fs := envF1) (xs := []) (m := .nat) (fuel := 20) envF1_ok fnRnum ?_
  intro args hin t r h hg
  unfold Krnum at h
  rw [opsRn_a4] at h
  simp only at h
  split at h
  · simp only [Option.some.injEq] at h
    subst h
    obtain ⟨hc, hgt⟩ := Tr.needs_get hg
    cases hgt
    simp only [List.mem_cons, List.not_mem_nil, or_false, forall_eq_or_imp, forall_eq, decide_eq_true_eq] at hc
    rw [rRnum]
    refine nd_of ?_ rfl
    simp only [List.mem_cons, List.not_mem_nil, or_false, forall_eq_or_imp, forall_eq, decide_eq_true_eq, addOff_eq']
    omega
  · cases h

def envF2 (o : OpsRn) : List (Nat × FSem) := (22, Krnum o) :: envF1
theorem envF2_ok : EnvOk ⟨Tryz.prog, envF2 opsRn, []⟩ := .cons okRnum envF1_ok

end Go.Proofs.YtdhnkkogbbhnmaaGreat

namespace Go.Proofs.YtdhnkkogbbhnmaaGreat
open Go

theorem fnEncode : Fn Tryz.prog 4 Tryz.f4 := ⟨mixedF, Tryz.func4, by kernel_rfl, of_decide_eq_true (by kernel_rfl)⟩

set_option maxRecDepth 100000 in
theorem rData (o : OpsRn) (N off len : Nat) (xs : List Nat) : runB Tryz.prog (envF2 o) [] .nat 20 Tryz.f23 [.s (.ptr 0 0)] [[.one (.sl .suf 1 off len 1), .one (.nat .i64 0)], [.ints .u8 N xs]] =
(nd [decide (4 ≤ len), decide (off + len ≤ N), decide (len < 9223372036854775808)]
 (cond (decide (16384 < o.a4 xs off))
 (some (AV.s SV.nil, [some [Ch.one (SV.sl LK.suf 1 (addOff off 4) (len - 4) 1), Ch.one (SV.nat IntKind.i64 2)], some [Ch.ints IntKind.u8 N xs]]))
 (nd [decide (o.a4 xs off ≤ len - 4), decide (len - 4 < 9223372036854775808), decide (addOff off 4 + o.a4 xs off ≤ N), decide (0 + o.a4 xs off ≤ 4398046511104)]
 (some (AV.s (SV.sl LK.whole 2 0 (0 + o.a4 xs off) 1), [some [Ch.one (SV.sl LK.suf 1 (addOff (addOff off 4) (o.a4 xs off)) (len - 4 - o.a4 xs off) 1), Ch.one (SV.nat IntKind.i64 0)], some [Ch.ints IntKind.u8 N xs], some [Ch.ints IntKind.u8 (0 + o.a4 xs off) (List.take (o.a4 xs off) (List.drop (addOff off 4) xs))]]))))) := by kernel_rfl

/-- Eighteen bytes of data, read. -/
def Kdata (o : OpsRn) : FSem := ⟨false, fun args hin => match args, hin with
  | [.s (.ptr 0 0)], [[.one (.sl .suf 1 off len 1), .one (.nat .i64 0)], [.ints .u8 N xs]] =>
    some (Tr.needs [decide (o.a4 xs off = 18), decide (22 ≤ len), decide (off + len ≤ N), decide (len < 9223372036854775808)]
      (.leaf (.s (.sl .whole 2 0 18 1), [some [.one (.sl .suf 1 (addOff (addOff off 4) 18) (len - 4 - 18) 1), .one (.nat .i64 0)], some [.ints .u8 N xs], some [.ints .u8 18 (List.take 18 (List.drop (addOff off 4) xs))]])))
  | _, _ => none⟩
theorem okData : FOk Tryz.prog 23 (Kdata opsRn) := by
  refine fokB (fs := envF2 opsRn) (xs := []) (m := .nat) (fuel := 20) envF2_ok fnData ?_
  intro args hin t r h hg
  unfold Kdata at h
  simp only at h
  split at h
  · rename_i off len N xs
    simp only [Option.some.injEq] at h
    subst h
    obtain ⟨hc, hgt⟩ := Tr.needs_get hg
    cases hgt
    simp only [List.mem_cons, List.not_mem_nil, or_false, forall_eq_or_imp, forall_eq, decide_eq_true_eq] at hc
    obtain ⟨h1, h2, h3, h4⟩ := hc
    rw [rData, h1]
    refine nd_of ?_ (cond_f (by decide) (nd_of ?_ rfl))
    · simp only [List.mem_cons, List.not_mem_nil, or_false, forall_eq_or_imp, forall_eq, decide_eq_true_eq]; omega
    · simp only [List.mem_cons, List.not_mem_nil, or_false, forall_eq_or_imp, forall_eq, decide_eq_true_eq, addOff_eq']; omega
  · cases h

/-! A letter's bytes, its head's, an offer's. -/
def letB (k d : List Nat) (b n : Nat) : List Nat := [3] ++ k ++ num4 b ++ num4 n ++ num4 18 ++ d
def hedB (k : List Nat) (b n : Nat) : List Nat := [3] ++ k ++ num4 b ++ num4 n ++ num4 0 ++ []
def offB (k1 k2 k3 k4 : List Nat) (b n : Nat) (s : List Nat) : List Nat := [1] ++ k1 ++ k2 ++ k3 ++ k4 ++ num4 b ++ num4 n ++ s

def letF (dv : SV) : AV := .agg [.one (.nat .i64 3), .one (.sl .whole 0 0 1 32), .one (.sl .whole 1 0 2 1), .one .nil, .one dv]

set_option maxRecDepth 100000 in
theorem rEncL (k d : List Nat) (b n : Nat) : runB Tryz.prog envF1 [] .nat 20 Tryz.f4 [letF (.sl .whole 2 0 18 1)] [[.ints .u8 32 k], [.ints .u32 2 [b, n]], [.ints .u8 18 d]] =
  some (.tup [.s (.sl .whole 3 0 63 1), .s (.nat .i64 0)], [some [.ints .u8 32 k], some [.ints .u32 2 [b, n]], some [.ints .u8 18 d], some [.ints .u8 63 (letB k d b n)]]) := by kernel_rfl
set_option maxRecDepth 100000 in
theorem rEncH (k : List Nat) (b n : Nat) : runB Tryz.prog envF1 [] .nat 20 Tryz.f4 [letF .nil] [[.ints .u8 32 k], [.ints .u32 2 [b, n]]] =
  some (.tup [.s (.sl .whole 2 0 45 1), .s (.nat .i64 0)], [some [.ints .u8 32 k], some [.ints .u32 2 [b, n]], some [.ints .u8 45 (hedB k b n)]]) := by kernel_rfl
def offF : AV := .agg [.one (.nat .i64 1), .one (.sl .whole 0 0 4 32), .one (.sl .whole 1 0 2 1), .one (.sl .whole 2 0 1 64), .one .nil]
set_option maxRecDepth 100000 in
theorem rEncO (k1 k2 k3 k4 s : List Nat) (b n : Nat) : runB Tryz.prog envF1 [] .nat 20 Tryz.f4 [offF] [[.ints .u8 32 k1, .ints .u8 32 k2, .ints .u8 32 k3, .ints .u8 32 k4], [.ints .u32 2 [b, n]], [.ints .u8 64 s]] =
  some (.tup [.s (.sl .whole 3 0 201 1), .s (.nat .i64 0)], [some [.ints .u8 32 k1, .ints .u8 32 k2, .ints .u8 32 k3, .ints .u8 32 k4], some [.ints .u32 2 [b, n]], some [.ints .u8 64 s], some [.ints .u8 201 (offB k1 k2 k3 k4 b n s)]]) := by kernel_rfl

structure OpsFr where
  le : List Nat → List Nat → Nat → Nat → List Nat
  he : List Nat → Nat → Nat → List Nat
  oe : List Nat → List Nat → List Nat → List Nat → Nat → Nat → List Nat → List Nat
def opsFr : OpsFr := ⟨letB, hedB, offB⟩
theorem opsFr_le : opsFr.le = letB := by kernel_rfl
theorem opsFr_he : opsFr.he = hedB := by kernel_rfl
theorem opsFr_oe : opsFr.oe = offB := by kernel_rfl

def Kenc (o : OpsFr) : FSem := ⟨false, fun args hin => match args, hin with
  | [.agg [.one (.nat .i64 3), .one (.sl .whole 0 0 1 32), .one (.sl .whole 1 0 2 1), .one .nil, .one (.sl .whole 2 0 18 1)]], [[.ints .u8 32 k], [.ints .u32 2 [b, n]], [.ints .u8 18 d]] =>
    some (.leaf (.tup [.s (.sl .whole 3 0 63 1), .s (.nat .i64 0)], [some [.ints .u8 32 k], some [.ints .u32 2 [b, n]], some [.ints .u8 18 d], some [.ints .u8 63 (o.le k d b n)]]))
  | [.agg [.one (.nat .i64 3), .one (.sl .whole 0 0 1 32), .one (.sl .whole 1 0 2 1), .one .nil, .one .nil]], [[.ints .u8 32 k], [.ints .u32 2 [b, n]]] =>
    some (.leaf (.tup [.s (.sl .whole 2 0 45 1), .s (.nat .i64 0)], [some [.ints .u8 32 k], some [.ints .u32 2 [b, n]], some [.ints .u8 45 (o.he k b n)]]))
  | [.agg [.one (.nat .i64 1), .one (.sl .whole 0 0 4 32), .one (.sl .whole 1 0 2 1), .one (.sl .whole 2 0 1 64), .one .nil]], [[.ints .u8 32 k1, .ints .u8 32 k2, .ints .u8 32 k3, .ints .u8 32 k4], [.ints .u32 2 [b, n]], [.ints .u8 64 s]] =>
    some (.leaf (.tup [.s (.sl .whole 3 0 201 1), .s (.nat .i64 0)], [some [.ints .u8 32 k1, .ints .u8 32 k2, .ints .u8 32 k3, .ints .u8 32 k4], some [.ints .u32 2 [b, n]], some [.ints .u8 64 s], some [.ints .u8 201 (o.oe k1 k2 k3 k4 b n s)]]))
  | _, _ => none⟩
theorem okEnc : FOk Tryz.prog 4 (Kenc opsFr) := by
  refine fokB (fs := envF1) (xs := []) (m := .nat) (fuel := 20) envF1_ok fnEncode ?_
  intro args hin t r h hg
  unfold Kenc at h
  rw [opsFr_le, opsFr_he, opsFr_oe] at h
  simp only at h
  split at h
  · cases h; cases hg; exact rEncL _ _ _ _
  · cases h; cases hg; exact rEncH _ _ _
  · cases h; cases hg; exact rEncO _ _ _ _ _ _ _
  · cases h

def envF3 (o : OpsRn) : List (Nat × FSem) := (23, Kdata o) :: envF2 o
theorem envF3_ok : EnvOk ⟨Tryz.prog, envF3 opsRn, []⟩ := .cons okData envF2_ok

end Go.Proofs.YtdhnkkogbbhnmaaGreat

namespace Go.Proofs.YtdhnkkogbbhnmaaGreat
open Go

theorem fnDecodeF : Fn Tryz.prog 7 Tryz.f7 := ⟨mixedF, Tryz.func7, by kernel_rfl, of_decide_eq_true (by kernel_rfl)⟩

/-- A part of bytes. -/
def pc (off n : Nat) (xs : List Nat) : List Nat := List.take n (List.drop off xs)

set_option maxRecDepth 100000 in
theorem rDecL (o : OpsRn) (xs : List Nat) : runB Tryz.prog (envF3 o) [] .nat 20 Tryz.f7 [.s (.sl .whole 0 0 63 1)] [[.ints .u8 63 (3 :: xs)]] =
  nd [decide (o.a4 (3 :: xs) 41 = 18)]
   (some (.tup [.agg [.one (.nat .i64 3), .one (.sl .whole 1 0 1 32), .one (.sl .whole 2 0 2 1), .one .nil, .one (.sl .whole 3 0 18 1)], .s (.nat .i64 0)],
     [some [.ints .u8 63 (3 :: xs)], some [.ints .u8 32 (pc 1 32 (3 :: xs))], some [.ints .u32 2 [o.a4 (3 :: xs) 33, o.a4 (3 :: xs) 37]], some [.ints .u8 18 (pc 45 18 (3 :: xs))]])) := by kernel_rfl

set_option maxRecDepth 100000 in
theorem rDecO (o : OpsRn) (xs : List Nat) : runB Tryz.prog (envF3 o) [] .nat 20 Tryz.f7 [.s (.sl .whole 0 0 201 1)] [[.ints .u8 201 (1 :: xs)]] =
   (some (.tup [.agg [.one (.nat .i64 1), .one (.sl .whole 1 0 4 32), .one (.sl .whole 2 0 2 1), .one (.sl .whole 3 0 1 64), .one .nil], .s (.nat .i64 0)],
     [some [.ints .u8 201 (1 :: xs)], some [.ints .u8 32 (pc 1 32 (1 :: xs)), .ints .u8 32 (pc 33 32 (1 :: xs)), .ints .u8 32 (pc 65 32 (1 :: xs)), .ints .u8 32 (pc 97 32 (1 :: xs))],
      some [.ints .u32 2 [o.a4 (1 :: xs) 129, o.a4 (1 :: xs) 133]], some [.ints .u8 64 (pc 137 64 (1 :: xs))]])) := by kernel_rfl

structure OpsDe extends OpsRn where
  pc : Nat → Nat → List Nat → List Nat
def opsDe : OpsDe := { toOpsRn := opsRn, pc := pc }
theorem opsDe_rn : opsDe.toOpsRn = opsRn := by kernel_rfl
theorem opsDe_pc : opsDe.pc = pc := by kernel_rfl

def Kde (o : OpsDe) : FSem := ⟨false, fun args hin => match args, hin with
  | [.s (.sl .whole 0 0 63 1)], [[.ints .u8 63 xs]] => some (Tr.needs [decide (xs.getD 0 0 = 3), decide (o.a4 xs 41 = 18)]
     (.leaf (.tup [.agg [.one (.nat .i64 3), .one (.sl .whole 1 0 1 32), .one (.sl .whole 2 0 2 1), .one .nil, .one (.sl .whole 3 0 18 1)], .s (.nat .i64 0)],
     [some [.ints .u8 63 xs], some [.ints .u8 32 (o.pc 1 32 xs)], some [.ints .u32 2 [o.a4 xs 33, o.a4 xs 37]], some [.ints .u8 18 (o.pc 45 18 xs)]])))
  | [.s (.sl .whole 0 0 201 1)], [[.ints .u8 201 xs]] => some (.need (decide (xs.getD 0 0 = 1))
     (.leaf (.tup [.agg [.one (.nat .i64 1), .one (.sl .whole 1 0 4 32), .one (.sl .whole 2 0 2 1), .one (.sl .whole 3 0 1 64), .one .nil], .s (.nat .i64 0)],
     [some [.ints .u8 201 xs], some [.ints .u8 32 (o.pc 1 32 xs), .ints .u8 32 (o.pc 33 32 xs), .ints .u8 32 (o.pc 65 32 xs), .ints .u8 32 (o.pc 97 32 xs)],
      some [.ints .u32 2 [o.a4 xs 129, o.a4 xs 133]], some [.ints .u8 64 (o.pc 137 64 xs)]])))
  | _, _ => none⟩
theorem okDe : FOk Tryz.prog 7 (Kde opsDe) := by
  refine fokB (fs := envF3 opsRn) (xs := []) (m := .nat) (fuel := 20) envF3_ok fnDecodeF ?_
  intro args hin t r h hg
  unfold Kde at h
  rw [opsDe_pc, opsDe_rn] at h
  simp only at h
  split at h
  · rename_i xs
    simp only [Option.some.injEq] at h
    subst h
    obtain ⟨hc, hgt⟩ := Tr.needs_get hg
    cases hgt
    simp only [List.mem_cons, List.not_mem_nil, or_false, forall_eq_or_imp, forall_eq, decide_eq_true_eq] at hc
    match xs, hc.1 with
    | [], e => cases e
    | x :: xs, e =>
      have e : x = 3 := e
      subst e
      rw [rDecL]
      refine nd_of ?_ rfl
      simp only [List.mem_cons, List.not_mem_nil, or_false, forall_eq, decide_eq_true_eq]
      exact hc.2
  · rename_i xs
    simp only [Option.some.injEq] at h
    subst h
    obtain ⟨hc, hgt⟩ := need1 hg
    cases hgt
    match xs, of_decide_eq_true hc with
    | [], e => cases e
    | x :: xs, e =>
      have e : x = 1 := e
      subst e
      exact rDecO _ _
  · cases h

/-! There and back. -/
theorem at4_num4 {xs ys : List Nat} {n : Nat} (hn : n < 4294967296) : at4 (xs ++ num4 n ++ ys) xs.length = n := by
  have g : ∀ i, i < 4 → (xs ++ num4 n ++ ys).getD (xs.length + i) 0 = (num4 n).getD i 0 := fun i hi => by
    rw [List.getD, List.getD, List.append_assoc, List.getElem?_append_right (by omega), Nat.add_sub_cancel_left, List.getElem?_append_left (by show i < 4; omega)]
  unfold at4
  simp only [addOff_eq']
  rw [g 0 (by omega), g 1 (by omega), g 2 (by omega), g 3 (by omega)]
  show n / 2 ^ 24 % 256 * 2 ^ 24 % 4294967296 ||| n / 2 ^ 16 % 256 * 2 ^ 16 % 4294967296 ||| n / 2 ^ 8 % 256 * 2 ^ 8 % 4294967296 ||| n % 256 = n
  have h3 : n % 256 < 2 ^ 8 := by omega
  have f1 : n / 2 ^ 24 < 256 := by omega
  have f2 : n / 2 ^ 16 % 256 < 256 := Nat.mod_lt _ (by decide)
  have f3 : n / 2 ^ 8 % 256 < 256 := Nat.mod_lt _ (by decide)
  have w : ∀ a, a < 256 → a * 2 ^ 24 < 4294967296 ∧ a * 2 ^ 16 < 4294967296 ∧ a * 2 ^ 8 < 4294967296 := fun a ha => by omega
  have e1 : n / 2 ^ 24 % 256 * 2 ^ 24 % 4294967296 = n / 2 ^ 24 * 2 ^ 24 := by rw [Nat.mod_eq_of_lt f1, Nat.mod_eq_of_lt (w _ f1).1]
  have e2 : n / 2 ^ 16 % 256 * 2 ^ 16 % 4294967296 = n / 2 ^ 16 % 256 * 2 ^ 16 := Nat.mod_eq_of_lt (w _ f2).2.1
  have e3 : n / 2 ^ 8 % 256 * 2 ^ 8 % 4294967296 = n / 2 ^ 8 % 256 * 2 ^ 8 := Nat.mod_eq_of_lt (w _ f3).2.2
  rw [e1, e2, e3]
  have a1 : n / 2 ^ 24 * 2 ^ 24 ||| n / 2 ^ 16 % 256 * 2 ^ 16 = n / 2 ^ 16 * 2 ^ 16 := by
    rw [Nat.or_comm, or_add (k := 24) (by omega)]
    omega
  have a2 : n / 2 ^ 16 * 2 ^ 16 ||| n / 2 ^ 8 % 256 * 2 ^ 8 = n / 2 ^ 8 * 2 ^ 8 := by
    rw [Nat.or_comm, or_add (k := 16) (by omega)]
    omega
  rw [a1, a2, Nat.or_comm, or_add (k := 8) (by omega)]
  omega

theorem pc_mid {xs ys zs : List Nat} {a b : Nat} (ha : xs.length = a) (hb : ys.length = b) : pc a b (xs ++ ys ++ zs) = ys := by
  unfold pc
  subst ha hb
  rw [List.append_assoc, List.drop_left, List.take_left]

theorem num4_len (n : Nat) : (num4 n).length = 4 := rfl

theorem let_back {k d : List Nat} {b n : Nat} (hk : k.length = 32) (hd : d.length = 18) (hb : b < 4294967296) (hn : n < 4294967296) :
    (letB k d b n).getD 0 0 = 3 ∧ at4 (letB k d b n) 41 = 18 ∧ pc 1 32 (letB k d b n) = k ∧ at4 (letB k d b n) 33 = b ∧ at4 (letB k d b n) 37 = n ∧ pc 45 18 (letB k d b n) = d := by
  have l1 : ([3] ++ k).length = 33 := by rw [List.length_append, hk]; rfl
  have l2 : ([3] ++ k ++ num4 b).length = 37 := by rw [List.length_append, l1]; rfl
  have l3 : ([3] ++ k ++ num4 b ++ num4 n).length = 41 := by rw [List.length_append, l2]; rfl
  have l4 : ([3] ++ k ++ num4 b ++ num4 n ++ num4 18).length = 45 := by rw [List.length_append, l3]; rfl
  unfold letB
  refine ⟨rfl, ?_, ?_, ?_, ?_, ?_⟩
  · have := at4_num4 (xs := [3] ++ k ++ num4 b ++ num4 n) (ys := d) (n := 18) (by decide)
    rwa [l3] at this
  · have := pc_mid (xs := [3]) (ys := k) (zs := num4 b ++ num4 n ++ num4 18 ++ d) (a := 1) rfl hk
    simpa only [List.append_assoc] using this
  · have := at4_num4 (xs := [3] ++ k) (ys := num4 n ++ num4 18 ++ d) hb
    rw [l1] at this
    simpa only [List.append_assoc] using this
  · have := at4_num4 (xs := [3] ++ k ++ num4 b) (ys := num4 18 ++ d) hn
    rw [l2] at this
    simpa only [List.append_assoc] using this
  · have := pc_mid (xs := [3] ++ k ++ num4 b ++ num4 n ++ num4 18) (ys := d) (zs := []) l4 hd
    rwa [List.append_nil] at this

theorem off_back {k1 k2 k3 k4 s : List Nat} {b n : Nat} (h1 : k1.length = 32) (h2 : k2.length = 32) (h3 : k3.length = 32) (h4 : k4.length = 32) (hs : s.length = 64) (hb : b < 4294967296) (hn : n < 4294967296) :
    (offB k1 k2 k3 k4 b n s).getD 0 0 = 1 ∧ pc 1 32 (offB k1 k2 k3 k4 b n s) = k1 ∧ pc 33 32 (offB k1 k2 k3 k4 b n s) = k2 ∧ pc 65 32 (offB k1 k2 k3 k4 b n s) = k3 ∧ pc 97 32 (offB k1 k2 k3 k4 b n s) = k4 ∧
      at4 (offB k1 k2 k3 k4 b n s) 129 = b ∧ at4 (offB k1 k2 k3 k4 b n s) 133 = n ∧ pc 137 64 (offB k1 k2 k3 k4 b n s) = s := by
  have l1 : ([1] ++ k1).length = 33 := by rw [List.length_append, h1]; rfl
  have l2 : ([1] ++ k1 ++ k2).length = 65 := by rw [List.length_append, l1, h2]
  have l3 : ([1] ++ k1 ++ k2 ++ k3).length = 97 := by rw [List.length_append, l2, h3]
  have l4 : ([1] ++ k1 ++ k2 ++ k3 ++ k4).length = 129 := by rw [List.length_append, l3, h4]
  have l5 : ([1] ++ k1 ++ k2 ++ k3 ++ k4 ++ num4 b).length = 133 := by rw [List.length_append, l4]; rfl
  have l6 : ([1] ++ k1 ++ k2 ++ k3 ++ k4 ++ num4 b ++ num4 n).length = 137 := by rw [List.length_append, l5]; rfl
  unfold offB
  refine ⟨rfl, ?_, ?_, ?_, ?_, ?_, ?_, ?_⟩
  · have := pc_mid (xs := [1]) (ys := k1) (zs := k2 ++ k3 ++ k4 ++ num4 b ++ num4 n ++ s) (a := 1) rfl h1
    simpa only [List.append_assoc] using this
  · have := pc_mid (xs := [1] ++ k1) (ys := k2) (zs := k3 ++ k4 ++ num4 b ++ num4 n ++ s) l1 h2
    simpa only [List.append_assoc] using this
  · have := pc_mid (xs := [1] ++ k1 ++ k2) (ys := k3) (zs := k4 ++ num4 b ++ num4 n ++ s) l2 h3
    simpa only [List.append_assoc] using this
  · have := pc_mid (xs := [1] ++ k1 ++ k2 ++ k3) (ys := k4) (zs := num4 b ++ num4 n ++ s) l3 h4
    simpa only [List.append_assoc] using this
  · have := at4_num4 (xs := [1] ++ k1 ++ k2 ++ k3 ++ k4) (ys := num4 n ++ s) hb
    rw [l4] at this
    simpa only [List.append_assoc] using this
  · have := at4_num4 (xs := [1] ++ k1 ++ k2 ++ k3 ++ k4 ++ num4 b) (ys := s) hn
    rwa [l5] at this
  · have := pc_mid (xs := [1] ++ k1 ++ k2 ++ k3 ++ k4 ++ num4 b ++ num4 n) (ys := s) (zs := []) l6 hs
    rwa [List.append_nil] at this

end Go.Proofs.YtdhnkkogbbhnmaaGreat

namespace Go.Proofs.YtdhnkkogbbhnmaaGreat
open Go

def p4R : AV := .s (.sl .whole 0 0 4 1)
def p4B (a b c d : List Nat) : List Blk := [[.one (.sl .whole 1 0 12 1), .one (.sl .whole 2 0 32 1), .one (.sl .whole 3 0 32 1), .one (.sl .whole 4 0 4 1)], [.ints .u8 12 a], [.ints .u8 32 b], [.ints .u8 32 c], [.ints .u8 4 d]]

set_option maxRecDepth 100000 in
theorem rMake4 (o : OpsSh) (s a b c d : List Nat) : runB Tryz.prog (envSh o) [] .nat 20 Tryz.f19 [.agg [.ints .u8 32 s], p4R] (p4B a b c d) =
  nd [okParts [s], o.l5 o.bas.x, o.l5 o.bas.y, o.l5 o.bas.z, o.l5 o.bas.t, o.l5 (pbP o s).x, o.l5 (pbP o s).y, o.l5 (pbP o s).z, okParts [o.hp s, a, b, c, d],
    o.l5 o.bas.x, o.l5 o.bas.y, o.l5 o.bas.z, o.l5 o.bas.t, o.l5 (mkR o s [a, b, c, d]).x, o.l5 (mkR o s [a, b, c, d]).y, o.l5 (mkR o s [a, b, c, d]).z, okParts [mkF o s [a, b, c, d], mkA o s, a, b, c, d],
    decide ((mkk o s [a, b, c, d]).length = 32), decide ((o.hs s).length = 32), decide ((mkr o s [a, b, c, d]).length = 32)]
   (some (.agg [.ints .u8 (32 + 32) (mkSig o s [a, b, c, d])], someL (p4B a b c d))) := by kernel_rfl

set_option maxRecDepth 100000 in
theorem rCheck4 (o : OpsSh) (p g a b c d : List Nat) : runB Tryz.prog (envSh o) [] .nat 20 Tryz.f43 [.agg [.ints .u8 32 p], .agg [.ints .u8 64 g], p4R] (p4B a b c d) =
  nd [o.dok p, o.l5 (o.dkp p).x, o.l5 (o.dkp p).y, o.l5 (o.dkp p).z, o.l5 (o.dkp p).t]
  (cond (o.tny (o.dkp p)) (some (.s (.nat .i64 70), someL (p4B a b c d)))
  (nd [decide ((ckB g).length = 32)]
  (cond (!o.scan (ckB g)) (some (.s (.nat .i64 70), someL (p4B a b c d)))
  (nd [o.dok (ckF g), okParts [ckF g, p, a, b, c, d], o.l5 o.bas.x, o.l5 o.bas.y, o.l5 o.bas.z, o.l5 o.bas.t, o.l5 (o.dkp p).x, o.l5 (o.dkp p).t,
    o.l5 (ckN o p).x, o.l5 (ckN o p).y, o.l5 (ckN o p).z, o.l5 (ckN o p).t, o.l5 (ckS o g).x, o.l5 (ckS o g).y, o.l5 (ckS o g).z, o.l5 (ckS o g).t,
    o.l5 (ckM o p g [a, b, c, d]).x, o.l5 (ckM o p g [a, b, c, d]).y, o.l5 (ckM o p g [a, b, c, d]).z, o.l5 (ckM o p g [a, b, c, d]).t, o.l5 (ckE o p g [a, b, c, d]).x, o.l5 (ckE o p g [a, b, c, d]).y, o.l5 (ckE o p g [a, b, c, d]).z]
  (cond (!decide (o.enc (ckE o p g [a, b, c, d]) = ckF g)) (some (.s (.nat .i64 70), someL (p4B a b c d)))
    (some (.s (.nat .i64 0), someL (p4B a b c d)))))))) := by kernel_rfl

end Go.Proofs.YtdhnkkogbbhnmaaGreat

namespace Go.Proofs.YtdhnkkogbbhnmaaGreat
open Go
/-- Turned to the left by n. -/
def rl (x n : Nat) : Nat := x * 2 ^ n % 4294967296 ||| x / 2 ^ (32 - n)

def mix1 (s : List Nat) (i j : Nat) : List Nat := s.set i ((s.getD i 0 + s.getD j 0) % 4294967296)

def mix2 (s : List Nat) (i j n : Nat) : List Nat := s.set i (rl (s.getD i 0 ^^^ s.getD j 0) n)

def qr (s : List Nat) (a b c d : Nat) : List Nat :=
  mix2 (mix1 (mix2 (mix1 (mix2 (mix1 (mix2 (mix1 s a b) d a 16) c d) b c 12) a b) d a 8) c d) b c 7

def okRotq (n : Nat) : Bool := Nat.beq n 16 || Nat.beq n 12 || Nat.beq n 8 || Nat.beq n 7

def okQ (a b c d : Nat) : Bool :=
  Nat.blt a 4 && (Nat.beq b (a + 4) && Nat.beq c (a + 8) && Nat.beq d (a + 12) || Nat.beq b ((a + 1) % 4 + 4) && Nat.beq c ((a + 2) % 4 + 8) && Nat.beq d ((a + 3) % 4 + 12))

def F44 : FSem := ⟨false, fun args hin => match args, hin with
  | [.s (.nat .u32 x), .s (.nat .i64 n)], [] => match okRotq n with
    | true => some (.leaf (.s (.nat .u32 (rl x n)), []))
    | false => none
  | _, _ => none⟩

def F33q : FSem := ⟨false, fun args hin => match args, hin with
  | [.s (.ptr 0 0), .s (.nat .i64 a), .s (.nat .i64 b), .s (.nat .i64 c), .s (.nat .i64 d)], [[.ints .u32 16 xs]] => match okQ a b c d with
    | true => some (.leaf (.tup [], [some [.ints .u32 16 (qr xs a b c d)]]))
    | false => none
  | _, _ => none⟩

theorem mixed : Tryz.prog.follows .mixedOrders = true := by kernel_rfl

theorem fn44 : Fn Tryz.prog 128 Tryz.f128 := ⟨mixed, Tryz.func128, by kernel_rfl, of_decide_eq_true (by kernel_rfl)⟩

theorem fn33q : Fn Tryz.prog 121 Tryz.f121 := ⟨mixed, Tryz.func121, by kernel_rfl, of_decide_eq_true (by kernel_rfl)⟩

theorem okRot_casesq {n : Nat} (h : okRotq n = true) : n = 16 ∨ n = 12 ∨ n = 8 ∨ n = 7 := by
  simp only [okRotq, Bool.or_eq_true, Nat.beq_eq] at h
  omega

set_option maxRecDepth 100000 in
theorem ok44 : FOk Tryz.prog 128 F44 := by
  refine fokB (fs := []) (xs := []) (m := .nat) (fuel := 1) EnvOk.nil fn44 ?_
  intro args hin t r h hg
  unfold F44 at h
  simp only at h
  split at h
  · rename_i x n
    split at h
    · rename_i hn
      cases h; cases hg
      rcases okRot_casesq hn with rfl | rfl | rfl | rfl <;> kernel_rfl
    · cases h
  · cases h

theorem okQ_cases {a b c d : Nat} (h : okQ a b c d = true) : (a, b, c, d) ∈ [(0, 4, 8, 12), (1, 5, 9, 13), (2, 6, 10, 14), (3, 7, 11, 15), (0, 5, 10, 15), (1, 6, 11, 12), (2, 7, 8, 13), (3, 4, 9, 14)] := by
  simp only [okQ, Bool.and_eq_true, Bool.or_eq_true, Nat.beq_eq] at h
  obtain ⟨h1, h2⟩ := h
  have h1 : a < 4 := Nat.le_of_ble_eq_true h1
  rcases (by omega : a = 0 ∨ a = 1 ∨ a = 2 ∨ a = 3) with rfl | rfl | rfl | rfl <;> rcases h2 with ⟨⟨rfl, rfl⟩, rfl⟩ | ⟨⟨rfl, rfl⟩, rfl⟩ <;> decide

set_option maxRecDepth 100000 in
theorem q33_0 (xs : List Nat) : runB Tryz.prog [(128, F44)] [] .nat 3 Tryz.f121 [.s (.ptr 0 0), .s (.nat .i64 0), .s (.nat .i64 4), .s (.nat .i64 8), .s (.nat .i64 12)] [[.ints .u32 16 xs]] = some (.tup [], [some [.ints .u32 16 (qr xs 0 4 8 12)]]) := by kernel_rfl

set_option maxRecDepth 100000 in
theorem q33_1 (xs : List Nat) : runB Tryz.prog [(128, F44)] [] .nat 3 Tryz.f121 [.s (.ptr 0 0), .s (.nat .i64 1), .s (.nat .i64 5), .s (.nat .i64 9), .s (.nat .i64 13)] [[.ints .u32 16 xs]] = some (.tup [], [some [.ints .u32 16 (qr xs 1 5 9 13)]]) := by kernel_rfl

set_option maxRecDepth 100000 in
theorem q33_2 (xs : List Nat) : runB Tryz.prog [(128, F44)] [] .nat 3 Tryz.f121 [.s (.ptr 0 0), .s (.nat .i64 2), .s (.nat .i64 6), .s (.nat .i64 10), .s (.nat .i64 14)] [[.ints .u32 16 xs]] = some (.tup [], [some [.ints .u32 16 (qr xs 2 6 10 14)]]) := by kernel_rfl

set_option maxRecDepth 100000 in
theorem q33_3 (xs : List Nat) : runB Tryz.prog [(128, F44)] [] .nat 3 Tryz.f121 [.s (.ptr 0 0), .s (.nat .i64 3), .s (.nat .i64 7), .s (.nat .i64 11), .s (.nat .i64 15)] [[.ints .u32 16 xs]] = some (.tup [], [some [.ints .u32 16 (qr xs 3 7 11 15)]]) := by kernel_rfl

set_option maxRecDepth 100000 in
theorem q33_4 (xs : List Nat) : runB Tryz.prog [(128, F44)] [] .nat 3 Tryz.f121 [.s (.ptr 0 0), .s (.nat .i64 0), .s (.nat .i64 5), .s (.nat .i64 10), .s (.nat .i64 15)] [[.ints .u32 16 xs]] = some (.tup [], [some [.ints .u32 16 (qr xs 0 5 10 15)]]) := by kernel_rfl

set_option maxRecDepth 100000 in
theorem q33_5 (xs : List Nat) : runB Tryz.prog [(128, F44)] [] .nat 3 Tryz.f121 [.s (.ptr 0 0), .s (.nat .i64 1), .s (.nat .i64 6), .s (.nat .i64 11), .s (.nat .i64 12)] [[.ints .u32 16 xs]] = some (.tup [], [some [.ints .u32 16 (qr xs 1 6 11 12)]]) := by kernel_rfl

set_option maxRecDepth 100000 in
theorem q33_6 (xs : List Nat) : runB Tryz.prog [(128, F44)] [] .nat 3 Tryz.f121 [.s (.ptr 0 0), .s (.nat .i64 2), .s (.nat .i64 7), .s (.nat .i64 8), .s (.nat .i64 13)] [[.ints .u32 16 xs]] = some (.tup [], [some [.ints .u32 16 (qr xs 2 7 8 13)]]) := by kernel_rfl

set_option maxRecDepth 100000 in
theorem q33_7 (xs : List Nat) : runB Tryz.prog [(128, F44)] [] .nat 3 Tryz.f121 [.s (.ptr 0 0), .s (.nat .i64 3), .s (.nat .i64 4), .s (.nat .i64 9), .s (.nat .i64 14)] [[.ints .u32 16 xs]] = some (.tup [], [some [.ints .u32 16 (qr xs 3 4 9 14)]]) := by kernel_rfl

theorem ok33q : FOk Tryz.prog 121 F33q := by
  refine fokB (fs := [(128, F44)]) (xs := []) (m := .nat) (fuel := 3) (.cons ok44 .nil) fn33q ?_
  intro args hin t r h hg
  unfold F33q at h
  simp only at h
  split at h
  · rename_i a b c d xs
    split at h
    · rename_i hq
      cases h; cases hg
      have := okQ_cases hq
      simp only [List.mem_cons, Prod.mk.injEq, List.not_mem_nil, or_false] at this
      rcases this with ⟨rfl, rfl, rfl, rfl⟩ | ⟨rfl, rfl, rfl, rfl⟩ | ⟨rfl, rfl, rfl, rfl⟩ | ⟨rfl, rfl, rfl, rfl⟩ | ⟨rfl, rfl, rfl, rfl⟩ | ⟨rfl, rfl, rfl, rfl⟩ | ⟨rfl, rfl, rfl, rfl⟩ | ⟨rfl, rfl, rfl, rfl⟩
      · exact q33_0 xs
      · exact q33_1 xs
      · exact q33_2 xs
      · exact q33_3 xs
      · exact q33_4 xs
      · exact q33_5 xs
      · exact q33_6 xs
      · exact q33_7 xs
    · cases h
  · cases h

end Go.Proofs.YtdhnkkogbbhnmaaGreat

namespace Go.Proofs.YtdhnkkogbbhnmaaGreat
open Go
structure OpsH where
  rl : Nat → Nat → Nat

def opsH : OpsH := ⟨rl⟩

def okRt (n : Nat) : Bool := Nat.beq n 25 || Nat.beq n 14 || Nat.beq n 15 || Nat.beq n 13 || Nat.beq n 26 || Nat.beq n 21 || Nat.beq n 7 || Nat.beq n 30 || Nat.beq n 19 || Nat.beq n 10

def R27h (o : OpsH) : FSem := ⟨false, fun args hin => match args, hin with
  | [.s (.nat .u32 x), .s (.nat .i64 n)], [] => match okRt n with
    | true => some (.leaf (.s (.nat .u32 (o.rl x n)), []))
    | false => none
  | _, _ => none⟩

theorem okRt_cases {n : Nat} (h : okRt n = true) : n = 25 ∨ n = 14 ∨ n = 15 ∨ n = 13 ∨ n = 26 ∨ n = 21 ∨ n = 7 ∨ n = 30 ∨ n = 19 ∨ n = 10 := by
  simp only [okRt, Bool.or_eq_true, Nat.beq_eq] at h
  omega

set_option maxRecDepth 100000 in
theorem or27h : FOk Tryz.prog 128 (R27h opsH) := by
  refine fokB (fs := []) (xs := []) (m := .nat) (fuel := 1) EnvOk.nil fn44 ?_
  intro args hin t r h hg
  unfold R27h at h
  simp only at h
  split at h
  · rename_i x n
    split at h
    · rename_i hn
      cases h; cases hg
      rcases okRt_cases hn with rfl | rfl | rfl | rfl | rfl | rfl | rfl | rfl | rfl | rfl <;> kernel_rfl
    · cases h
  · cases h

end Go.Proofs.YtdhnkkogbbhnmaaGreat

namespace Go.Proofs.YtdhnkkogbbhnmaaGreat
open Go
theorem mixedP : Tryz.prog.follows .mixedOrders = true := by kernel_rfl

def ct (x c : Nat) : Nat := (x + c) % 18446744073709551616

def carrO (t0 t1 t2 t3 t4 : Nat) : List Nat :=
  [((t0 &&& 67108863) + 5 * (t4 / 2 ^ 26) % 18446744073709551616) % 18446744073709551616, t1 &&& 67108863, t2 &&& 67108863, t3 &&& 67108863, t4 &&& 67108863]

def carr5 (a b c d e : Nat) : List Nat :=
  (fun t0 => (fun t1 => (fun t2 => (fun t3 => carrO t0 t1 t2 t3 (ct e (t3 / 2 ^ 26))) (ct d (t2 / 2 ^ 26))) (ct c (t1 / 2 ^ 26))) (ct b (t0 / 2 ^ 26))) (ct a 0)

def carr (x : List Nat) : List Nat := carr5 (x.getD 0 0) (x.getD 1 0) (x.getD 2 0) (x.getD 3 0) (x.getD 4 0)

theorem fiveq {x : List Nat} (h : x.length = 5) : ∃ a b c d e, x = [a, b, c, d, e] := by
  match x, h with
  | [a, b, c, d, e], _ => exact ⟨a, b, c, d, e, rfl⟩

def F46 : FSem := ⟨false, fun args hin => match args, hin with
  | [.agg [.ints .u64 5 x]], [] => some (.need (decide (x.length = 5)) (.leaf (.agg [.ints .u64 5 (carr x)], [])))
  | _, _ => none⟩

theorem fn46 : Fn Tryz.prog 130 Tryz.f130 := ⟨mixedP, Tryz.func130, by kernel_rfl, of_decide_eq_true (by kernel_rfl)⟩

set_option maxRecDepth 100000 in
theorem r46 (a b c d e : Nat) : runB Tryz.prog [] [] .nat 7 Tryz.f130 [.agg [.ints .u64 5 [a, b, c, d, e]]] [] = some (.agg [.ints .u64 5 (carr [a, b, c, d, e])], []) := by kernel_rfl

theorem ok46 : FOk Tryz.prog 130 F46 := by
  refine fokB (fs := []) (xs := []) (m := .nat) (fuel := 7) EnvOk.nil fn46 ?_
  intro args hin t r h hg
  unfold F46 at h
  simp only at h
  split at h
  · rename_i x
    cases h
    simp only [Tr.get] at hg
    cases hl : decide (x.length = 5) with
    | false => rw [hl] at hg; cases hg
    | true =>
      rw [hl] at hg; cases hg
      obtain ⟨a, b, c, d, e, rfl⟩ := fiveq (of_decide_eq_true hl)
      exact r46 a b c d e
  · cases h

def ad (o t : Nat) : Nat := (o + t) % 18446744073709551616

def pl (a b : Nat) : Nat := a * b % 18446744073709551616

def p5 (a b : Nat) : Nat := 5 * a % 18446744073709551616 * b % 18446744073709551616

def times5 (x0 x1 x2 x3 x4 y0 y1 y2 y3 y4 : Nat) : List Nat :=
  [ad (ad (ad (ad (ad 0 (pl x0 y0)) (p5 x1 y4)) (p5 x2 y3)) (p5 x3 y2)) (p5 x4 y1),
    ad (ad (ad (ad (ad 0 (pl x0 y1)) (pl x1 y0)) (p5 x2 y4)) (p5 x3 y3)) (p5 x4 y2),
    ad (ad (ad (ad (ad 0 (pl x0 y2)) (pl x1 y1)) (pl x2 y0)) (p5 x3 y4)) (p5 x4 y3),
    ad (ad (ad (ad (ad 0 (pl x0 y3)) (pl x1 y2)) (pl x2 y1)) (pl x3 y0)) (p5 x4 y4),
    ad (ad (ad (ad (ad 0 (pl x0 y4)) (pl x1 y3)) (pl x2 y2)) (pl x3 y1)) (pl x4 y0)]

def timesL (x y : List Nat) : List Nat := times5 (x.getD 0 0) (x.getD 1 0) (x.getD 2 0) (x.getD 3 0) (x.getD 4 0) (y.getD 0 0) (y.getD 1 0) (y.getD 2 0) (y.getD 3 0) (y.getD 4 0)

def F37 : FSem := ⟨false, fun args hin => match args, hin with
  | [.agg [.ints .u64 5 x], .agg [.ints .u64 5 y]], [] => some (.need (decide (x.length = 5)) (.need (decide (y.length = 5)) (.leaf (.agg [.ints .u64 5 (carr (carr (timesL x y)))], []))))
  | _, _ => none⟩

theorem fn37 : Fn Tryz.prog 124 Tryz.f124 := ⟨mixedP, Tryz.func124, by kernel_rfl, of_decide_eq_true (by kernel_rfl)⟩

set_option maxRecDepth 100000 in
theorem r37 (a b c d e a' b' c' d' e' : Nat) : runB Tryz.prog [(130, F46)] [] .nat 7 Tryz.f124 [.agg [.ints .u64 5 [a, b, c, d, e]], .agg [.ints .u64 5 [a', b', c', d', e']]] [] = some (.agg [.ints .u64 5 (carr (carr (timesL [a, b, c, d, e] [a', b', c', d', e'])))], []) := by kernel_rfl

theorem ok37 : FOk Tryz.prog 124 F37 := by
  refine fokB (fs := [(130, F46)]) (xs := []) (m := .nat) (fuel := 7) (.cons ok46 .nil) fn37 ?_
  intro args hin t r h hg
  unfold F37 at h
  simp only at h
  split at h
  · rename_i x y
    cases h
    simp only [Tr.get] at hg
    cases hl : decide (x.length = 5) with
    | false => rw [hl] at hg; cases hg
    | true =>
      rw [hl] at hg
      cases hl2 : decide (y.length = 5) with
      | false => rw [hl2] at hg; cases hg
      | true =>
        rw [hl2] at hg; cases hg
        obtain ⟨a, b, c, d, e, rfl⟩ := fiveq (of_decide_eq_true hl)
        obtain ⟨a', b', c', d', e', rfl⟩ := fiveq (of_decide_eq_true hl2)
        exact r37 a b c d e a' b' c' d' e'
  · cases h

end Go.Proofs.YtdhnkkogbbhnmaaGreat

namespace Go.Proofs.YtdhnkkogbbhnmaaGreat
open Go
theorem nd_ofq {α : Type} {cs : List Bool} {x r : Option α} (hc : ∀ c ∈ cs, c = true) (h : x = r) : nd cs x = r := by
  rw [nd_true hc, h]

theorem cond_tq {α : Type} {c : Bool} {x y r : Option α} (hc : c = true) (h : x = r) : cond c x y = r := by
  rw [hc, cond_true, h]

theorem cond_fq {α : Type} {c : Bool} {x y r : Option α} (hc : c = false) (h : y = r) : cond c x y = r := by
  rw [hc, cond_false, h]

def numStep1 (x : List Nat) (j v : Nat) : List Nat :=
  x.set (8 * j / 26) (x.getD (8 * j / 26) 0 ||| v * 2 ^ (8 * j % 26) % 18446744073709551616 &&& 67108863)

def numStep2 (x : List Nat) (j v : Nat) : List Nat :=
  x.set (8 * j / 26 + 1) (x.getD (8 * j / 26 + 1) 0 ||| v / 2 ^ (26 - 8 * j % 26))

def numStep (x : List Nat) (j v : Nat) : List Nat :=
  if 18 < 8 * j % 26 ∧ 8 * j / 26 < 4 then numStep2 (numStep1 x j v) j v else numStep1 x j v

def numN (xs : List Nat) : Nat → List Nat
  | 0 => [0, 0, 0, 0, 0]
  | j + 1 => numStep (numN xs j) j (xs.getD j 0)

def numb (xs : List Nat) : List Nat := numN xs xs.length

def S35 : LSem := ⟨[2, 3, 6, 7, 8], [2, 3], fun args hin => match args, hin with
  | [.s (.ptr 0 0), .s (.ptr 1 0), .s (.xsl (.ints .u8 xs)), .s (.nat .i64 n), .s (.nat .i64 0)], [[.ints .u64 5 [0, 0, 0, 0, 0]], [.ints .u64 5 [0, 0, 0, 0, 0]]] =>
    some (Tr.needs [decide (n = xs.length), decide (xs.length ≤ 17)]
      (.leaf (.normal, [.s (.ptr 0 0), .s (.ptr 1 0)], [some [.ints .u64 5 [0, 0, 0, 0, 0]], some [.ints .u64 5 (numb xs)]])))
  | _, _ => none⟩

set_option maxRecDepth 100000 in
theorem rr35 (xs zs : List Nat) (n j : Nat) : runR Tryz.prog [] [] .nat 3 [] Tryz.f122 0 S35 2 [.s (.ptr 0 0), .s (.ptr 1 0), .s (.xsl (.ints .u8 xs)), .s (.nat .i64 n), .s (.nat .i64 j)] [some [.ints .u64 5 [0,0,0,0,0]], some [.ints .u64 5 zs]] =
(cond (decide (j < n))
 (nd [decide (j < xs.length), decide (j < xs.length), decide (8 * j < 9223372036854775808), decide (8 * j / 26 < 5), decide (8 * j / 26 < 5), decide (8 * j < 9223372036854775808), decide (8 * j / 26 < 5), decide (8 * j / 26 < 5), decide (8 * j < 9223372036854775808)]
 (cond (decide (18 < 8 * j % 26))
 (nd [decide (8 * j < 9223372036854775808)]
 (cond (decide (8 * j / 26 < 4))
 (nd [decide (8 * j < 9223372036854775808), decide (8 * j / 26 + 1 < 9223372036854775808), decide (8 * j / 26 + 1 < 5), decide (8 * j / 26 + 1 < 5), decide (8 * j < 9223372036854775808), decide (8 * j % 26 ≤ 26), decide (8 * j / 26 + 1 < 5), decide (8 * j / 26 + 1 < 5), decide (j + 1 < 9223372036854775808)]
 (some (Ex.normal, [AV.s (SV.ptr 0 0), AV.s (SV.ptr 1 0), AV.s (SV.xsl (XC.ints IntKind.u8 xs)), AV.s (SV.nat IntKind.i64 n), AV.s (SV.nat IntKind.i64 (j + 1))], [some [Ch.ints IntKind.u64 5 [0, 0, 0, 0, 0]], some [Ch.ints IntKind.u64 5 (numStep2 (numStep1 zs j (xs.getD j 0)) j (xs.getD j 0))]])))
 (nd [decide (j + 1 < 9223372036854775808)]
 (some (Ex.normal, [AV.s (SV.ptr 0 0), AV.s (SV.ptr 1 0), AV.s (SV.xsl (XC.ints IntKind.u8 xs)), AV.s (SV.nat IntKind.i64 n), AV.s (SV.nat IntKind.i64 (j + 1))], [some [Ch.ints IntKind.u64 5 [0, 0, 0, 0, 0]], some [Ch.ints IntKind.u64 5 (numStep1 zs j (xs.getD j 0))]])))))
 (nd [decide (j + 1 < 9223372036854775808)]
 (some (Ex.normal, [AV.s (SV.ptr 0 0), AV.s (SV.ptr 1 0), AV.s (SV.xsl (XC.ints IntKind.u8 xs)), AV.s (SV.nat IntKind.i64 n), AV.s (SV.nat IntKind.i64 (j + 1))], [some [Ch.ints IntKind.u64 5 [0, 0, 0, 0, 0]], some [Ch.ints IntKind.u64 5 (numStep1 zs j (xs.getD j 0))]])))))
 (some (Ex.exit 0, [AV.s (SV.ptr 0 0), AV.s (SV.ptr 1 0)], [some [Ch.ints IntKind.u64 5 [0, 0, 0, 0, 0]], some [Ch.ints IntKind.u64 5 zs]]))) := by kernel_rfl

def A35 (xs : List Nat) (i : Nat) : List AV × List (Option Blk) :=
  ([.s (.ptr 0 0), .s (.ptr 1 0), .s (.xsl (.ints .u8 xs)), .s (.nat .i64 xs.length), .s (.nat .i64 i)], [some [.ints .u64 5 [0,0,0,0,0]], some [.ints .u64 5 (numN xs i)]])

theorem lok35 : LOk Tryz.prog Tryz.f122.ntmps (.block 0 (.loop (lb 0 Tryz.f122))) S35 := by
  refine lokR (fs := []) (xs := []) (m := .nat) (fuel := 3) (sums := []) EnvOk.nil mixedP (loopsOk_none rfl _) ?_
  intro args hin t e vs hout h hg
  unfold S35 at h
  simp only at h
  split at h
  · rename_i xs n
    simp only [Option.some.injEq] at h
    subst h
    obtain ⟨hc, hgt⟩ := Tr.needs_get hg
    clear hg
    have e1 : n = xs.length := of_decide_eq_true (hc _ (by simp))
    have hl : xs.length ≤ 17 := of_decide_eq_true (hc (decide (xs.length ≤ 17)) (by simp))
    clear hc
    subst e1
    cases hgt
    refine ⟨xs.length, A35 xs, .exit 0, rfl, fun i hi => ?_, ?_, rfl⟩
    · simp only [A35, List.length_cons, List.length_nil]
      rw [rr35]
      refine cond_tq (decide_eq_true hi) (nd_ofq ?_ ?_)
      · simp only [List.mem_cons, List.not_mem_nil, or_false, forall_eq_or_imp, forall_eq, decide_eq_true_eq]; omega
      · by_cases h1 : 18 < 8 * i % 26
        · refine cond_tq (decide_eq_true h1) (nd_ofq ?_ ?_)
          · simp only [List.mem_cons, List.not_mem_nil, or_false, forall_eq, decide_eq_true_eq]; omega
          · by_cases h2 : 8 * i / 26 < 4
            · refine cond_tq (decide_eq_true h2) (nd_ofq ?_ ?_)
              · simp only [List.mem_cons, List.not_mem_nil, or_false, forall_eq_or_imp, forall_eq, decide_eq_true_eq]; omega
              · simp only [numN, numStep, if_pos (And.intro h1 h2)]
            · refine cond_fq (decide_eq_false h2) (nd_ofq ?_ ?_)
              · simp only [List.mem_cons, List.not_mem_nil, or_false, forall_eq, decide_eq_true_eq]; omega
              · simp only [numN, numStep, if_neg (fun h : 18 < 8 * i % 26 ∧ 8 * i / 26 < 4 => h2 h.2)]
        · refine cond_fq (decide_eq_false h1) (nd_ofq ?_ ?_)
          · simp only [List.mem_cons, List.not_mem_nil, or_false, forall_eq, decide_eq_true_eq]; omega
          · simp only [numN, numStep, if_neg (fun h : 18 < 8 * i % 26 ∧ 8 * i / 26 < 4 => h1 h.1)]
    · simp only [A35, List.length_cons, List.length_nil]
      rw [rr35]
      exact cond_fq (decide_eq_false (Nat.lt_irrefl _)) rfl
  · cases h

def F35q : FSem := ⟨true, fun args hin => match args, hin with
  | [.s (.xsl (.ints .u8 xs))], [] => some (.need (decide (xs.length ≤ 17)) (.leaf (.agg [.ints .u64 5 (numb xs)], [])))
  | _, _ => none⟩

theorem fn35q : Fn Tryz.prog 122 Tryz.f122 := ⟨mixedP, Tryz.func122, by kernel_rfl, of_decide_eq_true (by kernel_rfl)⟩

theorem loops35 : LoopsOk Tryz.prog ⟨Tryz.f122.ntmps, 3, [(0, S35)]⟩ (bodyOf Tryz.f122) := by
  refine loopsOk_of ?_
  have e : loopsIn [(0, S35)] (bodyOf Tryz.f122) = [(0, .loop (lb 0 Tryz.f122), S35)] := by kernel_rfl
  simp only [e]
  intro x hx
  simp only [List.mem_cons, List.not_mem_nil, or_false] at hx
  subst hx
  exact lok35

set_option maxRecDepth 100000 in
theorem r35q (xs : List Nat) : runL Tryz.prog [] [] .nat 3 [(0, S35)] Tryz.f122 [.s (.xsl (.ints .u8 xs))] [] =
    nd [decide (xs.length < 9223372036854775808), decide (xs.length = xs.length), decide (xs.length ≤ 17)] (some (.agg [.ints .u64 5 (numb xs)], [])) := by kernel_rfl

theorem ok35q : FOk Tryz.prog 122 F35q := by
  refine fokL (fs := []) (xs := []) (m := .nat) (fuel := 3) (sums := [(0, S35)]) EnvOk.nil fn35q loops35 ?_
  intro args hin t r h hg
  unfold F35q at h
  simp only at h
  split at h
  · rename_i xs
    cases h
    simp only [Tr.get] at hg
    cases hl : decide (xs.length ≤ 17) with
    | false => rw [hl] at hg; cases hg
    | true =>
      rw [hl] at hg; cases hg
      have hl := of_decide_eq_true hl
      rw [r35q]
      refine nd_ofq ?_ rfl
      simp only [List.mem_cons, List.not_mem_nil, or_false, forall_eq_or_imp, forall_eq, decide_eq_true_eq, true_and, and_true]; omega
  · cases h

end Go.Proofs.YtdhnkkogbbhnmaaGreat

namespace Go.Proofs.YtdhnkkogbbhnmaaGreat
open Go
def wS (o : OpsH) (xs : List Nat) (off : Nat) (w : List Nat) (j : Nat) : List Nat := cond (decide (j < 16))
  (w.set j (xs.getD (addOff off (4 * j)) 0 * 2 ^ 24 % 4294967296 ||| xs.getD (addOff off (4 * j + 1)) 0 * 2 ^ 16 % 4294967296 ||| xs.getD (addOff off (4 * j + 2)) 0 * 2 ^ 8 % 4294967296 ||| xs.getD (addOff off (4 * j + 3)) 0))
  (w.set j ((((w.getD (j - 16) 0 + w.getD (j - 7) 0) % 4294967296 + (o.rl (w.getD (j - 15) 0) 25 ^^^ o.rl (w.getD (j - 15) 0) 14 ^^^ w.getD (j - 15) 0 / 2 ^ 3)) % 4294967296 + (o.rl (w.getD (j - 2) 0) 15 ^^^ o.rl (w.getD (j - 2) 0) 13 ^^^ w.getD (j - 2) 0 / 2 ^ 10)) % 4294967296))

def wN (o : OpsH) (xs : List Nat) (off : Nat) (w : List Nat) : Nat → List Nat
  | 0 => w
  | j + 1 => wS o xs off (wN o xs off w j) j

structure V8h where
  a : Nat
  b : Nat
  c : Nat
  d : Nat
  e : Nat
  f : Nat
  g : Nat
  h : Nat

def rS (o : OpsH) (k w : List Nat) (v : V8h) (j : Nat) : V8h :=
  ⟨((((((v.h + (o.rl v.e 26 ^^^ o.rl v.e 21 ^^^ o.rl v.e 7)) % 4294967296 + (v.e &&& v.f ^^^ 4294967296 - 1 - v.e &&& v.g)) % 4294967296 + k.getD j 0 / 2 ^ 32 % 4294967296) % 4294967296 + w.getD j 0) % 4294967296 + ((o.rl v.a 30 ^^^ o.rl v.a 19 ^^^ o.rl v.a 10) + (v.a &&& v.b ^^^ v.a &&& v.c ^^^ v.b &&& v.c)) % 4294967296) % 4294967296), v.a, v.b, v.c,
   ((v.d + ((((v.h + (o.rl v.e 26 ^^^ o.rl v.e 21 ^^^ o.rl v.e 7)) % 4294967296 + (v.e &&& v.f ^^^ 4294967296 - 1 - v.e &&& v.g)) % 4294967296 + k.getD j 0 / 2 ^ 32 % 4294967296) % 4294967296 + w.getD j 0) % 4294967296) % 4294967296), v.e, v.f, v.g⟩

def rN (o : OpsH) (k w : List Nat) (v : V8h) : Nat → V8h
  | 0 => v
  | j + 1 => rS o k w (rN o k w v j) j

structure OpsW extends OpsH where
  w : List Nat → Nat → List Nat → List Nat
  r : List Nat → List Nat → V8h → V8h

def opsW : OpsW := { toOpsH := opsH, w := fun xs off w => wN opsH xs off w 64, r := fun k w v => rN opsH k w v 64 }

theorem opsW_ops : opsW.toOpsH = opsH := by kernel_rfl

theorem opsW_w : opsW.w = fun xs off w => wN opsH xs off w 64 := by kernel_rfl

theorem opsW_r : opsW.r = fun k w v => rN opsH k w v 64 := by kernel_rfl

def S32ah (o : OpsW) : LSem := ⟨[1, 4, 22], [], fun args hin => match args, hin with
  | [.s (.sl m 0 off 64 1), .s (.ptr 1 0), .s (.nat .i64 0)], [[.ints .u8 n xs], [.ints .u32 64 w]] =>
    some (Tr.needs [decide (off + 64 ≤ n)] (.leaf (.normal, [], [some [.ints .u8 n xs], some [.ints .u32 64 (o.w xs off w)]])))
  | _, _ => none⟩

def S32bh (o : OpsW) : LSem := ⟨[4, 8, 9, 10, 11, 12, 13, 14, 15, 16, 141], [9, 10, 11, 12, 13, 14, 15, 16], fun args hin => match args, hin with
  | [.s (.ptr 0 0), .s (.ptr 1 0), .s (.nat .u32 a), .s (.nat .u32 b), .s (.nat .u32 c), .s (.nat .u32 d), .s (.nat .u32 e), .s (.nat .u32 f), .s (.nat .u32 g), .s (.nat .u32 h), .s (.nat .i64 0)], [[.ints .u32 64 w], [.ints .u64 80 k]] =>
    some (.leaf (.normal, [.s (.nat .u32 (o.r k w ⟨a, b, c, d, e, f, g, h⟩).a), .s (.nat .u32 (o.r k w ⟨a, b, c, d, e, f, g, h⟩).b), .s (.nat .u32 (o.r k w ⟨a, b, c, d, e, f, g, h⟩).c), .s (.nat .u32 (o.r k w ⟨a, b, c, d, e, f, g, h⟩).d), .s (.nat .u32 (o.r k w ⟨a, b, c, d, e, f, g, h⟩).e), .s (.nat .u32 (o.r k w ⟨a, b, c, d, e, f, g, h⟩).f), .s (.nat .u32 (o.r k w ⟨a, b, c, d, e, f, g, h⟩).g), .s (.nat .u32 (o.r k w ⟨a, b, c, d, e, f, g, h⟩).h)], [some [.ints .u32 64 w], some [.ints .u64 80 k]]))
  | _, _ => none⟩

set_option maxRecDepth 100000 in
theorem r32ah (o : OpsW) (m : LK) (off n j : Nat) (xs w : List Nat) : runR Tryz.prog [(128, R27h o.toOpsH)] [] .nat 7 [] Tryz.f116 0 (S32ah o) 2 [.s (.sl m 0 off 64 1), .s (.ptr 1 0), .s (.nat .i64 j)] [some [.ints .u8 n xs], some [.ints .u32 64 w]] =
(cond (decide (j < 64))
 (cond (decide (j < 16))
 (nd [decide (4 * j < 9223372036854775808), decide (4 * j < 64), decide (addOff off (4 * j) < n), decide (4 * j < 9223372036854775808), decide (4 * j + 1 < 9223372036854775808), decide (4 * j + 1 < 64), decide (addOff off (4 * j + 1) < n), decide (4 * j < 9223372036854775808), decide (4 * j + 2 < 9223372036854775808), decide (4 * j + 2 < 64), decide (addOff off (4 * j + 2) < n), decide (4 * j < 9223372036854775808), decide (4 * j + 3 < 9223372036854775808), decide (4 * j + 3 < 64), decide (addOff off (4 * j + 3) < n), decide (j < 64), decide (j < 64), decide (j + 1 < 9223372036854775808)]
 (some (Ex.normal, [AV.s (SV.sl m 0 off 64 1), AV.s (SV.ptr (0 + 1) 0), AV.s (SV.nat IntKind.i64 (j + 1))], [some [Ch.ints IntKind.u8 n xs], some [Ch.ints IntKind.u32 64 (w.set j (xs.getD (addOff off (4 * j)) 0 * 2 ^ 24 % 4294967296 ||| xs.getD (addOff off (4 * j + 1)) 0 * 2 ^ 16 % 4294967296 ||| xs.getD (addOff off (4 * j + 2)) 0 * 2 ^ 8 % 4294967296 ||| xs.getD (addOff off (4 * j + 3)) 0))]])))
 (nd [decide (15 ≤ j), decide (j - 15 < 64), decide (j - 15 < 64), decide (2 ≤ j), decide (j - 2 < 64), decide (j - 2 < 64), decide (16 ≤ j), decide (j - 16 < 64), decide (j - 16 < 64), decide (7 ≤ j), decide (j - 7 < 64), decide (j - 7 < 64), decide (j < 64), decide (j < 64), decide (j + 1 < 9223372036854775808)]
 (some (Ex.normal, [AV.s (SV.sl m 0 off 64 1), AV.s (SV.ptr (0 + 1) 0), AV.s (SV.nat IntKind.i64 (j + 1))], [some [Ch.ints IntKind.u8 n xs], some [Ch.ints IntKind.u32 64 (w.set j ((((w.getD (j - 16) 0 + w.getD (j - 7) 0) % 4294967296 + (o.rl (w.getD (j - 15) 0) 25 ^^^ o.rl (w.getD (j - 15) 0) 14 ^^^ w.getD (j - 15) 0 / 2 ^ 3)) % 4294967296 + (o.rl (w.getD (j - 2) 0) 15 ^^^ o.rl (w.getD (j - 2) 0) 13 ^^^ w.getD (j - 2) 0 / 2 ^ 10)) % 4294967296))]]))))
 (some (Ex.exit 0, [], [some [Ch.ints IntKind.u8 n xs], some [Ch.ints IntKind.u32 64 w]]))) := by kernel_rfl

set_option maxRecDepth 100000 in
theorem r32bh (o : OpsW) (k w : List Nat) (v : V8h) (j : Nat) : runR Tryz.prog [(128, R27h o.toOpsH)] [] .nat 7 [] Tryz.f116 2 (S32bh o) 2 [.s (.ptr 0 0), .s (.ptr 1 0), .s (.nat .u32 v.a), .s (.nat .u32 v.b), .s (.nat .u32 v.c), .s (.nat .u32 v.d), .s (.nat .u32 v.e), .s (.nat .u32 v.f), .s (.nat .u32 v.g), .s (.nat .u32 v.h), .s (.nat .i64 j)] [some [.ints .u32 64 w], some [.ints .u64 80 k]] =
(cond (decide (j < 64))
 (nd [decide (j < 80), decide (j < 80), decide (j < 64), decide (j < 64), decide (j + 1 < 9223372036854775808)]
 (some (Ex.normal, [AV.s (SV.ptr 0 0), AV.s (SV.ptr (0 + 1) 0), .s (.nat .u32 (rS o.toOpsH k w v j).a), .s (.nat .u32 (rS o.toOpsH k w v j).b), .s (.nat .u32 (rS o.toOpsH k w v j).c), .s (.nat .u32 (rS o.toOpsH k w v j).d), .s (.nat .u32 (rS o.toOpsH k w v j).e), .s (.nat .u32 (rS o.toOpsH k w v j).f), .s (.nat .u32 (rS o.toOpsH k w v j).g), .s (.nat .u32 (rS o.toOpsH k w v j).h), AV.s (SV.nat IntKind.i64 (j + 1))], [some [Ch.ints IntKind.u32 64 w], some [Ch.ints IntKind.u64 80 k]])))
 (some (Ex.exit 2, [AV.s (SV.nat IntKind.u32 v.a), AV.s (SV.nat IntKind.u32 v.b), AV.s (SV.nat IntKind.u32 v.c), AV.s (SV.nat IntKind.u32 v.d), AV.s (SV.nat IntKind.u32 v.e), AV.s (SV.nat IntKind.u32 v.f), AV.s (SV.nat IntKind.u32 v.g), AV.s (SV.nat IntKind.u32 v.h)], [some [Ch.ints IntKind.u32 64 w], some [Ch.ints IntKind.u64 80 k]]))) := by kernel_rfl

theorem lok32ah : LOk Tryz.prog Tryz.f116.ntmps (.block 0 (.loop (lb 0 Tryz.f116))) (S32ah opsW) := by
  refine lokR (fs := [(128, R27h opsH)]) (xs := []) (m := .nat) (fuel := 7) (sums := []) (.cons or27h .nil) mixed (loopsOk_none rfl _) ?_
  intro args hin t e vs hout h hg
  unfold S32ah at h
  simp only at h
  split at h
  rotate_left
  · cases h
  rename_i m off n xs w
  simp only [Option.some.injEq] at h
  subst h
  obtain ⟨hc, hgt⟩ := Tr.needs_get hg
  cases hgt
  simp only [List.mem_cons, List.not_mem_nil, or_false, forall_eq, decide_eq_true_eq] at hc
  refine ⟨64, fun i => ([.s (.sl m 0 off 64 1), .s (.ptr 1 0), .s (.nat .i64 i)], [some [.ints .u8 n xs], some [.ints .u32 64 (wN opsH xs off w i)]]), .exit 0, rfl, fun i hi => ?_, ?_, rfl⟩
  · simp only [List.length_cons, List.length_nil]
    have := r32ah opsW m off n i xs (wN opsH xs off w i)
    rw [opsW_ops] at this
    rw [this]
    refine cond_tq (decide_eq_true hi) ?_
    simp only [addOff_eq']
    by_cases h16 : i < 16
    · refine cond_tq (decide_eq_true h16) (nd_ofq ?_ ?_)
      · simp only [List.mem_cons, List.not_mem_nil, or_false, forall_eq_or_imp, forall_eq, decide_eq_true_eq]; omega
      · rw [wN, wS, decide_eq_true h16, cond_true]
        simp only [addOff_eq']
    · refine cond_fq (decide_eq_false h16) (nd_ofq ?_ ?_)
      · simp only [List.mem_cons, List.not_mem_nil, or_false, forall_eq_or_imp, forall_eq, decide_eq_true_eq]; omega
      · rw [wN, wS, decide_eq_false h16, cond_false]
  · simp only [List.length_cons, List.length_nil]
    have := r32ah opsW m off n 64 xs (wN opsH xs off w 64)
    rw [opsW_ops] at this
    rw [this, opsW_w]
    exact cond_fq rfl rfl

theorem lok32bh : LOk Tryz.prog Tryz.f116.ntmps (.block 2 (.loop (lb 2 Tryz.f116))) (S32bh opsW) := by
  refine lokR (fs := [(128, R27h opsH)]) (xs := []) (m := .nat) (fuel := 7) (sums := []) (.cons or27h .nil) mixed (loopsOk_none rfl _) ?_
  intro args hin t e vs hout h hg
  unfold S32bh at h
  simp only at h
  split at h
  rotate_left
  · cases h
  rename_i a b c d e' f g h' w k
  simp only [Option.some.injEq] at h
  subst h
  cases hg
  refine ⟨64, fun i => ([.s (.ptr 0 0), .s (.ptr 1 0), .s (.nat .u32 (rN opsH k w ⟨a, b, c, d, e', f, g, h'⟩ i).a), .s (.nat .u32 (rN opsH k w ⟨a, b, c, d, e', f, g, h'⟩ i).b), .s (.nat .u32 (rN opsH k w ⟨a, b, c, d, e', f, g, h'⟩ i).c), .s (.nat .u32 (rN opsH k w ⟨a, b, c, d, e', f, g, h'⟩ i).d), .s (.nat .u32 (rN opsH k w ⟨a, b, c, d, e', f, g, h'⟩ i).e), .s (.nat .u32 (rN opsH k w ⟨a, b, c, d, e', f, g, h'⟩ i).f), .s (.nat .u32 (rN opsH k w ⟨a, b, c, d, e', f, g, h'⟩ i).g), .s (.nat .u32 (rN opsH k w ⟨a, b, c, d, e', f, g, h'⟩ i).h), .s (.nat .i64 i)], [some [.ints .u32 64 w], some [.ints .u64 80 k]]), .exit 2, rfl, fun i hi => ?_, ?_, rfl⟩
  · simp only [List.length_cons, List.length_nil]
    have hs : rN opsH k w ⟨a, b, c, d, e', f, g, h'⟩ (i + 1) = rS opsH k w (rN opsH k w ⟨a, b, c, d, e', f, g, h'⟩ i) i := rfl
    rw [hs]
    generalize rN opsH k w ⟨a, b, c, d, e', f, g, h'⟩ i = v
    have := r32bh opsW k w v i
    rw [opsW_ops] at this
    rw [this]
    refine cond_tq (decide_eq_true hi) (nd_ofq ?_ rfl)
    simp only [List.mem_cons, List.not_mem_nil, or_false, forall_eq_or_imp, forall_eq, decide_eq_true_eq]; omega
  · simp only [List.length_cons, List.length_nil]
    have := r32bh opsW k w (rN opsH k w ⟨a, b, c, d, e', f, g, h'⟩ 64) 64
    rw [opsW_ops] at this
    rw [this, opsW_r]
    exact cond_fq rfl rfl

theorem loops32h : LoopsOk Tryz.prog ⟨Tryz.f116.ntmps, 7, [(0, S32ah opsW), (2, S32bh opsW)]⟩ (bodyOf Tryz.f116) := by
  refine loopsOk_of ?_
  have e : loopsIn [(0, S32ah opsW), (2, S32bh opsW)] (bodyOf Tryz.f116) = [(0, .loop (lb 0 Tryz.f116), S32ah opsW), (2, .loop (lb 2 Tryz.f116), S32bh opsW)] := by kernel_rfl
  simp only [e]
  intro x hx
  simp only [List.mem_cons, List.not_mem_nil, or_false] at hx
  rcases hx with rfl | rfl
  · exact lok32ah
  · exact lok32bh

end Go.Proofs.YtdhnkkogbbhnmaaGreat

namespace Go.Proofs.YtdhnkkogbbhnmaaGreat
open Go
def tbl : List Nat := [4794697086780616226, 8158064640168781261, 13096744586834688815, 16840607885511220156, 4131703408338449720, 6480981068601479193, 10538285296894168987, 12329834152419229976, 15566598209576043074, 1334009975649890238, 2608012711638119052, 6128411473006802146, 8268148722764581231, 9286055187155687089, 11230858885718282805, 13951009754708518548, 16472876342353939154, 17275323862435702243, 1135362057144423861, 2597628984639134821, 3308224258029322869, 5365058923640841347, 6679025012923562964, 8573033837759648693, 10970295158949994411, 12119686244451234320, 12683024718118986047, 13788192230050041572, 14330467153632333762, 15395433587784984357, 489312712824947311, 1452737877330783856, 2861767655752347644, 3322285676063803686, 5560940570517711597, 5996557281743188959, 7280758554555802590, 8532644243296465576, 9350256976987008742, 10552545826968843579, 11727347734174303076, 12113106623233404929, 14000437183269869457, 14369950271660146224, 15101387698204529176, 15463397548674623760, 17586052441742319658, 1182934255886127544, 1847814050463011016, 2177327727835720531, 2830643537854262169, 3796741975233480872, 4115178125766777443, 5681478168544905931, 6601373596472566643, 7507060721942968483, 8399075790359081724, 8693463985226723168, 9568029438360202098, 10144078919501101548, 10430055236837252648, 11840083180663258601, 13761210420658862357, 14299343276471374635, 14566680578165727644, 15097957966210449927, 16922976911328602910, 17689382322260857208, 500013540394364858, 748580250866718886, 1242879168328830382, 1977374033974150939, 2944078676154940804, 3659926193048069267, 4368137639120453308, 4836135668995329356, 5532061633213252278, 6448918945643986474, 6902733635092675308, 7801388544844847127]

def F34h : FSem := ⟨false, fun args hin => match args, hin with
  | [], [] => some (.leaf (.agg [.ints .u64 80 tbl], []))
  | _, _ => none⟩

theorem fn34h : Fn Tryz.prog 129 Tryz.f129 := ⟨mixed, Tryz.func129, by kernel_rfl, of_decide_eq_true (by kernel_rfl)⟩

theorem fn32h : Fn Tryz.prog 116 Tryz.f116 := ⟨mixed, Tryz.func116, by kernel_rfl, of_decide_eq_true (by kernel_rfl)⟩

theorem fn29h : Fn Tryz.prog 83 Tryz.f83 := ⟨mixed, Tryz.func83, by kernel_rfl, of_decide_eq_true (by kernel_rfl)⟩

set_option maxRecDepth 100000 in
theorem r34h : runB Tryz.prog [] [] .nat 7 Tryz.f129 [] [] = some (.agg [.ints .u64 80 tbl], []) := by kernel_rfl

theorem ok34h : FOk Tryz.prog 129 F34h := by
  refine fokB (fs := []) (xs := []) (m := .nat) (fuel := 7) EnvOk.nil fn34h ?_
  intro args hin t r h hg
  unfold F34h at h
  simp only at h
  split at h
  · cases h; cases hg
    exact r34h
  · cases h

/-- The state of an empty hash. -/
def st0h : List Nat := [1779033703, 3144134277, 1013904242, 2773480762, 1359893119, 2600822924, 528734635, 1541459225]

def F29h : FSem := ⟨false, fun args hin => match args, hin with
  | [], [] => some (.leaf (.s (.ptr 0 0), [some [.one .nil, .one (.nat .u64 0), .ints .u32 8 st0h]]))
  | _, _ => none⟩

set_option maxRecDepth 100000 in
theorem r29h : runB Tryz.prog [] [] .nat 7 Tryz.f83 [] [] = some (.s (.ptr 0 0), [some [.one .nil, .one (.nat .u64 0), .ints .u32 8 st0h]]) := by kernel_rfl

theorem ok29h : FOk Tryz.prog 83 F29h := by
  refine fokB (fs := []) (xs := []) (m := .nat) (fuel := 7) EnvOk.nil fn29h ?_
  intro args hin t r h hg
  unfold F29h at h
  simp only at h
  split at h
  · cases h; cases hg
    exact r29h
  · cases h

def vOf (s : List Nat) : V8h := ⟨s.getD 0 0, s.getD 1 0, s.getD 2 0, s.getD 3 0, s.getD 4 0, s.getD 5 0, s.getD 6 0, s.getD 7 0⟩

def addV (s : List Nat) (v : V8h) : List Nat := [(s.getD 0 0 + v.a) % 4294967296, (s.getD 1 0 + v.b) % 4294967296, (s.getD 2 0 + v.c) % 4294967296, (s.getD 3 0 + v.d) % 4294967296, (s.getD 4 0 + v.e) % 4294967296, (s.getD 5 0 + v.f) % 4294967296, (s.getD 6 0 + v.g) % 4294967296, (s.getD 7 0 + v.h) % 4294967296]

def z64h : List Nat := List.replicate 64 0

/-- The state behind the block at 'off'. -/
def blkW (o : OpsW) (xs : List Nat) (off : Nat) (s : List Nat) : List Nat := addV s (o.r tbl (o.w xs off z64h) (vOf s))

set_option maxRecDepth 100000 in
theorem r32h (o : OpsW) (m m' : LK) (o' l' c off n : Nat) (xs : List Nat) (s0 s1 s2 s3 s4 s5 s6 s7 : Nat) : runL Tryz.prog [(128, R27h o.toOpsH), (129, F34h)] [] .nat 20 [(0, S32ah o), (2, S32bh o)] Tryz.f116 [.s (.ptr 0 0), .s (.sl m 1 off 64 1)] [[.one (.sl m' 1 o' l' 1), .one (.nat .u64 c), .ints .u32 8 [s0, s1, s2, s3, s4, s5, s6, s7]], [.ints .u8 n xs]] =
    nd [decide (off + 64 ≤ n)] (some (.tup [], [some [.one (.sl m' 1 o' l' 1), .one (.nat .u64 c), .ints .u32 8 (blkW o xs off [s0, s1, s2, s3, s4, s5, s6, s7])], some [.ints .u8 n xs]])) := by kernel_rfl

theorem eight {xs : List Nat} (h : xs.length = 8) : ∃ a b c d e f g i, xs = [a, b, c, d, e, f, g, i] := by
  match xs, h with
  | [a, b, c, d, e, f, g, i], _ => exact ⟨a, b, c, d, e, f, g, i, rfl⟩

/-- With the block left open. -/
structure OpsK where
  bk : List Nat → Nat → List Nat → List Nat

def opsK : OpsK := ⟨blkW opsW⟩

theorem opsK_bk : opsK.bk = blkW opsW := by kernel_rfl

def R32h (o : OpsK) : FSem := ⟨false, fun args hin => match args, hin with
  | [.s (.ptr 0 0), .s (.sl m 1 off 64 1)], [[.one (.sl m' 1 o' l' 1), .one (.nat .u64 c), .ints .u32 8 st], [.ints .u8 n xs]] =>
    some (Tr.needs [decide (off + 64 ≤ n), decide (st.length = 8)] (.leaf (.tup [], [some [.one (.sl m' 1 o' l' 1), .one (.nat .u64 c), .ints .u32 8 (o.bk xs off st)], some [.ints .u8 n xs]])))
  | _, _ => none⟩

theorem or32h : FOk Tryz.prog 116 (R32h opsK) := by
  refine fokL (fs := [(128, R27h opsH), (129, F34h)]) (xs := []) (m := .nat) (fuel := 20) (sums := [(0, S32ah opsW), (2, S32bh opsW)]) (.cons or27h (.cons ok34h .nil)) fn32h loops32h ?_
  intro args hin t r h hg
  unfold R32h at h
  simp only at h
  split at h
  · rename_i m off m' o' l' c st n xs
    simp only [Option.some.injEq] at h
    subst h
    obtain ⟨hc, hgt⟩ := Tr.needs_get hg
    cases hgt
    simp only [List.mem_cons, List.not_mem_nil, or_false, forall_eq_or_imp, forall_eq, decide_eq_true_eq] at hc
    obtain ⟨h1, h2⟩ := hc
    obtain ⟨s0, s1, s2, s3, s4, s5, s6, s7, rfl⟩ := eight h2
    have := r32h opsW m m' o' l' c off n xs s0 s1 s2 s3 s4 s5 s6 s7
    rw [opsW_ops] at this
    rw [this, opsK_bk]
    refine nd_ofq ?_ rfl
    simp only [List.mem_cons, List.not_mem_nil, or_false, forall_eq, decide_eq_true_eq]
    exact h1
  · cases h

end Go.Proofs.YtdhnkkogbbhnmaaGreat

namespace Go.Proofs.YtdhnkkogbbhnmaaGreat
open Go
/-- How what is left was cut, behind q blocks. -/
def lkq : Nat → LK
  | 0 => .whole
  | _ + 1 => .suf

theorem lk_cut (j : Nat) : (lkq j).cut (some 64) none = lkq (j + 1) := by
  cases j <;> rfl

/-- The bytes of a part of a row. -/
def rowBq (m : LK) (off len : Nat) (xs : List Nat) : List Nat := match m with
  | .whole => xs
  | .pre => xs.take len
  | .suf => xs.drop off
  | .mid => (xs.drop off).take len

def rowNq (m : LK) (off len n : Nat) : Bool := match m with
  | .whole => decide (off = 0) && decide (len = n)
  | .pre => decide (off = 0) && decide (len ≤ n)
  | .suf => decide (off + len = n)
  | .mid => decide (off + len ≤ n)

def bkN (o : OpsK) (y st : List Nat) : Nat → List Nat
  | 0 => st
  | j + 1 => o.bk y (64 * j) (bkN o y st j)

theorem bkN_len (y st : List Nat) (h : st.length = 8) : ∀ j, (bkN opsK y st j).length = 8
  | 0 => h
  | j + 1 => by
    rw [bkN, opsK_bk]
    rfl

structure OpsF extends OpsK where
  bks : List Nat → List Nat → Nat → List Nat

def opsF : OpsF := { toOpsK := opsK, bks := bkN opsK }

theorem opsF_ops : opsF.toOpsK = opsK := by kernel_rfl

theorem opsF_bks : opsF.bks = bkN opsK := by kernel_rfl

def hB (r : SV) (c : Nat) (st : List Nat) : Blk := [.one r, .one (.nat .u64 c), .ints .u32 8 st]

/-- What is left of n bytes at the block b. -/
def lf (b n : Nat) : SV := .sl (lkq (n / 64)) b (64 * (n / 64)) (n - 64 * (n / 64)) 1

def S31h (o : OpsF) : LSem := ⟨[0, 1, 3], [], fun args hin => match args, hin with
  | [.s (.ptr 0 0), .s (.nat .i64 64), .s (.fn 116 [(0, 0)] [])], [[.one (.sl .whole 1 0 l 1), .one (.nat .u64 c), .ints .u32 8 st], [.ints .u8 n y]] =>
    some (Tr.needs [decide (l = n), decide (n < 9223372036854775808), decide (st.length = 8)] (.leaf (.normal, [], [some (hB (lf 1 n) c (o.bks y st (n / 64))), some [.ints .u8 n y]])))
  | _, _ => none⟩

set_option maxRecDepth 100000 in
theorem rr31h (o : OpsF) (m : LK) (c off n l : Nat) (xs st : List Nat) : runR Tryz.prog [(116, R32h o.toOpsK)] [] .nat 20 [] Tryz.f115 0 (S31h o) 2 [.s (.ptr 0 0), .s (.nat .i64 64), .s (.fn 116 [(0, 0)] [])] [some (hB (.sl m 1 off l 1) c st), some [.ints .u8 n xs]] =
(nd [decide (l < 9223372036854775808)]
 (cond (decide (64 ≤ l))
 (nd [decide (64 ≤ l), decide (off + 64 ≤ n), decide (st.length = 8), decide (64 ≤ l)]
 (some (Ex.normal, [AV.s (SV.ptr 0 0), AV.s (SV.nat IntKind.i64 64), AV.s (SV.fn 116 [(0, 0)] [])], [some (hB (.sl (m.cut (some 64) none) 1 (addOff off 64) (l - 64) 1) c (o.bk xs off st)), some [Ch.ints IntKind.u8 n xs]])))
 (some (Ex.exit 0, [], [some (hB (.sl m 1 off l 1) c st), some [Ch.ints IntKind.u8 n xs]])))) := by kernel_rfl

theorem lok31h : LOk Tryz.prog Tryz.f115.ntmps (.block 0 (.loop (lb 0 Tryz.f115))) (S31h opsF) := by
  refine lokR (fs := [(116, R32h opsK)]) (xs := []) (m := .nat) (fuel := 20) (sums := []) (.cons or32h .nil) mixed (loopsOk_none rfl _) ?_
  intro args hin t e vs hout h hg
  unfold S31h at h
  simp only at h
  split at h
  rotate_left
  · cases h
  rename_i l c st n y
  simp only [Option.some.injEq] at h
  subst h
  obtain ⟨hc, hgt⟩ := Tr.needs_get hg
  cases hgt
  simp only [List.mem_cons, List.not_mem_nil, or_false, forall_eq_or_imp, forall_eq, decide_eq_true_eq] at hc
  obtain ⟨rfl, h2, h3⟩ := hc
  refine ⟨l / 64, fun i => ([.s (.ptr 0 0), .s (.nat .i64 64), .s (.fn 116 [(0, 0)] [])], [some (hB (.sl (lkq i) 1 (64 * i) (l - 64 * i) 1) c (bkN opsK y st i)), some [.ints .u8 l y]]), .exit 0, rfl, fun i hi => ?_, ?_, rfl⟩
  · simp only [List.length_cons, List.length_nil]
    have := rr31h opsF (lkq i) c (64 * i) l (l - 64 * i) y (bkN opsK y st i)
    rw [opsF_ops] at this
    rw [this, lk_cut, addOff_eq', show 64 * i + 64 = 64 * (i + 1) from rfl, show l - 64 * i - 64 = l - 64 * (i + 1) by omega]
    refine nd_ofq ?_ (cond_tq (decide_eq_true (by omega)) (nd_ofq ?_ rfl))
    · simp only [List.mem_cons, List.not_mem_nil, or_false, forall_eq, decide_eq_true_eq]; omega
    · simp only [List.mem_cons, List.not_mem_nil, or_false, forall_eq_or_imp, forall_eq, decide_eq_true_eq]
      exact ⟨by omega, by omega, bkN_len y st h3 i, by omega⟩
  · simp only [List.length_cons, List.length_nil]
    have := rr31h opsF (lkq (l / 64)) c (64 * (l / 64)) l (l - 64 * (l / 64)) y (bkN opsK y st (l / 64))
    rw [opsF_ops] at this
    rw [this, opsF_bks]
    refine nd_ofq ?_ (cond_fq (decide_eq_false (by omega)) rfl)
    simp only [List.mem_cons, List.not_mem_nil, or_false, forall_eq, decide_eq_true_eq]; omega

theorem loops31h : LoopsOk Tryz.prog ⟨Tryz.f115.ntmps, 20, [(0, S31h opsF)]⟩ (bodyOf Tryz.f115) := by
  refine loopsOk_of ?_
  have e : loopsIn [(0, S31h opsF)] (bodyOf Tryz.f115) = [(0, .loop (lb 0 Tryz.f115), S31h opsF)] := by kernel_rfl
  simp only [e]
  intro x hx
  simp only [List.mem_cons, List.not_mem_nil, or_false] at hx
  rcases hx with rfl
  · exact lok31h

theorem fn31h : Fn Tryz.prog 115 Tryz.f115 := ⟨mixed, Tryz.func115, by kernel_rfl, of_decide_eq_true (by kernel_rfl)⟩

set_option maxRecDepth 100000 in
theorem r31nh (o : OpsF) (c : Nat) (p st : List Nat) : runL Tryz.prog [(116, R32h o.toOpsK)] [] .nat 20 [(0, S31h o)] Tryz.f115 [.s (.ptr 0 0), .s (.nat .i64 64), .s (.xsl (.ints .u8 p)), .s (.fn 116 [(0, 0)] [])] [hB .nil c st] =
    nd [decide (p.length < 9223372036854775808), decide (p.length ≤ 4398046511104), decide (p.length = p.length), decide (p.length < 9223372036854775808), decide (st.length = 8)] (some (.tup [], [some (hB (lf 1 p.length) ((c + p.length) % 18446744073709551616) (o.bks p st (p.length / 64))), some [.ints .u8 p.length p]])) := by kernel_rfl

set_option maxRecDepth 100000 in
theorem r31sh (o : OpsF) {m : LK} {off len n : Nat} {xs ys : List Nat} {cs : List Bool} (c : Nat) (p st : List Nat) (h : rowOf .u8 m off len [.ints .u8 n xs] = some (cs, ys)) : runL Tryz.prog [(116, R32h o.toOpsK)] [] .nat 20 [(0, S31h o)] Tryz.f115 [.s (.ptr 0 0), .s (.nat .i64 64), .s (.xsl (.ints .u8 p)), .s (.fn 116 [(0, 0)] [])] [hB (.sl m 1 off len 1) c st, [.ints .u8 n xs]] =
    nd ([decide (p.length < 9223372036854775808)] ++ (cs ++ [decide (len + p.length ≤ 4398046511104), decide (len + p.length = len + p.length), decide (len + p.length < 9223372036854775808), decide (st.length = 8)])) (some (.tup [], [some (hB (lf 2 (len + p.length)) ((c + p.length) % 18446744073709551616) (o.bks (ys ++ p) st ((len + p.length) / 64))), none, some [.ints .u8 (len + p.length) (ys ++ p)]])) := by
  cases m <;> cases h <;> kernel_rfl

theorem rowOf_Bq {m : LK} {off len n : Nat} (xs : List Nat) (h : rowNq m off len n = true) : ∃ cs, rowOf .u8 m off len [.ints .u8 n xs] = some (cs, rowBq m off len xs) ∧ ∀ c ∈ cs, c = true := by
  cases m with
  | whole =>
    simp only [rowNq, Bool.and_eq_true] at h
    refine ⟨_, rfl, ?_⟩
    simp only [List.mem_cons, List.not_mem_nil, or_false, forall_eq_or_imp, forall_eq]
    exact h
  | pre =>
    simp only [rowNq, Bool.and_eq_true] at h
    refine ⟨_, rfl, ?_⟩
    simp only [List.mem_cons, List.not_mem_nil, or_false, forall_eq_or_imp, forall_eq]
    exact h
  | suf =>
    simp only [rowNq] at h
    refine ⟨_, rfl, ?_⟩
    simp only [List.mem_cons, List.not_mem_nil, or_false, forall_eq]
    exact h
  | mid =>
    simp only [rowNq] at h
    refine ⟨_, rfl, ?_⟩
    simp only [List.mem_cons, List.not_mem_nil, or_false, forall_eq]
    exact h

def R31h (o : OpsF) : FSem := ⟨true, fun args hin => match args, hin with
  | [.s (.ptr 0 0), .s (.nat .i64 64), .s (.xsl (.ints .u8 p)), .s (.fn 116 [(0, 0)] [])], [[.one .nil, .one (.nat .u64 c), .ints .u32 8 st]] =>
    some (Tr.needs [decide (p.length ≤ 4398046511104), decide (st.length = 8)] (.leaf (.tup [], [some (hB (lf 1 p.length) ((c + p.length) % 18446744073709551616) (o.bks p st (p.length / 64))), some [.ints .u8 p.length p]])))
  | [.s (.ptr 0 0), .s (.nat .i64 64), .s (.xsl (.ints .u8 p)), .s (.fn 116 [(0, 0)] [])], [[.one (.sl m 1 off len 1), .one (.nat .u64 c), .ints .u32 8 st], [.ints .u8 n xs]] =>
    some (Tr.needs [rowNq m off len n, decide (len + p.length ≤ 4398046511104), decide (st.length = 8)] (.leaf (.tup [], [some (hB (lf 2 (len + p.length)) ((c + p.length) % 18446744073709551616) (o.bks (rowBq m off len xs ++ p) st ((len + p.length) / 64))), none, some [.ints .u8 (len + p.length) (rowBq m off len xs ++ p)]])))
  | _, _ => none⟩

theorem or31h : FOk Tryz.prog 115 (R31h opsF) := by
  refine fokL (fs := [(116, R32h opsK)]) (xs := []) (m := .nat) (fuel := 20) (sums := [(0, S31h opsF)]) (.cons or32h .nil) fn31h loops31h ?_
  intro args hin t r h hg
  unfold R31h at h
  simp only at h
  split at h
  · rename_i p c st
    simp only [Option.some.injEq] at h
    subst h
    obtain ⟨hc, hgt⟩ := Tr.needs_get hg
    cases hgt
    simp only [List.mem_cons, List.not_mem_nil, or_false, forall_eq_or_imp, forall_eq, decide_eq_true_eq] at hc
    have := r31nh opsF c p st
    rw [opsF_ops] at this
    rw [hB] at this
    rw [this]
    refine nd_ofq ?_ rfl
    simp only [List.mem_cons, List.not_mem_nil, or_false, forall_eq_or_imp, forall_eq, decide_eq_true_eq]
    exact ⟨by omega, hc.1, trivial, by omega, hc.2⟩
  · rename_i p m off len c st n xs
    simp only [Option.some.injEq] at h
    subst h
    obtain ⟨hc, hgt⟩ := Tr.needs_get hg
    cases hgt
    simp only [List.mem_cons, List.not_mem_nil, or_false, forall_eq_or_imp, forall_eq, decide_eq_true_eq] at hc
    obtain ⟨h1, h2, h3⟩ := hc
    obtain ⟨cs, hr, hcs⟩ := rowOf_Bq xs h1
    have := r31sh opsF c p st hr
    rw [opsF_ops] at this
    rw [hB] at this
    rw [this]
    refine nd_ofq (fun b hb => ?_) rfl
    rcases List.mem_append.1 hb with hb | hb
    · simp only [List.mem_cons, List.not_mem_nil, or_false] at hb
      subst hb
      exact decide_eq_true (by omega)
    · rcases List.mem_append.1 hb with hb | hb
      · exact hcs b hb
      · refine (show ∀ c ∈ [decide (len + p.length ≤ 4398046511104), decide (len + p.length = len + p.length), decide (len + p.length < 9223372036854775808), decide (st.length = 8)], c = true from ?_) b hb
        simp only [List.mem_cons, List.not_mem_nil, or_false, forall_eq_or_imp, forall_eq, decide_eq_true_eq]
        exact ⟨h2, trivial, by omega, h3⟩
  · cases h

end Go.Proofs.YtdhnkkogbbhnmaaGreat

namespace Go.Proofs.YtdhnkkogbbhnmaaGreat
open Go
/-- A hash to which something was written: the row that its rest lies in, how long that is, the count, the state. -/
structure HV where
  n : Nat
  c : Nat
  y : List Nat
  st : List Nat

structure OpsV where
  w0 : Nat → List Nat → List Nat → HV
  w1 : LK → Nat → Nat → List Nat → Nat → List Nat → List Nat → HV

def w0F (o : OpsF) (c : Nat) (st p : List Nat) : HV := ⟨p.length, (c + p.length) % 18446744073709551616, p, o.bks p st (p.length / 64)⟩

def w1F (o : OpsF) (m : LK) (off len : Nat) (xs : List Nat) (c : Nat) (st p : List Nat) : HV := ⟨len + p.length, (c + p.length) % 18446744073709551616, rowBq m off len xs ++ p, o.bks (rowBq m off len xs ++ p) st ((len + p.length) / 64)⟩

def opsV : OpsV := ⟨w0F opsF, w1F opsF⟩

theorem opsV_w0 : opsV.w0 = w0F opsF := by kernel_rfl

theorem opsV_w1 : opsV.w1 = w1F opsF := by kernel_rfl

def hV (b : Nat) (v : HV) : Blk := [.one (lf b v.n), .one (.nat .u64 v.c), .ints .u32 8 v.st]

def hY (v : HV) : Blk := [.ints .u8 v.n v.y]

/-- Onto a hash to which something was written. -/
def OpsV.more (o : OpsV) (v : HV) (p : List Nat) : HV := o.w1 (lkq (v.n / 64)) (64 * (v.n / 64)) (v.n - 64 * (v.n / 64)) v.y v.c v.st p

theorem fn22h : Fn Tryz.prog 84 Tryz.f84 := ⟨mixed, Tryz.func84, by kernel_rfl, of_decide_eq_true (by kernel_rfl)⟩

set_option maxRecDepth 100000 in
theorem r22nh (c : Nat) (p st : List Nat) : runB Tryz.prog [(115, R31h opsF)] [] .nat 20 Tryz.f84 [.s (.ptr 0 0), .s (.xsl (.bss [p]))] [hB .nil c st] =
    nd [decide (p.length ≤ 4398046511104), decide (st.length = 8)] (some (.tup [], [some (hV 1 (w0F opsF c st p)), some (hY (w0F opsF c st p))])) := by kernel_rfl

set_option maxRecDepth 100000 in
theorem r22sh (m : LK) (off len n c : Nat) (xs p st : List Nat) : runB Tryz.prog [(115, R31h opsF)] [] .nat 20 Tryz.f84 [.s (.ptr 0 0), .s (.xsl (.bss [p]))] [hB (.sl m 1 off len 1) c st, [.ints .u8 n xs]] =
    nd [rowNq m off len n, decide (len + p.length ≤ 4398046511104), decide (st.length = 8)] (some (.tup [], [some (hV 2 (w1F opsF m off len xs c st p)), none, some (hY (w1F opsF m off len xs c st p))])) := by kernel_rfl

set_option maxRecDepth 100000 in
theorem r22th (o : OpsF) (c : Nat) (p p' st : List Nat) : runB Tryz.prog [(115, R31h o)] [] .nat 20 Tryz.f84 [.s (.ptr 0 0), .s (.xsl (.bss [p, p']))] [hB .nil c st] =
    nd [decide (p.length ≤ 4398046511104), decide (st.length = 8), rowNq (lkq (p.length / 64)) (64 * (p.length / 64)) (p.length - 64 * (p.length / 64)) p.length, decide (p.length - 64 * (p.length / 64) + p'.length ≤ 4398046511104), decide ((o.bks p st (p.length / 64)).length = 8)]
      (some (.tup [], [some (hV 1 ((OpsV.mk (w0F o) (w1F o)).more (w0F o c st p) p')), some (hY ((OpsV.mk (w0F o) (w1F o)).more (w0F o c st p) p'))])) := by kernel_rfl

def R22h (o : OpsV) : FSem := ⟨true, fun args hin => match args, hin with
  | [.s (.ptr 0 0), .s (.xsl (.bss [p]))], [[.one .nil, .one (.nat .u64 c), .ints .u32 8 st]] =>
    some (Tr.needs [decide (p.length ≤ 4398046511104), decide (st.length = 8)] (.leaf (.tup [], [some (hV 1 (o.w0 c st p)), some (hY (o.w0 c st p))])))
  | [.s (.ptr 0 0), .s (.xsl (.bss [p]))], [[.one (.sl m 1 off len 1), .one (.nat .u64 c), .ints .u32 8 st], [.ints .u8 n xs]] =>
    some (Tr.needs [rowNq m off len n, decide (len + p.length ≤ 4398046511104), decide (st.length = 8)] (.leaf (.tup [], [some (hV 2 (o.w1 m off len xs c st p)), none, some (hY (o.w1 m off len xs c st p))])))
  | [.s (.ptr 0 0), .s (.xsl (.bss [p, p']))], [[.one .nil, .one (.nat .u64 c), .ints .u32 8 st]] =>
    some (Tr.needs [decide (p.length ≤ 4398046511104), decide (p'.length ≤ 2199023255552), decide (st.length = 8)] (.leaf (.tup [], [some (hV 1 (o.more (o.w0 c st p) p')), some (hY (o.more (o.w0 c st p) p'))])))
  | _, _ => none⟩

theorem rowN_lf (n : Nat) : rowNq (lkq (n / 64)) (64 * (n / 64)) (n - 64 * (n / 64)) n = true := by
  cases h : n / 64 with
  | zero => simp [lkq, rowNq]
  | succ j =>
    simp only [lkq, rowNq, decide_eq_true_eq]
    omega

theorem bks_len (y st : List Nat) (q : Nat) (h : st.length = 8) : (opsF.bks y st q).length = 8 := by
  rw [opsF_bks]
  exact bkN_len y st h q

theorem or22h : FOk Tryz.prog 84 (R22h opsV) := by
  refine fokB (fs := [(115, R31h opsF)]) (xs := []) (m := .nat) (fuel := 20) (.cons or31h .nil) fn22h ?_
  intro args hin t r h hg
  unfold R22h at h
  rw [opsV_w0, opsV_w1] at h
  simp only at h
  split at h
  · rename_i p c st
    simp only [Option.some.injEq] at h
    subst h
    obtain ⟨hc, hgt⟩ := Tr.needs_get hg
    cases hgt
    have := r22nh c p st
    rw [hB] at this
    rw [this]
    exact nd_ofq hc rfl
  · rename_i p m off len c st n xs
    simp only [Option.some.injEq] at h
    subst h
    obtain ⟨hc, hgt⟩ := Tr.needs_get hg
    cases hgt
    have := r22sh m off len n c xs p st
    rw [hB] at this
    rw [this]
    exact nd_ofq hc rfl
  · rename_i p p' c st
    simp only [Option.some.injEq] at h
    subst h
    obtain ⟨hc, hgt⟩ := Tr.needs_get hg
    cases hgt
    simp only [List.mem_cons, List.not_mem_nil, or_false, forall_eq_or_imp, forall_eq, decide_eq_true_eq] at hc
    obtain ⟨h1, h2, h3⟩ := hc
    have := r22th opsF c p p' st
    rw [hB] at this
    rw [this]
    refine nd_ofq ?_ ?_
    · simp only [List.mem_cons, List.not_mem_nil, or_false, forall_eq_or_imp, forall_eq, decide_eq_true_eq]
      exact ⟨h1, h3, rowN_lf _, by omega, bks_len _ _ _ h3⟩
    · rw [show (OpsV.mk (w0F opsF) (w1F opsF)) = opsV from rfl]
  · cases h

theorem w0_st (c : Nat) (st p : List Nat) (h : st.length = 8) : (opsV.w0 c st p).st.length = 8 := by
  rw [opsV_w0]
  exact bks_len _ _ _ h

theorem w1_st (m : LK) (off len c : Nat) (xs st p : List Nat) (h : st.length = 8) : (opsV.w1 m off len xs c st p).st.length = 8 := by
  rw [opsV_w1]
  exact bks_len _ _ _ h

theorem w0_n (c : Nat) (st p : List Nat) : (opsV.w0 c st p).n = p.length := by rw [opsV_w0]; rfl

end Go.Proofs.YtdhnkkogbbhnmaaGreat

namespace Go.Proofs.YtdhnkkogbbhnmaaGreat
open Go
def fz (c : Nat) : Nat := (64 - (c + 9) % 64) % 64

def padZ : Nat → List Nat
  | 0 => [128]
  | i + 1 => padZ i ++ [0]

structure OpsZ where
  fz : Nat → Nat
  pz : Nat → List Nat

def opsZ : OpsZ := ⟨fz, padZ⟩

theorem opsZ_fz : opsZ.fz = fz := by kernel_rfl

theorem opsZ_pz : opsZ.pz = padZ := by kernel_rfl

def S35h (o : OpsZ) : LSem := ⟨[0, 1, 2, 7], [7], fun args hin => match args, hin with
  | [.s (.ptr 0 0), .s (.nat .i64 64), .s (.nat .i64 8), .s (.sl .whole 1 0 1 1)], [[.one (.sl m 2 off len 1), .one (.nat .u64 c), .ints .u32 8 st], [.ints .u8 1 p], [.ints .u8 n xs]] =>
    some (Tr.needs [decide (p = [128]), decide (c < 4611686018427387904)] (.br (decide (o.fz c = 0))
      (.leaf (.normal, [.s (.sl .whole 1 0 (o.fz c + 1) 1)], [some (hB (.sl m 2 off len 1) c st), some [.ints .u8 (o.fz c + 1) (o.pz (o.fz c))], some [.ints .u8 n xs]]))
      (.leaf (.normal, [.s (.sl .whole 3 0 (o.fz c + 1) 1)], [some (hB (.sl m 2 off len 1) c st), none, some [.ints .u8 n xs], some [.ints .u8 (o.fz c + 1) (o.pz (o.fz c))]]))))
  | _, _ => none⟩

set_option maxRecDepth 100000 in
theorem rz0h (n c l off len : Nat) (mo : LK) (y xs st : List Nat) : runR Tryz.prog [] [] .nat 20 [] Tryz.f117 0 (S35h opsZ) 3 [.s (.ptr 0 0), .s (.nat .i64 64), .s (.nat .i64 8), .s (.sl .whole 1 0 l 1)] [some (hB (.sl mo 2 off len 1) c st), some [.ints .u8 l y], some [.ints .u8 n xs]] =
(nd [decide (c < 9223372036854775808), decide (l < 9223372036854775808), decide (c + l < 9223372036854775808), decide (c + l + 8 < 9223372036854775808)]
 (cond (!decide ((c + l + 8) % 64 = 0))
 (nd [decide (l = l), decide (l + 1 ≤ 4398046511104)]
 (some (Ex.normal, [.s (.ptr 0 0), .s (.nat .i64 64), .s (.nat .i64 8), .s (.sl .whole 3 0 (l + 1) 1)], [some (hB (.sl mo 2 off len 1) c st), none, some [.ints .u8 n xs], some [.ints .u8 (l + 1) (y ++ [0])]])))
 (some (Ex.exit 0, [.s (.sl .whole 1 0 l 1)], [some (hB (.sl mo 2 off len 1) c st), some [.ints .u8 l y], some [.ints .u8 n xs]])))) := by kernel_rfl

set_option maxRecDepth 100000 in
theorem rz1h (n c l off len : Nat) (mo : LK) (y xs st : List Nat) : runR Tryz.prog [] [] .nat 20 [] Tryz.f117 0 (S35h opsZ) 3 [.s (.ptr 0 0), .s (.nat .i64 64), .s (.nat .i64 8), .s (.sl .whole 3 0 l 1)] [some (hB (.sl mo 2 off len 1) c st), none, some [.ints .u8 n xs], some [.ints .u8 l y]] =
(nd [decide (c < 9223372036854775808), decide (l < 9223372036854775808), decide (c + l < 9223372036854775808), decide (c + l + 8 < 9223372036854775808)]
 (cond (!decide ((c + l + 8) % 64 = 0))
 (nd [decide (l = l), decide (l + 1 ≤ 4398046511104)]
 (some (Ex.normal, [.s (.ptr 0 0), .s (.nat .i64 64), .s (.nat .i64 8), .s (.sl .whole 3 0 (l + 1) 1)], [some (hB (.sl mo 2 off len 1) c st), none, some [.ints .u8 n xs], some [.ints .u8 (l + 1) (y ++ [0])]])))
 (some (Ex.exit 0, [.s (.sl .whole 3 0 l 1)], [some (hB (.sl mo 2 off len 1) c st), none, some [.ints .u8 n xs], some [.ints .u8 l y]])))) := by kernel_rfl

def AZ (m : LK) (off len n c : Nat) (xs st : List Nat) : Nat → List AV × List (Option Blk)
  | 0 => ([.s (.ptr 0 0), .s (.nat .i64 64), .s (.nat .i64 8), .s (.sl .whole 1 0 1 1)], [some (hB (.sl m 2 off len 1) c st), some [.ints .u8 1 [128]], some [.ints .u8 n xs]])
  | i + 1 => ([.s (.ptr 0 0), .s (.nat .i64 64), .s (.nat .i64 8), .s (.sl .whole 3 0 (i + 1 + 1) 1)], [some (hB (.sl m 2 off len 1) c st), none, some [.ints .u8 n xs], some [.ints .u8 (i + 1 + 1) (padZ (i + 1))]])

theorem fz_lt (c : Nat) : fz c < 64 := Nat.mod_lt _ (by decide)

theorem bnot_t {p : Prop} [Decidable p] (h : ¬ p) : (!decide p) = true := by simp [h]

theorem bnot_f {p : Prop} [Decidable p] (h : p) : (!decide p) = false := by simp [h]

theorem lok35h : LOk Tryz.prog Tryz.f117.ntmps (.block 0 (.loop (lb 0 Tryz.f117))) (S35h opsZ) := by
  refine lokR (fs := []) (xs := []) (m := .nat) (fuel := 20) (sums := []) EnvOk.nil mixed (loopsOk_none rfl _) ?_
  intro args hin t e vs hout h hg
  unfold S35h at h
  rw [opsZ_fz, opsZ_pz] at h
  simp only at h
  split at h
  rotate_left
  · cases h
  rename_i m off len c st p n xs
  simp only [Option.some.injEq] at h
  subst h
  obtain ⟨hc, hgt⟩ := Tr.needs_get hg
  clear hg
  simp only [List.mem_cons, List.not_mem_nil, or_false, forall_eq_or_imp, forall_eq, decide_eq_true_eq] at hc
  obtain ⟨rfl, hc⟩ := hc
  simp only [Tr.get] at hgt
  have hl := fz_lt c
  have hfz : fz c = (64 - (c + 9) % 64) % 64 := rfl
  have hstep : ∀ i, i < fz c → runR Tryz.prog [] [] .nat 20 [] Tryz.f117 0 (S35h opsZ) 3 (AZ m off len n c xs st i).1 (AZ m off len n c xs st i).2 = some (.normal, AZ m off len n c xs st (i + 1)) := fun i hi => by
    cases i with
    | zero =>
      simp only [AZ]
      rw [rz0h]
      refine nd_ofq ?_ (cond_tq (bnot_t (by omega)) (nd_ofq ?_ rfl))
      · simp only [List.mem_cons, List.not_mem_nil, or_false, forall_eq_or_imp, forall_eq, decide_eq_true_eq]; omega
      · simp only [List.mem_cons, List.not_mem_nil, or_false, forall_eq_or_imp, forall_eq, decide_eq_true_eq]; exact ⟨trivial, by omega⟩
    | succ i =>
      simp only [AZ]
      rw [rz1h]
      refine nd_ofq ?_ (cond_tq (bnot_t (by omega)) (nd_ofq ?_ rfl))
      · simp only [List.mem_cons, List.not_mem_nil, or_false, forall_eq_or_imp, forall_eq, decide_eq_true_eq]; omega
      · simp only [List.mem_cons, List.not_mem_nil, or_false, forall_eq_or_imp, forall_eq, decide_eq_true_eq]
        exact ⟨trivial, by omega⟩
  cases hz : decide (fz c = 0) with
  | true =>
    have hz' := of_decide_eq_true hz
    rw [hz, cond_true, hz'] at hgt
    cases hgt
    refine ⟨fz c, AZ m off len n c xs st, .exit 0, rfl, hstep, ?_, rfl⟩
    rw [hz']
    simp only [AZ, List.length_cons, List.length_nil]
    rw [rz0h]
    refine nd_ofq ?_ (cond_fq (bnot_f (by omega)) rfl)
    simp only [List.mem_cons, List.not_mem_nil, or_false, forall_eq_or_imp, forall_eq, decide_eq_true_eq]; omega
  | false =>
    have hz' := of_decide_eq_false hz
    rw [hz, cond_false] at hgt
    cases hgt
    refine ⟨fz c, AZ m off len n c xs st, .exit 0, rfl, hstep, ?_, rfl⟩
    obtain ⟨q, hq⟩ : ∃ q, fz c = q + 1 := ⟨fz c - 1, by omega⟩
    rw [hq]
    simp only [AZ, List.length_cons, List.length_nil]
    rw [rz1h]
    refine nd_ofq ?_ (cond_fq (bnot_f (by omega)) rfl)
    simp only [List.mem_cons, List.not_mem_nil, or_false, forall_eq_or_imp, forall_eq, decide_eq_true_eq]; omega

theorem loops35h : LoopsOk Tryz.prog ⟨Tryz.f117.ntmps, 20, [(0, S35h opsZ)]⟩ (bodyOf Tryz.f117) := by
  refine loopsOk_of ?_
  have e : loopsIn [(0, S35h opsZ)] (bodyOf Tryz.f117) = [(0, .loop (lb 0 Tryz.f117), S35h opsZ)] := by kernel_rfl
  simp only [e]
  intro x hx
  simp only [List.mem_cons, List.not_mem_nil, or_false] at hx
  rcases hx with rfl
  · exact lok35h

theorem fn35h : Fn Tryz.prog 117 Tryz.f117 := ⟨mixed, Tryz.func117, by kernel_rfl, of_decide_eq_true (by kernel_rfl)⟩

def cn1h (c i : Nat) : Nat := c / 2 ^ (8 * i + 8) * 2 ^ 3 % 18446744073709551616 % 256 ||| (c / 2 ^ (8 * i) &&& 255) / 2 ^ 5 % 256

def app8h (y : List Nat) (c : Nat) : List Nat := y ++ [cn1h c 6] ++ [cn1h c 5] ++ [cn1h c 4] ++ [cn1h c 3] ++ [cn1h c 2] ++ [cn1h c 1] ++ [cn1h c 0] ++ [c / 2 ^ 0 * 2 ^ 3 % 18446744073709551616 % 256]

set_option maxRecDepth 100000 in
theorem r35h (o : OpsZ) (c off len n : Nat) (m : LK) (xs st : List Nat) : runL Tryz.prog [] [] .down 20 [(0, S35h o)] Tryz.f117 [.s (.ptr 0 0), .s (.nat .i64 64), .s (.nat .i64 8)] [hB (.sl m 1 off len 1) c st, [.ints .u8 n xs]] =
  nd [true, decide (c < 4611686018427387904)] (cond (decide (o.fz c = 0))
    (nd [decide (o.fz c + 1 = o.fz c + 1), decide (o.fz c + 1 + 1 ≤ 4398046511104), decide (o.fz c + 1 + 1 = o.fz c + 1 + 1), decide (o.fz c + 1 + 1 + 1 ≤ 4398046511104), decide (o.fz c + 1 + 1 + 1 = o.fz c + 1 + 1 + 1), decide (o.fz c + 1 + 1 + 1 + 1 ≤ 4398046511104), decide (o.fz c + 1 + 1 + 1 + 1 = o.fz c + 1 + 1 + 1 + 1), decide (o.fz c + 1 + 1 + 1 + 1 + 1 ≤ 4398046511104), decide (o.fz c + 1 + 1 + 1 + 1 + 1 = o.fz c + 1 + 1 + 1 + 1 + 1), decide (o.fz c + 1 + 1 + 1 + 1 + 1 + 1 ≤ 4398046511104), decide (o.fz c + 1 + 1 + 1 + 1 + 1 + 1 = o.fz c + 1 + 1 + 1 + 1 + 1 + 1), decide (o.fz c + 1 + 1 + 1 + 1 + 1 + 1 + 1 ≤ 4398046511104), decide (o.fz c + 1 + 1 + 1 + 1 + 1 + 1 + 1 = o.fz c + 1 + 1 + 1 + 1 + 1 + 1 + 1), decide (o.fz c + 1 + 1 + 1 + 1 + 1 + 1 + 1 + 1 ≤ 4398046511104), decide (o.fz c + 1 + 1 + 1 + 1 + 1 + 1 + 1 + 1 = o.fz c + 1 + 1 + 1 + 1 + 1 + 1 + 1 + 1), decide (o.fz c + 1 + 1 + 1 + 1 + 1 + 1 + 1 + 1 + 1 ≤ 4398046511104)]
      (some (.s (.sl .whole 2 0 (o.fz c + 9) 1), [some (hB (.sl m 1 off len 1) c st), some [.ints .u8 n xs], some [.ints .u8 (o.fz c + 9) (app8h (o.pz (o.fz c)) c)]])))
    (nd [decide (o.fz c + 1 = o.fz c + 1), decide (o.fz c + 1 + 1 ≤ 4398046511104), decide (o.fz c + 1 + 1 = o.fz c + 1 + 1), decide (o.fz c + 1 + 1 + 1 ≤ 4398046511104), decide (o.fz c + 1 + 1 + 1 = o.fz c + 1 + 1 + 1), decide (o.fz c + 1 + 1 + 1 + 1 ≤ 4398046511104), decide (o.fz c + 1 + 1 + 1 + 1 = o.fz c + 1 + 1 + 1 + 1), decide (o.fz c + 1 + 1 + 1 + 1 + 1 ≤ 4398046511104), decide (o.fz c + 1 + 1 + 1 + 1 + 1 = o.fz c + 1 + 1 + 1 + 1 + 1), decide (o.fz c + 1 + 1 + 1 + 1 + 1 + 1 ≤ 4398046511104), decide (o.fz c + 1 + 1 + 1 + 1 + 1 + 1 = o.fz c + 1 + 1 + 1 + 1 + 1 + 1), decide (o.fz c + 1 + 1 + 1 + 1 + 1 + 1 + 1 ≤ 4398046511104), decide (o.fz c + 1 + 1 + 1 + 1 + 1 + 1 + 1 = o.fz c + 1 + 1 + 1 + 1 + 1 + 1 + 1), decide (o.fz c + 1 + 1 + 1 + 1 + 1 + 1 + 1 + 1 ≤ 4398046511104), decide (o.fz c + 1 + 1 + 1 + 1 + 1 + 1 + 1 + 1 = o.fz c + 1 + 1 + 1 + 1 + 1 + 1 + 1 + 1), decide (o.fz c + 1 + 1 + 1 + 1 + 1 + 1 + 1 + 1 + 1 ≤ 4398046511104)]
      (some (.s (.sl .whole 2 0 (o.fz c + 9) 1), [some (hB (.sl m 1 off len 1) c st), some [.ints .u8 n xs], some [.ints .u8 (o.fz c + 9) (app8h (o.pz (o.fz c)) c)]])))) := by kernel_rfl

def padL (c : Nat) : Nat := fz c + 9

def pad (c : Nat) : List Nat := app8h (padZ (fz c)) c

structure OpsPq extends OpsV where
  pl : Nat → Nat
  pad : Nat → List Nat

def opsPq : OpsPq := { toOpsV := opsV, pl := padL, pad := pad }

theorem opsP_opsq : opsPq.toOpsV = opsV := by kernel_rfl

theorem opsP_plq : opsPq.pl = padL := by kernel_rfl

theorem opsP_pad : opsPq.pad = pad := by kernel_rfl

def R35h (o : OpsPq) : FSem := ⟨false, fun args hin => match args, hin with
  | [.s (.ptr 0 0), .s (.nat .i64 64), .s (.nat .i64 8)], [[.one (.sl m 1 off len 1), .one (.nat .u64 c), .ints .u32 8 st], [.ints .u8 n xs]] =>
    some (Tr.needs [decide (c < 4611686018427387904)] (.leaf (.s (.sl .whole 2 0 (o.pl c) 1), [some (hB (.sl m 1 off len 1) c st), some [.ints .u8 n xs], some [.ints .u8 (o.pl c) (o.pad c)]])))
  | _, _ => none⟩

theorem or35h : FOk Tryz.prog 117 (R35h opsPq) := by
  refine fokL (fs := []) (xs := []) (m := .down) (fuel := 20) (sums := [(0, S35h opsZ)]) EnvOk.nil fn35h loops35h ?_
  intro args hin t r h hg
  unfold R35h at h
  rw [opsP_plq, opsP_pad] at h
  simp only at h
  split at h
  · rename_i m off len c st n xs
    simp only [Option.some.injEq] at h
    subst h
    obtain ⟨hc, hgt⟩ := Tr.needs_get hg
    cases hgt
    simp only [List.mem_cons, List.not_mem_nil, or_false, forall_eq, decide_eq_true_eq] at hc
    have := r35h opsZ c off len n m xs st
    rw [hB] at this
    rw [this, opsZ_fz, opsZ_pz]
    have hl := fz_lt c
    have hn : ∀ i, i ≤ 9 → fz c + i ≤ 4398046511104 := fun i hi => by omega
    refine nd_ofq ?_ ?_
    · simp only [List.mem_cons, List.not_mem_nil, or_false, forall_eq_or_imp, forall_eq, decide_eq_true_eq]
      exact ⟨trivial, hc⟩
    · cases decide (fz c = 0)
      · refine cond_fq rfl (nd_ofq ?_ rfl)
        simp only [List.mem_cons, List.not_mem_nil, or_false, forall_eq_or_imp, forall_eq, decide_eq_true_eq, true_and]
        omega
      · refine cond_tq rfl (nd_ofq ?_ rfl)
        simp only [List.mem_cons, List.not_mem_nil, or_false, forall_eq_or_imp, forall_eq, decide_eq_true_eq, true_and]
        omega
  · cases h

end Go.Proofs.YtdhnkkogbbhnmaaGreat

namespace Go.Proofs.YtdhnkkogbbhnmaaGreat
open Go
def gen (f : Nat → Nat) : Nat → Nat → List Nat
  | 0, _ => []
  | n + 1, i => f i :: gen f n (i + 1)

theorem gen_len (f : Nat → Nat) : ∀ n i, (gen f n i).length = n
  | 0, _ => rfl
  | n + 1, i => by rw [gen, List.length_cons, gen_len f n (i + 1)]

theorem gen_mem {f : Nat → Nat} {B : Nat} (hf : ∀ i, f i < B) : ∀ n i, ∀ x ∈ gen f n i, x < B
  | 0, _, x, hx => by cases hx
  | n + 1, i, x, hx => by
    rcases List.mem_cons.1 hx with rfl | h
    · exact hf i
    · exact gen_mem hf n (i + 1) x h

/-- The state as bytes. -/
def fin (st : List Nat) : List Nat := gen (fun i => st.getD (i / 4) 0 / 2 ^ (24 - 8 * (i % 4)) % 256) 32 0

theorem fin_len (st : List Nat) : (fin st).length = 32 := gen_len _ _ _

theorem fin_mem (st : List Nat) : ∀ x ∈ fin st, x < 256 := gen_mem (fun _ => Nat.mod_lt _ (by decide)) _ _

theorem fn33h : Fn Tryz.prog 85 Tryz.f85 := ⟨mixed, Tryz.func85, by kernel_rfl, of_decide_eq_true (by kernel_rfl)⟩

theorem fn30h : Fn Tryz.prog 46 Tryz.f46 := ⟨mixed, Tryz.func46, by kernel_rfl, of_decide_eq_true (by kernel_rfl)⟩

set_option maxRecDepth 100000 in
theorem r33h (o : OpsPq) {m : LK} {off len n : Nat} {xs ys : List Nat} {cs : List Bool} (c : Nat) (st : List Nat) (h : rowOf .u8 m off len [.ints .u8 n xs] = some (cs, ys)) : runB Tryz.prog [(117, R35h o), (84, R22h o.toOpsV)] [] .nat 40 Tryz.f85 [.s (.ptr 0 0)] [hB (.sl m 1 off len 1) c st, [.ints .u8 n xs]] =
    nd (cs ++ [decide (0 + len ≤ 4398046511104), decide (c < 4611686018427387904), decide (o.pl c = o.pl c), rowNq LK.whole 0 (0 + len) (0 + len), decide (0 + len + (o.pad c).length ≤ 4398046511104), decide (st.length = 8)])
      (some (.agg [.ints .u8 32 (fin (o.w1 .whole 0 (0 + len) ys c st (o.pad c)).st)], [some (hB (.sl m 1 off len 1) c st), some [.ints .u8 n xs]])) := by
  cases m <;> cases h <;> kernel_rfl

structure OpsS extends OpsV where
  sm : LK → Nat → Nat → List Nat → Nat → List Nat → List Nat

def smF (m : LK) (off len : Nat) (xs : List Nat) (c : Nat) (st : List Nat) : List Nat := fin (opsV.w1 .whole 0 len (rowBq m off len xs) c st (pad c)).st

def opsS : OpsS := { toOpsV := opsV, sm := smF }

theorem opsS_ops : opsS.toOpsV = opsV := by kernel_rfl

theorem opsS_sm : opsS.sm = smF := by kernel_rfl

def R33h (o : OpsS) : FSem := ⟨false, fun args hin => match args, hin with
  | [.s (.ptr 0 0)], [[.one (.sl m 1 off len 1), .one (.nat .u64 c), .ints .u32 8 st], [.ints .u8 n xs]] =>
    some (Tr.needs [rowNq m off len n, decide (len ≤ 2199023255552), decide (c < 4611686018427387904), decide (st.length = 8)] (.leaf (.agg [.ints .u8 32 (o.sm m off len xs c st)], [some (hB (.sl m 1 off len 1) c st), some [.ints .u8 n xs]])))
  | _, _ => none⟩

theorem padZ_len : ∀ i, (padZ i).length = i + 1
  | 0 => rfl
  | i + 1 => by rw [padZ, List.length_append, padZ_len i]; rfl

theorem pad_len (c : Nat) : (pad c).length = fz c + 9 := by
  simp only [pad, app8h, List.length_append, padZ_len, List.length_cons, List.length_nil]

theorem or33h : FOk Tryz.prog 85 (R33h opsS) := by
  refine fokB (fs := [(117, R35h opsPq), (84, R22h opsV)]) (xs := []) (m := .nat) (fuel := 40) (.cons or35h (.cons or22h .nil)) fn33h ?_
  intro args hin t r h hg
  unfold R33h at h
  rw [opsS_sm] at h
  simp only at h
  split at h
  · rename_i m off len c st n xs
    simp only [Option.some.injEq] at h
    subst h
    obtain ⟨hc, hgt⟩ := Tr.needs_get hg
    cases hgt
    simp only [List.mem_cons, List.not_mem_nil, or_false, forall_eq_or_imp, forall_eq, decide_eq_true_eq] at hc
    obtain ⟨h1, h2, h3, h4⟩ := hc
    obtain ⟨cs, hr, hcs⟩ := rowOf_Bq xs h1
    have := r33h opsPq c st hr
    rw [opsP_opsq, opsP_plq, opsP_pad, hB] at this
    rw [this, Nat.zero_add]
    refine nd_ofq (fun b hb => ?_) rfl
    rcases List.mem_append.1 hb with hb | hb
    · exact hcs b hb
    · refine (show ∀ b ∈ [decide (len ≤ 4398046511104), decide (c < 4611686018427387904), decide (padL c = padL c), rowNq LK.whole 0 len len, decide (len + (pad c).length ≤ 4398046511104), decide (st.length = 8)], b = true from ?_) b hb
      have hl := fz_lt c
      have hp := pad_len c
      simp only [List.mem_cons, List.not_mem_nil, or_false, forall_eq_or_imp, forall_eq, decide_eq_true_eq]
      exact ⟨by omega, h3, trivial, by simp [rowNq], by omega, h4⟩
  · cases h

/-- Of a hash to which something was written. -/
def OpsS.sv (o : OpsS) (v : HV) : List Nat := o.sm (lkq (v.n / 64)) (64 * (v.n / 64)) (v.n - 64 * (v.n / 64)) v.y v.c v.st

set_option maxRecDepth 100000 in
theorem r30h1 (o : OpsS) (p : List Nat) : runB Tryz.prog [(83, F29h), (84, R22h o.toOpsV), (85, R33h o)] [] .nat 40 Tryz.f46 [.s (.xsl (.bss [p]))] [] =
    nd [decide (p.length ≤ 4398046511104), true, rowNq (lkq ((o.w0 0 st0h p).n / 64)) (64 * ((o.w0 0 st0h p).n / 64)) ((o.w0 0 st0h p).n - 64 * ((o.w0 0 st0h p).n / 64)) (o.w0 0 st0h p).n, decide ((o.w0 0 st0h p).n - 64 * ((o.w0 0 st0h p).n / 64) ≤ 2199023255552), decide ((o.w0 0 st0h p).c < 4611686018427387904), decide ((o.w0 0 st0h p).st.length = 8)]
      (some (.agg [.ints .u8 32 (o.sv (o.w0 0 st0h p))], [])) := by kernel_rfl

set_option maxRecDepth 100000 in
theorem r30h2 (o : OpsS) (p p' : List Nat) : runB Tryz.prog [(83, F29h), (84, R22h o.toOpsV), (85, R33h o)] [] .nat 40 Tryz.f46 [.s (.xsl (.bss [p, p']))] [] =
    nd [decide (p.length ≤ 4398046511104), decide (p'.length ≤ 2199023255552), true, rowNq (lkq ((o.more (o.w0 0 st0h p) p').n / 64)) (64 * ((o.more (o.w0 0 st0h p) p').n / 64)) ((o.more (o.w0 0 st0h p) p').n - 64 * ((o.more (o.w0 0 st0h p) p').n / 64)) (o.more (o.w0 0 st0h p) p').n, decide ((o.more (o.w0 0 st0h p) p').n - 64 * ((o.more (o.w0 0 st0h p) p').n / 64) ≤ 2199023255552), decide ((o.more (o.w0 0 st0h p) p').c < 4611686018427387904), decide ((o.more (o.w0 0 st0h p) p').st.length = 8)]
      (some (.agg [.ints .u8 32 (o.sv (o.more (o.w0 0 st0h p) p'))], [])) := by kernel_rfl

theorem w0_c (c : Nat) (st p : List Nat) : (opsV.w0 c st p).c = (c + p.length) % 18446744073709551616 := by rw [opsV_w0]; rfl

theorem more_c (v : HV) (p : List Nat) : (opsV.more v p).c = (v.c + p.length) % 18446744073709551616 := by
  unfold OpsV.more
  rw [opsV_w1]; rfl

theorem more_n (v : HV) (p : List Nat) : (opsV.more v p).n = v.n - 64 * (v.n / 64) + p.length := by
  unfold OpsV.more
  rw [opsV_w1]; rfl

theorem more_st (v : HV) (p : List Nat) (h : v.st.length = 8) : (opsV.more v p).st.length = 8 := w1_st _ _ _ _ _ _ _ h

def R30h (o : OpsS) : FSem := ⟨true, fun args hin => match args, hin with
  | [.s (.xsl (.bss [p]))], [] => some (Tr.needs [decide (p.length ≤ 1099511627776)] (.leaf (.agg [.ints .u8 32 (o.sv (o.w0 0 st0h p))], [])))
  | [.s (.xsl (.bss [p, p']))], [] => some (Tr.needs [decide (p.length ≤ 1099511627776), decide (p'.length ≤ 1099511627776)] (.leaf (.agg [.ints .u8 32 (o.sv (o.more (o.w0 0 st0h p) p'))], [])))
  | _, _ => none⟩

theorem or30h : FOk Tryz.prog 46 (R30h opsS) := by
  refine fokB (fs := [(83, F29h), (84, R22h opsV), (85, R33h opsS)]) (xs := []) (m := .nat) (fuel := 40) (.cons ok29h (.cons or22h (.cons or33h .nil))) fn30h ?_
  intro args hin t r h hg
  unfold R30h at h
  rw [opsS_ops] at h
  simp only at h
  split at h
  · rename_i p
    simp only [Option.some.injEq] at h
    subst h
    obtain ⟨hc, hgt⟩ := Tr.needs_get hg
    cases hgt
    simp only [List.mem_cons, List.not_mem_nil, or_false, forall_eq, decide_eq_true_eq] at hc
    have := r30h1 opsS p
    rw [opsS_ops] at this
    rw [this]
    refine nd_ofq ?_ rfl
    simp only [List.mem_cons, List.not_mem_nil, or_false, forall_eq_or_imp, forall_eq, decide_eq_true_eq]
    exact ⟨by omega, trivial, rowN_lf _, by rw [w0_n]; omega, by rw [w0_c]; omega, w0_st _ _ _ rfl⟩
  · rename_i p p'
    simp only [Option.some.injEq] at h
    subst h
    obtain ⟨hc, hgt⟩ := Tr.needs_get hg
    cases hgt
    simp only [List.mem_cons, List.not_mem_nil, or_false, forall_eq_or_imp, forall_eq, decide_eq_true_eq] at hc
    have := r30h2 opsS p p'
    rw [opsS_ops] at this
    rw [this]
    refine nd_ofq ?_ rfl
    simp only [List.mem_cons, List.not_mem_nil, or_false, forall_eq_or_imp, forall_eq, decide_eq_true_eq]
    exact ⟨by omega, by omega, trivial, rowN_lf _, by rw [more_n, w0_n]; omega, by rw [more_c, w0_c]; omega, more_st _ _ (w0_st _ _ _ rfl)⟩
  · cases h

theorem sv_len (v : HV) : (opsS.sv v).length = 32 := by
  unfold OpsS.sv
  rw [opsS_sm]
  exact fin_len _

theorem sv_mem (v : HV) : ∀ x ∈ opsS.sv v, x < 256 := by
  unfold OpsS.sv
  rw [opsS_sm]
  exact fin_mem _

end Go.Proofs.YtdhnkkogbbhnmaaGreat

namespace Go.Proofs.YtdhnkkogbbhnmaaGreat
open Go
def nN (x : List Nat) (k : Nat) (w : List Nat) : Nat → List Nat
  | 0 => w
  | j + 1 => (nN x k w j).set j (x.getD j 0 ^^^ k)

/-- A key of m bytes, filled up. -/
def kp (ys : List Nat) (m : Nat) : List Nat := List.take 0 z64h ++ (ys.take (min m 64) ++ z64h.drop (0 + min m 64))

def inB (x : List Nat) : List Nat := nN x 54 x 64

def ouB (x : List Nat) : List Nat := nN x 92 z64h 64

theorem fn21h : Fn Tryz.prog 97 Tryz.f97 := ⟨mixed, Tryz.func97, by kernel_rfl, of_decide_eq_true (by kernel_rfl)⟩

set_option maxRecDepth 100000 in
theorem r21h (o : OpsS) (key : List Nat) : runB Tryz.prog [(83, F29h), (46, R30h o), (84, R22h o.toOpsV)] [] .nat 70 Tryz.f97 [.s (.xsl (.ints .u8 key))] [] =
    nd [decide (key.length < 9223372036854775808)] (cond (decide (64 < key.length))
      (nd [decide (key.length ≤ 1099511627776), decide ((inB (kp (o.sv (o.w0 0 st0h key)) 32)).length ≤ 4398046511104), true]
        (some (.s (.ptr 0 0), [some [.one (.ptr 1 0), .ints .u8 64 (ouB (kp (o.sv (o.w0 0 st0h key)) 32))], some (hV 2 (o.w0 0 st0h (inB (kp (o.sv (o.w0 0 st0h key)) 32)))), some (hY (o.w0 0 st0h (inB (kp (o.sv (o.w0 0 st0h key)) 32))))])))
      (nd [decide ((inB (kp key key.length)).length ≤ 4398046511104), true]
        (some (.s (.ptr 0 0), [some [.one (.ptr 1 0), .ints .u8 64 (ouB (kp key key.length))], some (hV 2 (o.w0 0 st0h (inB (kp key key.length)))), some (hY (o.w0 0 st0h (inB (kp key key.length))))])))) := by kernel_rfl

theorem nN_len (x : List Nat) (k : Nat) (w : List Nat) : ∀ j, (nN x k w j).length = w.length
  | 0 => rfl
  | j + 1 => by rw [nN, List.length_set, nN_len x k w j]

theorem kp_len {ys : List Nat} {m : Nat} (h : ys.length = m) : (kp ys m).length = 64 := by
  unfold kp
  simp only [List.take_zero, List.nil_append, List.length_append, List.length_take, List.length_drop, h, z64h, List.length_replicate]
  omega

theorem inB_len {x : List Nat} (h : x.length = 64) : (inB x).length = 64 := by
  unfold inB
  rw [nN_len, h]

theorem ouB_len (x : List Nat) : (ouB x).length = 64 := by
  unfold ouB
  rw [nN_len]
  rfl

/-- The key, filled up. -/
def kk (key : List Nat) : List Nat := cond (decide (64 < key.length)) (kp (opsS.sv (opsS.w0 0 st0h key)) 32) (kp key key.length)

structure OpsN extends OpsS where
  inn : List Nat → List Nat
  out : List Nat → List Nat

def opsN : OpsN := { toOpsS := opsS, inn := fun key => inB (kk key), out := fun key => ouB (kk key) }

theorem opsN_ops : opsN.toOpsS = opsS := by kernel_rfl

theorem opsN_inn : opsN.inn = fun key => inB (kk key) := by kernel_rfl

theorem opsN_out : opsN.out = fun key => ouB (kk key) := by kernel_rfl

def R21h (o : OpsN) : FSem := ⟨true, fun args hin => match args, hin with
  | [.s (.xsl (.ints .u8 key))], [] => some (Tr.needs [decide (key.length ≤ 1099511627776)]
      (.leaf (.s (.ptr 0 0), [some [.one (.ptr 1 0), .ints .u8 64 (o.out key)], some (hV 2 (o.w0 0 st0h (o.inn key))), some (hY (o.w0 0 st0h (o.inn key)))])))
  | _, _ => none⟩

theorem or21h : FOk Tryz.prog 97 (R21h opsN) := by
  refine fokB (fs := [(83, F29h), (46, R30h opsS), (84, R22h opsV)]) (xs := []) (m := .nat) (fuel := 70) (.cons ok29h (.cons or30h (.cons or22h .nil))) fn21h ?_
  intro args hin t r h hg
  unfold R21h at h
  rw [opsN_inn, opsN_out, opsN_ops] at h
  simp only at h
  split at h
  · rename_i key
    simp only [Option.some.injEq] at h
    subst h
    obtain ⟨hc, hgt⟩ := Tr.needs_get hg
    cases hgt
    simp only [List.mem_cons, List.not_mem_nil, or_false, forall_eq, decide_eq_true_eq] at hc
    have := r21h opsS key
    rw [opsS_ops] at this
    rw [this]
    refine nd_ofq ?_ ?_
    · simp only [List.mem_cons, List.not_mem_nil, or_false, forall_eq, decide_eq_true_eq]; omega
    · unfold kk
      rw [opsS_ops]
      cases decide (64 < key.length) with
      | true =>
        refine cond_tq rfl (nd_ofq ?_ rfl)
        have := inB_len (kp_len (sv_len (opsV.w0 0 st0h key)))
        simp only [List.mem_cons, List.not_mem_nil, or_false, forall_eq_or_imp, forall_eq, decide_eq_true_eq]
        exact ⟨hc, by omega, trivial⟩
      | false =>
        refine cond_fq rfl (nd_ofq ?_ rfl)
        have := inB_len (kp_len (ys := key) rfl)
        simp only [List.mem_cons, List.not_mem_nil, or_false, forall_eq_or_imp, forall_eq, decide_eq_true_eq]
        exact ⟨by omega, trivial⟩
  · cases h

theorem kk_len (key : List Nat) : (kk key).length = 64 := by
  unfold kk
  rw [opsS_ops]
  cases decide (64 < key.length)
  · exact kp_len rfl
  · exact kp_len (sv_len _)

theorem inn_len (key : List Nat) : (opsN.inn key).length = 64 := by
  rw [opsN_inn]
  exact inB_len (kk_len key)

theorem out_len (key : List Nat) : (opsN.out key).length = 64 := by
  rw [opsN_out]
  exact ouB_len _

end Go.Proofs.YtdhnkkogbbhnmaaGreat

namespace Go.Proofs.YtdhnkkogbbhnmaaGreat
open Go
theorem fn23h : Fn Tryz.prog 98 Tryz.f98 := ⟨mixed, Tryz.func98, by kernel_rfl, of_decide_eq_true (by kernel_rfl)⟩

theorem fn24h : Fn Tryz.prog 55 Tryz.f55 := ⟨mixed, Tryz.func55, by kernel_rfl, of_decide_eq_true (by kernel_rfl)⟩

theorem fn11h : Fn Tryz.prog 82 Tryz.f82 := ⟨mixed, Tryz.func82, by kernel_rfl, of_decide_eq_true (by kernel_rfl)⟩

set_option maxRecDepth 100000 in
theorem r23h (o : OpsS) (m : LK) (off len n c : Nat) (st xs ou : List Nat) : runB Tryz.prog [(85, R33h o), (46, R30h o)] [] .nat 70 Tryz.f98 [.s (.ptr 0 0)] [[.one (.ptr 1 0), .ints .u8 64 ou], hB (.sl m 2 off len 1) c st, [.ints .u8 n xs]] =
    nd [rowNq m off len n, decide (len ≤ 2199023255552), decide (c < 4611686018427387904), decide (st.length = 8), decide (ou.length ≤ 1099511627776), decide ((o.sm m off len xs c st).length ≤ 1099511627776)]
      (some (.agg [.ints .u8 32 (o.sv (o.more (o.w0 0 st0h ou) (o.sm m off len xs c st)))], [some [.one (.ptr 1 0), .ints .u8 64 ou], some (hB (.sl m 2 off len 1) c st), some [.ints .u8 n xs]])) := by kernel_rfl

def R23h (o : OpsS) : FSem := ⟨false, fun args hin => match args, hin with
  | [.s (.ptr 0 0)], [[.one (.ptr 1 0), .ints .u8 64 ou], [.one (.sl m 2 off len 1), .one (.nat .u64 c), .ints .u32 8 st], [.ints .u8 n xs]] =>
    some (Tr.needs [rowNq m off len n, decide (len ≤ 2199023255552), decide (c < 4611686018427387904), decide (st.length = 8), decide (ou.length ≤ 1099511627776)]
      (.leaf (.agg [.ints .u8 32 (o.sv (o.more (o.w0 0 st0h ou) (o.sm m off len xs c st)))], [some [.one (.ptr 1 0), .ints .u8 64 ou], some (hB (.sl m 2 off len 1) c st), some [.ints .u8 n xs]])))
  | _, _ => none⟩

theorem sm_len (m : LK) (off len c : Nat) (xs st : List Nat) : (opsS.sm m off len xs c st).length = 32 := by
  rw [opsS_sm]
  exact fin_len _

theorem or23h : FOk Tryz.prog 98 (R23h opsS) := by
  refine fokB (fs := [(85, R33h opsS), (46, R30h opsS)]) (xs := []) (m := .nat) (fuel := 70) (.cons or33h (.cons or30h .nil)) fn23h ?_
  intro args hin t r h hg
  unfold R23h at h
  simp only at h
  split at h
  · rename_i ou m off len c st n xs
    simp only [Option.some.injEq] at h
    subst h
    obtain ⟨hc, hgt⟩ := Tr.needs_get hg
    cases hgt
    simp only [List.mem_cons, List.not_mem_nil, or_false, forall_eq_or_imp, forall_eq, decide_eq_true_eq] at hc
    obtain ⟨h1, h2, h3, h4, h5⟩ := hc
    have := r23h opsS m off len n c st xs ou
    rw [hB] at this
    rw [this]
    refine nd_ofq ?_ rfl
    simp only [List.mem_cons, List.not_mem_nil, or_false, forall_eq_or_imp, forall_eq, decide_eq_true_eq]
    exact ⟨h1, h2, h3, h4, h5, by rw [sm_len]; decide⟩
  · cases h

set_option maxRecDepth 100000 in
theorem r24h (o : OpsN) (key p : List Nat) : runB Tryz.prog [(97, R21h o), (84, R22h o.toOpsV), (98, R23h o.toOpsS)] [] .nat 70 Tryz.f55 [.s (.xsl (.ints .u8 key)), .s (.xsl (.bss [p]))] [] =
    nd [decide (key.length ≤ 1099511627776), rowNq (lkq ((o.w0 0 st0h (o.inn key)).n / 64)) (64 * ((o.w0 0 st0h (o.inn key)).n / 64)) ((o.w0 0 st0h (o.inn key)).n - 64 * ((o.w0 0 st0h (o.inn key)).n / 64)) (o.w0 0 st0h (o.inn key)).n, decide ((o.w0 0 st0h (o.inn key)).n - 64 * ((o.w0 0 st0h (o.inn key)).n / 64) + p.length ≤ 4398046511104), decide ((o.w0 0 st0h (o.inn key)).st.length = 8),
      rowNq (lkq ((o.more (o.w0 0 st0h (o.inn key)) p).n / 64)) (64 * ((o.more (o.w0 0 st0h (o.inn key)) p).n / 64)) ((o.more (o.w0 0 st0h (o.inn key)) p).n - 64 * ((o.more (o.w0 0 st0h (o.inn key)) p).n / 64)) (o.more (o.w0 0 st0h (o.inn key)) p).n, decide ((o.more (o.w0 0 st0h (o.inn key)) p).n - 64 * ((o.more (o.w0 0 st0h (o.inn key)) p).n / 64) ≤ 2199023255552), decide ((o.more (o.w0 0 st0h (o.inn key)) p).c < 4611686018427387904), decide ((o.more (o.w0 0 st0h (o.inn key)) p).st.length = 8), decide ((o.out key).length ≤ 1099511627776)]
      (some (.agg [.ints .u8 32 (o.sv (o.more (o.w0 0 st0h (o.out key)) (o.sv (o.more (o.w0 0 st0h (o.inn key)) p))))], [])) := by kernel_rfl

/-- The sum with a key of one part. -/
def OpsN.mc (o : OpsN) (key p : List Nat) : List Nat := o.sv (o.more (o.w0 0 st0h (o.out key)) (o.sv (o.more (o.w0 0 st0h (o.inn key)) p)))

def R24h (o : OpsN) : FSem := ⟨true, fun args hin => match args, hin with
  | [.s (.xsl (.ints .u8 key)), .s (.xsl (.bss [p]))], [] => some (Tr.needs [decide (key.length ≤ 1099511627776), decide (p.length ≤ 1099511627776)] (.leaf (.agg [.ints .u8 32 (o.mc key p)], [])))
  | _, _ => none⟩

theorem nw_n (key : List Nat) : (opsV.w0 0 st0h (opsN.inn key)).n = 64 := by rw [w0_n, inn_len]

theorem nw_c (key : List Nat) : (opsV.w0 0 st0h (opsN.inn key)).c = 64 := by rw [w0_c, inn_len]

theorem nw_st (key : List Nat) : (opsV.w0 0 st0h (opsN.inn key)).st.length = 8 := w0_st _ _ _ rfl

theorem or24h : FOk Tryz.prog 55 (R24h opsN) := by
  refine fokB (fs := [(97, R21h opsN), (84, R22h opsV), (98, R23h opsS)]) (xs := []) (m := .nat) (fuel := 70) (.cons or21h (.cons or22h (.cons or23h .nil))) fn24h ?_
  intro args hin t r h hg
  unfold R24h at h
  simp only at h
  split at h
  · rename_i key p
    simp only [Option.some.injEq] at h
    subst h
    obtain ⟨hc, hgt⟩ := Tr.needs_get hg
    cases hgt
    simp only [List.mem_cons, List.not_mem_nil, or_false, forall_eq_or_imp, forall_eq, decide_eq_true_eq] at hc
    obtain ⟨h1, h2⟩ := hc
    have := r24h opsN key p
    rw [opsN_ops, opsS_ops] at this
    unfold OpsN.mc
    rw [opsN_ops, opsS_ops, this]
    refine nd_ofq ?_ rfl
    have e1 := nw_n key
    have e2 := nw_c key
    have e3 := more_n (opsV.w0 0 st0h (opsN.inn key)) p
    have e4 := more_c (opsV.w0 0 st0h (opsN.inn key)) p
    simp only [List.mem_cons, List.not_mem_nil, or_false, forall_eq_or_imp, forall_eq, decide_eq_true_eq]
    exact ⟨h1, rowN_lf _, by omega, nw_st _, rowN_lf _, by omega, by omega, more_st _ _ (nw_st _), by rw [out_len]; decide⟩
  · cases h

set_option maxRecDepth 100000 in
theorem r11h (o : OpsN) (key p : List Nat) : runB Tryz.prog [(55, R24h o)] [] .nat 70 Tryz.f82 [.s (.xsl (.ints .u8 key)), .s (.xsl (.bss [p]))] [] =
    nd [decide (key.length ≤ 1099511627776), decide (p.length ≤ 1099511627776)] (some (.agg [.ints .u8 32 (o.mc key p)], [])) := by kernel_rfl

theorem or11h : FOk Tryz.prog 82 (R24h opsN) := by
  refine fokB (fs := [(55, R24h opsN)]) (xs := []) (m := .nat) (fuel := 70) (.cons or24h .nil) fn11h ?_
  intro args hin t r h hg
  unfold R24h at h
  simp only at h
  split at h
  · rename_i key p
    simp only [Option.some.injEq] at h
    subst h
    obtain ⟨hc, hgt⟩ := Tr.needs_get hg
    cases hgt
    rw [r11h]
    exact nd_ofq hc rfl
  · cases h

end Go.Proofs.YtdhnkkogbbhnmaaGreat

namespace Go.Proofs.YtdhnkkogbbhnmaaGreat
open Go
def OpsN.nw (o : OpsN) (key : List Nat) : HV := o.w0 0 st0h (o.inn key)

def OpsN.x3 (o : OpsN) (key last info : List Nat) (i : Nat) : HV := o.more (o.more (o.more (o.nw key) last) info) [i]

def OpsN.ex (o : OpsN) (key last info : List Nat) (i : Nat) : List Nat := o.sv (o.more (o.w0 0 st0h (o.out key)) (o.sv (o.x3 key last info i)))

def wrN (v : HV) (p : List Nat) : List Bool := [rowNq (lkq (v.n / 64)) (64 * (v.n / 64)) (v.n - 64 * (v.n / 64)) v.n, decide (v.n - 64 * (v.n / 64) + p.length ≤ 4398046511104), decide (v.st.length = 8)]

def suN (v : HV) : List Bool := [rowNq (lkq (v.n / 64)) (64 * (v.n / 64)) (v.n - 64 * (v.n / 64)) v.n, decide (v.n - 64 * (v.n / 64) ≤ 2199023255552), decide (v.c < 4611686018427387904), decide (v.st.length = 8)]

def exN (o : OpsN) (key last info : List Nat) (i : Nat) : List Bool := decide (key.length ≤ 1099511627776) :: (wrN (o.nw key) last ++ (wrN (o.more (o.nw key) last) info ++ (wrN (o.more (o.more (o.nw key) last) info) [i] ++ (suN (o.x3 key last info i) ++ [decide ((o.out key).length ≤ 1099511627776)]))))

theorem fn10h : Fn Tryz.prog 81 Tryz.f81 := ⟨mixed, Tryz.func81, by kernel_rfl, of_decide_eq_true (by kernel_rfl)⟩

set_option maxRecDepth 100000 in
theorem r10h (o : OpsN) (key info : List Nat) : runB Tryz.prog [(97, R21h o), (84, R22h o.toOpsV), (98, R23h o.toOpsS)] [] .nat 70 Tryz.f81 [.agg [.ints .u8 32 key], .s (.nat .i64 64), .s (.xsl (.bss [info]))] [] =
    nd (exN o key [] info 1 ++ exN o key (o.ex key [] info 1) info 2) (some (.tup [.s (.sl .pre 0 0 64 1), .s (.nat .i64 0)], [some [.ints .u8 64 (o.ex key [] info 1 ++ o.ex key (o.ex key [] info 1) info 2)]])) := by kernel_rfl

structure OpsE where
  mc : List Nat → List Nat → List Nat
  ep : List Nat → List Nat → List Nat

def epF (key info : List Nat) : List Nat := opsN.ex key [] info 1 ++ opsN.ex key (opsN.ex key [] info 1) info 2

def opsE : OpsE := ⟨opsN.mc, epF⟩

theorem opsE_mc : opsE.mc = opsN.mc := by kernel_rfl

theorem opsE_ep : opsE.ep = epF := by kernel_rfl

def R10h (o : OpsE) : FSem := ⟨true, fun args hin => match args, hin with
  | [.agg [.ints .u8 32 key], .s (.nat .i64 64), .s (.xsl (.bss [info]))], [] => some (Tr.needs [decide (key.length ≤ 1099511627776), decide (info.length ≤ 1099511627776)]
      (.leaf (.tup [.s (.sl .pre 0 0 64 1), .s (.nat .i64 0)], [some [.ints .u8 64 (o.ep key info)]])))
  | _, _ => none⟩

theorem wrN_ok {v : HV} {p : List Nat} (h : p.length ≤ 1099511627776) (hs : v.st.length = 8) : ∀ b ∈ wrN v p, b = true := by
  unfold wrN
  simp only [List.mem_cons, List.not_mem_nil, or_false, forall_eq_or_imp, forall_eq, decide_eq_true_eq]
  exact ⟨rowN_lf _, by omega, hs⟩

theorem suN_ok {v : HV} (hc : v.c < 4611686018427387904) (hs : v.st.length = 8) : ∀ b ∈ suN v, b = true := by
  unfold suN
  simp only [List.mem_cons, List.not_mem_nil, or_false, forall_eq_or_imp, forall_eq, decide_eq_true_eq]
  exact ⟨rowN_lf _, by omega, hc, hs⟩

theorem all_app2 {a b : List Bool} (h1 : ∀ x ∈ a, x = true) (h2 : ∀ x ∈ b, x = true) : ∀ x ∈ a ++ b, x = true := by
  intro x hx
  rcases List.mem_append.1 hx with h | h
  · exact h1 x h
  · exact h2 x h

theorem exN_ok {key last info : List Nat} {i : Nat} (h1 : key.length ≤ 1099511627776) (h2 : last.length ≤ 1099511627776) (h3 : info.length ≤ 1099511627776) : ∀ b ∈ exN opsN key last info i, b = true := by
  unfold exN OpsN.x3 OpsN.nw
  rw [opsN_ops, opsS_ops]
  have s1 := nw_st key
  have s2 := more_st _ last s1
  have s3 := more_st _ info s2
  have s4 := more_st _ [i] s3
  have c1 := nw_c key
  have c2 := more_c (opsV.w0 0 st0h (opsN.inn key)) last
  have c3 := more_c (opsV.more (opsV.w0 0 st0h (opsN.inn key)) last) info
  have c4 := more_c (opsV.more (opsV.more (opsV.w0 0 st0h (opsN.inn key)) last) info) [i]
  simp only [List.length_cons, List.length_nil] at c4
  intro b hb
  rcases List.mem_cons.1 hb with rfl | hb
  · exact decide_eq_true h1
  · have hl : ∀ b ∈ [decide ((opsN.out key).length ≤ 1099511627776)], b = true := by
      simp only [List.mem_cons, List.not_mem_nil, or_false, forall_eq, decide_eq_true_eq]
      rw [out_len]
      decide
    exact all_app2 (wrN_ok h2 s1) (all_app2 (wrN_ok h3 s2) (all_app2 (wrN_ok (p := [i]) (show 1 ≤ 1099511627776 by decide) s3) (all_app2 (suN_ok (by omega) s4) hl))) b hb

theorem ex_len (key last info : List Nat) (i : Nat) : (opsN.ex key last info i).length = 32 := by
  unfold OpsN.ex
  rw [opsN_ops]
  exact sv_len _

theorem mc_len (key p : List Nat) : (opsN.mc key p).length = 32 := by
  unfold OpsN.mc
  rw [opsN_ops]
  exact sv_len _

theorem or10h : FOk Tryz.prog 81 (R10h opsE) := by
  refine fokB (fs := [(97, R21h opsN), (84, R22h opsV), (98, R23h opsS)]) (xs := []) (m := .nat) (fuel := 70) (.cons or21h (.cons or22h (.cons or23h .nil))) fn10h ?_
  intro args hin t r h hg
  unfold R10h at h
  rw [opsE_ep] at h
  simp only at h
  split at h
  · rename_i key info
    simp only [Option.some.injEq] at h
    subst h
    obtain ⟨hc, hgt⟩ := Tr.needs_get hg
    cases hgt
    simp only [List.mem_cons, List.not_mem_nil, or_false, forall_eq_or_imp, forall_eq, decide_eq_true_eq] at hc
    obtain ⟨h1, h2⟩ := hc
    have := r10h opsN key info
    rw [opsN_ops, opsS_ops] at this
    rw [this]
    refine nd_ofq (all_app2 (exN_ok h1 (by simp) h2) (exN_ok h1 (by rw [ex_len]; decide) h2)) ?_
    rfl
  · cases h

end Go.Proofs.YtdhnkkogbbhnmaaGreat

namespace Go.Proofs.YtdhnkkogbbhnmaaGreat
open Go
/-- Is it 2^130 - 5 or more? -/
def over5 (a b c d e : Nat) : Nat := ct e (ct d (ct c (ct b (ct a 5 / 2 ^ 26) / 2 ^ 26) / 2 ^ 26) / 2 ^ 26) / 2 ^ 26

def carrL (t0 t1 t2 t3 t4 : Nat) : List Nat := [t0 &&& 67108863, t1 &&& 67108863, t2 &&& 67108863, t3 &&& 67108863, t4 &&& 67108863]

def least5 (a b c d e : Nat) : List Nat :=
  (fun t0 => (fun t1 => (fun t2 => (fun t3 => carrL t0 t1 t2 t3 (ct e (t3 / 2 ^ 26))) (ct d (t2 / 2 ^ 26))) (ct c (t1 / 2 ^ 26))) (ct b (t0 / 2 ^ 26)))
    (ct ((a + 5 * over5 a b c d e % 18446744073709551616) % 18446744073709551616) 0)

def least (x : List Nat) : List Nat := least5 (x.getD 0 0) (x.getD 1 0) (x.getD 2 0) (x.getD 3 0) (x.getD 4 0)

/-- The i-th byte of a number of fiveq parts, and what stands above it. -/
def fx (x : List Nat) (i : Nat) : Nat :=
  match decide (18 < 8 * i % 26) && decide (8 * i / 26 < 4) with
  | true => x.getD (8 * i / 26) 0 / 2 ^ (8 * i % 26) ||| x.getD (8 * i / 26 + 1) 0 * 2 ^ (26 - 8 * i % 26) % 18446744073709551616
  | false => x.getD (8 * i / 26) 0 / 2 ^ (8 * i % 26)

/-- What is carried into the i-th byte. -/
def fo (x key : List Nat) : Nat → Nat
  | 0 => 0
  | i + 1 => (fo x key i + (fx x i % 256 + key.getD (16 + i) 0)) / 2 ^ 8

def ft (x key : List Nat) (i : Nat) : Nat := (fo x key i + (fx x i % 256 + key.getD (16 + i) 0)) % 256

def fcs (x key : List Nat) : Nat → Nat → List Bool
  | 0, _ => []
  | n + 1, i => decide (fx x i % 256 + key.getD (16 + i) 0 < 9223372036854775808) :: decide (fo x key i + (fx x i % 256 + key.getD (16 + i) 0) < 9223372036854775808) :: fcs x key n (i + 1)

def fts (x key : List Nat) : Nat → Nat → List Nat
  | 0, _ => []
  | n + 1, i => ft x key i :: fts x key n (i + 1)

def finL (x key : List Nat) : List Nat := fts (least (carr (carr x))) key 16 0

def F38q : FSem := ⟨false, fun args hin => match args, hin with
  | [.agg [.ints .u64 5 x], .agg [.ints .u8 32 key]], [] => some (Tr.needs [decide (x.length = 5), key.all fun k => decide (k < 256)] (.leaf (.agg [.ints .u8 16 (finL x key)], [])))
  | _, _ => none⟩

theorem fn38q : Fn Tryz.prog 125 Tryz.f125 := ⟨mixedP, Tryz.func125, by kernel_rfl, of_decide_eq_true (by kernel_rfl)⟩

set_option maxRecDepth 100000 in
theorem r38q (a b c d e : Nat) (key : List Nat) : runB Tryz.prog [(130, F46)] [] .nat 17 Tryz.f125 [.agg [.ints .u64 5 [a, b, c, d, e]], .agg [.ints .u8 32 key]] [] =
    nd (fcs (least (carr (carr [a, b, c, d, e]))) key 16 0) (some (.agg [.ints .u8 16 (finL [a, b, c, d, e] key)], [])) := by kernel_rfl

theorem key_lt {key : List Nat} (h : key.all (fun k => decide (k < 256)) = true) (i : Nat) : key.getD i 0 < 256 := by
  rw [List.getD]
  cases hj : key[i]? with
  | none => simp
  | some p =>
    have := List.all_eq_true.1 h p (List.mem_of_getElem? hj)
    simpa using this

theorem fo_lt {x key : List Nat} (h : key.all (fun k => decide (k < 256)) = true) : ∀ i, fo x key i < 256
  | 0 => by simp [fo]
  | i + 1 => by
    have h1 := fo_lt (x := x) h i
    have h2 := key_lt h (16 + i)
    have h3 : fx x i % 256 < 256 := Nat.mod_lt _ (by omega)
    unfold fo
    omega

theorem fcs_ok {x key : List Nat} (h : key.all (fun k => decide (k < 256)) = true) : ∀ n i, ∀ c ∈ fcs x key n i, c = true
  | 0, i, c, hc => by cases hc
  | n + 1, i, c, hc => by
    have h1 := fo_lt (x := x) h i
    have h2 := key_lt h (16 + i)
    have h3 : fx x i % 256 < 256 := Nat.mod_lt _ (by omega)
    simp only [fcs, List.mem_cons] at hc
    rcases hc with rfl | rfl | hc
    · exact decide_eq_true (by omega)
    · exact decide_eq_true (by omega)
    · exact fcs_ok h n (i + 1) c hc

theorem ok38q : FOk Tryz.prog 125 F38q := by
  refine fokB (fs := [(130, F46)]) (xs := []) (m := .nat) (fuel := 17) (.cons ok46 .nil) fn38q ?_
  intro args hin t r h hg
  unfold F38q at h
  simp only at h
  split at h
  · rename_i x key
    cases h
    obtain ⟨hc, hgt⟩ := Tr.needs_get hg
    cases hgt
    obtain ⟨a, b, c, d, e, rfl⟩ := fiveq (of_decide_eq_true (hc (decide (x.length = 5)) (by simp)))
    rw [r38q]
    exact nd_ofq (fcs_ok (hc _ (by simp)) 16 0) rfl
  · cases h

end Go.Proofs.YtdhnkkogbbhnmaaGreat

namespace Go.Proofs.YtdhnkkogbbhnmaaGreat
open Go
def addLq (a x : List Nat) : List Nat := [ct (a.getD 0 0) (x.getD 0 0), ct (a.getD 1 0) (x.getD 1 0), ct (a.getD 2 0) (x.getD 2 0), ct (a.getD 3 0) (x.getD 3 0), ct (a.getD 4 0) (x.getD 4 0)]

def stepC (r a ys : List Nat) : List Nat := carr (carr (timesL (addLq a (numb (ys ++ [1]))) r))

def F36 : FSem := ⟨false, fun args hin => match args, hin with
  | [.s (.sl m 0 off len 1), .s (.ptr 1 0), .s (.ptr 2 0)], [[.ints .u8 n xs], [.ints .u64 5 a], [.ints .u64 5 r]] => match rowOf .u8 m off len [.ints .u8 n xs] with
    | some (cs, ys) => some (Tr.needs (cs ++ [decide (ys.length = len), decide (len ≤ 16), decide (a.length = 5), decide (r.length = 5)])
      (.leaf (.tup [], [some [.ints .u8 n xs], some [.ints .u64 5 (stepC r a ys)], some [.ints .u64 5 r]])))
    | none => none
  | _, _ => none⟩

theorem fn36 : Fn Tryz.prog 123 Tryz.f123 := ⟨mixedP, Tryz.func123, by kernel_rfl, of_decide_eq_true (by kernel_rfl)⟩

set_option maxRecDepth 100000 in
theorem r36 {m : LK} {off len n : Nat} {xs ys : List Nat} {cs : List Bool} (a b c d e : Nat) (r : List Nat) (h : rowOf .u8 m off len [.ints .u8 n xs] = some (cs, ys)) :
    runB Tryz.prog [(122, F35q), (124, F37)] [] .nat 7 Tryz.f123 [.s (.sl m 0 off len 1), .s (.ptr 1 0), .s (.ptr 2 0)] [[.ints .u8 n xs], [.ints .u64 5 [a, b, c, d, e]], [.ints .u64 5 r]] =
    nd (cs ++ [decide (0 + len ≤ 4398046511104), decide (0 + len = 0 + len), decide (0 + len + 1 ≤ 4398046511104), decide (0 + len + 1 = 0 + len + 1), decide ((ys ++ [1]).length ≤ 17), decide (r.length = 5)])
      (some (.tup [], [some [.ints .u8 n xs], some [.ints .u64 5 (stepC r [a, b, c, d, e] ys)], some [.ints .u64 5 r]])) := by
  cases m <;> cases h <;> kernel_rfl

theorem ok36 : FOk Tryz.prog 123 F36 := by
  refine fokB (fs := [(122, F35q), (124, F37)]) (xs := []) (m := .nat) (fuel := 7) (.cons ok35q (.cons ok37 .nil)) fn36 ?_
  intro args hin t r h hg
  unfold F36 at h
  simp only at h
  split at h
  · rename_i m off len n xs a r
    split at h
    · rename_i cs ys hr
      cases h
      obtain ⟨hc, hgt⟩ := Tr.needs_get hg
      cases hgt
      have h1 : ys.length = len := of_decide_eq_true (hc _ (List.mem_append_right _ (by simp)))
      have h2 : len ≤ 16 := of_decide_eq_true (hc (decide (len ≤ 16)) (List.mem_append_right _ (by simp)))
      have h3 : a.length = 5 := of_decide_eq_true (hc (decide (a.length = 5)) (List.mem_append_right _ (by simp)))
      have h4 : r.length = 5 := of_decide_eq_true (hc (decide (r.length = 5)) (List.mem_append_right _ (by simp)))
      obtain ⟨a0, a1, a2, a3, a4, rfl⟩ := fiveq h3
      rw [r36 _ _ _ _ _ _ hr]
      refine nd_ofq (fun c hm => ?_) rfl
      rcases List.mem_append.1 hm with hm | hm
      · exact hc c (List.mem_append_left _ hm)
      · refine (show ∀ c ∈ [decide (0 + len ≤ 4398046511104), decide (0 + len = 0 + len), decide (0 + len + 1 ≤ 4398046511104), decide (0 + len + 1 = 0 + len + 1), decide ((ys ++ [1]).length ≤ 17), decide (r.length = 5)], c = true from ?_) c hm
        simp only [List.mem_cons, List.not_mem_nil, or_false, forall_eq_or_imp, forall_eq, decide_eq_true_eq, true_and, List.length_append, List.length_cons, List.length_nil]
        omega
    · cases h
  · cases h

end Go.Proofs.YtdhnkkogbbhnmaaGreat

namespace Go.Proofs.YtdhnkkogbbhnmaaGreat
open Go
def takesC (r a ys : List Nat) : Nat → List Nat
  | 0 => a
  | q + 1 => stepC r (takesC r a ys q) ((ys.drop (16 * q)).take 16)

theorem takesC_len {r a ys : List Nat} (h : a.length = 5) : ∀ q, (takesC r a ys q).length = 5
  | 0 => h
  | _ + 1 => rfl

def clo6 : AV := .s (.fn 123 [] [(1, 0), (2, 0)])

def S6 : LSem := ⟨[11, 12], [11], fun args hin => match args, hin with
  | [.s (.sl .whole 0 0 l 1), .s (.fn 123 [] [(1, 0), (2, 0)])], [[.ints .u8 n xs], [.ints .u64 5 a], [.ints .u64 5 r]] =>
    some (Tr.needs [decide (n = l), decide (xs.length = l), decide (a.length = 5), decide (r.length = 5), decide (l < 9223372036854775808)]
      (.br (decide (l / 16 = 0)) (.leaf (.normal, [.s (.sl .whole 0 0 l 1)], [some [.ints .u8 l xs], some [.ints .u64 5 a], some [.ints .u64 5 r]]))
        (.leaf (.normal, [.s (.sl .suf 0 (16 * (l / 16)) (l - 16 * (l / 16)) 1)], [some [.ints .u8 l xs], some [.ints .u64 5 (takesC r a xs (l / 16))], some [.ints .u64 5 r]]))))
  | _, _ => none⟩

set_option maxRecDepth 100000 in
theorem rr6w (l : Nat) (xs a r : List Nat) : runR Tryz.prog [(123, F36)] [] .nat 7 [] Tryz.f100 6 S6 3 [.s (.sl .whole 0 0 l 1), .s (.fn 123 [] [(1, 0), (2, 0)])] [some [.ints .u8 l xs], some [.ints .u64 5 a], some [.ints .u64 5 r]] =
(nd [decide (l < 9223372036854775808)]
 (cond (decide (16 ≤ l))
 (nd [decide (16 ≤ l), decide (16 ≤ l), decide ((List.take 16 xs).length = 16), decide (a.length = 5), decide (r.length = 5), decide (16 ≤ l)]
 (some (Ex.normal, [AV.s (SV.sl LK.suf 0 16 (l - 16) 1), AV.s (SV.fn 123 [] [(1, 0), (2, 0)])], [some [Ch.ints IntKind.u8 l xs], some [Ch.ints IntKind.u64 5 (stepC r a (List.take 16 xs))], some [Ch.ints IntKind.u64 5 r]])))
 (some (Ex.exit 6, [AV.s (SV.sl LK.whole 0 0 l 1)], [some [Ch.ints IntKind.u8 l xs], some [Ch.ints IntKind.u64 5 a], some [Ch.ints IntKind.u64 5 r]])))) := by kernel_rfl

set_option maxRecDepth 100000 in
theorem rr6s (off len l : Nat) (xs a r : List Nat) : runR Tryz.prog [(123, F36)] [] .nat 7 [] Tryz.f100 6 S6 3 [.s (.sl .suf 0 off len 1), .s (.fn 123 [] [(1, 0), (2, 0)])] [some [.ints .u8 l xs], some [.ints .u64 5 a], some [.ints .u64 5 r]] =
(nd [decide (len < 9223372036854775808)]
 (cond (decide (16 ≤ len))
 (nd [decide (16 ≤ len), decide (off + 16 ≤ l), decide ((List.take 16 (List.drop off xs)).length = 16), decide (a.length = 5), decide (r.length = 5), decide (16 ≤ len)]
 (some (Ex.normal, [AV.s (SV.sl LK.suf 0 (addOff off 16) (len - 16) 1), AV.s (SV.fn 123 [] [(1, 0), (2, 0)])], [some [Ch.ints IntKind.u8 l xs], some [Ch.ints IntKind.u64 5 (stepC r a (List.take 16 (List.drop off xs)))], some [Ch.ints IntKind.u64 5 r]])))
 (some (Ex.exit 6, [AV.s (SV.sl LK.suf 0 off len 1)], [some [Ch.ints IntKind.u8 l xs], some [Ch.ints IntKind.u64 5 a], some [Ch.ints IntKind.u64 5 r]])))) := by kernel_rfl

def A6 (xs a r : List Nat) : Nat → List AV × List (Option Blk)
  | 0 => ([.s (.sl .whole 0 0 xs.length 1), clo6], [some [.ints .u8 xs.length xs], some [.ints .u64 5 a], some [.ints .u64 5 r]])
  | i + 1 => ([.s (.sl .suf 0 (16 * (i + 1)) (xs.length - 16 * (i + 1)) 1), clo6], [some [.ints .u8 xs.length xs], some [.ints .u64 5 (takesC r a xs (i + 1))], some [.ints .u64 5 r]])

theorem lok6 : LOk Tryz.prog Tryz.f100.ntmps (.block 6 (.loop (lb 6 Tryz.f100))) S6 := by
  refine lokR (fs := [(123, F36)]) (xs := []) (m := .nat) (fuel := 7) (sums := []) (.cons ok36 .nil) mixedP (loopsOk_none rfl _) ?_
  intro args hin t e vs hout h hg
  unfold S6 at h
  simp only at h
  split at h
  · rename_i l n xs a r
    simp only [Option.some.injEq] at h
    subst h
    obtain ⟨hc, hgt⟩ := Tr.needs_get hg
    clear hg
    have e1 : n = l := of_decide_eq_true (hc _ (by simp))
    have e2 : xs.length = l := of_decide_eq_true (hc (decide (xs.length = l)) (by simp))
    have e3 : a.length = 5 := of_decide_eq_true (hc (decide (a.length = 5)) (by simp))
    have e4 : r.length = 5 := of_decide_eq_true (hc (decide (r.length = 5)) (by simp))
    have e5 : l < 9223372036854775808 := of_decide_eq_true (hc (decide (l < 9223372036854775808)) (by simp))
    clear hc
    subst e1; subst e2
    refine ⟨xs.length / 16, A6 xs a r, .exit 6, rfl, fun i hi => ?_, ?_, ?_⟩
    · cases i with
      | zero =>
        simp only [A6, clo6, List.length_cons, List.length_nil]
        rw [rr6w]
        refine nd_ofq ?_ (cond_tq (decide_eq_true (by omega)) (nd_ofq ?_ ?_))
        · simp only [List.mem_cons, List.not_mem_nil, or_false, forall_eq, decide_eq_true_eq]; omega
        · simp only [List.mem_cons, List.not_mem_nil, or_false, forall_eq_or_imp, forall_eq, decide_eq_true_eq, List.length_take]; omega
        · simp [takesC]
      | succ i =>
        simp only [A6, clo6, List.length_cons, List.length_nil]
        rw [rr6s]
        refine nd_ofq ?_ (cond_tq (decide_eq_true (by omega)) (nd_ofq ?_ ?_))
        · simp only [List.mem_cons, List.not_mem_nil, or_false, forall_eq, decide_eq_true_eq]; omega
        · simp only [List.mem_cons, List.not_mem_nil, or_false, forall_eq_or_imp, forall_eq, decide_eq_true_eq, List.length_take, List.length_drop, takesC_len e3, true_and]; omega
        · rw [addOff_eq', show 16 * (i + 1) + 16 = 16 * (i + 1 + 1) by omega, show xs.length - 16 * (i + 1) - 16 = xs.length - 16 * (i + 1 + 1) by omega]
          rfl
    · show _ = some (Ex.exit 6, vs, hout)
      simp only [Tr.get] at hgt
      cases hq : xs.length / 16 with
      | zero =>
        rw [hq] at hgt
        cases hgt
        simp only [A6, clo6, List.length_cons, List.length_nil]
        rw [rr6w]
        refine nd_ofq ?_ (cond_fq (decide_eq_false (by omega)) rfl)
        simp only [List.mem_cons, List.not_mem_nil, or_false, forall_eq, decide_eq_true_eq]; omega
      | succ i =>
        rw [hq] at hgt
        cases hgt
        simp only [A6, clo6, List.length_cons, List.length_nil]
        rw [rr6s]
        refine nd_ofq ?_ (cond_fq (decide_eq_false (by omega)) rfl)
        simp only [List.mem_cons, List.not_mem_nil, or_false, forall_eq, decide_eq_true_eq]; omega
    · simp only [Tr.get] at hgt
      cases hq : decide (xs.length / 16 = 0) <;> rw [hq] at hgt <;> cases hgt <;> rfl
  · cases h

end Go.Proofs.YtdhnkkogbbhnmaaGreat

namespace Go.Proofs.YtdhnkkogbbhnmaaGreat
open Go
/-- What is left when all whole blocks are taken. -/
def dropQ (y : List Nat) : List Nat := y.drop (16 * (y.length / 16))

def rsN (pss : List (List Nat)) : Nat → List Nat
  | 0 => []
  | i + 1 => dropQ (rsN pss i ++ pss.getD i [])

def yN (pss : List (List Nat)) (i : Nat) : List Nat := rsN pss i ++ pss.getD i []

def asN (r a : List Nat) (pss : List (List Nat)) : Nat → List Nat
  | 0 => a
  | i + 1 => takesC r (asN r a pss i) (yN pss i) ((yN pss i).length / 16)

def ok41 (pss : List (List Nat)) : Bool := pss.all fun p => decide (p.length ≤ 2199023255552)

theorem ok41_get {pss : List (List Nat)} (h : ok41 pss = true) (j : Nat) : (pss.getD j []).length ≤ 2199023255552 := by
  rw [List.getD]
  cases hj : pss[j]? with
  | none => simp
  | some p =>
    have := List.all_eq_true.1 h p (List.mem_of_getElem? hj)
    simpa using this

theorem rsN_len (pss : List (List Nat)) (i : Nat) : (rsN pss i).length < 16 := by
  cases i with
  | zero => simp [rsN]
  | succ i => simp only [rsN, dropQ, List.length_drop]; omega

theorem asN_len {r a : List Nat} {pss : List (List Nat)} (h : a.length = 5) : ∀ i, (asN r a pss i).length = 5
  | 0 => h
  | i + 1 => takesC_len (asN_len h i) _

def slW (b l : Nat) : AV := .s (.sl .whole b 0 l 1)

def slS (b l : Nat) : AV := .s (.sl .suf b (16 * (l / 16)) (l - 16 * (l / 16)) 1)

def slQ (b l : Nat) : AV := cond (decide (l / 16 = 0)) (slW b l) (slS b l)

def S4 : LSem := ⟨[38, 39, 40, 11, 12], [11], fun args hin => match args, hin with
  | [.s (.xsl (.bss pss)), .s (.nat .i64 n), .s (.nat .i64 0), .s .nil, .s (.fn 123 [] [(0, 0), (1, 0)])], [[.ints .u64 5 a], [.ints .u64 5 r]] =>
    some (Tr.needs [decide (n = pss.length), decide (a.length = 5), decide (r.length = 5), decide (n < 9223372036854775808), ok41 pss]
      (.br (decide (n = 0)) (.leaf (.normal, [.s .nil], [some [.ints .u64 5 a], some [.ints .u64 5 r]]))
        (.br (decide ((yN pss (n - 1)).length / 16 = 0))
          (.leaf (.normal, [slW 2 (yN pss (n - 1)).length], [some [.ints .u64 5 (asN r a pss n)], some [.ints .u64 5 r], some [.ints .u8 (yN pss (n - 1)).length (yN pss (n - 1))]]))
          (.leaf (.normal, [slS 2 (yN pss (n - 1)).length], [some [.ints .u64 5 (asN r a pss n)], some [.ints .u64 5 r], some [.ints .u8 (yN pss (n - 1)).length (yN pss (n - 1))]])))))
  | _, _ => none⟩

set_option maxRecDepth 100000 in
theorem rr4n (pss : List (List Nat)) (n j : Nat) (a r : List Nat) : runR Tryz.prog [(123, F36)] [] .nat 7 [(6, S6)] Tryz.f100 4 S4 2 [.s (.xsl (.bss pss)), .s (.nat .i64 n), .s (.nat .i64 j), .s .nil, .s (.fn 123 [] [(0, 0), (1, 0)])] [some [.ints .u64 5 a], some [.ints .u64 5 r]] =
(cond (decide (j < n))
 (nd [decide (j < pss.length), decide (j < pss.length), decide ((pss.getD j []).length ≤ 4398046511104), decide ((pss.getD j []).length = (pss.getD j []).length), decide ((pss.getD j []).length = (pss.getD j []).length), decide (a.length = 5), decide (r.length = 5), decide ((pss.getD j []).length < 9223372036854775808)]
 (cond (decide ((pss.getD j []).length / 16 = 0))
 (nd [decide (j + 1 < 9223372036854775808)]
 (some (Ex.normal, [AV.s (SV.xsl (XC.bss pss)), AV.s (SV.nat IntKind.i64 n), AV.s (SV.nat IntKind.i64 (j + 1)), AV.s (SV.sl LK.whole (2) 0 (pss.getD j []).length 1), AV.s (SV.fn 123 [] [(0, 0), (1, 0)])], [some [Ch.ints IntKind.u64 5 a], some [Ch.ints IntKind.u64 5 r], some [Ch.ints IntKind.u8 (pss.getD j []).length (pss.getD j [])]])))
 (nd [decide (j + 1 < 9223372036854775808)]
 (some (Ex.normal, [AV.s (SV.xsl (XC.bss pss)), AV.s (SV.nat IntKind.i64 n), AV.s (SV.nat IntKind.i64 (j + 1)), AV.s (SV.sl LK.suf (2) (16 * ((pss.getD j []).length / 16)) ((pss.getD j []).length - 16 * ((pss.getD j []).length / 16)) 1), AV.s (SV.fn 123 [] [(0, 0), (1, 0)])], [some [Ch.ints IntKind.u64 5 (takesC r a (pss.getD j []) ((pss.getD j []).length / 16))], some [Ch.ints IntKind.u64 5 r], some [Ch.ints IntKind.u8 (pss.getD j []).length (pss.getD j [])]])))))
 (some (Ex.exit 4, [AV.s SV.nil], [some [Ch.ints IntKind.u64 5 a], some [Ch.ints IntKind.u64 5 r]]))) := by kernel_rfl

set_option maxRecDepth 100000 in
theorem rr4w (pss : List (List Nat)) (n j l : Nat) (a r xs : List Nat) : runR Tryz.prog [(123, F36)] [] .nat 7 [(6, S6)] Tryz.f100 4 S4 2 [.s (.xsl (.bss pss)), .s (.nat .i64 n), .s (.nat .i64 j), .s (.sl .whole 2 0 l 1), .s (.fn 123 [] [(0, 0), (1, 0)])] [some [.ints .u64 5 a], some [.ints .u64 5 r], some [.ints .u8 l xs]] =
(cond (decide (j < n))
 (nd [decide (j < pss.length), decide (j < pss.length), decide (l = l), decide (l + (pss.getD j []).length ≤ 4398046511104), decide (l + (pss.getD j []).length = l + (pss.getD j []).length), decide ((xs ++ pss.getD j []).length = l + (pss.getD j []).length), decide (a.length = 5), decide (r.length = 5), decide (l + (pss.getD j []).length < 9223372036854775808)]
 (cond (decide ((l + (pss.getD j []).length) / 16 = 0))
 (nd [decide (j + 1 < 9223372036854775808)]
 (some (Ex.normal, [AV.s (SV.xsl (XC.bss pss)), AV.s (SV.nat IntKind.i64 n), AV.s (SV.nat IntKind.i64 (j + 1)), AV.s (SV.sl LK.whole (2) 0 (l + (pss.getD j []).length) 1), AV.s (SV.fn 123 [] [(0, 0), (1, 0)])], [some [Ch.ints IntKind.u64 5 a], some [Ch.ints IntKind.u64 5 r], some [Ch.ints IntKind.u8 (l + (pss.getD j []).length) (xs ++ pss.getD j [])]])))
 (nd [decide (j + 1 < 9223372036854775808)]
 (some (Ex.normal, [AV.s (SV.xsl (XC.bss pss)), AV.s (SV.nat IntKind.i64 n), AV.s (SV.nat IntKind.i64 (j + 1)), AV.s (SV.sl LK.suf (2) (16 * ((l + (pss.getD j []).length) / 16)) (l + (pss.getD j []).length - 16 * ((l + (pss.getD j []).length) / 16)) 1), AV.s (SV.fn 123 [] [(0, 0), (1, 0)])], [some [Ch.ints IntKind.u64 5 (takesC r a (xs ++ pss.getD j []) ((l + (pss.getD j []).length) / 16))], some [Ch.ints IntKind.u64 5 r], some [Ch.ints IntKind.u8 (l + (pss.getD j []).length) (xs ++ pss.getD j [])]])))))
 (some (Ex.exit 4, [AV.s (SV.sl LK.whole (2) 0 l 1)], [some [Ch.ints IntKind.u64 5 a], some [Ch.ints IntKind.u64 5 r], some [Ch.ints IntKind.u8 l xs]]))) := by kernel_rfl

set_option maxRecDepth 100000 in
theorem rr4s (pss : List (List Nat)) (n j l off len : Nat) (a r xs : List Nat) : runR Tryz.prog [(123, F36)] [] .nat 7 [(6, S6)] Tryz.f100 4 S4 2 [.s (.xsl (.bss pss)), .s (.nat .i64 n), .s (.nat .i64 j), .s (.sl .suf 2 off len 1), .s (.fn 123 [] [(0, 0), (1, 0)])] [some [.ints .u64 5 a], some [.ints .u64 5 r], some [.ints .u8 l xs]] =
(cond (decide (j < n))
 (nd [decide (j < pss.length), decide (j < pss.length), decide (off + len = l), decide (len + (pss.getD j []).length ≤ 4398046511104), decide (len + (pss.getD j []).length = len + (pss.getD j []).length), decide ((List.drop off xs ++ pss.getD j []).length = len + (pss.getD j []).length), decide (a.length = 5), decide (r.length = 5), decide (len + (pss.getD j []).length < 9223372036854775808)]
 (cond (decide ((len + (pss.getD j []).length) / 16 = 0))
 (nd [decide (j + 1 < 9223372036854775808)]
 (some (Ex.normal, [AV.s (SV.xsl (XC.bss pss)), AV.s (SV.nat IntKind.i64 n), AV.s (SV.nat IntKind.i64 (j + 1)), AV.s (SV.sl LK.whole (2) 0 (len + (pss.getD j []).length) 1), AV.s (SV.fn 123 [] [(0, 0), (1, 0)])], [some [Ch.ints IntKind.u64 5 a], some [Ch.ints IntKind.u64 5 r], some [Ch.ints IntKind.u8 (len + (pss.getD j []).length) (List.drop off xs ++ pss.getD j [])]])))
 (nd [decide (j + 1 < 9223372036854775808)]
 (some (Ex.normal, [AV.s (SV.xsl (XC.bss pss)), AV.s (SV.nat IntKind.i64 n), AV.s (SV.nat IntKind.i64 (j + 1)), AV.s (SV.sl LK.suf (2) (16 * ((len + (pss.getD j []).length) / 16)) (len + (pss.getD j []).length - 16 * ((len + (pss.getD j []).length) / 16)) 1), AV.s (SV.fn 123 [] [(0, 0), (1, 0)])], [some [Ch.ints IntKind.u64 5 (takesC r a (List.drop off xs ++ pss.getD j []) ((len + (pss.getD j []).length) / 16))], some [Ch.ints IntKind.u64 5 r], some [Ch.ints IntKind.u8 (len + (pss.getD j []).length) (List.drop off xs ++ pss.getD j [])]])))))
 (some (Ex.exit 4, [AV.s (SV.sl LK.suf (2) off len 1)], [some [Ch.ints IntKind.u64 5 a], some [Ch.ints IntKind.u64 5 r], some [Ch.ints IntKind.u8 l xs]]))) := by kernel_rfl

def clo4 : AV := .s (.fn 123 [] [(0, 0), (1, 0)])

def A4 (pss : List (List Nat)) (r a : List Nat) : Nat → List AV × List (Option Blk)
  | 0 => ([.s (.xsl (.bss pss)), .s (.nat .i64 pss.length), .s (.nat .i64 0), .s .nil, clo4], [some [.ints .u64 5 a], some [.ints .u64 5 r]])
  | i + 1 => ([.s (.xsl (.bss pss)), .s (.nat .i64 pss.length), .s (.nat .i64 (i + 1)), slQ 2 (yN pss i).length, clo4], [some [.ints .u64 5 (asN r a pss (i + 1))], some [.ints .u64 5 r], some [.ints .u8 (yN pss i).length (yN pss i)]])

theorem yN_len (pss : List (List Nat)) (i : Nat) : (yN pss i).length = (rsN pss i).length + (pss.getD i []).length := by simp [yN]

theorem yN_small {pss : List (List Nat)} {i : Nat} (h : (yN pss i).length / 16 = 0) : rsN pss (i + 1) = yN pss i := by
  show dropQ (yN pss i) = _
  rw [dropQ, h]
  simp

theorem asN_small {r a : List Nat} {pss : List (List Nat)} {i : Nat} (h : (yN pss i).length / 16 = 0) : asN r a pss (i + 1) = asN r a pss i := by
  rw [asN, h]
  rfl

theorem stepA4 {pss : List (List Nat)} {r a : List Nat} (hn : pss.length < 9223372036854775808) (ha : a.length = 5) (hr : r.length = 5) (hk : ok41 pss = true) (i : Nat) (hi : i < pss.length) :
    runR Tryz.prog [(123, F36)] [] .nat 7 [(6, S6)] Tryz.f100 4 S4 2 (A4 pss r a i).1 (A4 pss r a i).2 = some (.normal, A4 pss r a (i + 1)) := by
  have h6 := ok41_get hk i
  have h7 := rsN_len pss i
  have h8 := yN_len pss i
  have h9 := asN_len (r := r) (pss := pss) ha i
  cases i with
  | zero =>
    simp only [A4, clo4]
    rw [rr4n]
    have e : yN pss 0 = pss.getD 0 [] := rfl
    refine cond_tq (decide_eq_true hi) (nd_ofq ?_ ?_)
    · simp only [List.mem_cons, List.not_mem_nil, or_false, forall_eq_or_imp, forall_eq, decide_eq_true_eq, true_and, and_true, List.length_append, List.length_drop]; omega
    · by_cases hq : (pss.getD 0 []).length / 16 = 0
      · refine cond_tq (decide_eq_true hq) (nd_ofq ?_ ?_)
        · simp only [List.mem_cons, List.not_mem_nil, or_false, forall_eq, decide_eq_true_eq]; omega
        · simp only [asN_small (e ▸ hq), e, slQ, decide_eq_true hq, cond_true]
          rfl
      · refine cond_fq (decide_eq_false hq) (nd_ofq ?_ ?_)
        · simp only [List.mem_cons, List.not_mem_nil, or_false, forall_eq, decide_eq_true_eq]; omega
        · simp only [asN, e, slQ, decide_eq_false hq, cond_false]
          rfl
  | succ i =>
    have g1 := yN_len pss i
    have g2 := rsN_len pss i
    have g3 := ok41_get hk i
    simp only [A4, clo4, slQ]
    by_cases hp : (yN pss i).length / 16 = 0
    · rw [decide_eq_true hp, cond_true, slW, rr4w]
      have e : yN pss i ++ pss.getD (i + 1) [] = yN pss (i + 1) := by rw [← yN_small hp]; rfl
      have el : (yN pss i).length + (pss.getD (i + 1) []).length = (yN pss (i + 1)).length := by rw [← e]; simp
      rw [e, el]
      refine cond_tq (decide_eq_true hi) (nd_ofq ?_ ?_)
      · simp only [List.mem_cons, List.not_mem_nil, or_false, forall_eq_or_imp, forall_eq, decide_eq_true_eq, true_and, and_true, List.length_append, List.length_drop]; omega
      · by_cases hq : (yN pss (i + 1)).length / 16 = 0
        · refine cond_tq (decide_eq_true hq) (nd_ofq ?_ ?_)
          · simp only [List.mem_cons, List.not_mem_nil, or_false, forall_eq, decide_eq_true_eq]; omega
          · rw [asN_small hq, decide_eq_true hq, cond_true]
            rfl
        · refine cond_fq (decide_eq_false hq) (nd_ofq ?_ ?_)
          · simp only [List.mem_cons, List.not_mem_nil, or_false, forall_eq, decide_eq_true_eq]; omega
          · rw [decide_eq_false hq, cond_false]
            rfl
    · rw [decide_eq_false hp, cond_false, slS, rr4s]
      have e : List.drop (16 * ((yN pss i).length / 16)) (yN pss i) ++ pss.getD (i + 1) [] = yN pss (i + 1) := rfl
      have el : (yN pss i).length - 16 * ((yN pss i).length / 16) + (pss.getD (i + 1) []).length = (yN pss (i + 1)).length := by rw [← e]; simp
      rw [e, el]
      refine cond_tq (decide_eq_true hi) (nd_ofq ?_ ?_)
      · simp only [List.mem_cons, List.not_mem_nil, or_false, forall_eq_or_imp, forall_eq, decide_eq_true_eq, true_and, and_true, List.length_append, List.length_drop]; omega
      · by_cases hq : (yN pss (i + 1)).length / 16 = 0
        · refine cond_tq (decide_eq_true hq) (nd_ofq ?_ ?_)
          · simp only [List.mem_cons, List.not_mem_nil, or_false, forall_eq, decide_eq_true_eq]; omega
          · rw [asN_small hq, decide_eq_true hq, cond_true]
            rfl
        · refine cond_fq (decide_eq_false hq) (nd_ofq ?_ ?_)
          · simp only [List.mem_cons, List.not_mem_nil, or_false, forall_eq, decide_eq_true_eq]; omega
          · rw [decide_eq_false hq, cond_false]
            rfl

theorem loops6 : LoopsOk Tryz.prog ⟨Tryz.f100.ntmps, 7, [(6, S6)]⟩ (lb 4 Tryz.f100) := by
  refine loopsOk_of ?_
  have e : loopsIn [(6, S6)] (lb 4 Tryz.f100) = [(6, .loop (lb 6 Tryz.f100), S6)] := by kernel_rfl
  simp only [e]
  intro x hx
  simp only [List.mem_cons, List.not_mem_nil, or_false] at hx
  subst hx
  exact lok6

theorem lok4 : LOk Tryz.prog Tryz.f100.ntmps (.block 4 (.loop (lb 4 Tryz.f100))) S4 := by
  refine lokR (fs := [(123, F36)]) (xs := []) (m := .nat) (fuel := 7) (sums := [(6, S6)]) (.cons ok36 .nil) mixedP loops6 ?_
  intro args hin t e vs hout h hg
  unfold S4 at h
  simp only at h
  split at h
  · rename_i pss n a r
    simp only [Option.some.injEq] at h
    subst h
    obtain ⟨hc, hgt⟩ := Tr.needs_get hg
    clear hg
    have e1 : n = pss.length := of_decide_eq_true (hc _ (by simp))
    have e3 : a.length = 5 := of_decide_eq_true (hc (decide (a.length = 5)) (by simp))
    have e4 : r.length = 5 := of_decide_eq_true (hc (decide (r.length = 5)) (by simp))
    have e5 : n < 9223372036854775808 := of_decide_eq_true (hc (decide (n < 9223372036854775808)) (by simp))
    have e6 : ok41 pss = true := hc _ (by simp)
    clear hc
    subst e1
    refine ⟨pss.length, A4 pss r a, .exit 4, rfl, fun i hi => stepA4 e5 e3 e4 e6 i hi, ?_, ?_⟩
    · show _ = some (Ex.exit 4, vs, hout)
      simp only [Tr.get] at hgt
      cases hl : pss.length with
      | zero =>
        rw [hl] at hgt
        cases hgt
        simp only [A4, clo4, hl, List.length_cons, List.length_nil]
        rw [rr4n]
        exact cond_fq rfl rfl
      | succ i =>
        rw [hl] at hgt
        rw [decide_eq_false (by omega : ¬ i + 1 = 0), cond_false, Nat.add_sub_cancel] at hgt
        simp only [A4, clo4, hl, slQ, List.length_cons, List.length_nil]
        cases hq : decide ((yN pss i).length / 16 = 0) with
        | true =>
          rw [hq] at hgt
          cases hgt
          rw [cond_true, slW, rr4w]
          exact cond_fq (decide_eq_false (Nat.lt_irrefl _)) rfl
        | false =>
          rw [hq] at hgt
          cases hgt
          rw [cond_false, slS, rr4s]
          exact cond_fq (decide_eq_false (Nat.lt_irrefl _)) rfl
    · simp only [Tr.get] at hgt
      cases hz : decide (pss.length = 0) <;> rw [hz] at hgt
      · cases hq : decide ((yN pss (pss.length - 1)).length / 16 = 0) <;> rw [hq] at hgt <;> cases hgt <;> rfl
      · cases hgt; rfl
  · cases h

end Go.Proofs.YtdhnkkogbbhnmaaGreat

namespace Go.Proofs.YtdhnkkogbbhnmaaGreat
open Go
def clampM (key : List Nat) (i m : Nat) : List Nat := key.set i (key.getD i 0 &&& m)

def clampK (key : List Nat) : List Nat := clampM (clampM (clampM (clampM (clampM (clampM (clampM key 3 15) 7 15) 11 15) 15 15) 4 252) 8 252) 12 252

theorem fn25q : Fn Tryz.prog 100 Tryz.f100 := ⟨mixedP, Tryz.func100, by kernel_rfl, of_decide_eq_true (by kernel_rfl)⟩

theorem loops25 : LoopsOk Tryz.prog ⟨Tryz.f100.ntmps, 7, [(4, S4)]⟩ (bodyOf Tryz.f100) := by
  refine loopsOk_of ?_
  have e : loopsIn [(4, S4)] (bodyOf Tryz.f100) = [(4, .loop (lb 4 Tryz.f100), S4)] := by kernel_rfl
  simp only [e]
  intro x hx
  simp only [List.mem_cons, List.not_mem_nil, or_false] at hx
  subst hx
  exact lok4

set_option maxRecDepth 100000 in
theorem r25q (pss : List (List Nat)) (key : List Nat) : runL Tryz.prog [(122, F35q), (123, F36), (125, F38q)] [] .nat 7 [(4, S4)] Tryz.f100 [.agg [.ints .u8 32 key], .s (.xsl (.bss pss))] [] =
(nd [decide ((List.take 16 (clampK key)).length ≤ 17), decide (pss.length < 9223372036854775808), decide (pss.length = pss.length), decide ((numb (List.take 16 (clampK key))).length = 5), decide (pss.length < 9223372036854775808), ok41 pss]
 (cond (decide (pss.length = 0))
 (nd [(clampK key).all fun k => decide (k < 256)]
 (some (AV.agg [Ch.ints IntKind.u8 16 (finL [0, 0, 0, 0, 0] (clampK key))], [])))
 (cond (decide ((yN pss (pss.length - 1)).length / 16 = 0))
 (nd [decide ((yN pss (pss.length - 1)).length < 9223372036854775808)]
 (cond (decide (0 < (yN pss (pss.length - 1)).length))
 (nd [decide ((yN pss (pss.length - 1)).length = (yN pss (pss.length - 1)).length), decide ((yN pss (pss.length - 1)).length = (yN pss (pss.length - 1)).length), decide ((yN pss (pss.length - 1)).length ≤ 16), decide ((asN (numb (List.take 16 (clampK key))) [0, 0, 0, 0, 0] pss pss.length).length = 5), decide ((numb (List.take 16 (clampK key))).length = 5), (clampK key).all fun k => decide (k < 256)]
 (some (AV.agg [Ch.ints IntKind.u8 16 (finL (stepC (numb (List.take 16 (clampK key))) (asN (numb (List.take 16 (clampK key))) [0, 0, 0, 0, 0] pss pss.length) (yN pss (pss.length - 1))) (clampK key))], [])))
 (nd [decide ((asN (numb (List.take 16 (clampK key))) [0, 0, 0, 0, 0] pss pss.length).length = 5), (clampK key).all fun k => decide (k < 256)]
 (some (AV.agg [Ch.ints IntKind.u8 16 (finL (asN (numb (List.take 16 (clampK key))) [0, 0, 0, 0, 0] pss pss.length) (clampK key))], [])))))
 (nd [decide ((yN pss (pss.length - 1)).length - 16 * ((yN pss (pss.length - 1)).length / 16) < 9223372036854775808)]
 (cond (decide (0 < (yN pss (pss.length - 1)).length - 16 * ((yN pss (pss.length - 1)).length / 16)))
 (nd [decide (16 * ((yN pss (pss.length - 1)).length / 16) + ((yN pss (pss.length - 1)).length - 16 * ((yN pss (pss.length - 1)).length / 16)) = (yN pss (pss.length - 1)).length), decide ((List.drop (16 * ((yN pss (pss.length - 1)).length / 16)) (yN pss (pss.length - 1))).length = (yN pss (pss.length - 1)).length - 16 * ((yN pss (pss.length - 1)).length / 16)), decide ((yN pss (pss.length - 1)).length - 16 * ((yN pss (pss.length - 1)).length / 16) ≤ 16), decide ((asN (numb (List.take 16 (clampK key))) [0, 0, 0, 0, 0] pss pss.length).length = 5), decide ((numb (List.take 16 (clampK key))).length = 5), (clampK key).all fun k => decide (k < 256)]
 (some (AV.agg [Ch.ints IntKind.u8 16 (finL (stepC (numb (List.take 16 (clampK key))) (asN (numb (List.take 16 (clampK key))) [0, 0, 0, 0, 0] pss pss.length) (List.drop (16 * ((yN pss (pss.length - 1)).length / 16)) (yN pss (pss.length - 1)))) (clampK key))], [])))
 (nd [decide ((asN (numb (List.take 16 (clampK key))) [0, 0, 0, 0, 0] pss pss.length).length = 5), (clampK key).all fun k => decide (k < 256)]
 (some (AV.agg [Ch.ints IntKind.u8 16 (finL (asN (numb (List.take 16 (clampK key))) [0, 0, 0, 0, 0] pss pss.length) (clampK key))], [])))))))) := by kernel_rfl

def rK (key : List Nat) : List Nat := numb ((clampK key).take 16)

def lastC (r a y : List Nat) : List Nat := if 0 < y.length then stepC r a y else a

def tagC (key : List Nat) (pss : List (List Nat)) : List Nat :=
  finL (lastC (rK key) (asN (rK key) [0, 0, 0, 0, 0] pss pss.length) (rsN pss pss.length)) (clampK key)

def okKey (key : List Nat) : Bool := key.all fun k => decide (k < 256)

def F25q : FSem := ⟨true, fun args hin => match args, hin with
  | [.agg [.ints .u8 32 key], .s (.xsl (.bss pss))], [] => some (Tr.needs [decide (pss.length < 9223372036854775808), ok41 pss, okKey key] (.leaf (.agg [.ints .u8 16 (tagC key pss)], [])))
  | _, _ => none⟩

theorem numStep_len (x : List Nat) (j v : Nat) : (numStep x j v).length = x.length := by
  unfold numStep numStep2 numStep1
  split <;> simp

theorem numN_len (xs : List Nat) : ∀ j, (numN xs j).length = 5
  | 0 => rfl
  | j + 1 => by rw [numN, numStep_len, numN_len xs j]

theorem numb_len (xs : List Nat) : (numb xs).length = 5 := numN_len xs _

theorem okKey_set {key : List Nat} (h : okKey key = true) (i : Nat) {v : Nat} (hv : v < 256) : okKey (key.set i v) = true := by
  refine List.all_eq_true.2 fun x hx => ?_
  rcases List.mem_or_eq_of_mem_set hx with h' | h'
  · exact List.all_eq_true.1 h x h'
  · subst h'; exact decide_eq_true hv

theorem okKey_clampM {key : List Nat} (h : okKey key = true) (i m : Nat) : okKey (clampM key i m) = true :=
  okKey_set h i (Nat.lt_of_le_of_lt Nat.and_le_left (key_lt h i))

theorem okKey_clamp {key : List Nat} (h : okKey key = true) : okKey (clampK key) = true :=
  okKey_clampM (okKey_clampM (okKey_clampM (okKey_clampM (okKey_clampM (okKey_clampM (okKey_clampM h _ _) _ _) _ _) _ _) _ _) _ _) _ _

theorem ok25q : FOk Tryz.prog 100 F25q := by
  refine fokL (fs := [(122, F35q), (123, F36), (125, F38q)]) (xs := []) (m := .nat) (fuel := 7) (sums := [(4, S4)]) (.cons ok35q (.cons ok36 (.cons ok38q .nil))) fn25q loops25 ?_
  intro args hin t r h hg
  unfold F25q at h
  simp only at h
  split at h
  · rename_i key pss
    cases h
    obtain ⟨hc, hgt⟩ := Tr.needs_get hg
    cases hgt
    have h1 : pss.length < 9223372036854775808 := of_decide_eq_true (hc _ (by simp))
    have h2 : ok41 pss = true := hc _ (by simp)
    have h3 : okKey key = true := hc (okKey key) (by simp)
    clear hc hg
    have hK : ((clampK key).all fun k => decide (k < 256)) = true := okKey_clamp h3
    rw [r25q]
    unfold tagC rK
    have hnl := numb_len (List.take 16 (clampK key))
    have hal := asN_len (r := numb (List.take 16 (clampK key))) (a := [0, 0, 0, 0, 0]) (pss := pss) rfl pss.length
    refine nd_ofq ?_ ?_
    · simp only [List.mem_cons, List.not_mem_nil, or_false, forall_eq_or_imp, forall_eq, decide_eq_true_eq, true_and, hnl, h2, List.length_take, and_true]; omega
    by_cases hz : pss.length = 0
    · refine cond_tq (decide_eq_true hz) (nd_ofq ?_ ?_)
      · simp only [List.mem_cons, List.not_mem_nil, or_false, forall_eq, hK]
      · rw [hz]; rfl
    · refine cond_fq (decide_eq_false hz) ?_
      obtain ⟨i, hi⟩ : ∃ i, pss.length = i + 1 := ⟨pss.length - 1, by omega⟩
      have hl : (yN pss i).length < 16 + 2199023255552 := by
        have := rsN_len pss i
        have := ok41_get h2 i
        rw [yN_len]; omega
      rw [hi] at hal
      rw [hi, Nat.add_sub_cancel]
      by_cases hq : (yN pss i).length / 16 = 0
      · refine cond_tq (decide_eq_true hq) (nd_ofq ?_ ?_)
        · simp only [List.mem_cons, List.not_mem_nil, or_false, forall_eq, decide_eq_true_eq]; omega
        · rw [yN_small hq]
          by_cases hp : 0 < (yN pss i).length
          · refine cond_tq (decide_eq_true hp) (nd_ofq ?_ ?_)
            · simp only [List.mem_cons, List.not_mem_nil, or_false, forall_eq_or_imp, forall_eq, decide_eq_true_eq, true_and, and_true, List.length_drop, hnl, hal, hK]; omega
            · rw [lastC, if_pos hp]
          · refine cond_fq (decide_eq_false hp) (nd_ofq ?_ ?_)
            · simp only [List.mem_cons, List.not_mem_nil, or_false, forall_eq_or_imp, forall_eq, decide_eq_true_eq, hal, hK, and_self]
            · rw [lastC, if_neg hp]
      · have e : rsN pss (i + 1) = List.drop (16 * ((yN pss i).length / 16)) (yN pss i) := rfl
        have el : (rsN pss (i + 1)).length = (yN pss i).length - 16 * ((yN pss i).length / 16) := by rw [e, List.length_drop]
        refine cond_fq (decide_eq_false hq) (nd_ofq ?_ ?_)
        · simp only [List.mem_cons, List.not_mem_nil, or_false, forall_eq, decide_eq_true_eq]; omega
        · rw [← e, ← el]
          by_cases hp : 0 < (rsN pss (i + 1)).length
          · refine cond_tq (decide_eq_true hp) (nd_ofq ?_ ?_)
            · simp only [List.mem_cons, List.not_mem_nil, or_false, forall_eq_or_imp, forall_eq, decide_eq_true_eq, true_and, and_true, List.length_drop, hnl, hal, hK]; omega
            · rw [lastC, if_pos hp]
          · refine cond_fq (decide_eq_false hp) (nd_ofq ?_ ?_)
            · simp only [List.mem_cons, List.not_mem_nil, or_false, forall_eq_or_imp, forall_eq, decide_eq_true_eq, hal, hK, and_self]
            · rw [lastC, if_neg hp]
  · cases h

end Go.Proofs.YtdhnkkogbbhnmaaGreat

namespace Go.Proofs.YtdhnkkogbbhnmaaGreat
open Go
/-- The first i parts, and how long they are. -/
def catN (pss : List (List Nat)) : Nat → List Nat
  | 0 => []
  | i + 1 => catN pss i ++ pss.getD i []

def lenN (pss : List (List Nat)) : Nat → Nat
  | 0 => 0
  | i + 1 => lenN pss i + (pss.getD i []).length

/-- How many parts go in, of which the sum is at most m. -/
def badAt (m : Nat) : List (List Nat) → Nat → Nat
  | [], _ => 0
  | p :: ps, l => match decide (m - l < p.length) with
    | true => 0
    | false => badAt m ps (l + p.length) + 1

theorem catN_len (pss : List (List Nat)) : ∀ i, (catN pss i).length = lenN pss i
  | 0 => rfl
  | i + 1 => by simp [catN, lenN, catN_len pss i]

theorem lenN_shift (p : List Nat) (ps : List (List Nat)) : ∀ i, lenN (p :: ps) (i + 1) = p.length + lenN ps i
  | 0 => by simp [lenN]
  | i + 1 => by
    rw [lenN, lenN_shift p ps i, lenN]
    simp; omega

theorem badAt_spec (m : Nat) : ∀ (ps : List (List Nat)) (l : Nat), l ≤ m → badAt m ps l ≤ ps.length ∧ l + lenN ps (badAt m ps l) ≤ m ∧ (badAt m ps l < ps.length → m - (l + lenN ps (badAt m ps l)) < (ps.getD (badAt m ps l) []).length) ∧
    ∀ i, i < badAt m ps l → ¬ (m - (l + lenN ps i) < (ps.getD i []).length)
  | [], l, h => by simp [badAt, lenN, h]
  | p :: ps, l, h => by
    unfold badAt
    split
    · rename_i hd
      have hd : m - l < p.length := of_decide_eq_true hd
      refine ⟨Nat.zero_le _, by simpa [lenN] using h, fun _ => by simpa [lenN] using hd, fun i hi => by omega⟩
    · rename_i hd
      have hd : ¬ m - l < p.length := of_decide_eq_false hd
      obtain ⟨h1, h2, h3, h4⟩ := badAt_spec m ps (l + p.length) (by omega)
      refine ⟨by simp; omega, by rw [lenN_shift]; omega, fun hlt => ?_, fun i hi => ?_⟩
      · rw [lenN_shift]
        have := h3 (by simp at hlt; omega)
        rw [List.getD_cons_succ]
        omega
      · cases i with
        | zero => simpa [lenN] using hd
        | succ i =>
          rw [lenN_shift, List.getD_cons_succ]
          have := h4 i (by omega)
          omega

theorem lenN_mono (ps : List (List Nat)) {i j : Nat} (h : i ≤ j) : lenN ps i ≤ lenN ps j := by
  induction j with
  | zero => have : i = 0 := by omega
            subst this; exact Nat.le_refl _
  | succ j ih =>
    rcases Nat.lt_or_ge i (j + 1) with h' | h'
    · exact Nat.le_trans (ih (by omega)) (by rw [lenN]; omega)
    · have : i = j + 1 := by omega
      subst this; exact Nat.le_refl _

/-- All go in just if their sum is at most m. -/
theorem badAt_all (m : Nat) (ps : List (List Nat)) : badAt m ps 0 = ps.length ↔ lenN ps ps.length ≤ m := by
  obtain ⟨h1, h2, h3, h4⟩ := badAt_spec m ps 0 (Nat.zero_le _)
  constructor
  · intro e; rw [e] at h2; omega
  · intro e
    rcases Nat.lt_or_ge (badAt m ps 0) ps.length with h | h
    · exfalso
      have := h3 h
      have := lenN_mono ps (show badAt m ps 0 + 1 ≤ ps.length by omega)
      rw [lenN] at this
      omega
    · omega

end Go.Proofs.YtdhnkkogbbhnmaaGreat

namespace Go.Proofs.YtdhnkkogbbhnmaaGreat
open Go
theorem lenN_mono' (pss : List (List Nat)) {i j : Nat} (h : i ≤ j) : lenN pss i ≤ lenN pss j := by
  induction h with
  | refl => exact Nat.le_refl _
  | step _ ih => rw [lenN]; omega

theorem okKey_of {key : List Nat} (h : ∀ x ∈ key, x < 256) : okKey key = true := List.all_eq_true.2 fun x hx => decide_eq_true (h x hx)

end Go.Proofs.YtdhnkkogbbhnmaaGreat

namespace Go.Proofs.YtdhnkkogbbhnmaaGreat
open Go
/-- Four bytes, the least first. -/
def wd (xs : List Nat) (o : Nat) : Nat :=
  ((xs.getD o 0 ||| xs.getD (o + 1) 0 * 2 ^ 8 % 4294967296) ||| xs.getD (o + 2) 0 * 2 ^ 16 % 4294967296) ||| xs.getD (o + 3) 0 * 2 ^ 24 % 4294967296

def okW (off len n : Nat) : Bool := Nat.ble 4 len && Nat.ble (off + 4) n

def F32 : FSem := ⟨false, fun args hin => match args, hin with
  | [.s (.sl _ 0 off len 1)], [[.ints .u8 n xs]] => match okW off len n with
    | true => some (.leaf (.s (.nat .u32 (wd xs off)), [some [.ints .u8 n xs]]))
    | false => none
  | _, _ => none⟩

theorem fn32 : Fn Tryz.prog 120 Tryz.f120 := ⟨mixed, Tryz.func120, by kernel_rfl, of_decide_eq_true (by kernel_rfl)⟩

def cs32 (off len n : Nat) : List Bool :=
  [decide (0 < len), decide (addOff off 0 < n), decide (1 < len), decide (addOff off 1 < n), decide (2 < len), decide (addOff off 2 < n), decide (3 < len), decide (addOff off 3 < n)]

def w32 (xs : List Nat) (off : Nat) : Nat :=
  ((xs.getD (addOff off 0) 0 ||| xs.getD (addOff off 1) 0 * 2 ^ 8 % 4294967296) ||| xs.getD (addOff off 2) 0 * 2 ^ 16 % 4294967296) ||| xs.getD (addOff off 3) 0 * 2 ^ 24 % 4294967296

set_option maxRecDepth 100000 in
theorem r32 (m : LK) (off len n : Nat) (xs : List Nat) : runB Tryz.prog [] [] .nat 1 Tryz.f120 [.s (.sl m 0 off len 1)] [[.ints .u8 n xs]] = nd (cs32 off len n) (some (.s (.nat .u32 (w32 xs off)), [some [.ints .u8 n xs]])) := by kernel_rfl

theorem ok32 : FOk Tryz.prog 120 F32 := by
  refine fokB (fs := []) (xs := []) (m := .nat) (fuel := 1) EnvOk.nil fn32 ?_
  intro args hin t r h hg
  unfold F32 at h
  simp only at h
  split at h
  · rename_i m off len n xs
    split at h
    · rename_i hq
      cases h; cases hg
      rw [r32, nd_true]
      · simp only [w32, wd, addOff_eq', Nat.add_zero]
      · simp only [okW, Bool.and_eq_true, Nat.ble_eq] at hq
        simp only [cs32, addOff_eq', List.mem_cons, List.not_mem_nil, or_false, forall_eq_or_imp, forall_eq, decide_eq_true_eq]
        omega
    · cases h
  · cases h

end Go.Proofs.YtdhnkkogbbhnmaaGreat

namespace Go.Proofs.YtdhnkkogbbhnmaaGreat
open Go
def dr (s : List Nat) : List Nat :=
  qr (qr (qr (qr (qr (qr (qr (qr s 0 4 8 12) 1 5 9 13) 2 6 10 14) 3 7 11 15) 0 5 10 15) 1 6 11 12) 2 7 8 13) 3 4 9 14

def rounds (s : List Nat) : Nat → List Nat
  | 0 => s
  | n + 1 => dr (rounds s n)

def upto (f : Nat → Nat) : Nat → Nat → List Nat
  | 0, _ => []
  | n + 1, i => f i :: upto f n (i + 1)

def st0 (key nonce : List Nat) (n : Nat) : List Nat :=
  [1634760805, 857760878, 2036477234, 1797285236, wd key 0, wd key 4, wd key 8, wd key 12, wd key 16, wd key 20, wd key 24, wd key 28, n, wd nonce 0, wd nonce 4, wd nonce 8]

def outB (x s : List Nat) : List Nat := upto (fun i => (x.getD (i / 4) 0 + s.getD (i / 4) 0) % 4294967296 / 2 ^ (8 * (i % 4)) % 256) 64 0

def blk (key nonce : List Nat) (n : Nat) : List Nat := outB (rounds (st0 key nonce n) 10) (st0 key nonce n)

def F20 : FSem := ⟨false, fun args hin => match args, hin with
  | [.agg [.ints .u8 32 key], .agg [.ints .u8 12 nonce], .s (.nat .u32 n)], [] => some (.leaf (.agg [.ints .u8 64 (blk key nonce n)], []))
  | _, _ => none⟩

theorem fn20q : Fn Tryz.prog 99 Tryz.f99 := ⟨mixed, Tryz.func99, by kernel_rfl, of_decide_eq_true (by kernel_rfl)⟩

set_option maxRecDepth 100000 in
theorem r20q (key nonce : List Nat) (n : Nat) : runB Tryz.prog [(120, F32), (121, F33q)] [] .nat 70 Tryz.f99 [.agg [.ints .u8 32 key], .agg [.ints .u8 12 nonce], .s (.nat .u32 n)] [] = some (.agg [.ints .u8 64 (blk key nonce n)], []) := by kernel_rfl

theorem ok20 : FOk Tryz.prog 99 F20 := by
  refine fokB (fs := [(120, F32), (121, F33q)]) (xs := []) (m := .nat) (fuel := 70) (.cons ok32 (.cons ok33q .nil)) fn20q ?_
  intro args hin t r h hg
  unfold F20 at h
  simp only at h
  split at h
  · cases h; cases hg
    exact r20q _ _ _
  · cases h

end Go.Proofs.YtdhnkkogbbhnmaaGreat

namespace Go.Proofs.YtdhnkkogbbhnmaaGreat
open Go
def okLens (pss : List (List Nat)) : Bool := pss.all fun p => decide (p.length < 9223372036854775808)

def slN (pss : List (List Nat)) (i : Nat) : AV := .s (.sl .whole 0 0 (lenN pss i) 1)

def hsN (pss : List (List Nat)) (i : Nat) : List (Option Blk) := [some [.ints .u8 (lenN pss i) (catN pss i)]]

def S0 : LSem := ⟨[15, 16, 17, 10], [10, 8, 9], fun args hin => match args, hin with
  | [.s (.xsl (.bss pss)), .s (.nat .i64 n), .s (.nat .i64 0), .s .nil], [] =>
    some (Tr.needs [decide (n = pss.length), decide (n < 9223372036854775808), okLens pss]
      (.br (decide (badAt 16777216 pss 0 = pss.length))
        (.br (decide (pss.length = 0)) (.leaf (.normal, [.s .nil, .any, .any], [])) (.leaf (.normal, [.s (.sl .whole 0 0 (lenN pss pss.length) 1), .any, .any], [some [.ints .u8 (lenN pss pss.length) (catN pss pss.length)]])))
        (.br (decide (badAt 16777216 pss 0 = 0)) (.leaf (.ret, [.s .nil, .s .nil, .s (.nat .i64 2)], []))
          (.leaf (.ret, [.s (.sl .whole 0 0 (lenN pss (badAt 16777216 pss 0)) 1), .s .nil, .s (.nat .i64 2)], [some [.ints .u8 (lenN pss (badAt 16777216 pss 0)) (catN pss (badAt 16777216 pss 0))]])))))
  | _, _ => none⟩

set_option maxRecDepth 100000 in
theorem rA0 (pss : List (List Nat)) (n : Nat) : runR Tryz.prog [] [] .nat 3 [] Tryz.f57 0 S0 0 [.s (.xsl (.bss pss)), .s (.nat .i64 n), .s (.nat .i64 0), .s .nil] [] =
    cond (decide (0 < n)) (nd [decide (0 < pss.length), decide (0 < pss.length), decide ((pss.getD 0 []).length < 9223372036854775808)]
      (cond (decide (16777216 - 0 < (pss.getD 0 []).length)) (some (.ret, [.s .nil, .s .nil, .s (.nat .i64 2)], []))
        (nd [decide ((pss.getD 0 []).length ≤ 4398046511104)] (some (.normal, [.s (.xsl (.bss pss)), .s (.nat .i64 n), .s (.nat .i64 (0 + 1)), .s (.sl .whole 0 0 (pss.getD 0 []).length 1)], [some [.ints .u8 (pss.getD 0 []).length (pss.getD 0 [])]])))))
      (some (.exit 0, [.s .nil, .any, .any], [])) := by kernel_rfl

set_option maxRecDepth 100000 in
theorem rA (pss : List (List Nat)) (n j l : Nat) (xs : List Nat) : runR Tryz.prog [] [] .nat 3 [] Tryz.f57 0 S0 0 [.s (.xsl (.bss pss)), .s (.nat .i64 n), .s (.nat .i64 j), .s (.sl .whole 0 0 l 1)] [some [.ints .u8 l xs]] =
    cond (decide (j < n)) (nd [decide (j < pss.length), decide (j < pss.length), decide ((pss.getD j []).length < 9223372036854775808), decide (l < 9223372036854775808), decide (l ≤ 16777216)]
      (cond (decide (16777216 - l < (pss.getD j []).length)) (some (.ret, [.s (.sl .whole 0 0 l 1), .s .nil, .s (.nat .i64 2)], [some [.ints .u8 l xs]]))
        (nd [decide (l = l), decide (l + (pss.getD j []).length ≤ 4398046511104), decide (j + 1 < 9223372036854775808)]
          (some (.normal, [.s (.xsl (.bss pss)), .s (.nat .i64 n), .s (.nat .i64 (j + 1)), .s (.sl .whole 0 0 (l + (pss.getD j []).length) 1)], [some [.ints .u8 (l + (pss.getD j []).length) (xs ++ pss.getD j [])]])))))
      (some (.exit 0, [.s (.sl .whole 0 0 l 1), .any, .any], [some [.ints .u8 l xs]])) := by kernel_rfl

theorem okLens_get {pss : List (List Nat)} (h : okLens pss = true) (j : Nat) : (pss.getD j []).length < 9223372036854775808 := by
  rw [List.getD]
  cases hj : pss[j]? with
  | none => simp
  | some p =>
    have := List.all_eq_true.1 h p (List.mem_of_getElem? hj)
    simpa using this

def A22 (pss : List (List Nat)) : Nat → List AV × List (Option Blk)
  | 0 => ([.s (.xsl (.bss pss)), .s (.nat .i64 pss.length), .s (.nat .i64 0), .s .nil], [])
  | i + 1 => ([.s (.xsl (.bss pss)), .s (.nat .i64 pss.length), .s (.nat .i64 (i + 1)), slN pss (i + 1)], hsN pss (i + 1))

theorem stepA {pss : List (List Nat)} (hl : pss.length < 9223372036854775808) (hk : okLens pss = true) (i : Nat) (hi : i < badAt 16777216 pss 0) :
    runR Tryz.prog [] [] .nat 3 [] Tryz.f57 0 S0 0 (A22 pss i).1 (A22 pss i).2 = some (.normal, A22 pss (i + 1)) := by
  obtain ⟨h1, h2, h3, h4⟩ := badAt_spec 16777216 pss 0 (Nat.zero_le _)
  have h5 := h4 i hi
  have h6 := okLens_get hk i
  have h7 := lenN_mono pss (show i + 1 ≤ badAt 16777216 pss 0 by omega)
  rw [lenN] at h7
  cases i with
  | zero =>
    simp only [A22]
    rw [rA0, decide_eq_true (by omega : 0 < pss.length), cond_true, nd_true, decide_eq_false (by simp only [lenN] at h5; omega), cond_false, nd_true]
    · simp only [slN, hsN, lenN, catN, Nat.zero_add, List.nil_append]
    · intro c hc
      simp only [List.mem_cons, List.not_mem_nil, or_false] at hc
      subst hc
      simp only [lenN] at h5
      exact decide_eq_true (by omega)
    · intro c hc
      simp only [List.mem_cons, List.not_mem_nil, or_false] at hc
      rcases hc with rfl | rfl | rfl <;> first | rfl | exact decide_eq_true (by omega)
  | succ i =>
    simp only [A22, slN, hsN]
    rw [rA, decide_eq_true (by omega : i + 1 < pss.length), cond_true, nd_true, decide_eq_false (by omega : ¬ (16777216 - lenN pss (i + 1) < (pss.getD (i + 1) []).length)), cond_false, nd_true]
    · rfl
    · intro c hc
      simp only [List.mem_cons, List.not_mem_nil, or_false] at hc
      rcases hc with rfl | rfl | rfl <;> first | rfl | exact decide_eq_true (by omega)
    · intro c hc
      simp only [List.mem_cons, List.not_mem_nil, or_false] at hc
      rcases hc with rfl | rfl | rfl | rfl | rfl <;> first | rfl | exact decide_eq_true (by omega)

theorem lok0 : LOk Tryz.prog Tryz.f57.ntmps (.block 0 (.loop (lb 0 Tryz.f57))) S0 := by
  refine lokR (fs := []) (xs := []) (m := .nat) (fuel := 3) (sums := []) EnvOk.nil mixed (loopsOk_none rfl _) ?_
  intro args hin t e vs hout h hg
  unfold S0 at h
  simp only at h
  split at h
  rotate_left
  · cases h
  rename_i pss n
  simp only [Option.some.injEq] at h
  subst h
  obtain ⟨hc, hgt⟩ := Tr.needs_get hg
  clear hg
  have e1 : n = pss.length := of_decide_eq_true (hc _ (by simp))
  subst e1
  have hl : pss.length < 9223372036854775808 := of_decide_eq_true (hc (decide (pss.length < 9223372036854775808)) (by simp))
  have hk : okLens pss = true := hc _ (by simp)
  obtain ⟨h1, h2, h3, h4⟩ := badAt_spec 16777216 pss 0 (Nat.zero_le _)
  refine ⟨badAt 16777216 pss 0, A22 pss, ?_⟩
  simp only [List.length_nil]
  simp only [Tr.get] at hgt
  have hstep : ∀ i, i < badAt 16777216 pss 0 → runR Tryz.prog [] [] .nat 3 [] Tryz.f57 0 S0 0 (A22 pss i).1 (A22 pss i).2 = some (.normal, A22 pss (i + 1)) := fun i hi => stepA hl hk i hi
  have hlast : ∀ j, badAt 16777216 pss 0 = j + 1 → runR Tryz.prog [] [] .nat 3 [] Tryz.f57 0 S0 0 (A22 pss (badAt 16777216 pss 0)).1 (A22 pss (badAt 16777216 pss 0)).2 =
      cond (decide (badAt 16777216 pss 0 < pss.length)) (some (.ret, [slN pss (badAt 16777216 pss 0), .s .nil, .s (.nat .i64 2)], hsN pss (badAt 16777216 pss 0))) (some (.exit 0, [slN pss (badAt 16777216 pss 0), .any, .any], hsN pss (badAt 16777216 pss 0))) := by
    intro j hj
    rw [hj] at h1 h2 h3 ⊢
    simp only [A22, slN, hsN]
    rw [rA]
    by_cases hlt : j + 1 < pss.length
    · have h6 := okLens_get hk (j + 1)
      have h7 := h3 hlt
      rw [decide_eq_true hlt, cond_true, cond_true, nd_true, decide_eq_true (by omega : 16777216 - lenN pss (j + 1) < (pss.getD (j + 1) []).length), cond_true]
      intro c hc
      simp only [List.mem_cons, List.not_mem_nil, or_false] at hc
      rcases hc with rfl | rfl | rfl | rfl | rfl <;> first | rfl | exact decide_eq_true (by omega)
    · rw [decide_eq_false hlt, cond_false, cond_false]
  cases hb : decide (badAt 16777216 pss 0 = pss.length) with
  | true =>
    have hb := of_decide_eq_true hb
    rw [decide_eq_true hb, cond_true] at hgt
    cases hz : decide (pss.length = 0) with
    | true =>
      have hz' := of_decide_eq_true hz
      rw [hz, cond_true] at hgt
      cases hgt
      refine ⟨.exit 0, rfl, hstep, ?_, rfl⟩
      rw [hb, hz']
      simp only [A22]
      rw [rA0, decide_eq_false (by omega), cond_false]
    | false =>
      have hz' := of_decide_eq_false hz
      rw [hz, cond_false] at hgt
      cases hgt
      refine ⟨.exit 0, rfl, hstep, ?_, rfl⟩
      rw [hlast (pss.length - 1) (by omega), decide_eq_false (by omega), cond_false, hb]
      rfl
  | false =>
    have hb := of_decide_eq_false hb
    rw [decide_eq_false hb, cond_false] at hgt
    cases hz : decide (badAt 16777216 pss 0 = 0) with
    | true =>
      have hz' := of_decide_eq_true hz
      rw [hz, cond_true] at hgt
      cases hgt
      refine ⟨.ret, rfl, hstep, ?_, rfl⟩
      have h7 := h3 (by omega)
      rw [hz'] at h7 ⊢
      have h6 := okLens_get hk 0
      simp only [A22]
      simp only [lenN] at h7
      rw [rA0, decide_eq_true (by omega : 0 < pss.length), cond_true, nd_true, decide_eq_true (by omega : 16777216 - 0 < (pss.getD 0 []).length), cond_true]
      intro c hc
      simp only [List.mem_cons, List.not_mem_nil, or_false] at hc
      rcases hc with rfl | rfl | rfl <;> first | rfl | exact decide_eq_true (by omega)
    | false =>
      have hz' := of_decide_eq_false hz
      rw [hz, cond_false] at hgt
      cases hgt
      refine ⟨.ret, rfl, hstep, ?_, rfl⟩
      rw [hlast (badAt 16777216 pss 0 - 1) (by omega), decide_eq_true (by omega), cond_true]
      rfl

end Go.Proofs.YtdhnkkogbbhnmaaGreat

namespace Go.Proofs.YtdhnkkogbbhnmaaGreat
open Go
/-- The block at hand and the bytes, j of them mixed. -/
def mcur (key nonce : List Nat) (c : Nat) (cur : List Nat) (j : Nat) : List Nat :=
  match decide (j % 64 = 0) with
  | true => blk key nonce ((c + j / 64 % 4294967296) % 4294967296)
  | false => cur

def mrun (key nonce : List Nat) (c : Nat) (cur xs : List Nat) : Nat → List Nat × List Nat
  | 0 => (cur, xs)
  | j + 1 => (mcur key nonce c (mrun key nonce c cur xs j).1 j, (mrun key nonce c cur xs j).2.set j ((mrun key nonce c cur xs j).2.getD j 0 ^^^ (mcur key nonce c (mrun key nonce c cur xs j).1 j).getD (j % 64) 0))

def S2 : LSem := ⟨[4, 5, 2, 13, 10, 32, 33], [10], fun args hin => match args, hin with
  | [.s (.ptr 0 0), .s (.ptr 1 0), .s (.nat .u32 c), .s (.ptr 2 0), .s (.sl .whole 3 0 l 1), .s (.nat .i64 n), .s (.nat .i64 0)], [[.ints .u8 32 key], [.ints .u8 12 nonce], [.ints .u8 64 cur], [.ints .u8 m xs]] =>
    some (Tr.needs [decide (n = l), decide (m = l), decide (l < 9223372036854775808)]
      (.leaf (.normal, [.s (.sl .whole 3 0 l 1)], [some [.ints .u8 32 key], some [.ints .u8 12 nonce], some [.ints .u8 64 (mrun key nonce c cur xs l).1], some [.ints .u8 l (mrun key nonce c cur xs l).2]])))
  | [.s (.ptr 0 0), .s (.ptr 1 0), .s (.nat .u32 _), .s (.ptr 2 0), .s .nil, .s (.nat .i64 0), .s (.nat .i64 0)], [[.ints .u8 32 key], [.ints .u8 12 nonce], [.ints .u8 64 cur]] =>
    some (.leaf (.normal, [.s .nil], [some [.ints .u8 32 key], some [.ints .u8 12 nonce], some [.ints .u8 64 cur]]))
  | _, _ => none⟩

set_option maxRecDepth 100000 in
theorem rB (key nonce cur xs : List Nat) (c n j l : Nat) : runR Tryz.prog [(99, F20)] [] .nat 3 [] Tryz.f57 2 S2 4 [.s (.ptr 0 0), .s (.ptr 1 0), .s (.nat .u32 c), .s (.ptr 2 0), .s (.sl .whole 3 0 l 1), .s (.nat .i64 n), .s (.nat .i64 j)] [some [.ints .u8 32 key], some [.ints .u8 12 nonce], some [.ints .u8 64 cur], some [.ints .u8 l xs]] =
    cond (decide (j < n)) (cond (decide (j % 64 = 0))
        (nd [decide (j < l), decide (j < l), decide (j % 64 < 64), decide (j % 64 < 64), decide (j < l), decide (j < l), decide (j + 1 < 9223372036854775808)]
          (some (.normal, [.s (.ptr 0 0), .s (.ptr 1 0), .s (.nat .u32 c), .s (.ptr 2 0), .s (.sl .whole 3 0 l 1), .s (.nat .i64 n), .s (.nat .i64 (j + 1))], [some [.ints .u8 32 key], some [.ints .u8 12 nonce], some [.ints .u8 64 (blk key nonce ((c + j / 64 % 4294967296) % 4294967296))],
            some [.ints .u8 l (xs.set j (xs.getD j 0 ^^^ (blk key nonce ((c + j / 64 % 4294967296) % 4294967296)).getD (j % 64) 0))]])))
        (nd [decide (j < l), decide (j < l), decide (j % 64 < 64), decide (j % 64 < 64), decide (j < l), decide (j < l), decide (j + 1 < 9223372036854775808)]
          (some (.normal, [.s (.ptr 0 0), .s (.ptr 1 0), .s (.nat .u32 c), .s (.ptr 2 0), .s (.sl .whole 3 0 l 1), .s (.nat .i64 n), .s (.nat .i64 (j + 1))], [some [.ints .u8 32 key], some [.ints .u8 12 nonce], some [.ints .u8 64 cur],
            some [.ints .u8 l (xs.set j (xs.getD j 0 ^^^ cur.getD (j % 64) 0))]]))))
      (some (.exit 2, [.s (.sl .whole 3 0 l 1)], [some [.ints .u8 32 key], some [.ints .u8 12 nonce], some [.ints .u8 64 cur], some [.ints .u8 l xs]])) := by kernel_rfl

set_option maxRecDepth 100000 in
theorem rB0 (key nonce cur : List Nat) (c : Nat) : runR Tryz.prog [(99, F20)] [] .nat 3 [] Tryz.f57 2 S2 3 [.s (.ptr 0 0), .s (.ptr 1 0), .s (.nat .u32 c), .s (.ptr 2 0), .s .nil, .s (.nat .i64 0), .s (.nat .i64 0)] [some [.ints .u8 32 key], some [.ints .u8 12 nonce], some [.ints .u8 64 cur]] =
    some (.exit 2, [.s .nil], [some [.ints .u8 32 key], some [.ints .u8 12 nonce], some [.ints .u8 64 cur]]) := by kernel_rfl

theorem nd7 {j l : Nat} (h : j < l) (hl : l < 9223372036854775808) {α : Type} (x : Option α) : nd [decide (j < l), decide (j < l), decide (j % 64 < 64), decide (j % 64 < 64), decide (j < l), decide (j < l), decide (j + 1 < 9223372036854775808)] x = x := by
  refine nd_true fun c hc => ?_
  simp only [List.mem_cons, List.not_mem_nil, or_false] at hc
  rcases hc with rfl | rfl | rfl | rfl | rfl | rfl | rfl <;> exact decide_eq_true (by omega)

def A22b (key nonce : List Nat) (c l : Nat) (cur xs : List Nat) (i : Nat) : List AV × List (Option Blk) :=
  ([.s (.ptr 0 0), .s (.ptr 1 0), .s (.nat .u32 c), .s (.ptr 2 0), .s (.sl .whole 3 0 l 1), .s (.nat .i64 l), .s (.nat .i64 i)],
    [some [.ints .u8 32 key], some [.ints .u8 12 nonce], some [.ints .u8 64 (mrun key nonce c cur xs i).1], some [.ints .u8 l (mrun key nonce c cur xs i).2]])

theorem lok2 : LOk Tryz.prog Tryz.f57.ntmps (.block 2 (.loop (lb 2 Tryz.f57))) S2 := by
  refine lokR (fs := [(99, F20)]) (xs := []) (m := .nat) (fuel := 3) (sums := []) (.cons ok20 .nil) mixed (loopsOk_none rfl _) ?_
  intro args hin t e vs hout h hg
  unfold S2 at h
  simp only at h
  split at h
  · rename_i c l n key nonce cur m xs
    simp only [Option.some.injEq] at h
    subst h
    obtain ⟨hc, hgt⟩ := Tr.needs_get hg
    clear hg
    have e1 : n = l := of_decide_eq_true (hc _ (by simp))
    have e2 : m = l := of_decide_eq_true (hc (decide (m = l)) (by simp))
    have hl : l < 9223372036854775808 := of_decide_eq_true (hc (decide (l < 9223372036854775808)) (by simp))
    clear hc
    subst e1; subst e2
    cases hgt
    refine ⟨m, A22b key nonce c m cur xs, .exit 2, rfl, fun i hi => ?_, ?_, rfl⟩
    · simp only [A22b, mrun, List.length_cons, List.length_nil]
      rw [rB, nd7 hi hl, nd7 hi hl, decide_eq_true hi, cond_true]
      unfold mcur
      cases decide (i % 64 = 0) <;> rfl
    · simp only [A22b, List.length_cons, List.length_nil]
      rw [rB, decide_eq_false (Nat.lt_irrefl _), cond_false]
  · rename_i c key nonce cur
    cases h
    cases hg
    exact ⟨0, fun _ => ([.s (.ptr 0 0), .s (.ptr 1 0), .s (.nat .u32 _), .s (.ptr 2 0), .s .nil, .s (.nat .i64 0), .s (.nat .i64 0)], [some [.ints .u8 32 key], some [.ints .u8 12 nonce], some [.ints .u8 64 cur]]), .exit 2, rfl, fun i hi => by omega, rB0 _ _ _ _, rfl⟩
  · cases h

end Go.Proofs.YtdhnkkogbbhnmaaGreat

namespace Go.Proofs.YtdhnkkogbbhnmaaGreat
open Go
def zeros64 : List Nat := [0, 0, 0, 0, 0, 0, 0, 0, 0, 0, 0, 0, 0, 0, 0, 0, 0, 0, 0, 0, 0, 0, 0, 0, 0, 0, 0, 0, 0, 0, 0, 0, 0, 0, 0, 0, 0, 0, 0, 0, 0, 0, 0, 0, 0, 0, 0, 0, 0, 0, 0, 0, 0, 0, 0, 0, 0, 0, 0, 0, 0, 0, 0, 0]

def mixC (key nonce : List Nat) (c : Nat) (xs : List Nat) (l : Nat) : List Nat := (mrun key nonce c zeros64 xs l).2

def F22 : FSem := ⟨true, fun args hin => match args, hin with
  | [.agg [.ints .u8 32 key], .agg [.ints .u8 12 nonce], .s (.nat .u32 c), .s (.xsl (.bss pss))], [] =>
    some (Tr.needs [decide (pss.length < 9223372036854775808), okLens pss]
      (.br (decide (lenN pss pss.length ≤ 16777216))
        (.br (decide (pss.length = 0)) (.leaf (.tup [.s .nil, .s (.nat .i64 0)], []))
          (.leaf (.tup [.s (.sl .whole 0 0 (lenN pss pss.length) 1), .s (.nat .i64 0)], [some [.ints .u8 (lenN pss pss.length) (mixC key nonce c (catN pss pss.length) (lenN pss pss.length))]])))
        (.leaf (.tup [.s .nil, .s (.nat .i64 2)], []))))
  | _, _ => none⟩

theorem fn22q : Fn Tryz.prog 57 Tryz.f57 := ⟨mixed, Tryz.func57, by kernel_rfl, of_decide_eq_true (by kernel_rfl)⟩

set_option maxRecDepth 100000 in
theorem r22q (key nonce : List Nat) (c : Nat) (pss : List (List Nat)) : runL Tryz.prog [(99, F20)] [] .nat 3 [(0, S0), (2, S2)] Tryz.f57 [.agg [.ints .u8 32 key], .agg [.ints .u8 12 nonce], .s (.nat .u32 c), .s (.xsl (.bss pss))] [] =
    nd [decide (pss.length < 9223372036854775808), decide (pss.length = pss.length), decide (pss.length < 9223372036854775808), okLens pss]
      (cond (decide (badAt 16777216 pss 0 = pss.length))
        (cond (decide (pss.length = 0)) (some (.tup [.s .nil, .s (.nat .i64 0)], []))
          (nd [decide (lenN pss pss.length < 9223372036854775808), decide (lenN pss pss.length = lenN pss pss.length), decide (lenN pss pss.length = lenN pss pss.length), decide (lenN pss pss.length < 9223372036854775808)]
            (some (.tup [.s (.sl .whole 0 0 (lenN pss pss.length) 1), .s (.nat .i64 0)], [some [.ints .u8 (lenN pss pss.length) (mixC key nonce c (catN pss pss.length) (lenN pss pss.length))]]))))
        (cond (decide (badAt 16777216 pss 0 = 0)) (some (.tup [.s .nil, .s (.nat .i64 2)], [])) (some (.tup [.s .nil, .s (.nat .i64 2)], [])))) := by kernel_rfl

theorem loops22q : LoopsOk Tryz.prog ⟨Tryz.f57.ntmps, 3, [(0, S0), (2, S2)]⟩ (bodyOf Tryz.f57) := by
  refine loopsOk_of ?_
  have e : loopsIn [(0, S0), (2, S2)] (bodyOf Tryz.f57) = [(0, .loop (lb 0 Tryz.f57), S0), (2, .loop (lb 2 Tryz.f57), S2)] := by kernel_rfl
  simp only [e]
  intro x hx
  simp only [List.mem_cons, List.not_mem_nil, or_false] at hx
  rcases hx with rfl | rfl
  · exact lok0
  · exact lok2

theorem ok22 : FOk Tryz.prog 57 F22 := by
  refine fokL (fs := [(99, F20)]) (xs := []) (m := .nat) (fuel := 3) (sums := [(0, S0), (2, S2)]) (.cons ok20 .nil) fn22q loops22q ?_
  intro args hin t r h hg
  unfold F22 at h
  simp only at h
  split at h
  rotate_left
  · cases h
  rename_i key nonce c pss
  simp only [Option.some.injEq] at h
  subst h
  obtain ⟨hc, hgt⟩ := Tr.needs_get hg
  clear hg
  have hl : pss.length < 9223372036854775808 := of_decide_eq_true (hc _ (by simp))
  have hk : okLens pss = true := hc _ (by simp)
  clear hc
  rw [r22q, nd_true]
  · simp only [Tr.get] at hgt
    by_cases hs : lenN pss pss.length ≤ 16777216
    · rw [decide_eq_true ((badAt_all 16777216 pss).2 hs), cond_true]
      rw [decide_eq_true hs, cond_true] at hgt
      rw [nd_true]
      · exact hgt
      · intro d hd
        simp only [List.mem_cons, List.not_mem_nil, or_false] at hd
        rcases hd with rfl | rfl | rfl | rfl <;> first | exact decide_eq_true (by omega) | simp
    · rw [decide_eq_false (fun e => hs ((badAt_all 16777216 pss).1 e)), cond_false]
      rw [decide_eq_false hs, cond_false] at hgt
      cases decide (badAt 16777216 pss 0 = 0) <;> exact hgt
  · intro d hd
    simp only [List.mem_cons, List.not_mem_nil, or_false] at hd
    rcases hd with rfl | rfl | rfl | rfl
    · exact decide_eq_true hl
    · simp
    · exact decide_eq_true hl
    · exact hk

def mixAt (key nonce : List Nat) (c : Nat) (xs : List Nat) (i : Nat) : Nat := xs.getD i 0 ^^^ (blk key nonce ((c + i / 64 % 4294967296) % 4294967296)).getD (i % 64) 0

theorem mrun_spec (key nonce : List Nat) (c : Nat) (xs : List Nat) : ∀ j, (mrun key nonce c zeros64 xs j).2.length = xs.length ∧ (∀ i, (mrun key nonce c zeros64 xs j).2.getD i 0 = if i < j ∧ i < xs.length then mixAt key nonce c xs i else xs.getD i 0) ∧
    (0 < j → (mrun key nonce c zeros64 xs j).1 = blk key nonce ((c + (j - 1) / 64 % 4294967296) % 4294967296))
  | 0 => ⟨rfl, fun i => by simp [mrun], fun h => by omega⟩
  | j + 1 => by
    obtain ⟨h1, h2, h3⟩ := mrun_spec key nonce c xs j
    have hcur : mcur key nonce c (mrun key nonce c zeros64 xs j).1 j = blk key nonce ((c + j / 64 % 4294967296) % 4294967296) := by
      unfold mcur
      cases hd : decide (j % 64 = 0) with
      | true => rfl
      | false =>
        have hd := of_decide_eq_false hd
        simp only
        rw [h3 (by omega), show (j - 1) / 64 = j / 64 by omega]
    simp only [mrun, hcur]
    refine ⟨by simp [h1], fun i => ?_, fun _ => by simp⟩
    by_cases hi : i = j
    · subst hi
      by_cases hl : i < xs.length
      · rw [if_pos ⟨by omega, hl⟩, List.getD, List.getElem?_set_self (by omega), Option.getD_some, h2 i, if_neg (by omega)]
        rfl
      · rw [if_neg (fun h => hl h.2), List.getD, List.getElem?_eq_none (by simp; omega), List.getD, List.getElem?_eq_none (by omega)]
    · have e : ∀ v, ((mrun key nonce c zeros64 xs j).2.set j v).getD i 0 = (mrun key nonce c zeros64 xs j).2.getD i 0 := fun v => by
        rw [List.getD, List.getElem?_set_ne (fun h => hi h.symm), List.getD]
      rw [e, h2 i]
      by_cases h : i < j ∧ i < xs.length
      · rw [if_pos h, if_pos ⟨by omega, h.2⟩]
      · rw [if_neg h, if_neg (by omega)]

theorem mixC_len (key nonce : List Nat) (c : Nat) (xs : List Nat) (l : Nat) : (mixC key nonce c xs l).length = xs.length := (mrun_spec key nonce c xs l).1

theorem mixC_get (key nonce : List Nat) (c : Nat) (xs : List Nat) {l i : Nat} (h : i < l) (hx : i < xs.length) : (mixC key nonce c xs l).getD i 0 = mixAt key nonce c xs i := by
  rw [mixC, (mrun_spec key nonce c xs l).2.1 i, if_pos ⟨h, hx⟩]

end Go.Proofs.YtdhnkkogbbhnmaaGreat

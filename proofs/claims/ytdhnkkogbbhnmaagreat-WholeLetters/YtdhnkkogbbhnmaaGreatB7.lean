/-
  Part 7 of what the last text stands on: Sealed texts: the code's small functions, with streams and sums left open.
-/
import Derived.Test.YtdhnkkogbbhnmaaGreatB6

set_option linter.unusedSimpArgs false
set_option linter.unusedVariables false

namespace Go.Proofs.YtdhnkkogbbhnmaaGreat
open Go
structure OpsA where
  blk : List Nat → List Nat → Nat → List Nat
  mix : List Nat → List Nat → Nat → List Nat → Nat → List Nat
  tag : List Nat → List (List Nat) → List Nat
  ok41 : List (List Nat) → Bool
  okK : List Nat → Bool
  okL : List (List Nat) → Bool
  cat : List (List Nat) → Nat → List Nat
  len : List (List Nat) → Nat → Nat
  eq : List Nat → List Nat → Bool

def opsA : OpsA := ⟨blk, mixC, tagC, ok41, okKey, okLens, catN, lenN, fun xs ys => decide (xs = ys)⟩

theorem opsA_blk : opsA.blk = blk := by kernel_rfl

theorem opsA_mix : opsA.mix = mixC := by kernel_rfl

theorem opsA_tag : opsA.tag = tagC := by kernel_rfl

theorem opsA_ok41 : opsA.ok41 = ok41 := by kernel_rfl

theorem opsA_okK : opsA.okK = okKey := by kernel_rfl

theorem opsA_okL : opsA.okL = okLens := by kernel_rfl

theorem opsA_cat : opsA.cat = catN := by kernel_rfl

theorem opsA_len : opsA.len = lenN := by kernel_rfl

theorem opsA_eq : opsA.eq = (fun xs ys => decide (xs = ys)) := by kernel_rfl

def Z20 (o : OpsA) : FSem := ⟨false, fun args hin => match args, hin with
  | [.agg [.ints .u8 32 key], .agg [.ints .u8 12 nonce], .s (.nat .u32 n)], [] => some (.leaf (.agg [.ints .u8 64 (o.blk key nonce n)], []))
  | _, _ => none⟩

theorem aa20 : FOk Tryz.prog 99 (Z20 opsA) := by
  have e : Z20 opsA = F20 := by kernel_rfl
  rw [e]
  exact ok20

def Z25 (o : OpsA) : FSem := ⟨true, fun args hin => match args, hin with
  | [.agg [.ints .u8 32 key], .s (.xsl (.bss pss))], [] => some (Tr.needs [decide (pss.length < 9223372036854775808), o.ok41 pss, o.okK key] (.leaf (.agg [.ints .u8 16 (o.tag key pss)], [])))
  | _, _ => none⟩

theorem aa25 : FOk Tryz.prog 100 (Z25 opsA) := by
  have e : Z25 opsA = F25q := by kernel_rfl
  rw [e]
  exact ok25q

def Z22 (o : OpsA) : FSem := ⟨true, fun args hin => match args, hin with
  | [.agg [.ints .u8 32 key], .agg [.ints .u8 12 nonce], .s (.nat .u32 c), .s (.xsl (.bss pss))], [] =>
    some (Tr.needs [decide (pss.length < 9223372036854775808), o.okL pss]
      (.br (decide (o.len pss pss.length ≤ 16777216))
        (.br (decide (pss.length = 0)) (.leaf (.tup [.s .nil, .s (.nat .i64 0)], []))
          (.leaf (.tup [.s (.sl .whole 0 0 (o.len pss pss.length) 1), .s (.nat .i64 0)], [some [.ints .u8 (o.len pss pss.length) (o.mix key nonce c (o.cat pss pss.length) (o.len pss pss.length))]])))
        (.leaf (.tup [.s .nil, .s (.nat .i64 2)], []))))
  | _, _ => none⟩

theorem fn47 : Fn Tryz.prog 101 Tryz.f101 := ⟨mixed, Tryz.func101, by kernel_rfl, of_decide_eq_true (by kernel_rfl)⟩

theorem fn48 : Fn Tryz.prog 102 Tryz.f102 := ⟨mixed, Tryz.func102, by kernel_rfl, of_decide_eq_true (by kernel_rfl)⟩

theorem fn40 : Fn Tryz.prog 56 Tryz.f56 := ⟨mixed, Tryz.func56, by kernel_rfl, of_decide_eq_true (by kernel_rfl)⟩

theorem fn43 : Fn Tryz.prog 63 Tryz.f63 := ⟨mixed, Tryz.func63, by kernel_rfl, of_decide_eq_true (by kernel_rfl)⟩

def filN (n : Nat) : Nat := (16 - n % 16) % 16

def F47 : FSem := ⟨false, fun args hin => match args, hin with
  | [.s (.nat .i64 n)], [] => some (.leaf (.s (.sl .whole 0 0 (filN n) 1), [some [.ints .u8 (filN n) (List.replicate (filN n) 0)]]))
  | _, _ => none⟩

set_option maxRecDepth 100000 in
theorem r47 (n : Nat) : runB Tryz.prog [] [] .nat 7 Tryz.f101 [.s (.nat .i64 n)] [] =
(nd [decide (n % 16 ≤ 16), decide (filN n ≤ filN n), decide (filN n ≤ 4398046511104)]
 (some (AV.s (SV.sl LK.whole 0 0 (filN n) 1), [some [Ch.ints IntKind.u8 (filN n) (List.replicate (filN n) 0)]]))) := by kernel_rfl

theorem ok47 : FOk Tryz.prog 101 F47 := by
  refine fokB (fs := []) (xs := []) (m := .nat) (fuel := 7) EnvOk.nil fn47 ?_
  intro args hin t r h hg
  unfold F47 at h
  simp only at h
  split at h
  · rename_i n
    cases h
    cases hg
    rw [r47]
    refine nd_ofq ?_ rfl
    have : filN n < 16 := Nat.mod_lt _ (by decide)
    simp only [List.mem_cons, List.not_mem_nil, or_false, forall_eq_or_imp, forall_eq, decide_eq_true_eq]
    omega
  · cases h

def cnt8 (n : Nat) : List Nat := [n % 256, n / 256 % 256, n / 65536 % 256, n / 16777216 % 256, 0, 0, 0, 0]

def F48 : FSem := ⟨false, fun args hin => match args, hin with
  | [.s (.nat .i64 n)], [] => some (.leaf (.s (.sl .whole 0 0 8 1), [some [.ints .u8 8 (cnt8 n)]]))
  | _, _ => none⟩

set_option maxRecDepth 100000 in
theorem r48 (n : Nat) : runB Tryz.prog [] [] .nat 7 Tryz.f102 [.s (.nat .i64 n)] [] =
 (some (AV.s (SV.sl LK.whole 0 0 8 1), [some [Ch.ints IntKind.u8 8 [n / 2 ^ 0 % 256, n / 2 ^ 8 % 256, n / 2 ^ 16 % 256, n / 2 ^ 24 % 256, 0, 0, 0, 0]]])) := by kernel_rfl

theorem ok48 : FOk Tryz.prog 102 F48 := by
  refine fokB (fs := []) (xs := []) (m := .nat) (fuel := 7) EnvOk.nil fn48 ?_
  intro args hin t r h hg
  unfold F48 at h
  simp only at h
  split at h
  · rename_i n
    cases h
    cases hg
    rw [r48]
    unfold cnt8
    rw [Nat.pow_zero, Nat.div_one, show (2 : Nat) ^ 8 = 256 from rfl, show (2 : Nat) ^ 16 = 65536 from rfl, show (2 : Nat) ^ 24 = 16777216 from rfl]
  · cases h

def S40 : LSem := ⟨[6, 7, 8, 3, 2], [2], fun args hin => match args, hin with
  | [.s (.xsl (.bss pss)), .s (.nat .i64 n), .s (.nat .i64 0), .s (.nat .i64 0), .s (.bool false)], [] =>
    some (Tr.needs [decide (n = pss.length), decide (n < 9223372036854775808), okLens pss]
      (.br (decide (badAt 1048576 pss 0 = pss.length)) (.leaf (.normal, [.s (.bool false)], [])) (.leaf (.ret, [.s (.bool true)], []))))
  | _, _ => none⟩

set_option maxRecDepth 100000 in
theorem r40l (pss : List (List Nat)) (n j m : Nat) : runR Tryz.prog [] [] .nat 7 [] Tryz.f56 0 S40 0 [.s (.xsl (.bss pss)), .s (.nat .i64 n), .s (.nat .i64 j), .s (.nat .i64 m), .s (.bool false)] [] =
(cond (decide (j < n))
 (nd [decide (j < pss.length), decide (j < pss.length), decide ((pss.getD j []).length < 9223372036854775808), decide (m ≤ 1048576)]
 (cond (decide (1048576 - m < (pss.getD j []).length))
 (some (Ex.ret, [AV.s (SV.bool true)], []))
 (nd [decide ((pss.getD j []).length < 9223372036854775808), decide (m + (pss.getD j []).length < 9223372036854775808), decide (j + 1 < 9223372036854775808)]
 (some (Ex.normal, [AV.s (SV.xsl (XC.bss pss)), AV.s (SV.nat IntKind.i64 n), AV.s (SV.nat IntKind.i64 (j + 1)), AV.s (SV.nat IntKind.i64 (m + (pss.getD j []).length)), AV.s (SV.bool false)], [])))))
 (some (Ex.exit 0, [AV.s (SV.bool false)], []))) := by kernel_rfl

theorem lok40 : LOk Tryz.prog Tryz.f56.ntmps (.block 0 (.loop (lb 0 Tryz.f56))) S40 := by
  refine lokR (fs := []) (xs := []) (m := .nat) (fuel := 7) (sums := []) EnvOk.nil mixed (loopsOk_none rfl _) ?_
  intro args hin t e vs hout h hg
  unfold S40 at h
  simp only at h
  split at h
  rotate_left
  · cases h
  rename_i pss n
  simp only [Option.some.injEq] at h
  subst h
  obtain ⟨hc, hgt⟩ := Tr.needs_get hg
  clear hg
  have e1 : n = pss.length := of_decide_eq_true (hc _ (by simp))
  subst e1
  have hl : pss.length < 9223372036854775808 := of_decide_eq_true (hc (decide (pss.length < 9223372036854775808)) (by simp))
  have hk : okLens pss = true := hc _ (by simp)
  clear hc
  obtain ⟨h1, h2, h3, h4⟩ := badAt_spec 1048576 pss 0 (Nat.zero_le _)
  simp only [Tr.get] at hgt
  have hstep : ∀ i, i < badAt 1048576 pss 0 → runR Tryz.prog [] [] .nat 7 [] Tryz.f56 0 S40 0 [.s (.xsl (.bss pss)), .s (.nat .i64 pss.length), .s (.nat .i64 i), .s (.nat .i64 (lenN pss i)), .s (.bool false)] [] =
      some (.normal, [.s (.xsl (.bss pss)), .s (.nat .i64 pss.length), .s (.nat .i64 (i + 1)), .s (.nat .i64 (lenN pss (i + 1))), .s (.bool false)], []) := fun i hi => by
    have h5 := h4 i hi
    have h6 := okLens_get hk i
    have h7 := lenN_mono pss (show i + 1 ≤ badAt 1048576 pss 0 by omega)
    rw [lenN] at h7
    rw [r40l]
    refine cond_tq (decide_eq_true (by omega)) (nd_ofq ?_ (cond_fq (decide_eq_false (by omega)) (nd_ofq ?_ rfl)))
    · simp only [List.mem_cons, List.not_mem_nil, or_false, forall_eq_or_imp, forall_eq, decide_eq_true_eq]; omega
    · simp only [List.mem_cons, List.not_mem_nil, or_false, forall_eq_or_imp, forall_eq, decide_eq_true_eq]; omega
  cases hb : decide (badAt 1048576 pss 0 = pss.length) with
  | true =>
    have hb' := of_decide_eq_true hb
    rw [hb, cond_true] at hgt
    cases hgt
    refine ⟨badAt 1048576 pss 0, fun i => ([.s (.xsl (.bss pss)), .s (.nat .i64 pss.length), .s (.nat .i64 i), .s (.nat .i64 (lenN pss i)), .s (.bool false)], []), .exit 0, rfl, hstep, ?_, rfl⟩
    simp only [List.length_nil]
    rw [r40l]
    exact cond_fq (decide_eq_false (by omega)) rfl
  | false =>
    have hb' := of_decide_eq_false hb
    rw [hb, cond_false] at hgt
    cases hgt
    refine ⟨badAt 1048576 pss 0, fun i => ([.s (.xsl (.bss pss)), .s (.nat .i64 pss.length), .s (.nat .i64 i), .s (.nat .i64 (lenN pss i)), .s (.bool false)], []), .ret, rfl, hstep, ?_, rfl⟩
    have h7 := h3 (by omega)
    have h6 := okLens_get hk (badAt 1048576 pss 0)
    simp only [List.length_nil]
    rw [r40l]
    refine cond_tq (decide_eq_true (by omega)) (nd_ofq ?_ (cond_tq (decide_eq_true (by omega)) rfl))
    simp only [List.mem_cons, List.not_mem_nil, or_false, forall_eq_or_imp, forall_eq, decide_eq_true_eq]; omega

def lonB (pss : List (List Nat)) : Bool := decide (1048576 < lenN pss pss.length)

def F40 : FSem := ⟨true, fun args hin => match args, hin with
  | [.s (.xsl (.bss pss))], [] => some (Tr.needs [decide (pss.length < 9223372036854775808), okLens pss] (.leaf (.s (.bool (lonB pss)), [])))
  | _, _ => none⟩

theorem loops40 : LoopsOk Tryz.prog ⟨Tryz.f56.ntmps, 7, [(0, S40)]⟩ (bodyOf Tryz.f56) := by
  refine loopsOk_of ?_
  have e : loopsIn [(0, S40)] (bodyOf Tryz.f56) = [(0, .loop (lb 0 Tryz.f56), S40)] := by kernel_rfl
  simp only [e]
  intro x hx
  simp only [List.mem_cons, List.not_mem_nil, or_false] at hx
  rcases hx with rfl
  · exact lok40

set_option maxRecDepth 100000 in
theorem r40 (pss : List (List Nat)) : runL Tryz.prog [] [] .nat 7 [(0, S40)] Tryz.f56 [.s (.xsl (.bss pss))] [] =
    nd [decide (pss.length < 9223372036854775808), decide (pss.length = pss.length), decide (pss.length < 9223372036854775808), okLens pss]
     (cond (decide (badAt 1048576 pss 0 = pss.length)) (some (.s (.bool false), [])) (some (.s (.bool true), []))) := by kernel_rfl

theorem ok40 : FOk Tryz.prog 56 F40 := by
  refine fokL (fs := []) (xs := []) (m := .nat) (fuel := 7) (sums := [(0, S40)]) EnvOk.nil fn40 loops40 ?_
  intro args hin t r h hg
  unfold F40 at h
  simp only at h
  split at h
  · rename_i pss
    simp only [Option.some.injEq] at h
    subst h
    obtain ⟨hc, hgt⟩ := Tr.needs_get hg
    cases hgt
    have hl : pss.length < 9223372036854775808 := of_decide_eq_true (hc _ (by simp))
    have hk : okLens pss = true := hc (okLens pss) (by simp)
    rw [r40]
    refine nd_ofq ?_ ?_
    · simp only [List.mem_cons, List.not_mem_nil, or_false, forall_eq_or_imp, forall_eq, decide_eq_true_eq]
      exact ⟨hl, trivial, hl, hk⟩
    · unfold lonB
      by_cases hs : lenN pss pss.length ≤ 1048576
      · rw [decide_eq_true ((badAt_all 1048576 pss).2 hs), decide_eq_false (by omega)]
        rfl
      · rw [decide_eq_false (fun e => hs ((badAt_all 1048576 pss).1 e)), decide_eq_true (by omega)]
        rfl
  · cases h

def xorN (xs ys : List Nat) : Nat → Nat
  | 0 => 0
  | j + 1 => xorN xs ys j ||| xs.getD j 0 ^^^ ys.getD j 0

def S43 : LSem := ⟨[0, 1, 5, 13, 14], [5], fun args hin => match args, hin with
  | [.s (.xsl (.ints .u8 xs)), .s (.xsl (.ints .u8 ys)), .s (.nat .u8 0), .s (.nat .i64 n), .s (.nat .i64 0)], [] =>
    some (Tr.needs [decide (n = xs.length), decide (n < 9223372036854775808), decide (xs.length = ys.length)] (.leaf (.normal, [.s (.nat .u8 (xorN xs ys xs.length))], [])))
  | _, _ => none⟩

set_option maxRecDepth 100000 in
theorem r43l (xs ys : List Nat) (n j m : Nat) : runR Tryz.prog [] [] .nat 7 [] Tryz.f63 0 S43 0 [.s (.xsl (.ints .u8 xs)), .s (.xsl (.ints .u8 ys)), .s (.nat .u8 m), .s (.nat .i64 n), .s (.nat .i64 j)] [] =
(cond (decide (j < n))
 (nd [decide (j < xs.length), decide (j < xs.length), decide (j < ys.length), decide (j < ys.length), decide (j + 1 < 9223372036854775808)]
 (some (Ex.normal, [AV.s (SV.xsl (XC.ints IntKind.u8 xs)), AV.s (SV.xsl (XC.ints IntKind.u8 ys)), AV.s (SV.nat IntKind.u8 (m ||| xs.getD j 0 ^^^ ys.getD j 0)), AV.s (SV.nat IntKind.i64 n), AV.s (SV.nat IntKind.i64 (j + 1))], [])))
 (some (Ex.exit 0, [AV.s (SV.nat IntKind.u8 m)], []))) := by kernel_rfl

theorem lok43 : LOk Tryz.prog Tryz.f63.ntmps (.block 0 (.loop (lb 0 Tryz.f63))) S43 := by
  refine lokR (fs := []) (xs := []) (m := .nat) (fuel := 7) (sums := []) EnvOk.nil mixed (loopsOk_none rfl _) ?_
  intro args hin t e vs hout h hg
  unfold S43 at h
  simp only at h
  split at h
  · rename_i xs ys n
    simp only [Option.some.injEq] at h
    subst h
    obtain ⟨hc, hgt⟩ := Tr.needs_get hg
    cases hgt
    have e1 : n = xs.length := of_decide_eq_true (hc _ (by simp))
    have e2 : n < 9223372036854775808 := of_decide_eq_true (hc (decide (n < 9223372036854775808)) (by simp))
    have e3 : xs.length = ys.length := of_decide_eq_true (hc (decide (xs.length = ys.length)) (by simp))
    clear hc hg
    subst e1
    refine ⟨xs.length, fun i => ([.s (.xsl (.ints .u8 xs)), .s (.xsl (.ints .u8 ys)), .s (.nat .u8 (xorN xs ys i)), .s (.nat .i64 xs.length), .s (.nat .i64 i)], []), .exit 0, rfl, fun i hi => ?_, ?_, rfl⟩
    · simp only [List.length_nil]
      rw [r43l]
      refine cond_tq (decide_eq_true hi) (nd_ofq ?_ rfl)
      simp only [List.mem_cons, List.not_mem_nil, or_false, forall_eq_or_imp, forall_eq, decide_eq_true_eq]; omega
    · simp only [List.length_nil]
      rw [r43l]
      exact cond_fq (decide_eq_false (by omega)) rfl
  · cases h

theorem or_zero {a b : Nat} : a ||| b = 0 ↔ a = 0 ∧ b = 0 := by
  constructor
  · intro h
    exact ⟨Nat.eq_zero_of_le_zero (h ▸ Nat.left_le_or), Nat.eq_zero_of_le_zero (h ▸ Nat.right_le_or)⟩
  · rintro ⟨rfl, rfl⟩
    rfl

theorem xor_zero_iff {a b : Nat} : a ^^^ b = 0 ↔ a = b := by
  constructor
  · intro h
    have : (a ^^^ b) ^^^ b = a := by rw [Nat.xor_assoc, Nat.xor_self, Nat.xor_zero]
    rw [← this, h, Nat.zero_xor]
  · rintro rfl
    exact Nat.xor_self a

theorem xorN_zero (xs ys : List Nat) : ∀ n, xorN xs ys n = 0 ↔ ∀ i, i < n → xs.getD i 0 = ys.getD i 0
  | 0 => ⟨fun _ i hi => by omega, fun _ => rfl⟩
  | n + 1 => by
    rw [xorN, or_zero, xorN_zero xs ys n, xor_zero_iff]
    constructor
    · rintro ⟨h1, h2⟩ i hi
      by_cases e : i = n
      · subst e; exact h2
      · exact h1 i (by omega)
    · intro h
      exact ⟨fun i hi => h i (by omega), h n (by omega)⟩

theorem list_getD {k l : List Nat} (hl : k.length = l.length) : (∀ i, i < k.length → k.getD i 0 = l.getD i 0) ↔ k = l := by
  constructor
  · intro h
    apply List.ext_getElem?
    intro i
    by_cases hi : i < k.length
    · have := h i hi
      rw [List.getD, List.getD, List.getElem?_eq_getElem hi, List.getElem?_eq_getElem (by omega)] at this
      rw [List.getElem?_eq_getElem hi, List.getElem?_eq_getElem (by omega)]
      exact congrArg some this
    · rw [List.getElem?_eq_none (by omega), List.getElem?_eq_none (by omega)]
  · rintro rfl i _
    rfl

def F43 : FSem := ⟨true, fun args hin => match args, hin with
  | [.s (.xsl (.ints .u8 xs)), .s (.xsl (.ints .u8 ys))], [] => some (Tr.needs [decide (xs.length < 9223372036854775808), decide (ys.length < 9223372036854775808)] (.leaf (.s (.bool (decide (xs = ys))), [])))
  | _, _ => none⟩

theorem loops43 : LoopsOk Tryz.prog ⟨Tryz.f63.ntmps, 7, [(0, S43)]⟩ (bodyOf Tryz.f63) := by
  refine loopsOk_of ?_
  have e : loopsIn [(0, S43)] (bodyOf Tryz.f63) = [(0, .loop (lb 0 Tryz.f63), S43)] := by kernel_rfl
  simp only [e]
  intro x hx
  simp only [List.mem_cons, List.not_mem_nil, or_false] at hx
  rcases hx with rfl
  · exact lok43

set_option maxRecDepth 100000 in
theorem r43 (xs ys : List Nat) : runL Tryz.prog [] [] .nat 7 [(0, S43)] Tryz.f63 [.s (.xsl (.ints .u8 xs)), .s (.xsl (.ints .u8 ys))] [] =
    nd [decide (xs.length < 9223372036854775808), decide (ys.length < 9223372036854775808)]
     (cond (!decide (xs.length = ys.length)) (some (.s (.bool false), []))
      (nd [decide (xs.length < 9223372036854775808), decide (xs.length = xs.length), decide (xs.length < 9223372036854775808), decide (xs.length = ys.length)]
       (some (.s (.bool (decide (xorN xs ys xs.length = 0))), [])))) := by kernel_rfl

theorem ok43 : FOk Tryz.prog 63 F43 := by
  refine fokL (fs := []) (xs := []) (m := .nat) (fuel := 7) (sums := [(0, S43)]) EnvOk.nil fn43 loops43 ?_
  intro args hin t r h hg
  unfold F43 at h
  simp only at h
  split at h
  · rename_i xs ys
    simp only [Option.some.injEq] at h
    subst h
    obtain ⟨hc, hgt⟩ := Tr.needs_get hg
    cases hgt
    have h1 : xs.length < 9223372036854775808 := of_decide_eq_true (hc _ (by simp))
    have h2 : ys.length < 9223372036854775808 := of_decide_eq_true (hc (decide (ys.length < 9223372036854775808)) (by simp))
    rw [r43]
    refine nd_ofq ?_ ?_
    · simp only [List.mem_cons, List.not_mem_nil, or_false, forall_eq_or_imp, forall_eq, decide_eq_true_eq]
      exact ⟨h1, h2⟩
    · by_cases hl : xs.length = ys.length
      · refine cond_fq (by rw [decide_eq_true hl]; rfl) (nd_ofq ?_ ?_)
        · simp only [List.mem_cons, List.not_mem_nil, or_false, forall_eq_or_imp, forall_eq, decide_eq_true_eq]
          exact ⟨h1, trivial, h1, hl⟩
        · rw [decide_eq_decide.2 ((xorN_zero xs ys xs.length).trans (list_getD hl))]
      · refine cond_tq (by rw [decide_eq_false hl]; rfl) ?_
        rw [decide_eq_false (fun e => hl (by rw [e]))]
  · cases h

end Go.Proofs.YtdhnkkogbbhnmaaGreat

namespace Go.Proofs.YtdhnkkogbbhnmaaGreat
open Go
theorem fn41 : Fn Tryz.prog 58 Tryz.f58 := ⟨mixed, Tryz.func58, by kernel_rfl, of_decide_eq_true (by kernel_rfl)⟩

def S41 : LSem := ⟨[17, 18, 19, 8], [8], fun args hin => match args, hin with
  | [.s (.xsl (.bss pss)), .s (.nat .i64 n), .s (.nat .i64 0), .s .nil], [] =>
    some (Tr.needs [decide (n = pss.length), decide (n < 9223372036854775808), decide (lenN pss pss.length ≤ 4398046511104)]
      (.br (decide (pss.length = 0)) (.leaf (.normal, [.s .nil], [])) (.leaf (.normal, [.s (.sl .whole 0 0 (lenN pss pss.length) 1)], [some [.ints .u8 (lenN pss pss.length) (catN pss pss.length)]]))))
  | _, _ => none⟩

set_option maxRecDepth 100000 in
theorem r41a (pss : List (List Nat)) (n : Nat) : runR Tryz.prog [] [] .nat 7 [] Tryz.f58 0 S41 0 [.s (.xsl (.bss pss)), .s (.nat .i64 n), .s (.nat .i64 0), .s .nil] [] =
    cond (decide (0 < n)) (nd [decide (0 < pss.length), decide (0 < pss.length), decide ((pss.getD 0 []).length ≤ 4398046511104)]
      (some (.normal, [.s (.xsl (.bss pss)), .s (.nat .i64 n), .s (.nat .i64 (0 + 1)), .s (.sl .whole 0 0 (pss.getD 0 []).length 1)], [some [.ints .u8 (pss.getD 0 []).length (pss.getD 0 [])]])))
      (some (.exit 0, [.s .nil], [])) := by kernel_rfl

set_option maxRecDepth 100000 in
theorem r41b (pss : List (List Nat)) (n j l : Nat) (xs : List Nat) : runR Tryz.prog [] [] .nat 7 [] Tryz.f58 0 S41 0 [.s (.xsl (.bss pss)), .s (.nat .i64 n), .s (.nat .i64 j), .s (.sl .whole 0 0 l 1)] [some [.ints .u8 l xs]] =
    cond (decide (j < n)) (nd [decide (j < pss.length), decide (j < pss.length), decide (l = l), decide (l + (pss.getD j []).length ≤ 4398046511104), decide (j + 1 < 9223372036854775808)]
      (some (.normal, [.s (.xsl (.bss pss)), .s (.nat .i64 n), .s (.nat .i64 (j + 1)), .s (.sl .whole 0 0 (l + (pss.getD j []).length) 1)], [some [.ints .u8 (l + (pss.getD j []).length) (xs ++ pss.getD j [])]])))
      (some (.exit 0, [.s (.sl .whole 0 0 l 1)], [some [.ints .u8 l xs]])) := by kernel_rfl

def A41 (pss : List (List Nat)) : Nat → List AV × List (Option Blk)
  | 0 => ([.s (.xsl (.bss pss)), .s (.nat .i64 pss.length), .s (.nat .i64 0), .s .nil], [])
  | i + 1 => ([.s (.xsl (.bss pss)), .s (.nat .i64 pss.length), .s (.nat .i64 (i + 1)), .s (.sl .whole 0 0 (lenN pss (i + 1)) 1)], [some [.ints .u8 (lenN pss (i + 1)) (catN pss (i + 1))]])

theorem lok41 : LOk Tryz.prog Tryz.f58.ntmps (.block 0 (.loop (lb 0 Tryz.f58))) S41 := by
  refine lokR (fs := []) (xs := []) (m := .nat) (fuel := 7) (sums := []) EnvOk.nil mixed (loopsOk_none rfl _) ?_
  intro args hin t e vs hout h hg
  unfold S41 at h
  simp only at h
  split at h
  rotate_left
  · cases h
  rename_i pss n
  simp only [Option.some.injEq] at h
  subst h
  obtain ⟨hc, hgt⟩ := Tr.needs_get hg
  clear hg
  have e1 : n = pss.length := of_decide_eq_true (hc _ (by simp))
  subst e1
  have hl : pss.length < 9223372036854775808 := of_decide_eq_true (hc (decide (pss.length < 9223372036854775808)) (by simp))
  have hk : lenN pss pss.length ≤ 4398046511104 := of_decide_eq_true (hc (decide (lenN pss pss.length ≤ 4398046511104)) (by simp))
  clear hc
  simp only [Tr.get] at hgt
  have hstep : ∀ i, i < pss.length → runR Tryz.prog [] [] .nat 7 [] Tryz.f58 0 S41 0 (A41 pss i).1 (A41 pss i).2 = some (.normal, A41 pss (i + 1)) := fun i hi => by
    have hm := lenN_mono' pss (show i + 1 ≤ pss.length by omega)
    rw [lenN] at hm
    cases i with
    | zero =>
      simp only [A41]
      rw [r41a]
      refine cond_tq (decide_eq_true hi) (nd_ofq ?_ ?_)
      · simp only [lenN] at hm
        simp only [List.mem_cons, List.not_mem_nil, or_false, forall_eq_or_imp, forall_eq, decide_eq_true_eq]
        exact ⟨hi, hi, by omega⟩
      · simp only [lenN, catN, Nat.zero_add, List.nil_append]
    | succ i =>
      simp only [A41]
      rw [r41b]
      refine cond_tq (decide_eq_true hi) (nd_ofq ?_ rfl)
      simp only [List.mem_cons, List.not_mem_nil, or_false, forall_eq_or_imp, forall_eq, decide_eq_true_eq]
      exact ⟨hi, hi, trivial, by omega, by omega⟩
  cases hz : decide (pss.length = 0) with
  | true =>
    have hz' := of_decide_eq_true hz
    rw [hz, cond_true] at hgt
    cases hgt
    refine ⟨pss.length, A41 pss, .exit 0, rfl, hstep, ?_, rfl⟩
    rw [hz']
    simp only [A41, List.length_nil]
    rw [r41a]
    exact cond_fq (decide_eq_false (by omega)) rfl
  | false =>
    have hz' := of_decide_eq_false hz
    rw [hz, cond_false] at hgt
    cases hgt
    refine ⟨pss.length, A41 pss, .exit 0, rfl, hstep, ?_, rfl⟩
    obtain ⟨m, hm⟩ : ∃ m, pss.length = m + 1 := ⟨pss.length - 1, by omega⟩
    have e : ∀ q, q = m + 1 → A41 pss q = ([.s (.xsl (.bss pss)), .s (.nat .i64 pss.length), .s (.nat .i64 q), .s (.sl .whole 0 0 (lenN pss q) 1)], [some [.ints .u8 (lenN pss q) (catN pss q)]]) := by
      rintro q rfl
      rfl
    have := e _ hm
    simp only [List.length_nil]
    rw [this]
    show runR Tryz.prog [] [] .nat 7 [] Tryz.f58 0 S41 0 _ _ = _
    rw [r41b]
    exact cond_fq (decide_eq_false (by omega)) rfl

theorem loops41 : LoopsOk Tryz.prog ⟨Tryz.f58.ntmps, 7, [(0, S41)]⟩ (bodyOf Tryz.f58) := by
  refine loopsOk_of ?_
  have e : loopsIn [(0, S41)] (bodyOf Tryz.f58) = [(0, .loop (lb 0 Tryz.f58), S41)] := by kernel_rfl
  simp only [e]
  intro x hx
  simp only [List.mem_cons, List.not_mem_nil, or_false] at hx
  rcases hx with rfl
  · exact lok41

def S41o (o : OpsA) : LSem := ⟨[17, 18, 19, 8], [8], fun args hin => match args, hin with
  | [.s (.xsl (.bss pss)), .s (.nat .i64 n), .s (.nat .i64 0), .s .nil], [] =>
    some (Tr.needs [decide (n = pss.length), decide (n < 9223372036854775808), decide (o.len pss pss.length ≤ 4398046511104)]
      (.br (decide (pss.length = 0)) (.leaf (.normal, [.s .nil], [])) (.leaf (.normal, [.s (.sl .whole 0 0 (o.len pss pss.length) 1)], [some [.ints .u8 (o.len pss pss.length) (o.cat pss pss.length)]]))))
  | _, _ => none⟩

theorem s41o_eq : S41o opsA = S41 := by kernel_rfl

set_option maxRecDepth 100000 in
theorem r41 (o : OpsA) (key nonce xs : List Nat) (pss : List (List Nat)) : runL Tryz.prog [(99, Z20 o), (100, Z25 o), (101, F47), (102, F48)] [] .nat 7 [(0, S41o o)] Tryz.f58 [.agg [.ints .u8 32 key, .ints .u8 12 nonce], .s (.xsl (.ints .u8 xs)), .s (.xsl (.bss pss))] [] =
(nd [decide (pss.length < 9223372036854775808), decide (pss.length = pss.length), decide (pss.length < 9223372036854775808), decide (o.len pss pss.length ≤ 4398046511104)]
 (cond (decide (pss.length = 0))
 (nd [decide (xs.length < 9223372036854775808), decide (xs.length < 9223372036854775808), decide (filN xs.length = filN xs.length), o.ok41 [[], List.replicate (filN 0) 0, xs, List.replicate (filN xs.length) 0, cnt8 0, cnt8 xs.length], o.okK (List.take 32 (o.blk key nonce 0))]
 (some (AV.agg [Ch.ints IntKind.u8 16 (o.tag (List.take 32 (o.blk key nonce 0)) [[], List.replicate (filN 0) 0, xs, List.replicate (filN xs.length) 0, cnt8 0, cnt8 xs.length])], [])))
 (nd [decide (o.len pss pss.length < 9223372036854775808), decide (xs.length < 9223372036854775808), decide (xs.length < 9223372036854775808), decide (o.len pss pss.length = o.len pss pss.length), decide (filN (o.len pss pss.length) = filN (o.len pss pss.length)), decide (filN xs.length = filN xs.length), o.ok41 [o.cat pss pss.length, List.replicate (filN (o.len pss pss.length)) 0, xs, List.replicate (filN xs.length) 0, cnt8 (o.len pss pss.length), cnt8 xs.length], o.okK (List.take 32 (o.blk key nonce 0))]
 (some (AV.agg [Ch.ints IntKind.u8 16 (o.tag (List.take 32 (o.blk key nonce 0)) [o.cat pss pss.length, List.replicate (filN (o.len pss pss.length)) 0, xs, List.replicate (filN xs.length) 0, cnt8 (o.len pss pss.length), cnt8 xs.length])], []))))) := by kernel_rfl

/-- The parts of which the sum is. -/
def macP (xs bd : List Nat) : List (List Nat) := [bd, List.replicate (filN bd.length) 0, xs, List.replicate (filN xs.length) 0, cnt8 bd.length, cnt8 xs.length]

def macT (key nonce xs bd : List Nat) : List Nat := tagC (List.take 32 (blk key nonce 0)) (macP xs bd)

theorem upto_mem {f : Nat → Nat} {B : Nat} (hf : ∀ i, f i < B) : ∀ n i, ∀ x ∈ upto f n i, x < B
  | 0, _, x, hx => by cases hx
  | n + 1, i, x, hx => by
    rcases List.mem_cons.1 hx with rfl | h
    · exact hf i
    · exact upto_mem hf n (i + 1) x h

theorem outB_mem (x s : List Nat) : ∀ y ∈ outB x s, y < 256 := upto_mem (fun i => Nat.mod_lt _ (by decide)) 64 0

theorem blk_mem (key nonce : List Nat) (n : Nat) : ∀ x ∈ blk key nonce n, x < 256 := outB_mem _ _

theorem once_ok (key nonce : List Nat) : okKey (List.take 32 (blk key nonce 0)) = true := okKey_of fun x hx => blk_mem key nonce 0 x (List.mem_of_mem_take hx)

theorem macP_ok {xs bd : List Nat} (h1 : xs.length ≤ 2199023255552) (h2 : bd.length ≤ 2199023255552) : ok41 (macP xs bd) = true := by
  have f : ∀ n, filN n ≤ 2199023255552 := fun n => Nat.le_trans (Nat.le_of_lt (Nat.mod_lt _ (by decide))) (by decide : 16 ≤ 2199023255552)
  simp only [ok41, macP, List.all_cons, List.all_nil, Bool.and_true, Bool.and_eq_true, decide_eq_true_eq, List.length_replicate]
  exact ⟨h2, f _, h1, f _, show 8 ≤ 2199023255552 by decide, show 8 ≤ 2199023255552 by decide⟩

def F41 : FSem := ⟨true, fun args hin => match args, hin with
  | [.agg [.ints .u8 32 key, .ints .u8 12 nonce], .s (.xsl (.ints .u8 xs)), .s (.xsl (.bss pss))], [] =>
    some (Tr.needs [decide (pss.length < 9223372036854775808), decide (lenN pss pss.length ≤ 2199023255552), decide (xs.length ≤ 2199023255552)] (.leaf (.agg [.ints .u8 16 (macT key nonce xs (catN pss pss.length))], [])))
  | _, _ => none⟩

theorem ok41f : FOk Tryz.prog 58 F41 := by
  have hlo := loops41
  rw [← s41o_eq] at hlo
  refine fokL (fs := [(99, Z20 opsA), (100, Z25 opsA), (101, F47), (102, F48)]) (xs := []) (m := .nat) (fuel := 7) (sums := [(0, S41o opsA)]) (.cons aa20 (.cons aa25 (.cons ok47 (.cons ok48 .nil)))) fn41 hlo ?_
  intro args hin t r h hg
  unfold F41 at h
  simp only at h
  split at h
  · rename_i key nonce xs pss
    simp only [Option.some.injEq] at h
    subst h
    obtain ⟨hc, hgt⟩ := Tr.needs_get hg
    cases hgt
    simp only [List.mem_cons, List.not_mem_nil, or_false, forall_eq_or_imp, forall_eq, decide_eq_true_eq] at hc
    obtain ⟨h1, h2, h3⟩ := hc
    have hcl := catN_len pss pss.length
    have hm := macP_ok (xs := xs) (bd := catN pss pss.length) h3 (by rw [hcl]; exact h2)
    have hk := once_ok key nonce
    rw [r41, opsA_len, opsA_cat, opsA_tag, opsA_ok41, opsA_okK, opsA_blk]
    unfold macT
    unfold macP at hm ⊢
    rw [hcl] at hm ⊢
    refine nd_ofq ?_ ?_
    · simp only [List.mem_cons, List.not_mem_nil, or_false, forall_eq_or_imp, forall_eq, decide_eq_true_eq]
      exact ⟨h1, trivial, h1, by omega⟩
    · by_cases hz : pss.length = 0
      · have e0 : catN pss pss.length = [] := by rw [hz]; rfl
        have e1 : lenN pss pss.length = 0 := by rw [hz]; rfl
        rw [e0, e1] at hm ⊢
        refine cond_tq (decide_eq_true hz) (nd_ofq ?_ rfl)
        simp only [List.mem_cons, List.not_mem_nil, or_false, forall_eq_or_imp, forall_eq, decide_eq_true_eq]
        exact ⟨by omega, by omega, trivial, hm, hk⟩
      · refine cond_fq (decide_eq_false hz) (nd_ofq ?_ rfl)
        simp only [List.mem_cons, List.not_mem_nil, or_false, forall_eq_or_imp, forall_eq, decide_eq_true_eq]
        exact ⟨by omega, by omega, by omega, trivial, trivial, trivial, hm, hk⟩
  · cases h

/-- With the sum left open. -/
structure OpsB extends OpsA where
  mac : List Nat → List Nat → List Nat → List Nat → List Nat
  lon : List (List Nat) → Bool

def opsB : OpsB := { toOpsA := opsA, mac := macT, lon := lonB }

theorem opsB_ops : opsB.toOpsA = opsA := by kernel_rfl

theorem opsB_mac : opsB.mac = macT := by kernel_rfl

theorem opsB_lon : opsB.lon = lonB := by kernel_rfl

def Z40 (o : OpsB) : FSem := ⟨true, fun args hin => match args, hin with
  | [.s (.xsl (.bss pss))], [] => some (Tr.needs [decide (pss.length < 9223372036854775808), o.okL pss] (.leaf (.s (.bool (o.lon pss)), [])))
  | _, _ => none⟩

theorem zz40 : FOk Tryz.prog 56 (Z40 opsB) := by
  have e : Z40 opsB = F40 := by kernel_rfl
  rw [e]
  exact ok40

def Z41 (o : OpsB) : FSem := ⟨true, fun args hin => match args, hin with
  | [.agg [.ints .u8 32 key, .ints .u8 12 nonce], .s (.xsl (.ints .u8 xs)), .s (.xsl (.bss pss))], [] =>
    some (Tr.needs [decide (pss.length < 9223372036854775808), decide (o.len pss pss.length ≤ 2199023255552), decide (xs.length ≤ 2199023255552)] (.leaf (.agg [.ints .u8 16 (o.mac key nonce xs (o.cat pss pss.length))], [])))
  | _, _ => none⟩

theorem zz41 : FOk Tryz.prog 58 (Z41 opsB) := by
  have e : Z41 opsB = F41 := by kernel_rfl
  rw [e]
  exact ok41f

theorem zz22 : FOk Tryz.prog 57 (Z22 opsA) := by
  have e : Z22 opsA = F22 := by kernel_rfl
  rw [e]
  exact ok22

def Z43 (o : OpsA) : FSem := ⟨true, fun args hin => match args, hin with
  | [.s (.xsl (.ints .u8 xs)), .s (.xsl (.ints .u8 ys))], [] => some (Tr.needs [decide (xs.length < 9223372036854775808), decide (ys.length < 9223372036854775808)] (.leaf (.s (.bool (o.eq xs ys)), [])))
  | _, _ => none⟩

theorem zz43 : FOk Tryz.prog 63 (Z43 opsA) := by
  have e : Z43 opsA = F43 := by kernel_rfl
  rw [e]
  exact ok43

def envB (o : OpsB) : List (Nat × FSem) := [(56, Z40 o), (58, Z41 o), (57, Z22 o.toOpsA), (63, Z43 o.toOpsA), (99, Z20 o.toOpsA)]

theorem envB_ok : EnvOk ⟨Tryz.prog, envB opsB, []⟩ := .cons zz40 (.cons zz41 (.cons zz22 (.cons zz43 (.cons aa20 .nil))))

theorem fn28q : Fn Tryz.prog 32 Tryz.f32 := ⟨mixed, Tryz.func32, by kernel_rfl, of_decide_eq_true (by kernel_rfl)⟩

theorem fn30 : Fn Tryz.prog 36 Tryz.f36 := ⟨mixed, Tryz.func36, by kernel_rfl, of_decide_eq_true (by kernel_rfl)⟩

end Go.Proofs.YtdhnkkogbbhnmaaGreat

namespace Go.Proofs.YtdhnkkogbbhnmaaGreat
open Go
set_option maxRecDepth 100000 in
theorem r28q (o : OpsB) (key nonce xs : List Nat) (pss : List (List Nat)) : runB Tryz.prog (envB o) [] .nat 7 Tryz.f32 [.agg [.ints .u8 32 key, .ints .u8 12 nonce], .s (.xsl (.ints .u8 xs)), .s (.xsl (.bss pss))] [] =
(nd [decide (xs.length < 9223372036854775808)]
 (cond (decide (1048576 < xs.length))
 (some (AV.tup [AV.s SV.nil, AV.s (SV.nat IntKind.i64 2)], []))
 (nd [decide (pss.length < 9223372036854775808), o.okL pss]
 (cond (o.lon pss)
 (some (AV.tup [AV.s SV.nil, AV.s (SV.nat IntKind.i64 2)], []))
 (nd [o.okL [xs]]
 (cond (decide (o.len [xs] 1 ≤ 16777216))
 (nd [decide (o.len [xs] 1 = o.len [xs] 1), decide (pss.length < 9223372036854775808), decide (o.len pss pss.length ≤ 2199023255552), decide ((o.mix key nonce 1 (o.cat [xs] 1) (o.len [xs] 1)).length ≤ 2199023255552), decide (o.len [xs] 1 = o.len [xs] 1), decide (o.len [xs] 1 + 16 ≤ 4398046511104)]
 (some (AV.tup [AV.s (SV.sl LK.whole 0 0 (o.len [xs] 1 + 16) 1), AV.s (SV.nat IntKind.i64 0)], [some [Ch.ints IntKind.u8 (o.len [xs] 1 + 16) (o.mix key nonce 1 (o.cat [xs] 1) (o.len [xs] 1) ++ o.mac key nonce (o.mix key nonce 1 (o.cat [xs] 1) (o.len [xs] 1)) (o.cat pss pss.length))]])))
 (some (AV.tup [AV.s SV.nil, AV.s (SV.nat IntKind.i64 2)], [])))))))) := by kernel_rfl

set_option maxRecDepth 100000 in
theorem r30 (o : OpsB) (key nonce xs : List Nat) (pss : List (List Nat)) : runB Tryz.prog (envB o) [] .nat 7 Tryz.f36 [.agg [.ints .u8 32 key, .ints .u8 12 nonce], .s (.xsl (.ints .u8 xs)), .s (.xsl (.bss pss))] [] =
(nd [decide (xs.length < 9223372036854775808), decide (16 ≤ xs.length)]
 (cond (decide (1048576 < xs.length - 16))
 (some (AV.tup [AV.s SV.nil, AV.s (SV.nat IntKind.i64 2)], []))
 (nd [decide (pss.length < 9223372036854775808), o.okL pss]
 (cond (o.lon pss)
 (some (AV.tup [AV.s SV.nil, AV.s (SV.nat IntKind.i64 2)], []))
 (nd [decide (xs.length - 16 ≤ xs.length), decide (pss.length < 9223372036854775808), decide (o.len pss pss.length ≤ 2199023255552), decide ((List.take (xs.length - 16) xs).length ≤ 2199023255552), decide (xs.length - 16 ≤ xs.length), decide ((o.mac key nonce (List.take (xs.length - 16) xs) (o.cat pss pss.length)).length < 9223372036854775808), decide ((List.drop (xs.length - 16) xs).length < 9223372036854775808)]
 (cond (!o.eq (o.mac key nonce (List.take (xs.length - 16) xs) (o.cat pss pss.length)) (List.drop (xs.length - 16) xs))
 (some (AV.tup [AV.s SV.nil, AV.s (SV.nat IntKind.i64 100)], []))
 (nd [decide (xs.length - 16 ≤ xs.length), o.okL [List.take (xs.length - 16) xs]]
 (cond (decide (o.len [List.take (xs.length - 16) xs] 1 ≤ 16777216))
 (some (AV.tup [AV.s (SV.sl LK.whole 0 0 (o.len [List.take (xs.length - 16) xs] 1) 1), AV.s (SV.nat IntKind.i64 0)], [some [Ch.ints IntKind.u8 (o.len [List.take (xs.length - 16) xs] 1) (o.mix key nonce 1 (o.cat [List.take (xs.length - 16) xs] 1) (o.len [List.take (xs.length - 16) xs] 1))]]))
 (some (AV.tup [AV.s SV.nil, AV.s (SV.nat IntKind.i64 2)], [])))))))))) := by kernel_rfl

set_option maxRecDepth 100000 in
theorem r30i (o : OpsB) (key nonce xs : List Nat) (pss : List (List Nat)) : runB Tryz.prog (envB o) [] .int 7 Tryz.f36 [.agg [.ints .u8 32 key, .ints .u8 12 nonce], .s (.xsl (.ints .u8 xs)), .s (.xsl (.bss pss))] [] =
(nd [decide (xs.length < 9223372036854775808)]
 (cond (decide (Int.ofNat 1048576 < Int.ofNat xs.length - Int.ofNat 16))
 (some (AV.tup [AV.s SV.nil, AV.s (SV.nat IntKind.i64 2)], []))
 (nd [decide (pss.length < 9223372036854775808), o.okL pss]
 (cond (o.lon pss)
 (some (AV.tup [AV.s SV.nil, AV.s (SV.nat IntKind.i64 2)], []))
 (cond (decide (Int.ofNat xs.length - Int.ofNat 16 < Int.ofNat 0))
 (some (AV.tup [AV.s SV.nil, AV.s (SV.nat IntKind.i64 111)], []))
 (nd [decide (Int.ofNat 0 ≤ Int.ofNat xs.length - Int.ofNat 16), decide ((Int.ofNat xs.length - Int.ofNat 16).toNat ≤ xs.length), decide (pss.length < 9223372036854775808), decide (o.len pss pss.length ≤ 2199023255552), decide ((List.take (Int.ofNat xs.length - Int.ofNat 16).toNat xs).length ≤ 2199023255552), decide (Int.ofNat 0 ≤ Int.ofNat xs.length - Int.ofNat 16), decide ((Int.ofNat xs.length - Int.ofNat 16).toNat ≤ xs.length), decide ((o.mac key nonce (List.take (Int.ofNat xs.length - Int.ofNat 16).toNat xs) (o.cat pss pss.length)).length < 9223372036854775808), decide ((List.drop (Int.ofNat xs.length - Int.ofNat 16).toNat xs).length < 9223372036854775808)]
 (cond (!o.eq (o.mac key nonce (List.take (Int.ofNat xs.length - Int.ofNat 16).toNat xs) (o.cat pss pss.length)) (List.drop (Int.ofNat xs.length - Int.ofNat 16).toNat xs))
 (some (AV.tup [AV.s SV.nil, AV.s (SV.nat IntKind.i64 100)], []))
 (nd [decide (Int.ofNat 0 ≤ Int.ofNat xs.length - Int.ofNat 16), decide ((Int.ofNat xs.length - Int.ofNat 16).toNat ≤ xs.length), o.okL [List.take (Int.ofNat xs.length - Int.ofNat 16).toNat xs]]
 (cond (decide (o.len [List.take (Int.ofNat xs.length - Int.ofNat 16).toNat xs] 1 ≤ 16777216))
 (some (AV.tup [AV.s (SV.sl LK.whole 0 0 (o.len [List.take (Int.ofNat xs.length - Int.ofNat 16).toNat xs] 1) 1), AV.s (SV.nat IntKind.i64 0)], [some [Ch.ints IntKind.u8 (o.len [List.take (Int.ofNat xs.length - Int.ofNat 16).toNat xs] 1) (o.mix key nonce 1 (o.cat [List.take (Int.ofNat xs.length - Int.ofNat 16).toNat xs] 1) (o.len [List.take (Int.ofNat xs.length - Int.ofNat 16).toNat xs] 1))]]))
 (some (AV.tup [AV.s SV.nil, AV.s (SV.nat IntKind.i64 2)], []))))))))))) := by kernel_rfl

def mxT (key nonce xs : List Nat) : List Nat := mixC key nonce 1 xs xs.length

def slT (key nonce xs bd : List Nat) : List Nat := mxT key nonce xs ++ macT key nonce (mxT key nonce xs) bd

theorem mxT_len (key nonce xs : List Nat) : (mxT key nonce xs).length = xs.length := mixC_len _ _ _ _ _

theorem catN_1 (xs : List Nat) : catN [xs] 1 = xs := by simp [catN]

theorem lenN_1 (xs : List Nat) : lenN [xs] 1 = xs.length := by simp [lenN]

def F28q : FSem := ⟨true, fun args hin => match args, hin with
  | [.agg [.ints .u8 32 key, .ints .u8 12 nonce], .s (.xsl (.ints .u8 xs)), .s (.xsl (.bss pss))], [] =>
    some (Tr.needs [decide (xs.length < 9223372036854775808), decide (pss.length < 9223372036854775808), okLens pss]
      (.br (decide (1048576 < xs.length) || lonB pss) (.leaf (.tup [.s .nil, .s (.nat .i64 2)], []))
        (.leaf (.tup [.s (.sl .whole 0 0 (xs.length + 16) 1), .s (.nat .i64 0)], [some [.ints .u8 (xs.length + 16) (slT key nonce xs (catN pss pss.length))]]))))
  | _, _ => none⟩

theorem or_f {a b : Bool} (h : (a || b) = false) : a = false ∧ b = false := by
  cases a <;> cases b <;> simp_all

theorem lonB_f {pss : List (List Nat)} (h : lonB pss = false) : lenN pss pss.length ≤ 1048576 := by
  have := of_decide_eq_false h
  omega

theorem okL_1 {xs : List Nat} (h : xs.length < 9223372036854775808) : okLens [xs] = true := by
  simp only [okLens, List.all_cons, List.all_nil, Bool.and_true]
  exact decide_eq_true h

theorem ok28q : FOk Tryz.prog 32 F28q := by
  refine fokB (fs := envB opsB) (xs := []) (m := .nat) (fuel := 7) envB_ok fn28q ?_
  intro args hin t r h hg
  unfold F28q at h
  simp only at h
  split at h
  · rename_i key nonce xs pss
    simp only [Option.some.injEq] at h
    subst h
    obtain ⟨hc, hgt⟩ := Tr.needs_get hg
    simp only [List.mem_cons, List.not_mem_nil, or_false, forall_eq_or_imp, forall_eq, decide_eq_true_eq] at hc
    obtain ⟨h1, h2, h3⟩ := hc
    simp only [Tr.get] at hgt
    rw [r28q, opsB_ops, opsB_mac, opsB_lon, opsA_okL, opsA_len, opsA_mix, opsA_cat, catN_1, lenN_1]
    have hx := okL_1 h1
    rw [show mixC key nonce 1 xs xs.length = mxT key nonce xs from rfl]
    have hml := mxT_len key nonce xs
    refine nd_ofq (by simpa using h1) ?_
    cases hb : (decide (1048576 < xs.length) || lonB pss) with
    | true =>
      rw [hb, cond_true] at hgt
      cases hgt
      by_cases hl : 1048576 < xs.length
      · exact cond_tq (decide_eq_true hl) rfl
      · have hlon : lonB pss = true := by rwa [decide_eq_false hl, Bool.false_or] at hb
        refine cond_fq (decide_eq_false hl) (nd_ofq ?_ (cond_tq hlon rfl))
        simp only [List.mem_cons, List.not_mem_nil, or_false, forall_eq_or_imp, forall_eq, decide_eq_true_eq]
        exact ⟨h2, h3⟩
    | false =>
      rw [hb, cond_false] at hgt
      cases hgt
      obtain ⟨g1, g2⟩ := or_f hb
      have g1 := of_decide_eq_false g1
      have g3 := lonB_f g2
      refine cond_fq (decide_eq_false g1) (nd_ofq ?_ (cond_fq g2 (nd_ofq ?_ (cond_tq (decide_eq_true (by omega)) (nd_ofq ?_ rfl)))))
      · simp only [List.mem_cons, List.not_mem_nil, or_false, forall_eq_or_imp, forall_eq, decide_eq_true_eq]
        exact ⟨h2, h3⟩
      · simpa using hx
      · simp only [List.mem_cons, List.not_mem_nil, or_false, forall_eq_or_imp, forall_eq, decide_eq_true_eq, hml]
        exact ⟨trivial, h2, by omega, by omega, trivial, by omega⟩
  · cases h

def opT (xs : List Nat) : List Nat := List.take (xs.length - 16) xs

def lsT (xs : List Nat) : List Nat := List.drop (xs.length - 16) xs

def F30 : FSem := ⟨true, fun args hin => match args, hin with
  | [.agg [.ints .u8 32 key, .ints .u8 12 nonce], .s (.xsl (.ints .u8 xs)), .s (.xsl (.bss pss))], [] =>
    some (Tr.needs [decide (xs.length < 9223372036854775808), decide (pss.length < 9223372036854775808), okLens pss]
      (.br (decide (1048592 < xs.length) || lonB pss) (.leaf (.tup [.s .nil, .s (.nat .i64 2)], []))
        (.br (decide (xs.length < 16)) (.leaf (.tup [.s .nil, .s (.nat .i64 111)], []))
          (.br (decide (macT key nonce (opT xs) (catN pss pss.length) = lsT xs))
            (.leaf (.tup [.s (.sl .whole 0 0 (xs.length - 16) 1), .s (.nat .i64 0)], [some [.ints .u8 (xs.length - 16) (mxT key nonce (opT xs))]]))
            (.leaf (.tup [.s .nil, .s (.nat .i64 100)], []))))))
  | _, _ => none⟩

theorem opT_len (xs : List Nat) : (opT xs).length = xs.length - 16 := by
  unfold opT
  rw [List.length_take]
  omega

theorem finL_len (x k : List Nat) : (finL x k).length = 16 := rfl

theorem macT_len (key nonce xs bd : List Nat) : (macT key nonce xs bd).length = 16 := finL_len _ _

theorem ok30 : FOk Tryz.prog 36 F30 := by
  refine ⟨⟨_, _, fn30.at_, fn30.body, fn30.name⟩, ?_⟩
  intro args hin t v hout h hg
  unfold F30 at h
  simp only at h
  split at h
  · rename_i key nonce xs pss
    simp only [Option.some.injEq] at h
    subst h
    obtain ⟨hc, hgt⟩ := Tr.needs_get hg
    simp only [List.mem_cons, List.not_mem_nil, or_false, forall_eq_or_imp, forall_eq, decide_eq_true_eq] at hc
    obtain ⟨h1, h2, h3⟩ := hc
    simp only [Tr.get] at hgt
    by_cases h16 : 16 ≤ xs.length
    · refine ctrB (fs := envB opsB) (xs := []) (m := .nat) (fuel := 7) envB_ok fn30 ?_
      rw [r30, opsB_ops, opsB_mac, opsB_lon, opsA_okL, opsA_len, opsA_mix, opsA_cat, opsA_eq, catN_1, lenN_1]
      rw [show List.take (xs.length - 16) xs = opT xs from rfl, show List.drop (xs.length - 16) xs = lsT xs from rfl, show mixC key nonce 1 (opT xs) (opT xs).length = mxT key nonce (opT xs) from rfl, opT_len, macT_len]
      have hls : (lsT xs).length = 16 := by
        unfold lsT
        rw [List.length_drop]
        omega
      rw [hls]
      have hx : okLens [opT xs] = true := okL_1 (by rw [opT_len]; omega)
      rw [hx]
      have hlt : ¬ xs.length < 16 := by omega
      refine nd_ofq (by simp only [List.mem_cons, List.not_mem_nil, or_false, forall_eq_or_imp, forall_eq, decide_eq_true_eq]; exact ⟨h1, h16⟩) ?_
      cases hb : (decide (1048592 < xs.length) || lonB pss) with
      | true =>
        rw [hb, cond_true] at hgt
        cases hgt
        by_cases hl : 1048576 < xs.length - 16
        · exact cond_tq (decide_eq_true hl) rfl
        · have hlon : lonB pss = true := by rwa [decide_eq_false (by omega), Bool.false_or] at hb
          refine cond_fq (decide_eq_false hl) (nd_ofq ?_ (cond_tq hlon rfl))
          simp only [List.mem_cons, List.not_mem_nil, or_false, forall_eq_or_imp, forall_eq, decide_eq_true_eq]
          exact ⟨h2, h3⟩
      | false =>
        rw [hb, cond_false, decide_eq_false hlt, cond_false] at hgt
        obtain ⟨g1, g2⟩ := or_f hb
        have g1 := of_decide_eq_false g1
        have g3 := lonB_f g2
        refine cond_fq (decide_eq_false (by omega)) (nd_ofq ?_ (cond_fq g2 (nd_ofq ?_ ?_)))
        · simp only [List.mem_cons, List.not_mem_nil, or_false, forall_eq_or_imp, forall_eq, decide_eq_true_eq]
          exact ⟨h2, h3⟩
        · simp only [List.mem_cons, List.not_mem_nil, or_false, forall_eq_or_imp, forall_eq, decide_eq_true_eq]
          exact ⟨by omega, h2, by omega, by omega, by omega, by omega, by omega⟩
        · cases he : decide (macT key nonce (opT xs) (catN pss pss.length) = lsT xs) with
          | true =>
            rw [he, cond_true] at hgt
            cases hgt
            refine cond_fq (by show (!decide (macT key nonce (opT xs) (catN pss pss.length) = lsT xs)) = false; rw [he]; rfl) (nd_ofq ?_ (cond_tq (decide_eq_true (by omega)) rfl))
            simp only [List.mem_cons, List.not_mem_nil, or_false, forall_eq_or_imp, forall_eq, decide_eq_true_eq]
            exact ⟨by omega, trivial⟩
          | false =>
            rw [he, cond_false] at hgt
            cases hgt
            exact cond_tq (by show (!decide (macT key nonce (opT xs) (catN pss pss.length) = lsT xs)) = true; rw [he]; rfl) rfl
    · refine ctrB (fs := envB opsB) (xs := []) (m := .int) (fuel := 7) envB_ok fn30 ?_
      rw [r30i, opsB_lon, opsB_ops, opsA_okL]
      rw [decide_eq_false (show ¬ 1048592 < xs.length by omega), Bool.false_or] at hgt
      refine nd_ofq (by simpa using h1) (cond_fq (decide_eq_false (by simp only [Int.ofNat_eq_natCast]; omega)) (nd_ofq ?_ ?_))
      · simp only [List.mem_cons, List.not_mem_nil, or_false, forall_eq_or_imp, forall_eq, decide_eq_true_eq]
        exact ⟨h2, h3⟩
      · cases hl : lonB pss with
        | true =>
          rw [hl, cond_true] at hgt
          cases hgt
          exact cond_tq rfl rfl
        | false =>
          rw [hl, cond_false, decide_eq_true (by omega), cond_true] at hgt
          cases hgt
          exact cond_fq rfl (cond_tq (decide_eq_true (by simp only [Int.ofNat_eq_natCast]; omega)) rfl)
  · cases h

end Go.Proofs.YtdhnkkogbbhnmaaGreat

namespace Go.Proofs.YtdhnkkogbbhnmaaGreat
open Go
def Q24h (o : OpsE) : FSem := ⟨true, fun args hin => match args, hin with
  | [.s (.xsl (.ints .u8 key)), .s (.xsl (.bss [p]))], [] => some (Tr.needs [decide (key.length ≤ 1099511627776), decide (p.length ≤ 1099511627776)] (.leaf (.agg [.ints .u8 32 (o.mc key p)], [])))
  | _, _ => none⟩

theorem oq11h : FOk Tryz.prog 82 (Q24h opsE) := by
  have e : Q24h opsE = R24h opsN := by kernel_rfl
  rw [e]
  exact or11h

theorem fn4h : Fn Tryz.prog 45 Tryz.f45 := ⟨mixed, Tryz.func45, by kernel_rfl, of_decide_eq_true (by kernel_rfl)⟩

def OpsE.ks (o : OpsE) (salt secret info : List Nat) : List Nat := o.ep (o.mc salt secret) info

def k1L (b : List Nat) : List Nat := List.take 32 (List.drop 0 b)

def k2L (b : List Nat) : List Nat := List.take 32 (List.drop 32 b)

set_option maxRecDepth 100000 in
theorem r4h (o : OpsE) (salt secret info : List Nat) : runB Tryz.prog [(82, Q24h o), (81, R10h o)] [] .nat 70 Tryz.f45 [.s (.xsl (.ints .u8 salt)), .s (.xsl (.ints .u8 secret)), .s (.str info), .s (.nat .i64 2)] [] =
    nd [decide (salt.length ≤ 1099511627776), decide (secret.length ≤ 1099511627776), decide (info.length = info.length), decide ((o.mc salt secret).length ≤ 1099511627776), decide (info.length ≤ 1099511627776)]
      (some (.tup [.s (.sl .whole 0 0 2 32), .s (.nat .i64 0)], [some [.ints .u8 32 (k1L (o.ks salt secret info)), .ints .u8 32 (k2L (o.ks salt secret info))]])) := by kernel_rfl

/-- All that the law calls, left open. -/
structure OpsL where
  k1 : List Nat → List Nat → List Nat → List Nat
  k2 : List Nat → List Nat → List Nat → List Nat
  sl : List Nat → List Nat → List Nat → List Nat → List Nat
  tel : List Nat → List Nat → List Nat → List Nat → Bool
  opn : List Nat → List Nat → List Nat → List Nat
  mix : List Nat → List Nat → Nat → List Nat → Nat → List Nat
  blk : List Nat → List Nat → Nat → List Nat
  tag : List Nat → List (List Nat) → List Nat
  lon : List (List Nat) → Bool
  ok41 : List (List Nat) → Bool
  okK : List Nat → Bool
  okL : List (List Nat) → Bool
  cat : List (List Nat) → Nat → List Nat
  len : List (List Nat) → Nat → Nat
  fl : Nat → Nat
  fi : List Nat → Nat → List Nat

def fillN (y : List Nat) : Nat → List Nat
  | 0 => y
  | i + 1 => fillN y i ++ [0]

def telT (key nonce s bd : List Nat) : Bool := decide (macT key nonce (opT s) bd = lsT s)

def opnT (key nonce s : List Nat) : List Nat := mxT key nonce (opT s)

def ksT (salt secret info : List Nat) : List Nat := epF (opsN.mc salt secret) info

def opsL : OpsL := ⟨fun a b c => k1L (ksT a b c), fun a b c => k2L (ksT a b c), slT, telT, opnT, mixC, blk, tagC, lonB, ok41, okKey, okLens, catN, lenN, filN, fillN⟩

theorem opsL_k1 : opsL.k1 = fun a b c => k1L (ksT a b c) := by kernel_rfl

theorem opsL_k2 : opsL.k2 = fun a b c => k2L (ksT a b c) := by kernel_rfl

theorem opsL_sl : opsL.sl = slT := by kernel_rfl

theorem opsL_tel : opsL.tel = telT := by kernel_rfl

theorem opsL_opn : opsL.opn = opnT := by kernel_rfl

theorem opsL_lon : opsL.lon = lonB := by kernel_rfl

theorem opsL_okL : opsL.okL = okLens := by kernel_rfl

theorem opsL_cat : opsL.cat = catN := by kernel_rfl

theorem opsL_len : opsL.len = lenN := by kernel_rfl

def Y4 (o : OpsL) : FSem := ⟨true, fun args hin => match args, hin with
  | [.s (.xsl (.ints .u8 salt)), .s (.xsl (.ints .u8 secret)), .s (.str info), .s (.nat .i64 2)], [] =>
    some (Tr.needs [decide (salt.length ≤ 1099511627776), decide (secret.length ≤ 1099511627776), decide (info.length ≤ 1099511627776)]
      (.leaf (.tup [.s (.sl .whole 0 0 2 32), .s (.nat .i64 0)], [some [.ints .u8 32 (o.k1 salt secret info), .ints .u8 32 (o.k2 salt secret info)]])))
  | _, _ => none⟩

def Y5 (o : OpsL) : FSem := ⟨true, fun args hin => match args, hin with
  | [.agg [.ints .u8 32 key, .ints .u8 12 nonce], .s (.xsl (.ints .u8 xs)), .s (.xsl (.bss pss))], [] =>
    some (Tr.needs [decide (xs.length < 9223372036854775808), decide (pss.length < 9223372036854775808), o.okL pss]
      (.br (decide (1048576 < xs.length) || o.lon pss) (.leaf (.tup [.s .nil, .s (.nat .i64 2)], []))
        (.leaf (.tup [.s (.sl .whole 0 0 (xs.length + 16) 1), .s (.nat .i64 0)], [some [.ints .u8 (xs.length + 16) (o.sl key nonce xs (o.cat pss pss.length))]]))))
  | _, _ => none⟩

theorem y5 : FOk Tryz.prog 32 (Y5 opsL) := by
  have e : Y5 opsL = F28q := by kernel_rfl
  rw [e]
  exact ok28q

def Y6 (o : OpsL) : FSem := ⟨true, fun args hin => match args, hin with
  | [.agg [.ints .u8 32 key, .ints .u8 12 nonce], .s (.xsl (.ints .u8 xs)), .s (.xsl (.bss pss))], [] =>
    some (Tr.needs [decide (xs.length < 9223372036854775808), decide (pss.length < 9223372036854775808), o.okL pss]
      (.br (decide (1048592 < xs.length) || o.lon pss) (.leaf (.tup [.s .nil, .s (.nat .i64 2)], []))
        (.br (decide (xs.length < 16)) (.leaf (.tup [.s .nil, .s (.nat .i64 111)], []))
          (.br (o.tel key nonce xs (o.cat pss pss.length))
            (.leaf (.tup [.s (.sl .whole 0 0 (xs.length - 16) 1), .s (.nat .i64 0)], [some [.ints .u8 (xs.length - 16) (o.opn key nonce xs)]]))
            (.leaf (.tup [.s .nil, .s (.nat .i64 100)], []))))))
  | _, _ => none⟩

theorem y6 : FOk Tryz.prog 36 (Y6 opsL) := by
  have e : Y6 opsL = F30 := by kernel_rfl
  rw [e]
  exact ok30

theorem y4 : FOk Tryz.prog 45 (Y4 opsL) := by
  refine fokB (fs := [(82, Q24h opsE), (81, R10h opsE)]) (xs := []) (m := .nat) (fuel := 70) (.cons oq11h (.cons or10h .nil)) fn4h ?_
  intro args hin t r h hg
  unfold Y4 at h
  rw [opsL_k1, opsL_k2] at h
  simp only at h
  split at h
  · rename_i salt secret info
    simp only [Option.some.injEq] at h
    subst h
    obtain ⟨hc, hgt⟩ := Tr.needs_get hg
    cases hgt
    simp only [List.mem_cons, List.not_mem_nil, or_false, forall_eq_or_imp, forall_eq, decide_eq_true_eq] at hc
    obtain ⟨h1, h2, h3⟩ := hc
    have hm := mc_len salt secret
    rw [r4h, OpsE.ks, opsE_mc, opsE_ep]
    refine nd_ofq ?_ rfl
    simp only [List.mem_cons, List.not_mem_nil, or_false, forall_eq_or_imp, forall_eq, decide_eq_true_eq]
    exact ⟨h1, h2, trivial, by omega, h3⟩
  · cases h

end Go.Proofs.YtdhnkkogbbhnmaaGreat

namespace Go.Proofs.YtdhnkkogbbhnmaaGreat
open Go
theorem slT_len (key nonce xs bd : List Nat) : (slT key nonce xs bd).length = xs.length + 16 := by
  rw [slT, List.length_append, mxT_len, macT_len]

theorem opT_slT (key nonce xs bd : List Nat) : opT (slT key nonce xs bd) = mxT key nonce xs := by
  unfold opT
  rw [slT_len, Nat.add_sub_cancel, slT, ← mxT_len key nonce xs, List.take_left' rfl]

theorem lsT_slT (key nonce xs bd : List Nat) : lsT (slT key nonce xs bd) = macT key nonce (mxT key nonce xs) bd := by
  unfold lsT
  rw [slT_len, Nat.add_sub_cancel, slT, ← mxT_len key nonce xs, List.drop_left' rfl]

theorem mx_mx (key nonce xs : List Nat) : mxT key nonce (mxT key nonce xs) = xs := by
  apply List.ext_getElem?
  intro i
  have hl := mxT_len key nonce xs
  have hl2 := mxT_len key nonce (mxT key nonce xs)
  by_cases hi : i < xs.length
  · have h1 := mixC_get key nonce 1 (mxT key nonce xs) (l := (mxT key nonce xs).length) (i := i) (by omega) (by omega)
    have h2 := mixC_get key nonce 1 xs (l := xs.length) (i := i) hi hi
    have h1' : (mxT key nonce (mxT key nonce xs)).getD i 0 = mixAt key nonce 1 (mxT key nonce xs) i := h1
    have h2' : (mxT key nonce xs).getD i 0 = mixAt key nonce 1 xs i := h2
    have h3 : (mxT key nonce (mxT key nonce xs)).getD i 0 = xs.getD i 0 := by
      rw [h1', mixAt, h2', mixAt, Nat.xor_assoc, Nat.xor_self, Nat.xor_zero]
    rw [List.getD, List.getD, List.getElem?_eq_getElem (by omega), List.getElem?_eq_getElem hi] at h3
    rw [List.getElem?_eq_getElem (by omega), List.getElem?_eq_getElem hi]
    exact congrArg some h3
  · rw [List.getElem?_eq_none (by omega), List.getElem?_eq_none (by omega)]

end Go.Proofs.YtdhnkkogbbhnmaaGreat

namespace Go.Proofs.YtdhnkkogbbhnmaaGreat
open Go

def wrM (o : OpsF) (c : Nat) (st : List Nat) (pss : List (List Nat)) : Nat → HV
  | 0 => w0F o c st (pss.getD 0 [])
  | i + 1 => (OpsV.mk (w0F o) (w1F o)).more (wrM o c st pss i) (pss.getD (i + 1) [])

structure OpsWr where
  wr : Nat → List Nat → List (List Nat) → HV
def opsWr : OpsWr := ⟨fun c st pss => wrM opsF c st pss (pss.length - 1)⟩
theorem opsWr_wr : opsWr.wr = fun c st pss => wrM opsF c st pss (pss.length - 1) := by kernel_rfl

theorem wrM_st {c : Nat} {st : List Nat} {pss : List (List Nat)} (h : st.length = 8) : ∀ i, (wrM opsF c st pss i).st.length = 8
  | 0 => bks_len _ _ _ h
  | i + 1 => bks_len _ _ _ (wrM_st h i)

def Swr6 (o : OpsWr) : LSem := ⟨[0, 6, 7, 8], [], fun args hin => match args, hin with
  | [.s (.ptr 0 0), .s (.xsl (.bss pss)), .s (.nat .i64 n), .s (.nat .i64 0)], [[.one .nil, .one (.nat .u64 c), .ints .u32 8 st]] =>
    some (Tr.needs [decide (n = pss.length), decide (0 < n), decide (n < 9223372036854775808), okPs pss, decide (st.length = 8)] (.leaf (.normal, [], [some (hV 1 (o.wr c st pss)), some (hY (o.wr c st pss))])))
  | _, _ => none⟩

set_option maxRecDepth 100000 in
theorem rlWr60 (o : OpsF) (q : OpsWr) (pss : List (List Nat)) (n i c : Nat) (st : List Nat) : runR Tryz.prog [(115, R31h o)] [] .nat 20 [] Tryz.f84 0 (Swr6 q) 1 [.s (.ptr 0 0), .s (.xsl (.bss pss)), .s (.nat .i64 n), .s (.nat .i64 i)] [some [.one .nil, .one (.nat .u64 c), .ints .u32 8 st]] =
(cond (decide (i < n))
 (nd [decide (i < pss.length), decide (i < pss.length), decide ((pss.getD i []).length ≤ 4398046511104), decide (st.length = 8), decide (i + 1 < 9223372036854775808)]
 (some (Ex.normal, [AV.s (SV.ptr 0 0), AV.s (SV.xsl (XC.bss pss)), AV.s (SV.nat IntKind.i64 n), AV.s (SV.nat IntKind.i64 (i + 1))], [some (hV 1 (w0F o c st (pss.getD i []))), some (hY (w0F o c st (pss.getD i [])))])))
 (some (Ex.exit 0, [], [some [Ch.one SV.nil, .one (.nat .u64 c), Ch.ints IntKind.u32 8 st]]))) := by kernel_rfl

set_option maxRecDepth 100000 in
theorem rlWr61 (o : OpsF) (q : OpsWr) (pss : List (List Nat)) (n i : Nat) (v : HV) : runR Tryz.prog [(115, R31h o)] [] .nat 20 [] Tryz.f84 0 (Swr6 q) 1 [.s (.ptr 0 0), .s (.xsl (.bss pss)), .s (.nat .i64 n), .s (.nat .i64 i)] [some (hV 1 v), some (hY v)] =
(cond (decide (i < n))
 (nd [decide (i < pss.length), decide (i < pss.length), rowNq (lkq (v.n / 64)) (64 * (v.n / 64)) (v.n - 64 * (v.n / 64)) v.n, decide (v.n - 64 * (v.n / 64) + (pss.getD i []).length ≤ 4398046511104), decide (v.st.length = 8), decide (i + 1 < 9223372036854775808)]
 (some (Ex.normal, [AV.s (SV.ptr 0 0), AV.s (SV.xsl (XC.bss pss)), AV.s (SV.nat IntKind.i64 n), AV.s (SV.nat IntKind.i64 (i + 1))], [some (hV 1 ((OpsV.mk (w0F o) (w1F o)).more v (pss.getD i []))), some (hY ((OpsV.mk (w0F o) (w1F o)).more v (pss.getD i [])))])))
 (some (Ex.exit 0, [], [some (hV 1 v), some (hY v)]))) := by kernel_rfl

theorem lokWr6 : LOk Tryz.prog Tryz.f84.ntmps (.block 0 (.loop (lb 0 Tryz.f84))) (Swr6 opsWr) := by
  refine lokR (fs := [(115, R31h opsF)]) (xs := []) (m := .nat) (fuel := 20) (sums := []) (.cons or31h .nil) mixedF (loopsOk_none rfl _) ?_
  intro args hin t e vs hout h hg
  unfold Swr6 at h
  simp only at h
  split at h
  rotate_left
  · cases h
  rename_i pss n c st
  simp only [Option.some.injEq] at h
  subst h
  obtain ⟨hc, hgt⟩ := Tr.needs_get hg
  cases hgt
  simp only [List.mem_cons, List.not_mem_nil, or_false, forall_eq_or_imp, forall_eq, decide_eq_true_eq] at hc
  obtain ⟨rfl, h2, h3, h4, h5⟩ := hc
  refine ⟨pss.length, fun i => ([.s (.ptr 0 0), .s (.xsl (.bss pss)), .s (.nat .i64 pss.length), .s (.nat .i64 i)], match i with
    | 0 => [some [.one .nil, .one (.nat .u64 c), .ints .u32 8 st]]
    | i + 1 => [some (hV 1 (wrM opsF c st pss i)), some (hY (wrM opsF c st pss i))]), .exit 0, rfl, fun i hi => ?_, ?_, rfl⟩
  · simp only [List.length_cons, List.length_nil]
    have hp := okPs_get h4 hi
    cases i with
    | zero =>
      simp only
      rw [rlWr60]
      refine cond_t (decide_eq_true hi) (nd_of ?_ rfl)
      simp only [List.mem_cons, List.not_mem_nil, or_false, forall_eq_or_imp, forall_eq, decide_eq_true_eq]; omega
    | succ i =>
      simp only
      rw [rlWr61]
      refine cond_t (decide_eq_true hi) (nd_of ?_ rfl)
      simp only [List.mem_cons, List.not_mem_nil, or_false, forall_eq_or_imp, forall_eq, decide_eq_true_eq]
      exact ⟨hi, hi, rowN_lf _, by omega, wrM_st h5 i, by omega⟩
  · simp only [List.length_cons, List.length_nil]
    obtain ⟨q, hq⟩ : ∃ q, pss.length = q + 1 := ⟨pss.length - 1, by omega⟩
    have hq1 : pss.length - 1 = q := by omega
    rw [opsWr_wr]
    simp only [hq1]
    simp only [hq]
    rw [rlWr61]
    exact cond_f (decide_eq_false (by omega)) rfl

theorem loopsWr6 : LoopsOk Tryz.prog ⟨Tryz.f84.ntmps, 20, [(0, Swr6 opsWr)]⟩ (bodyOf Tryz.f84) := by
  refine loopsOk_of ?_
  have e : loopsIn [(0, Swr6 opsWr)] (bodyOf Tryz.f84) = [(0, .loop (lb 0 Tryz.f84), Swr6 opsWr)] := by kernel_rfl
  simp only [e]
  intro x hx
  simp only [List.mem_cons, List.not_mem_nil, or_false] at hx
  rcases hx with rfl
  · exact lokWr6

theorem fnWrite6 : Fn Tryz.prog 84 Tryz.f84 := ⟨mixedF, Tryz.func84, by kernel_rfl, of_decide_eq_true (by kernel_rfl)⟩

set_option maxRecDepth 100000 in
theorem rWrite6 (o : OpsWr) (pss : List (List Nat)) (c : Nat) (st : List Nat) : runL Tryz.prog [(115, R31h opsF)] [] .nat 20 [(0, Swr6 o)] Tryz.f84 [.s (.ptr 0 0), .s (.xsl (.bss pss))] [[.one .nil, .one (.nat .u64 c), .ints .u32 8 st]] =
  nd [decide (pss.length < 9223372036854775808), decide (pss.length = pss.length), decide (0 < pss.length), decide (pss.length < 9223372036854775808), okPs pss, decide (st.length = 8)]
    (some (.tup [], [some (hV 1 (o.wr c st pss)), some (hY (o.wr c st pss))])) := by kernel_rfl

def Kwrite6 (o : OpsWr) : FSem := ⟨true, fun args hin => match args, hin with
  | [.s (.ptr 0 0), .s (.xsl (.bss pss))], [[.one .nil, .one (.nat .u64 c), .ints .u32 8 st]] =>
    some (Tr.needs [decide (0 < pss.length), decide (pss.length < 9223372036854775808), okPs pss, decide (st.length = 8)] (.leaf (.tup [], [some (hV 1 (o.wr c st pss)), some (hY (o.wr c st pss))])))
  | _, _ => none⟩
theorem okWrite6 : FOk Tryz.prog 84 (Kwrite6 opsWr) := by
  refine fokL (fs := [(115, R31h opsF)]) (xs := []) (m := .nat) (fuel := 20) (sums := [(0, Swr6 opsWr)]) (.cons or31h .nil) fnWrite6 loopsWr6 ?_
  intro args hin t r h hg
  unfold Kwrite6 at h
  simp only at h
  split at h
  · rename_i pss c st
    simp only [Option.some.injEq] at h
    subst h
    obtain ⟨hc, hgt⟩ := Tr.needs_get hg
    cases hgt
    simp only [List.mem_cons, List.not_mem_nil, or_false, forall_eq_or_imp, forall_eq, decide_eq_true_eq] at hc
    rw [rWrite6]
    refine nd_of ?_ rfl
    simp only [List.mem_cons, List.not_mem_nil, or_false, forall_eq_or_imp, forall_eq, decide_eq_true_eq, true_and]
    exact ⟨hc.2.1, hc.1, hc.2.1, hc.2.2⟩
  · cases h

theorem fnSum256 : Fn Tryz.prog 46 Tryz.f46 := ⟨mixedF, Tryz.func46, by kernel_rfl, of_decide_eq_true (by kernel_rfl)⟩

set_option maxRecDepth 100000 in
theorem rSum256 (o : OpsS) (w : OpsWr) (pss : List (List Nat)) : runB Tryz.prog [(83, F29h), (84, Kwrite6 w), (85, R33h o)] [] .nat 40 Tryz.f46 [.s (.xsl (.bss pss))] [] =
    nd [decide (0 < pss.length), decide (pss.length < 9223372036854775808), okPs pss, true, rowNq (lkq ((w.wr 0 st0h pss).n / 64)) (64 * ((w.wr 0 st0h pss).n / 64)) ((w.wr 0 st0h pss).n - 64 * ((w.wr 0 st0h pss).n / 64)) (w.wr 0 st0h pss).n, decide ((w.wr 0 st0h pss).n - 64 * ((w.wr 0 st0h pss).n / 64) ≤ 2199023255552), decide ((w.wr 0 st0h pss).c < 4611686018427387904), decide ((w.wr 0 st0h pss).st.length = 8)]
      (some (.agg [.ints .u8 32 (o.sv (w.wr 0 st0h pss))], [])) := by kernel_rfl

/-- The sum of parts. -/
def sumF2 (pss : List (List Nat)) : List Nat := opsS.sv (opsWr.wr 0 st0h pss)
structure OpsH2 where
  s2 : List (List Nat) → List Nat
def opsH2 : OpsH2 := ⟨sumF2⟩
theorem opsH2_s2 : opsH2.s2 = sumF2 := by kernel_rfl

theorem wrM_n {pss : List (List Nat)} (h : okPs pss = true) (c : Nat) (st : List Nat) : ∀ i, i < pss.length → (wrM opsF c st pss i).n ≤ 1099511627776 + 128
  | 0, hi => by
    have := okPs_get h hi
    show (pss.getD 0 []).length ≤ _
    omega
  | i + 1, hi => by
    have := okPs_get h hi
    show (wrM opsF c st pss i).n - 64 * ((wrM opsF c st pss i).n / 64) + (pss.getD (i + 1) []).length ≤ _
    omega

theorem wrM_c {pss : List (List Nat)} (h : okPs pss = true) (st : List Nat) : ∀ i, i < pss.length → (wrM opsF 0 st pss i).c ≤ (i + 1) * 1099511627776
  | 0, hi => by
    have := okPs_get h hi
    show (0 + (pss.getD 0 []).length) % 18446744073709551616 ≤ _
    omega
  | i + 1, hi => by
    have := okPs_get h hi
    have ih := wrM_c h st i (by omega)
    show ((wrM opsF 0 st pss i).c + (pss.getD (i + 1) []).length) % 18446744073709551616 ≤ _
    have := Nat.mod_le ((wrM opsF 0 st pss i).c + (pss.getD (i + 1) []).length) 18446744073709551616
    omega

def Ksum256 (o : OpsH2) : FSem := ⟨true, fun args hin => match args, hin with
  | [.s (.xsl (.bss pss))], [] => some (.need (okParts pss) (.leaf (.agg [.ints .u8 32 (o.s2 pss)], [])))
  | _, _ => none⟩
theorem okSum256 : FOk Tryz.prog 46 (Ksum256 opsH2) := by
  refine fokB (fs := [(83, F29h), (84, Kwrite6 opsWr), (85, R33h opsS)]) (xs := []) (m := .nat) (fuel := 40) (.cons ok29h (.cons okWrite6 (.cons or33h .nil))) fnSum256 ?_
  intro args hin t r h hg
  unfold Ksum256 at h
  rw [opsH2_s2] at h
  simp only at h
  split at h
  · rename_i pss
    simp only [Option.some.injEq] at h
    subst h
    obtain ⟨hc, hgt⟩ := need1 hg
    cases hgt
    simp only [okParts, Bool.and_eq_true, decide_eq_true_eq] at hc
    obtain ⟨⟨h1, h2⟩, h3⟩ := hc
    rw [rSum256]
    refine nd_of ?_ rfl
    have e1 : (opsWr.wr 0 st0h pss) = wrM opsF 0 st0h pss (pss.length - 1) := by rw [opsWr_wr]
    have e2 := wrM_n h3 0 st0h (pss.length - 1) (by omega)
    have e3 := wrM_c h3 st0h (pss.length - 1) (by omega)
    have e4 := wrM_st (c := 0) (pss := pss) (show st0h.length = 8 from rfl) (pss.length - 1)
    rw [e1]
    generalize wrM opsF 0 st0h pss (pss.length - 1) = v at *
    simp only [List.mem_cons, List.not_mem_nil, or_false, forall_eq_or_imp, forall_eq, decide_eq_true_eq]
    exact ⟨h1, by omega, h3, trivial, rowN_lf _, by omega, by omega, e4⟩
  · cases h

theorem sumF2_len (pss : List (List Nat)) : (sumF2 pss).length = 32 := sv_len _
theorem sumF2_mem (pss : List (List Nat)) : ∀ x ∈ sumF2 pss, x < 256 := sv_mem _

end Go.Proofs.YtdhnkkogbbhnmaaGreat

namespace Go.Proofs.YtdhnkkogbbhnmaaGreat
open Go

set_option maxRecDepth 100000 in
theorem rExp1 (o : OpsN) (key info : List Nat) : runB Tryz.prog [(97, R21h o), (84, R22h o.toOpsV), (98, R23h o.toOpsS)] [] .nat 70 Tryz.f81 [.agg [.ints .u8 32 key], .s (.nat .i64 32), .s (.xsl (.bss [info]))] [] =
    nd (exN o key [] info 1) (some (.tup [.s (.sl .pre 0 0 32 1), .s (.nat .i64 0)], [some [.ints .u8 32 (o.ex key [] info 1)]])) := by kernel_rfl

structure OpsE1 where
  mc : List Nat → List Nat → List Nat
  e1 : List Nat → List Nat → List Nat
def e1F (key info : List Nat) : List Nat := opsN.ex key [] info 1
def opsE1 : OpsE1 := ⟨opsN.mc, e1F⟩
theorem opsE1_mc : opsE1.mc = opsN.mc := by kernel_rfl
theorem opsE1_e1 : opsE1.e1 = e1F := by kernel_rfl

def Kexp1 (o : OpsE1) : FSem := ⟨true, fun args hin => match args, hin with
  | [.agg [.ints .u8 32 key], .s (.nat .i64 32), .s (.xsl (.bss [info]))], [] => some (Tr.needs [decide (key.length ≤ 1099511627776), decide (info.length ≤ 1099511627776)]
      (.leaf (.tup [.s (.sl .pre 0 0 32 1), .s (.nat .i64 0)], [some [.ints .u8 32 (o.e1 key info)]])))
  | _, _ => none⟩
theorem okExp1 : FOk Tryz.prog 81 (Kexp1 opsE1) := by
  refine fokB (fs := [(97, R21h opsN), (84, R22h opsV), (98, R23h opsS)]) (xs := []) (m := .nat) (fuel := 70) (.cons or21h (.cons or22h (.cons or23h .nil))) fn10h ?_
  intro args hin t r h hg
  unfold Kexp1 at h
  rw [opsE1_e1] at h
  simp only at h
  split at h
  · rename_i key info
    simp only [Option.some.injEq] at h
    subst h
    obtain ⟨hc, hgt⟩ := Tr.needs_get hg
    cases hgt
    simp only [List.mem_cons, List.not_mem_nil, or_false, forall_eq_or_imp, forall_eq, decide_eq_true_eq] at hc
    obtain ⟨h1, h2⟩ := hc
    have := rExp1 opsN key info
    rw [opsN_ops, opsS_ops] at this
    rw [this]
    exact nd_of (exN_ok h1 (by simp) h2) rfl
  · cases h

def Kext (o : OpsE1) : FSem := ⟨true, fun args hin => match args, hin with
  | [.s (.xsl (.ints .u8 key)), .s (.xsl (.bss [p]))], [] => some (Tr.needs [decide (key.length ≤ 1099511627776), decide (p.length ≤ 1099511627776)] (.leaf (.agg [.ints .u8 32 (o.mc key p)], [])))
  | _, _ => none⟩
theorem okExt : FOk Tryz.prog 82 (Kext opsE1) := by
  have e : Kext opsE1 = R24h opsN := by
    unfold Kext R24h
    rw [opsE1_mc]
    rfl
  rw [e]
  exact or11h
theorem okMacSum : FOk Tryz.prog 55 (Kext opsE1) := by
  have e : Kext opsE1 = R24h opsN := by
    unfold Kext R24h
    rw [opsE1_mc]
    rfl
  rw [e]
  exact or24h

set_option maxRecDepth 100000 in
theorem rKeys1 (o : OpsE1) (salt secret info : List Nat) : runB Tryz.prog [(82, Kext o), (81, Kexp1 o)] [] .nat 70 Tryz.f45 [.s (.xsl (.ints .u8 salt)), .s (.xsl (.ints .u8 secret)), .s (.str info), .s (.nat .i64 1)] [] =
    nd [decide (salt.length ≤ 1099511627776), decide (secret.length ≤ 1099511627776), decide (info.length = info.length), decide ((o.mc salt secret).length ≤ 1099511627776), decide (info.length ≤ 1099511627776)]
      (some (.tup [.s (.sl .whole 0 0 1 32), .s (.nat .i64 0)], [some [.ints .u8 32 (o.e1 (o.mc salt secret) info)]])) := by kernel_rfl

structure OpsKy where
  ka : List Nat → List Nat → List Nat → List Nat
def kaF (salt secret info : List Nat) : List Nat := e1F (opsN.mc salt secret) info
def opsKy : OpsKy := ⟨kaF⟩
theorem opsKy_ka : opsKy.ka = kaF := by kernel_rfl

def Kkeys1 (o : OpsKy) : FSem := ⟨true, fun args hin => match args, hin with
  | [.s (.xsl (.ints .u8 salt)), .s (.xsl (.ints .u8 secret)), .s (.str info), .s (.nat .i64 1)], [] =>
    some (Tr.needs [decide (salt.length ≤ 1099511627776), decide (secret.length ≤ 1099511627776), decide (info.length ≤ 1099511627776)]
      (.leaf (.tup [.s (.sl .whole 0 0 1 32), .s (.nat .i64 0)], [some [.ints .u8 32 (o.ka salt secret info)]])))
  | _, _ => none⟩
theorem okKeys1 : FOk Tryz.prog 45 (Kkeys1 opsKy) := by
  refine fokB (fs := [(82, Kext opsE1), (81, Kexp1 opsE1)]) (xs := []) (m := .nat) (fuel := 70) (.cons okExt (.cons okExp1 .nil)) fn4h ?_
  intro args hin t r h hg
  unfold Kkeys1 at h
  rw [opsKy_ka] at h
  simp only at h
  split at h
  · rename_i salt secret info
    simp only [Option.some.injEq] at h
    subst h
    obtain ⟨hc, hgt⟩ := Tr.needs_get hg
    cases hgt
    simp only [List.mem_cons, List.not_mem_nil, or_false, forall_eq_or_imp, forall_eq, decide_eq_true_eq] at hc
    rw [rKeys1, opsE1_mc, opsE1_e1]
    refine nd_of ?_ rfl
    have hl : (opsN.mc salt secret).length ≤ 1099511627776 := by rw [mc_len]; decide
    simp only [List.mem_cons, List.not_mem_nil, or_false, forall_eq_or_imp, forall_eq, decide_eq_true_eq]
    exact ⟨hc.1, hc.2.1, trivial, hl, hc.2.2⟩
  · cases h

end Go.Proofs.YtdhnkkogbbhnmaaGreat

namespace Go.Proofs.YtdhnkkogbbhnmaaGreat
open Go
theorem fn57 : Fn Tryz.prog 86 Tryz.f86 := ⟨mixedF, Tryz.func86, by kernel_rfl, of_decide_eq_true (by kernel_rfl)⟩

def F57 : FSem := ⟨false, fun args hin => match args, hin with
  | [.s (.bool b), .agg [.ints .u64 5 x], .agg [.ints .u64 5 y]], [] => some (.need (decide (x.length = 5)) (.need (decide (y.length = 5)) (.leaf (.tup [.agg [.ints .u64 5 (swL (swM b) x y)], .agg [.ints .u64 5 (swR (swM b) x y)]], []))))
  | _, _ => none⟩

set_option maxRecDepth 100000 in
theorem r57t (x0 x1 x2 x3 x4 y0 y1 y2 y3 y4 : Nat) : runB Tryz.prog [] [] .nat 7 Tryz.f86 [.s (.bool true), .agg [.ints .u64 5 [x0, x1, x2, x3, x4]], .agg [.ints .u64 5 [y0, y1, y2, y3, y4]]] [] =
    some (.tup [.agg [.ints .u64 5 (swL (swM true) [x0, x1, x2, x3, x4] [y0, y1, y2, y3, y4])], .agg [.ints .u64 5 (swR (swM true) [x0, x1, x2, x3, x4] [y0, y1, y2, y3, y4])]], []) := by kernel_rfl

set_option maxRecDepth 100000 in
theorem r57f (x0 x1 x2 x3 x4 y0 y1 y2 y3 y4 : Nat) : runB Tryz.prog [] [] .nat 7 Tryz.f86 [.s (.bool false), .agg [.ints .u64 5 [x0, x1, x2, x3, x4]], .agg [.ints .u64 5 [y0, y1, y2, y3, y4]]] [] =
    some (.tup [.agg [.ints .u64 5 (swL (swM false) [x0, x1, x2, x3, x4] [y0, y1, y2, y3, y4])], .agg [.ints .u64 5 (swR (swM false) [x0, x1, x2, x3, x4] [y0, y1, y2, y3, y4])]], []) := by kernel_rfl

theorem ok57 : FOk Tryz.prog 86 F57 := by
  refine fokB (fs := []) (xs := []) (m := .nat) (fuel := 7) EnvOk.nil fn57 ?_
  intro args hin t r h hg
  unfold F57 at h
  simp only at h
  split at h
  · rename_i tn x y
    cases h
    obtain ⟨hl, hg⟩ := need1 hg
    obtain ⟨hl2, hg⟩ := need1 hg
    cases hg
    obtain ⟨a, b, c, d, e, rfl⟩ := five (of_decide_eq_true hl)
    obtain ⟨a', b', c', d', e', rfl⟩ := five (of_decide_eq_true hl2)
    cases tn
    · exact r57f _ _ _ _ _ _ _ _ _ _
    · exact r57t _ _ _ _ _ _ _ _ _ _
  · cases h

end Go.Proofs.YtdhnkkogbbhnmaaGreat

namespace Go.Proofs.YtdhnkkogbbhnmaaGreat
open Go
theorem fn95 : Fn Tryz.prog 50 Tryz.f50 := ⟨mixedF, Tryz.func50, by kernel_rfl, of_decide_eq_true (by kernel_rfl)⟩

theorem fn96 : Fn Tryz.prog 51 Tryz.f51 := ⟨mixedF, Tryz.func51, by kernel_rfl, of_decide_eq_true (by kernel_rfl)⟩

def dblL (o : Ops) (p : L2) : L2 :=
  let s := o.mul (o.add [p.1, p.2]) (o.add [p.1, p.2])
  let m := o.mul (o.sub p.1 p.2) (o.sub p.1 p.2)
  let e := o.sub s m
  (o.mul s m, o.mul e (o.add [s, o.mul [121665, 0, 0, 0, 0] e]))

def addL (o : Ops) (u : List Nat) (p q : L2) : L2 :=
  let l := o.mul (o.sub q.1 q.2) (o.add [p.1, p.2])
  let r := o.mul (o.add [q.1, q.2]) (o.sub p.1 p.2)
  (o.mul (o.add [l, r]) (o.add [l, r]), o.pd [u, o.sub l r, o.sub l r])

def O57 (o : Ops) : FSem := ⟨false, fun args hin => match args, hin with
  | [.s (.bool b), .agg [.ints .u64 5 x], .agg [.ints .u64 5 y]], [] => some (.need (o.l5 x) (.need (o.l5 y) (.leaf (.tup [.agg [.ints .u64 5 (o.swl b x y)], .agg [.ints .u64 5 (o.swr b x y)]], []))))
  | _, _ => none⟩

theorem oo57 : FOk Tryz.prog 86 (O57 ops) := by
  have e : O57 ops = F57 := by kernel_rfl
  rw [e]
  exact ok57

def envO7 (o : Ops) : List (Nat × FSem) := (86, O57 o) :: envO o

theorem envO7_ok : EnvOk ⟨Tryz.prog, envO7 ops, []⟩ := .cons oo57 envO_ok

set_option maxRecDepth 100000 in
theorem r95 (o : Ops) (c : Bool) (a b x y : List Nat) : runB Tryz.prog (envO7 o) [] .nat 7 Tryz.f50 [.s (.bool c), .agg [.ints .u64 5 a, .ints .u64 5 b], .agg [.ints .u64 5 x, .ints .u64 5 y]] [] =
(nd [o.l5 a, o.l5 x, o.l5 b, o.l5 y]
 (some (AV.tup [AV.agg [Ch.ints IntKind.u64 5 (o.swl c a x), Ch.ints IntKind.u64 5 (o.swl c b y)], AV.agg [Ch.ints IntKind.u64 5 (o.swr c a x), Ch.ints IntKind.u64 5 (o.swr c b y)]], []))) := by kernel_rfl

set_option maxRecDepth 100000 in
theorem r96 (o : Ops) (u a b x y : List Nat) : runB Tryz.prog (envO o) [] .nat 7 Tryz.f51 [.agg [.ints .u64 5 a, .ints .u64 5 b], .agg [.ints .u64 5 x, .ints .u64 5 y], .agg [.ints .u64 5 u]] [] =
(nd [o.l5 a, o.l5 b, o.l5 x, o.l5 y, o.l5 (o.sub x y), o.l5 (o.add [a, b]), o.l5 (o.add [x, y]), o.l5 (o.sub a b), o.l5 (o.add [a, b]), o.l5 (o.add [a, b]), o.l5 (o.sub a b), o.l5 (o.sub a b), o.l5 (o.mul (o.add [a, b]) (o.add [a, b])), o.l5 (o.mul (o.sub a b) (o.sub a b)), o.l5 (o.mul (o.sub x y) (o.add [a, b])), o.l5 (o.mul (o.add [x, y]) (o.sub a b)), o.l5 (o.mul (o.add [a, b]) (o.add [a, b])), o.l5 (o.mul (o.sub a b) (o.sub a b)), o.l5 [121665, 0, 0, 0, 0], o.l5 (o.sub (o.mul (o.add [a, b]) (o.add [a, b])) (o.mul (o.sub a b) (o.sub a b))), o.l5 (o.sub (o.mul (o.add [a, b]) (o.add [a, b])) (o.mul (o.sub a b) (o.sub a b))), o.l5 (o.add [o.mul (o.add [a, b]) (o.add [a, b]), o.mul [121665, 0, 0, 0, 0] (o.sub (o.mul (o.add [a, b]) (o.add [a, b])) (o.mul (o.sub a b) (o.sub a b)))]), o.l5 (o.add [o.mul (o.sub x y) (o.add [a, b]), o.mul (o.add [x, y]) (o.sub a b)]), o.l5 (o.add [o.mul (o.sub x y) (o.add [a, b]), o.mul (o.add [x, y]) (o.sub a b)]), o.a5 [u, o.sub (o.mul (o.sub x y) (o.add [a, b])) (o.mul (o.add [x, y]) (o.sub a b)), o.sub (o.mul (o.sub x y) (o.add [a, b])) (o.mul (o.add [x, y]) (o.sub a b))]]
 (some (AV.tup [AV.agg [Ch.ints IntKind.u64 5 (o.mul (o.mul (o.add [a, b]) (o.add [a, b])) (o.mul (o.sub a b) (o.sub a b))), Ch.ints IntKind.u64 5 (o.mul (o.sub (o.mul (o.add [a, b]) (o.add [a, b])) (o.mul (o.sub a b) (o.sub a b))) (o.add [o.mul (o.add [a, b]) (o.add [a, b]), o.mul [121665, 0, 0, 0, 0] (o.sub (o.mul (o.add [a, b]) (o.add [a, b])) (o.mul (o.sub a b) (o.sub a b)))]))], AV.agg [Ch.ints IntKind.u64 5 (o.mul (o.add [o.mul (o.sub x y) (o.add [a, b]), o.mul (o.add [x, y]) (o.sub a b)]) (o.add [o.mul (o.sub x y) (o.add [a, b]), o.mul (o.add [x, y]) (o.sub a b)])), Ch.ints IntKind.u64 5 (o.pd [u, o.sub (o.mul (o.sub x y) (o.add [a, b])) (o.mul (o.add [x, y]) (o.sub a b)), o.sub (o.mul (o.sub x y) (o.add [a, b])) (o.mul (o.add [x, y]) (o.sub a b))])]], []))) := by kernel_rfl

structure Ops3 extends Ops where
  swp : Bool → L2 → L2 → L2 × L2
  dbl : L2 → L2
  sum : List Nat → L2 → L2 → L2
  cl : List Nat → List Nat

def ops3 : Ops3 := {
  toOps := ops,
  swp := fun c p q => ((ops.swl c p.1 q.1, ops.swl c p.2 q.2), (ops.swr c p.1 q.1, ops.swr c p.2 q.2)),
  dbl := dblL ops,
  sum := addL ops,
  cl := clF
}

theorem ops3_ops : ops3.toOps = ops := by kernel_rfl

theorem ops3_swp : ops3.swp = (fun c p q => ((ops.swl c p.1 q.1, ops.swl c p.2 q.2), (ops.swr c p.1 q.1, ops.swr c p.2 q.2))) := by kernel_rfl

theorem ops3_dbl : ops3.dbl = dblL ops := by kernel_rfl

theorem ops3_sum : ops3.sum = addL ops := by kernel_rfl

theorem ops3_cl : ops3.cl = clF := by kernel_rfl

def O18 (o : Ops3) : FSem := ⟨false, fun args hin => match args, hin with
  | [.agg [.ints .u8 32 k]], [] => some (.leaf (.agg [.ints .u8 32 (o.cl k)], []))
  | _, _ => none⟩

theorem oo18 : FOk Tryz.prog 47 (O18 ops3) := by
  have e : O18 ops3 = F18 := by kernel_rfl
  rw [e]
  exact ok18

def av5 (p : L2) : AV := .agg [.ints .u64 5 p.1, .ints .u64 5 p.2]

def O95 (o : Ops3) : FSem := ⟨false, fun args hin => match args, hin with
  | [.s (.bool c), .agg [.ints .u64 5 a, .ints .u64 5 b], .agg [.ints .u64 5 x, .ints .u64 5 y]], [] =>
    some (Tr.needs [o.l5 a, o.l5 b, o.l5 x, o.l5 y] (.leaf (.tup [.agg [.ints .u64 5 (o.swp c (a, b) (x, y)).1.1, .ints .u64 5 (o.swp c (a, b) (x, y)).1.2], .agg [.ints .u64 5 (o.swp c (a, b) (x, y)).2.1, .ints .u64 5 (o.swp c (a, b) (x, y)).2.2]], [])))
  | _, _ => none⟩

theorem oo95 : FOk Tryz.prog 50 (O95 ops3) := by
  refine fokB (fs := envO7 ops) (xs := []) (m := .nat) (fuel := 7) envO7_ok fn95 ?_
  intro args hin t r h hg
  unfold O95 at h
  simp only at h
  split at h
  · rename_i c a b x y
    simp only [Option.some.injEq] at h
    subst h
    obtain ⟨hc, hgt⟩ := Tr.needs_get hg
    cases hgt
    simp only [ops3_ops, List.mem_cons, List.not_mem_nil, or_false, forall_eq_or_imp, forall_eq] at hc
    obtain ⟨h1, h2, h3, h4⟩ := hc
    rw [r95]
    refine nd_of ?_ rfl
    simp only [List.mem_cons, List.not_mem_nil, or_false, forall_eq_or_imp, forall_eq]
    exact ⟨h1, h3, h2, h4⟩
  · cases h

def O96 (o : Ops3) : FSem := ⟨false, fun args hin => match args, hin with
  | [.agg [.ints .u64 5 a, .ints .u64 5 b], .agg [.ints .u64 5 x, .ints .u64 5 y], .agg [.ints .u64 5 u]], [] =>
    some (Tr.needs [o.l5 a, o.l5 b, o.l5 x, o.l5 y, o.l5 u] (.leaf (.tup [.agg [.ints .u64 5 (o.dbl (a, b)).1, .ints .u64 5 (o.dbl (a, b)).2], .agg [.ints .u64 5 (o.sum u (a, b) (x, y)).1, .ints .u64 5 (o.sum u (a, b) (x, y)).2]], [])))
  | _, _ => none⟩

theorem oo96 : FOk Tryz.prog 51 (O96 ops3) := by
  refine fokB (fs := envO ops) (xs := []) (m := .nat) (fuel := 7) envO_ok fn96 ?_
  intro args hin t r h hg
  unfold O96 at h
  simp only at h
  split at h
  · rename_i a b x y u
    simp only [Option.some.injEq] at h
    subst h
    obtain ⟨hc, hgt⟩ := Tr.needs_get hg
    cases hgt
    simp only [ops3_ops, ops_l5, List.mem_cons, List.not_mem_nil, or_false, forall_eq_or_imp, forall_eq, decide_eq_true_eq] at hc
    obtain ⟨h1, h2, h3, h4, h5⟩ := hc
    rw [r96]
    refine nd_of ?_ rfl
    simp only [ops_l5, ops_a5, ops_mul, ops_sub, ops_add, List.mem_cons, List.not_mem_nil, or_false, forall_eq_or_imp, forall_eq, decide_eq_true_eq, h1, h2, h3, h4, mulF_len, subF_len, addF_len, true_and]
    exact ⟨rfl, all5_3 h5 (subF_len _ _) (subF_len _ _)⟩
  · cases h

def envQ (o : Ops3) : List (Nat × FSem) := (47, O18 o) :: (50, O95 o) :: (51, O96 o) :: envO7 o.toOps

theorem envQ_ok : EnvOk ⟨Tryz.prog, envQ ops3, []⟩ := .cons oo18 (.cons oo95 (.cons oo96 envO7_ok))

end Go.Proofs.YtdhnkkogbbhnmaaGreat

namespace Go.Proofs.YtdhnkkogbbhnmaaGreat
open Go
theorem ops_swl : ops.swl = (fun b x y => swL (swM b) x y) := by kernel_rfl

theorem ops_swr : ops.swr = (fun b x y => swR (swM b) x y) := by kernel_rfl

theorem zE' : EV [0, 0, 0, 0, 0] 0 := zE

theorem sw_t {a b : Nat} (ha : a < 18446744073709551616) (hb : b < 18446744073709551616) : sw 18446744073709551615 a b = b ∧ sw' 18446744073709551615 a b = a := by
  have hx : a ^^^ b < 2 ^ 64 := Nat.xor_lt_two_pow ha hb
  have e : 18446744073709551615 &&& (a ^^^ b) = a ^^^ b := by
    rw [Nat.and_comm, show 18446744073709551615 = 2 ^ 64 - 1 from rfl, Nat.and_two_pow_sub_one_eq_mod, Nat.mod_eq_of_lt hx]
  unfold sw sw'
  rw [e]
  refine ⟨by rw [← Nat.xor_assoc, Nat.xor_self, Nat.zero_xor], ?_⟩
  rw [Nat.xor_comm a b, ← Nat.xor_assoc, Nat.xor_self, Nat.zero_xor]

theorem sw_f (a b : Nat) : sw 0 a b = a ∧ sw' 0 a b = b := by
  unfold sw sw'
  simp

theorem swE {x y : List Nat} (hx : lim5 L52 x) (hy : lim5 L52 y) : swL (swM true) x y = y ∧ swR (swM true) x y = x ∧ swL (swM false) x y = x ∧ swR (swM false) x y = y := by
  obtain ⟨x0, x1, x2, x3, x4, rfl⟩ := five hx.1
  obtain ⟨y0, y1, y2, y3, y4, rfl⟩ := five hy.1
  have hL : L52 < 18446744073709551616 := by decide
  have a0 := Nat.lt_trans (hx.2 0) hL
  have a1 := Nat.lt_trans (hx.2 1) hL
  have a2 := Nat.lt_trans (hx.2 2) hL
  have a3 := Nat.lt_trans (hx.2 3) hL
  have a4 := Nat.lt_trans (hx.2 4) hL
  have b0 := Nat.lt_trans (hy.2 0) hL
  have b1 := Nat.lt_trans (hy.2 1) hL
  have b2 := Nat.lt_trans (hy.2 2) hL
  have b3 := Nat.lt_trans (hy.2 3) hL
  have b4 := Nat.lt_trans (hy.2 4) hL
  refine ⟨list5 (sw_t a0 b0).1 (sw_t a1 b1).1 (sw_t a2 b2).1 (sw_t a3 b3).1 (sw_t a4 b4).1, list5 (sw_t a0 b0).2 (sw_t a1 b1).2 (sw_t a2 b2).2 (sw_t a3 b3).2 (sw_t a4 b4).2,
    list5 (sw_f _ _).1 (sw_f _ _).1 (sw_f _ _).1 (sw_f _ _).1 (sw_f _ _).1, list5 (sw_f _ _).2 (sw_f _ _).2 (sw_f _ _).2 (sw_f _ _).2 (sw_f _ _).2⟩

end Go.Proofs.YtdhnkkogbbhnmaaGreat

namespace Go.Proofs.YtdhnkkogbbhnmaaGreat
open Go
/-- The document's power of a number. -/
def pwV (A V : Nat) : Nat := pwR A V 256

end Go.Proofs.YtdhnkkogbbhnmaaGreat

namespace Go.Proofs.YtdhnkkogbbhnmaaGreat
open Go
structure Ops2 extends Ops where
  powR : List Nat → List Nat → List Nat
  invR : List Nat → List Nat
  sqR : List Nat → Bool
  isrR : List Nat → List Nat → List Nat → Bool
  rtl : List Nat → List Nat → List Nat
  rtr : List Nat → List Nat → Bool

def ops2 : Ops2 := {
  toOps := ops,
  powR := fun a k => nb (pwR (vB 65536 a) (vB 65536 k) 256),
  invR := fun a => nb (pwV (vB 65536 a) (P255 - 2)),
  sqR := fun a => decide (pwV (vB 65536 a) (P255 / 2) % P255 = 0 ∨ pwV (vB 65536 a) (P255 / 2) % P255 = 1),
  isrR := fun x u v => decide (fv (fv (vB 65536 x * vB 65536 x) * vB 65536 v) % P255 = vB 65536 u % P255),
  rtl := fun u v => (rootF u v).1,
  rtr := fun u v => (rootF u v).2
}

theorem ops2_ops : ops2.toOps = ops := by kernel_rfl

end Go.Proofs.YtdhnkkogbbhnmaaGreat

namespace Go.Proofs.YtdhnkkogbbhnmaaGreat
open Go
theorem fn63 : Fn Tryz.prog 28 Tryz.f28 := ⟨mixedF, Tryz.func28, by kernel_rfl, of_decide_eq_true (by kernel_rfl)⟩

def ladG {α : Type} (p q : α) (f : α → α) (g h : α → α → α) (bit : Nat → Bool) : Nat → α × α
  | 0 => (p, q)
  | i + 1 =>
    let s := ladG p q f g h bit i
    cond (bit i) (h s.1 s.2, f s.2) (f s.1, g s.1 s.2)

def ldO (o : Ops3) (x k : List Nat) : Nat → L2 × L2 :=
  ladG ([1, 0, 0, 0, 0], [0, 0, 0, 0, 0]) (x, [1, 0, 0, 0, 0]) o.dbl (o.sum x) (fun p q => o.sum x q p) (fun i => bitK k (254 - i))

def limB (x : List Nat) : Bool := decide (x.length = 5) && x.all fun v => decide (v < L52)

theorem limB_lim {x : List Nat} (h : limB x = true) : lim5 L52 x := by
  unfold limB at h
  rw [Bool.and_eq_true] at h
  refine ⟨of_decide_eq_true h.1, fun i => ?_⟩
  by_cases hi : i < x.length
  · rw [List.getD, List.getElem?_eq_getElem hi]
    exact of_decide_eq_true (List.all_eq_true.1 h.2 _ (List.getElem_mem hi))
  · rw [List.getD, List.getElem?_eq_none (by omega)]
    decide

theorem lim_limB {x : List Nat} (h : lim5 L52 x) : limB x = true := by
  unfold limB
  rw [Bool.and_eq_true]
  refine ⟨decide_eq_true h.1, List.all_eq_true.2 fun v hv => decide_eq_true ?_⟩
  obtain ⟨i, hi, e⟩ := List.getElem_of_mem hv
  have := h.2 i
  rw [List.getD, List.getElem?_eq_getElem hi, e] at this
  exact this

theorem lim_EV {x : List Nat} (h : lim5 L52 x) : EV x (v51 x) := ⟨h, rfl⟩

theorem inv_dbl {p : L2} (h : Inv p) : Inv (ops3.dbl p) := by
  have e1 := lim_EV h.1
  have e2 := lim_EV h.2
  rw [ops3_dbl]
  unfold dblL
  simp only [ops_mul, ops_sub, ops_add]
  have s := mulE (addE2 e1 e2) (addE2 e1 e2)
  have m := mulE (subE e1 e2) (subE e1 e2)
  have e := subE s m
  exact ⟨(mulE s m).1, (mulE e (addE2 s (mulE (smallE (by decide)) e))).1⟩

theorem inv_sum {u : List Nat} {p q : L2} (hu : lim5 L52 u) (h : Inv p) (k : Inv q) : Inv (ops3.sum u p q) := by
  have e1 := lim_EV h.1
  have e2 := lim_EV h.2
  have f1 := lim_EV k.1
  have f2 := lim_EV k.2
  have eu := lim_EV hu
  rw [ops3_sum]
  unfold addL
  simp only [ops_mul, ops_sub, ops_add, ops_pd]
  have l := mulE (subE f1 f2) (addE2 e1 e2)
  have r := mulE (addE2 f1 f2) (subE e1 e2)
  have g := subE l r
  exact ⟨(mulE (addE2 l r) (addE2 l r)).1, (pd3E eu g g).1⟩

theorem inv_ld {x k : List Nat} (hx : lim5 L52 x) : ∀ i, Inv (ldO ops3 x k i).1 ∧ Inv (ldO ops3 x k i).2
  | 0 => ⟨⟨oneE.1, zE'.1⟩, ⟨hx, oneE.1⟩⟩
  | i + 1 => by
    obtain ⟨h1, h2⟩ := inv_ld (k := k) hx i
    unfold ldO at h1 h2 ⊢
    unfold ladG
    simp only
    generalize ladG ([1, 0, 0, 0, 0], [0, 0, 0, 0, 0]) (x, [1, 0, 0, 0, 0]) ops3.dbl (ops3.sum x) (fun p q => ops3.sum x q p) (fun i => bitK k (254 - i)) i = s at *
    cases bitK k (254 - i)
    · exact ⟨inv_dbl h1, inv_sum hx h1 h2⟩
    · exact ⟨inv_sum hx h2 h1, inv_dbl h2⟩

/-- One round as the code does it. -/
def rndO (o : Ops3) (x : List Nat) (c : Bool) (p q : L2) : L2 × L2 :=
  o.swp c (o.dbl (o.swp c p q).1) (o.sum x (o.swp c p q).1 (o.swp c p q).2)

theorem swp_t {p q : L2} (hp : Inv p) (hq : Inv q) : ops3.swp true p q = (q, p) := by
  rw [ops3_swp]
  simp only [ops_swl, ops_swr]
  obtain ⟨a1, a2, _, _⟩ := swE hp.1 hq.1
  obtain ⟨b1, b2, _, _⟩ := swE hp.2 hq.2
  rw [a1, a2, b1, b2]

theorem swp_f {p q : L2} (hp : Inv p) (hq : Inv q) : ops3.swp false p q = (p, q) := by
  rw [ops3_swp]
  simp only [ops_swl, ops_swr]
  obtain ⟨_, _, a1, a2⟩ := swE hp.1 hq.1
  obtain ⟨_, _, b1, b2⟩ := swE hp.2 hq.2
  rw [a1, a2, b1, b2]

theorem rnd_ld {x k : List Nat} (hx : lim5 L52 x) (i : Nat) : rndO ops3 x (bitK k (254 - i)) (ldO ops3 x k i).1 (ldO ops3 x k i).2 = ldO ops3 x k (i + 1) := by
  obtain ⟨h1, h2⟩ := inv_ld (k := k) hx i
  rw [show ldO ops3 x k (i + 1) = cond (bitK k (254 - i)) (ops3.sum x (ldO ops3 x k i).2 (ldO ops3 x k i).1, ops3.dbl (ldO ops3 x k i).2) (ops3.dbl (ldO ops3 x k i).1, ops3.sum x (ldO ops3 x k i).1 (ldO ops3 x k i).2) from rfl]
  unfold rndO
  cases bitK k (254 - i)
  · rw [swp_f h1 h2]
    exact swp_f (inv_dbl h1) (inv_sum hx h1 h2)
  · rw [swp_t h1 h2]
    exact swp_t (inv_dbl h2) (inv_sum hx h2 h1)

def Sl (o : Ops3) : LSem := ⟨[2, 5, 6, 7, 8], [6], fun args hin => match args, hin with
  | [.s (.ptr 0 0), .s (.ptr 1 0), .s (.ptr 2 0), .s (.ptr 3 0), .s (.nat .i64 254)], [[.ints .u8 32 k], [.ints .u64 5 x], [.ints .u64 5 [1, 0, 0, 0, 0], .ints .u64 5 [0, 0, 0, 0, 0]], [.ints .u64 5 y, .ints .u64 5 [1, 0, 0, 0, 0]]] =>
    some (Tr.needs [limB x, decide (y = x)] (.leaf (.normal, [.s (.ptr 2 0)], [some [.ints .u8 32 k], some [.ints .u64 5 x], some [.ints .u64 5 (ldO o x k 255).1.1, .ints .u64 5 (ldO o x k 255).1.2], some [.ints .u64 5 (ldO o x k 255).2.1, .ints .u64 5 (ldO o x k 255).2.2]])))
  | _, _ => none⟩

/-- The needs of a round. -/
def ndl (o : Ops3) (x : List Nat) (c : Bool) (p q : L2) : List Bool :=
  [o.l5 p.1, o.l5 p.2, o.l5 q.1, o.l5 q.2, o.l5 (o.swp c p q).1.1, o.l5 (o.swp c p q).1.2, o.l5 (o.swp c p q).2.1, o.l5 (o.swp c p q).2.2, o.l5 x,
    o.l5 (o.dbl (o.swp c p q).1).1, o.l5 (o.dbl (o.swp c p q).1).2, o.l5 (o.sum x (o.swp c p q).1 (o.swp c p q).2).1, o.l5 (o.sum x (o.swp c p q).1 (o.swp c p q).2).2]

set_option maxRecDepth 100000 in
theorem rl1 (o : Ops3) (k x : List Nat) (p q : L2) (j : Nat) : runR Tryz.prog (envQ o) [] .down 7 [] Tryz.f28 0 (Sl o) 4 [.s (.ptr 0 0), .s (.ptr 1 0), .s (.ptr 2 0), .s (.ptr 3 0), .s (.nat .i64 (j + 1))] [some [.ints .u8 32 k], some [.ints .u64 5 x], some [.ints .u64 5 p.1, .ints .u64 5 p.2], some [.ints .u64 5 q.1, .ints .u64 5 q.2]] =
  (nd (decide ((j + 1) / 8 < 32) :: decide ((j + 1) / 8 < 32) :: ndl o x (bitK k (j + 1)) p q)
   (some (Ex.normal, [.s (.ptr 0 0), .s (.ptr 1 0), .s (.ptr 2 0), .s (.ptr 3 0), .s (.nat .i64 j)],
     [some [.ints .u8 32 k], some [.ints .u64 5 x], some [.ints .u64 5 (rndO o x (bitK k (j + 1)) p q).1.1, .ints .u64 5 (rndO o x (bitK k (j + 1)) p q).1.2], some [.ints .u64 5 (rndO o x (bitK k (j + 1)) p q).2.1, .ints .u64 5 (rndO o x (bitK k (j + 1)) p q).2.2]]))) := by kernel_rfl

set_option maxRecDepth 100000 in
theorem rl0 (o : Ops3) (k x : List Nat) (p q : L2) : runR Tryz.prog (envQ o) [] .down 7 [] Tryz.f28 0 (Sl o) 4 [.s (.ptr 0 0), .s (.ptr 1 0), .s (.ptr 2 0), .s (.ptr 3 0), .s (.nat .i64 0)] [some [.ints .u8 32 k], some [.ints .u64 5 x], some [.ints .u64 5 p.1, .ints .u64 5 p.2], some [.ints .u64 5 q.1, .ints .u64 5 q.2]] =
  (nd (ndl o x (bitK k 0) p q)
   (some (Ex.normal, [.s (.ptr 0 0), .s (.ptr 1 0), .s (.ptr 2 0), .s (.ptr 3 0), .s (.int (Int.negSucc 0))],
     [some [.ints .u8 32 k], some [.ints .u64 5 x], some [.ints .u64 5 (rndO o x (bitK k 0) p q).1.1, .ints .u64 5 (rndO o x (bitK k 0) p q).1.2], some [.ints .u64 5 (rndO o x (bitK k 0) p q).2.1, .ints .u64 5 (rndO o x (bitK k 0) p q).2.2]]))) := by kernel_rfl

set_option maxRecDepth 100000 in
theorem rlm (o : Ops3) (k x : List Nat) (p q : L2) : runR Tryz.prog (envQ o) [] .down 7 [] Tryz.f28 0 (Sl o) 4 [.s (.ptr 0 0), .s (.ptr 1 0), .s (.ptr 2 0), .s (.ptr 3 0), .s (.int (Int.negSucc 0))] [some [.ints .u8 32 k], some [.ints .u64 5 x], some [.ints .u64 5 p.1, .ints .u64 5 p.2], some [.ints .u64 5 q.1, .ints .u64 5 q.2]] =
   (some (Ex.exit 0, [.s (.ptr 2 0)],
     [some [.ints .u8 32 k], some [.ints .u64 5 x], some [.ints .u64 5 p.1, .ints .u64 5 p.2], some [.ints .u64 5 q.1, .ints .u64 5 q.2]])) := by kernel_rfl

theorem ndl_ok {x : List Nat} {c : Bool} {p q : L2} (hx : lim5 L52 x) (hp : Inv p) (hq : Inv q) : ∀ b ∈ ndl ops3 x c p q, b = true := by
  have hl : ops3.l5 = fun x => decide (x.length = 5) := by
    rw [ops3_ops]
    exact ops_l5
  unfold ndl
  rw [hl]
  cases c
  · rw [swp_f hp hq]
    have d := inv_dbl hp
    have s := inv_sum hx hp hq
    simp only [List.mem_cons, List.not_mem_nil, or_false, forall_eq_or_imp, forall_eq, decide_eq_true_eq]
    exact ⟨hp.1.1, hp.2.1, hq.1.1, hq.2.1, hp.1.1, hp.2.1, hq.1.1, hq.2.1, hx.1, d.1.1, d.2.1, s.1.1, s.2.1⟩
  · rw [swp_t hp hq]
    have d := inv_dbl hq
    have s := inv_sum hx hq hp
    simp only [List.mem_cons, List.not_mem_nil, or_false, forall_eq_or_imp, forall_eq, decide_eq_true_eq]
    exact ⟨hp.1.1, hp.2.1, hq.1.1, hq.2.1, hq.1.1, hq.2.1, hp.1.1, hp.2.1, hx.1, d.1.1, d.2.1, s.1.1, s.2.1⟩

theorem lokL : LOk Tryz.prog Tryz.f28.ntmps (.block 0 (.loop (lb 0 Tryz.f28))) (Sl ops3) := by
  refine lokR (fs := envQ ops3) (xs := []) (m := .down) (fuel := 7) (sums := []) envQ_ok mixedF (loopsOk_none rfl _) ?_
  intro args hin t e vs hout h hg
  unfold Sl at h
  simp only at h
  split at h
  · rename_i k x y
    simp only [Option.some.injEq] at h
    subst h
    obtain ⟨hc, hgt⟩ := Tr.needs_get hg
    cases hgt
    have hx : lim5 L52 x := limB_lim (hc (limB x) (by simp))
    have ey : y = x := of_decide_eq_true (hc (decide (y = x)) (by simp))
    subst ey
    refine ⟨255, fun i => ([.s (.ptr 0 0), .s (.ptr 1 0), .s (.ptr 2 0), .s (.ptr 3 0), downV 255 i], [some [.ints .u8 32 k], some [.ints .u64 5 y], some [.ints .u64 5 (ldO ops3 y k i).1.1, .ints .u64 5 (ldO ops3 y k i).1.2], some [.ints .u64 5 (ldO ops3 y k i).2.1, .ints .u64 5 (ldO ops3 y k i).2.2]]), .exit 0, rfl, fun i hi => ?_, ?_, rfl⟩
    · obtain ⟨h1, h2⟩ := inv_ld (k := k) hx i
      have hr := rnd_ld (k := k) hx i
      simp only [List.length_cons, List.length_nil]
      by_cases h254 : i = 254
      · subst h254
        rw [show downV 255 254 = .s (.nat .i64 0) from rfl, rl0]
        refine nd_of (ndl_ok hx h1 h2) ?_
        rw [show 254 - 254 = 0 from rfl] at hr
        rw [hr]
        rfl
      · obtain ⟨j, hj⟩ : ∃ j, 254 - i = j + 1 := ⟨253 - i, by omega⟩
        have e1 : downV 255 i = .s (.nat .i64 (j + 1)) := by unfold downV; rw [if_pos hi, show 255 - 1 - i = j + 1 by omega]
        have e2 : downV 255 (i + 1) = .s (.nat .i64 j) := by unfold downV; rw [if_pos (by omega), show 255 - 1 - (i + 1) = j by omega]
        rw [e1, e2, rl1]
        rw [hj] at hr
        rw [hr]
        refine nd_of ?_ rfl
        simp only [List.mem_cons, forall_eq_or_imp, decide_eq_true_eq]
        exact ⟨by omega, by omega, ndl_ok hx h1 h2⟩
    · simp only [List.length_cons, List.length_nil]
      rw [show downV 255 255 = .s (.int (Int.negSucc 0)) from rfl, rlm]
  · cases h

theorem loops63 : LoopsOk Tryz.prog ⟨Tryz.f28.ntmps, 7, [(0, Sl ops3)]⟩ (bodyOf Tryz.f28) := by
  refine loopsOk_of ?_
  have e : loopsIn [(0, Sl ops3)] (bodyOf Tryz.f28) = [(0, .loop (lb 0 Tryz.f28), Sl ops3)] := by kernel_rfl
  simp only [e]
  intro x hx
  simp only [List.mem_cons, List.not_mem_nil, or_false] at hx
  rcases hx with rfl
  · exact lokL

def mlO (o : Ops3) (k u : List Nat) : List Nat :=
  o.bytes (o.mul (ldO o (o.of u) (o.cl k) 255).1.1 (o.inv (ldO o (o.of u) (o.cl k) 255).1.2))

set_option maxRecDepth 100000 in
theorem r63 (o : Ops3) (k u : List Nat) : runL Tryz.prog (envQ o) [] .down 7 [(0, Sl o)] Tryz.f28 [.agg [.ints .u8 32 k], .agg [.ints .u8 32 u]] [] =
    nd [limB (o.of u), decide (o.of u = o.of u), o.l5 (ldO o (o.of u) (o.cl k) 255).1.2, o.l5 (ldO o (o.of u) (o.cl k) 255).1.1, o.l5 (o.inv (ldO o (o.of u) (o.cl k) 255).1.2), o.l5 (o.mul (ldO o (o.of u) (o.cl k) 255).1.1 (o.inv (ldO o (o.of u) (o.cl k) 255).1.2))] (some (.agg [.ints .u8 32 (mlO o k u)], [])) := by kernel_rfl

def F63 : FSem := ⟨false, fun args hin => match args, hin with
  | [.agg [.ints .u8 32 k], .agg [.ints .u8 32 u]], [] => some (.need (g32 u) (.leaf (.agg [.ints .u8 32 (mlO ops3 k u)], [])))
  | _, _ => none⟩

theorem ops3_l5 : ops3.l5 = fun x => decide (x.length = 5) := by
  rw [ops3_ops]
  exact ops_l5

theorem ops3_of : ops3.of = ofF := by
  rw [ops3_ops]
  exact ops_of

theorem ops3_inv : ops3.inv = invF := by
  rw [ops3_ops]
  exact ops_inv

theorem ops3_mul : ops3.mul = mulF := by
  rw [ops3_ops]
  exact ops_mul

theorem ops3_bytes : ops3.bytes = bytesF := by
  rw [ops3_ops]
  exact ops_bytes

theorem ok63 : FOk Tryz.prog 28 F63 := by
  refine fokL (fs := envQ ops3) (xs := []) (m := .down) (fuel := 7) (sums := [(0, Sl ops3)]) envQ_ok fn63 loops63 ?_
  intro args hin t r h hg
  unfold F63 at h
  simp only at h
  split at h
  · rename_i k u
    cases h
    obtain ⟨hl, hg⟩ := need1 hg
    cases hg
    rw [r63]
    have eu := ofE hl
    obtain ⟨h1, h2⟩ := inv_ld (k := ops3.cl k) eu.1 255
    have ei := invE (lim_EV h1.2)
    have em := mulE (lim_EV h1.1) ei
    refine nd_of ?_ rfl
    rw [ops3_l5, ops3_of, ops3_inv, ops3_mul]
    simp only [List.mem_cons, List.not_mem_nil, or_false, forall_eq_or_imp, forall_eq, decide_eq_true_eq, true_and]
    exact ⟨lim_limB eu.1, h1.2.1, h1.1.1, ei.1.1, em.1.1⟩
  · cases h

end Go.Proofs.YtdhnkkogbbhnmaaGreat

namespace Go.Proofs.YtdhnkkogbbhnmaaGreat
open Go
namespace Fq
def dblR (p : Rg) : Rg :=
  ((p.1 * p.1 - p.2 * p.2) * (p.1 * p.1 - p.2 * p.2), 4 * (p.1 * p.2) * (p.1 * p.1 + p.2 * p.2 + 486662 * (p.1 * p.2)))

/-- The code's sums. -/
def dblC (p : Rg) : Rg :=
  let s := (p.1 + p.2) * (p.1 + p.2)
  let m := (p.1 - p.2) * (p.1 - p.2)
  let e := s - m
  (s * m, e * (s + 121665 * e))

def addC (u : Fq) (p q : Rg) : Rg :=
  let l := (q.1 - q.2) * (p.1 + p.2)
  let r := (q.1 + q.2) * (p.1 - p.2)
  ((l + r) * (l + r), u * (l - r) * (l - r))

theorem dblC_eq (p : Rg) : dblC p = dblR p := by
  unfold dblC dblR
  refine Prod.ext ?_ ?_ <;> simp only <;> grind -lia

theorem addC_eq (u : Fq) (p q : Rg) : addC u p q = (4 * (addR u p q).1, 4 * (addR u p q).2) := by
  unfold addC addR
  refine Prod.ext ?_ ?_ <;> simp only <;> grind -lia

theorem kne {ε d : Fq} (h : Good ε d) : ε * 486662 + 2 ≠ 0 := fun e => four_ne (by have := h.k; grind -lia)

theorem k_id {a d Y : Fq} (hk : a - 2 = d * (a + 2)) : (a + 2) * (1 - d * Y) = (a + 2) - (a - 2) * Y := by
  rw [hk]
  grind -lia

theorem dbl_id {ε d x y s t y3 : Fq} (he : ε * ε = 1) (hk : ε * 486662 - 2 = d * (ε * 486662 + 2)) (hc : x*x + y*y = 1 + d*x*x*y*y) (ht : t = d*x*x*y*y) (h3 : y3 * (1 - t) = y*y - x*x) :
    dblR (ε * s * (1 + y), s * (1 - y)) = (ε * (2 * ε * (s*s*s*s) * (ε * 486662 + 2) * (1 - d*(y*y)) * (1 - t)) * (1 + y3), 2 * ε * (s*s*s*s) * (ε * 486662 + 2) * (1 - d*(y*y)) * (1 - t) * (1 - y3)) := by
  unfold dblR
  have hk2 : (ε * 486662 + 2) * (1 - d) = 4 := by grind -lia
  have hx2 : (1 - d*(y*y)) * (1 - x*x) = y*y*(1-d) := by grind -lia
  have a1 : (1 - t) * (1 + y3) = 2 * (1 - x*x) := by grind -lia
  have a2 : (1 - t) * (1 - y3) = 2 * (1 - y*y) := by grind -lia
  refine Prod.ext ?_ ?_
  · simp only
    have e1 : ε * (2 * ε * (s*s*s*s) * (ε * 486662 + 2) * (1 - d*(y*y)) * (1 - t)) * (1 + y3) = 2 * (ε * ε) * (s*s*s*s) * (ε * 486662 + 2) * (1 - d*(y*y)) * ((1 - t) * (1 + y3)) := by grind -lia
    have e2 : 2 * (ε * ε) * (s*s*s*s) * (ε * 486662 + 2) * (1 - d*(y*y)) * (2 * (1 - x*x)) = 4 * (ε * ε) * (s*s*s*s) * (ε * 486662 + 2) * ((1 - d*(y*y)) * (1 - x*x)) := by grind -lia
    have e3 : 4 * (ε * ε) * (s*s*s*s) * (ε * 486662 + 2) * (y*y*(1-d)) = 4 * (ε * ε) * (s*s*s*s) * (y * y) * ((ε * 486662 + 2) * (1-d)) := by grind -lia
    rw [e1, a1, e2, hx2, e3, hk2, he]
    have e4 : ε * s * (1 + y) * (ε * s * (1 + y)) = (ε * ε) * (s * (1 + y) * (s * (1 + y))) := by grind -lia
    rw [e4, he]
    grind -lia
  · simp only
    have e1 : 2 * ε * (s*s*s*s) * (ε * 486662 + 2) * (1 - d*(y*y)) * (1 - t) * (1 - y3) = 2 * ε * (s*s*s*s) * (ε * 486662 + 2) * (1 - d*(y*y)) * ((1 - t) * (1 - y3)) := by grind -lia
    rw [e1, a2]
    have e4 : ε * s * (1 + y) * (ε * s * (1 + y)) = (ε * ε) * (s * (1 + y) * (s * (1 + y))) := by grind -lia
    rw [e4, he]
    have e5 := k_id (Y := y * y) hk
    clear hk hk2 hx2 hc ht h3 a1 a2 e1 e4
    have e6 : 2 * ε * (s*s*s*s) * (ε * 486662 + 2) * (1 - d*(y*y)) * (2 * (1 - y*y)) = 4 * ε * (s*s*s*s) * (1 - y*y) * ((ε * 486662 + 2) * (1 - d*(y*y))) := by grind -lia
    rw [e6, e5]
    grind -lia

end Fq
end Go.Proofs.YtdhnkkogbbhnmaaGreat

namespace Go.Proofs.YtdhnkkogbbhnmaaGreat
open Go
namespace Fq
theorem dy_ne {d y : Fq} (hd : NS d) : 1 - d*(y*y) ≠ 0 := fun h => by
  have hy : y ≠ 0 := fun h0 => zero_ne_one (by grind -lia)
  have hi := mul_inv hy
  refine hd (y⁻¹) ?_
  have e : d = d * (y * y⁻¹) * (y * y⁻¹) := by rw [hi]; grind -lia
  have e1 : d * (y * y) = 1 := by grind -lia
  rw [e]
  have : d * (y * y⁻¹) * (y * y⁻¹) = d*(y*y) * (y⁻¹ * y⁻¹) := by grind -lia
  rw [this, e1]
  grind -lia

theorem Rep.dbl {ε d : Fq} (g : Good ε d) {P : Pt d} {p : Rg} (h : Rep ε P.y p) : Rep ε (Fq.add g.ns P P).y (dblR p) := by
  obtain ⟨s, hs, h1, h2⟩ := h
  have hp : p = (ε * s * (1 + P.y), s * (1 - P.y)) := Prod.ext h1 h2
  have hid := dbl_id (s := s) (x := P.x) g.e g.k P.on rfl (add_y g.ns P P)
  have hε : ε ≠ 0 := fun e => zero_ne_one (by have := g.e; grind -lia)
  refine ⟨2 * ε * (s*s*s*s) * (ε * 486662 + 2) * (1 - d*(P.y*P.y)) * (1 - d*P.x*P.x*P.y*P.y), ?_, ?_, ?_⟩
  · exact mul_ne (mul_ne (mul_ne (mul_ne (mul_ne two_ne0 hε) (mul_ne (mul_ne (mul_ne hs hs) hs) hs)) (kne g)) (dy_ne g.ns)) (den_m g.ns P.on P.on)
  · rw [hp, hid]
  · rw [hp, hid]

/-- Scaled. -/
theorem Rep.scale {ε y k : Fq} {p : Rg} (h : Rep ε y p) (hk : k ≠ 0) : Rep ε y (k * p.1, k * p.2) := by
  obtain ⟨s, hs, h1, h2⟩ := h
  refine ⟨k * s, mul_ne hk hs, ?_, ?_⟩
  · simp only; rw [h1]; grind -lia
  · simp only; rw [h2]; grind -lia

/-- The state of a ladder behind i rounds: with the bits from the highest on. -/
def lad (f : Rg → Rg) (g : Rg → Rg → Rg) (u : Fq) (bit : Nat → Bool) : Nat → Rg × Rg
  | 0 => ((1, 0), (u, 1))
  | i + 1 =>
    let s := lad f g u bit i
    cond (bit i) (g s.1 s.2, f s.2) (f s.1, g s.1 s.2)

def top (bit : Nat → Bool) : Nat → Nat
  | 0 => 0
  | i + 1 => 2 * top bit i + (bit i).toNat

theorem lad_rep {ε d u : Fq} (g : Good ε d) {P : Pt d} (hu : u * (1 - P.y) = ε * (1 + P.y)) (n1 : P.y ≠ 1) (n2 : P.y ≠ -1)
    {f : Rg → Rg} {a : Rg → Rg → Rg} (hf : ∀ {R : Pt d} {p}, Rep ε R.y p → Rep ε (Fq.add g.ns R R).y (f p))
    (ha : ∀ {R Q : Pt d} {p q}, Q = Fq.add g.ns R P → Rep ε R.y p → Rep ε Q.y q → Rep ε (Fq.add g.ns R Q).y (a p q)) (bit : Nat → Bool) :
    ∀ i, Rep ε (smul g.ns (top bit i) P).y (lad f a u bit i).1 ∧ Rep ε (smul g.ns (top bit i + 1) P).y (lad f a u bit i).2
  | 0 => ⟨Rep.zero ε g.e, by rw [show top bit 0 + 1 = 1 from rfl, smul_one]; exact Rep.one hu n1⟩
  | i + 1 => by
    obtain ⟨h1, h2⟩ := lad_rep g hu n1 n2 hf ha bit i
    have hadd := ha (R := smul g.ns (top bit i) P) (Q := smul g.ns (top bit i + 1) P) rfl h1 h2
    rw [← smul_add] at hadd
    have d1 := hf h1
    have d2 := hf h2
    rw [← smul_add] at d1 d2
    unfold lad top
    simp only
    cases bit i
    · refine ⟨?_, ?_⟩
      · rw [show 2 * top bit i + false.toNat = top bit i + top bit i by simp only [Bool.toNat_false]; omega]
        exact d1
      · rw [show 2 * top bit i + false.toNat + 1 = top bit i + (top bit i + 1) by simp only [Bool.toNat_false]; omega]
        exact hadd
    · refine ⟨?_, ?_⟩
      · rw [show 2 * top bit i + true.toNat = top bit i + (top bit i + 1) by simp only [Bool.toNat_true]; omega]
        exact hadd
      · rw [show 2 * top bit i + true.toNat + 1 = top bit i + 1 + (top bit i + 1) by simp only [Bool.toNat_true]; omega]
        exact d2

theorem ladC_rep {ε d u : Fq} (g : Good ε d) {P : Pt d} (hu : u * (1 - P.y) = ε * (1 + P.y)) (n1 : P.y ≠ 1) (n2 : P.y ≠ -1) (bit : Nat → Bool) (i : Nat) :
    Rep ε (smul g.ns (top bit i) P).y (lad dblC (addC u) u bit i).1 :=
  (lad_rep g hu n1 n2 (fun h => by rw [dblC_eq]; exact Rep.dbl g h)
    (fun hq h1 h2 => by rw [addC_eq]; exact Rep.scale (Rep.add g hq h1 h2 hu n1 n2) four_ne) bit i).1

/-- With nought as the first coordinate nothing comes. -/
theorem lad_nought {f : Rg → Rg} {a : Rg → Rg → Rg} (hf : ∀ p : Rg, p.1 * p.2 = 0 → (f p).2 = 0) (ha : ∀ p q : Rg, (a p q).2 = 0) (bit : Nat → Bool) :
    ∀ i, ((lad f a 0 bit i).1.1 * (lad f a 0 bit i).1.2 = 0) ∧ ((lad f a 0 bit i).2.1 * (lad f a 0 bit i).2.2 = 0) ∧ (lad f a 0 bit i).1.2 = 0 ∨ (i = 0)
  | 0 => .inr rfl
  | i + 1 => by
    have h0 : ((lad f a 0 bit i).1.1 * (lad f a 0 bit i).1.2 = 0) ∧ ((lad f a 0 bit i).2.1 * (lad f a 0 bit i).2.2 = 0) := by
      rcases lad_nought hf ha bit i with h | h
      · exact ⟨h.1, h.2.1⟩
      · subst h
        exact ⟨by show (1 : Fq) * 0 = 0; grind -lia, by show (0 : Fq) * 1 = 0; grind -lia⟩
    have a1 := hf _ h0.1
    have a2 := hf _ h0.2
    have a3 := ha (lad f a 0 bit i).1 (lad f a 0 bit i).2
    refine .inl ?_
    unfold lad
    simp only
    cases bit i
    · refine ⟨?_, ?_, a1⟩
      · show (f _).1 * (f _).2 = 0
        rw [a1]; grind -lia
      · show (a _ _).1 * (a _ _).2 = 0
        rw [a3]; grind -lia
    · refine ⟨?_, ?_, a3⟩
      · show (a _ _).1 * (a _ _).2 = 0
        rw [a3]; grind -lia
      · show (f _).1 * (f _).2 = 0
        rw [a2]; grind -lia

theorem ladC_nought (bit : Nat → Bool) (i : Nat) : (lad dblC (addC 0) 0 bit (i + 1)).1.2 = 0 := by
  rcases lad_nought (f := dblC) (a := addC 0) (fun p h => by rw [dblC_eq]; unfold dblR; simp only; rw [h]; grind -lia) (fun p q => by unfold addC; simp only; grind -lia) bit (i + 1) with h | h
  · exact h.2.2
  · cases h

end Fq
end Go.Proofs.YtdhnkkogbbhnmaaGreat

namespace Go.Proofs.YtdhnkkogbbhnmaaGreat
open Go
namespace Fq
theorem one_mul2 {t a : Fq} (h : 1 * t * t = a) : t * t = a := by rw [one_mul] at h; exact h

theorem half_sqrt {a : Fq} (ha : a ≠ 0) (h : fpow a (P255 / 2) = 1) : ∃ r, r * r = a := by
  obtain ⟨n, hn, hnn⟩ := ei_ex
  have hi := i_sq hnn
  have hm := em_eq
  have hh := hh_eq
  clear hn hnn
  generalize P255 / 2 = k at *
  rcases root_alg hm hh ha one_ne rfl hi with ⟨_, k2⟩ | ⟨k1, _, _⟩
  · rcases k2 with k2 | ⟨_, _, k4⟩
    · exact ⟨_, one_mul2 k2⟩
    · exact ⟨_, one_mul2 k4⟩
  · rw [inv_one, mul_one, h] at k1
    exact absurd k1 two_ne

theorem n486660 : (486660 : Fq) ≠ 0 := c_ne (n := 486660) (m := 0) (by decide)

theorem s0_ne : s0 ≠ 0 := fun h => n486664 (by rw [← s0_sq, h]; grind -lia)

theorem ns_d2 : NS d2 := fun r h => by
  have hi := mul_inv n486660
  have hr : r ≠ 0 := fun h0 => by
    have e : (486660 : Fq) * d2 = 0 := by rw [← h, h0]; grind -lia
    have e2 : (486660 : Fq) * d2 = 486664 := by
      unfold d2
      generalize (486660 : Fq)⁻¹ = i at *
      grind -lia
    exact n486664 (by rw [← e2, e])
  have hri := mul_inv hr
  refine ns_486660 (s0 * r⁻¹) ?_
  have e : s0 * r⁻¹ * (s0 * r⁻¹) = (s0 * s0) * (r⁻¹ * r⁻¹) := by grind -lia
  have e2 : (486660 : Fq) * (r * r) = 486664 := by
    rw [h]
    unfold d2
    generalize (486660 : Fq)⁻¹ = i at *
    grind -lia
  rw [e, s0_sq, ← e2]
  generalize r⁻¹ = i at *
  have : (486660 : Fq) * (r * r) * (i * i) = 486660 * ((r * i) * (r * i)) := by grind -lia
  rw [this, hri]
  grind -lia

theorem good1 : Good 1 d1 := ⟨by grind -lia, by
  have hi := mul_inv n486664
  unfold d1
  generalize (486664 : Fq)⁻¹ = i at *
  grind -lia, ns_d1⟩

theorem good2 : Good (-1) d2 := ⟨by grind -lia, by
  have hi := mul_inv n486660
  unfold d2
  generalize (486660 : Fq)⁻¹ = i at *
  grind -lia, ns_d2⟩

theorem pt_on {d K α U w q v : Fq} (hK : K = α + 2) (hk : α - 2 = d * K) (hw : w * w = K * U * (U*U + α*U + 1)) (hq : w * q = 1) (hv : (U + 1) * v = 1) :
    K*U*q*(K*U*q) + (U-1)*v*((U-1)*v) = 1 + d*(K*U*q)*(K*U*q)*((U-1)*v)*((U-1)*v) := by
  have e0 : K*K*U*U*((U+1)*(U+1)) + w*w*((U-1)*(U-1)) = w*w*((U+1)*(U+1)) + (d*K)*K*U*U*((U-1)*(U-1)) := by
    rw [hw, ← hk, hK]
    clear hw hq hv hk
    grind -lia
  have e1 : K*U*q*(K*U*q) + (U-1)*v*((U-1)*v) = (K*K*U*U*((U+1)*(U+1)) + w*w*((U-1)*(U-1))) * (q*q*(v*v)) := by
    have : (K*K*U*U*((U+1)*(U+1)) + w*w*((U-1)*(U-1))) * (q*q*(v*v)) = K*K*U*U*(q*q)*(((U+1)*v)*((U+1)*v)) + ((w*q)*(w*q))*((U-1)*(U-1)*(v*v)) := by
      clear e0 hw hq hv hk
      grind -lia
    rw [this, hq, hv]
    clear e0 hw hq hv hk
    grind -lia
  rw [e1, e0]
  have : (w*w*((U+1)*(U+1)) + (d*K)*K*U*U*((U-1)*(U-1))) * (q*q*(v*v)) = ((w*q)*(w*q))*(((U+1)*v)*((U+1)*v)) + d*K*K*U*U*((U-1)*(U-1))*(q*q*(v*v)) := by
    clear e0 e1 hw hq hv hk
    grind -lia
  rw [this, hq, hv]
  clear e0 e1 this hw hq hv hk
  grind -lia

theorem mk_pt {ε d u w : Fq} (g : Good ε d) (hu : u ≠ 0) (hw : w * w = (ε * 486662 + 2) * (ε * u) * (u*u + 486662*u + 1)) (hw0 : w ≠ 0) (hn : ε * u + 1 ≠ 0) :
    ∃ P : Pt d, u * (1 - P.y) = ε * (1 + P.y) ∧ P.y ≠ 1 ∧ P.y ≠ -1 := by
  have hq := mul_inv hw0
  have hv := mul_inv hn
  have he := g.e
  have hon := pt_on (K := ε * 486662 + 2) (α := ε * 486662) (U := ε * u) (w := w) (q := w⁻¹) (v := (ε * u + 1)⁻¹) rfl g.k (by
    rw [hw]
    have : ε * u * (ε * u) + ε * 486662 * (ε * u) + 1 = (ε * ε) * (u * u) + (ε * ε) * (486662 * u) + 1 := by grind -lia
    rw [this, he]
    grind -lia) hq hv
  refine ⟨⟨_, _, hon⟩, ?_, ?_, ?_⟩
  · show u * (1 - (ε * u - 1) * (ε * u + 1)⁻¹) = ε * (1 + (ε * u - 1) * (ε * u + 1)⁻¹)
    generalize (ε * u + 1)⁻¹ = v at *
    have a1 : 1 - (ε * u - 1) * v = 2 * v := by
      have : (1 : Fq) - (ε * u - 1) * v = (ε * u + 1) * v - (ε * u - 1) * v := by rw [hv]
      rw [this]
      grind -lia
    have a2 : 1 + (ε * u - 1) * v = 2 * (ε * u * v) := by
      have : (1 : Fq) + (ε * u - 1) * v = (ε * u + 1) * v + (ε * u - 1) * v := by rw [hv]
      rw [this]
      grind -lia
    rw [a1, a2]
    have : ε * (2 * (ε * u * v)) = (ε * ε) * (2 * (u * v)) := by grind -lia
    rw [this, he]
    grind -lia
  · show (ε * u - 1) * (ε * u + 1)⁻¹ ≠ 1
    generalize (ε * u + 1)⁻¹ = v at *
    intro h
    have a1 : 2 * v = 0 := by
      have : 2 * v = (ε * u + 1) * v - (ε * u - 1) * v := by grind -lia
      rw [this, hv, h]
      grind -lia
    have a2 := eq_zero a1 two_ne0
    rw [a2] at hv
    exact zero_ne_one (by rw [← hv]; grind -lia)
  · show (ε * u - 1) * (ε * u + 1)⁻¹ ≠ -1
    generalize (ε * u + 1)⁻¹ = v at *
    intro h
    have a1 : 2 * (ε * (u * v)) = 0 := by
      have : 2 * (ε * (u * v)) = (ε * u + 1) * v + (ε * u - 1) * v := by grind -lia
      rw [this, hv, h]
      grind -lia
    have a2 := eq_zero a1 two_ne0
    have a3 := eq_zero a2 (fun e => zero_ne_one (by rw [← he, e]; grind -lia))
    have a4 := eq_zero a3 hu
    rw [a4] at hv
    exact zero_ne_one (by rw [← hv]; grind -lia)

theorem ns_c : NS (486660 * 486664) := fun r h => ns_486660 (r * s0⁻¹) (by
  have hi := mul_inv s0_ne
  have e : r * s0⁻¹ * (r * s0⁻¹) = (r * r) * (s0⁻¹ * s0⁻¹) := by grind -lia
  rw [e, h, ← s0_sq]
  generalize s0⁻¹ = i at *
  have : 486660 * (s0 * s0) * (i * i) = 486660 * ((s0 * i) * (s0 * i)) := by grind -lia
  rw [this, hi]
  grind -lia)

theorem quad_ne (u : Fq) : u*u + 486662*u + 1 ≠ 0 := fun h => ns_c (2 * u + 486662) (by grind -lia)

theorem other_sqrt {a : Fq} {k : Nat} (hk : P255 - 1 = k * 2) (h2 : fpow (486660 : Fq) k = -1) (hsq : ∀ a : Fq, a ≠ 0 → fpow a k = 1 → ∃ r, r * r = a) (ha : a ≠ 0) (hs : ¬ ∃ r, r * r = a) :
    ∃ w, w * w = 486660 * a := by
  have h1 : fpow a k = -1 := by
    rcases half_pow hk ha with h | h
    · exact absurd (hsq a ha h) hs
    · exact h
  refine hsq _ (mul_ne n486660 ha) ?_
  rw [mul_pow, h1, h2]
  grind -lia

theorem classify {u : Fq} (hu : u ≠ 0) : ∃ (ε d : Fq) (_ : Good ε d) (P : Pt d), u * (1 - P.y) = ε * (1 + P.y) ∧ P.y ≠ 1 ∧ P.y ≠ -1 := by
  have hg : u * (u*u + 486662*u + 1) ≠ 0 := mul_ne hu (quad_ne u)
  by_cases hs : ∃ r, r * r = u * (u*u + 486662*u + 1)
  · obtain ⟨r, hr⟩ := hs
    have hr0 : r ≠ 0 := fun h => hg (by rw [← hr, h]; grind -lia)
    refine ⟨1, d1, good1, mk_pt (w := s0 * r) good1 hu ?_ (mul_ne s0_ne hr0) ?_⟩
    · have : s0 * r * (s0 * r) = (s0 * s0) * (r * r) := by grind -lia
      rw [this, s0_sq, hr]
      grind -lia
    · intro h
      have hu1 : u = -1 := by grind -lia
      refine ns_486660 r ?_
      rw [hr, hu1]
      grind -lia
  · obtain ⟨w, hw⟩ := other_sqrt hh_eq (ns_half rfl) (fun a ha h => half_sqrt ha h) hg hs
    have hw0 : w ≠ 0 := fun h => mul_ne n486660 hg (by rw [← hw, h]; grind -lia)
    refine ⟨-1, d2, good2, mk_pt (w := w) good2 hu ?_ hw0 ?_⟩
    · rw [hw]
      grind -lia
    · intro h
      have hu1 : u = 1 := by grind -lia
      refine hs ⟨s0, ?_⟩
      rw [s0_sq, hu1]
      grind -lia

def Lad (u : Fq) (G : Nat → Fq) : Prop :=
  (u = 0 ∧ ∀ n, G n = 0) ∨
  ∃ (ε d : Fq) (g : Good ε d) (P : Pt d), u * (1 - P.y) = ε * (1 + P.y) ∧ P.y ≠ 1 ∧ P.y ≠ -1 ∧ ∀ n, G n = ux ε (smul g.ns n P).y

theorem lad_ex (u : Fq) : ∃ G, Lad u G := by
  by_cases hu : u = 0
  · exact ⟨fun _ => 0, .inl ⟨hu, fun _ => rfl⟩⟩
  · obtain ⟨ε, d, g, P, h1, h2, h3⟩ := classify hu
    exact ⟨_, .inr ⟨ε, d, g, P, h1, h2, h3, fun _ => rfl⟩⟩

theorem lad_C {u : Fq} {G : Nat → Fq} (h : Lad u G) (bit : Nat → Bool) (i : Nat) :
    (lad dblC (addC u) u bit (i + 1)).1.1 * ((lad dblC (addC u) u bit (i + 1)).1.2)⁻¹ = G (top bit (i + 1)) := by
  rcases h with ⟨h1, h2⟩ | ⟨ε, d, g, P, h1, h2, h3, h4⟩
  · rw [h1, h2, ladC_nought, inv_zero]
    grind -lia
  · rw [h4, (ladC_rep g h1 h2 h3 bit (i + 1)).val]

theorem d_ne1 {ε d : Fq} (g : Good ε d) : d ≠ 1 := fun h => four_ne (by have := g.k; rw [h] at this; grind -lia)

theorem y_one {ε d : Fq} (g : Good ε d) {P : Pt d} (h : P.y * P.y = 1) : P.x = 0 := by
  have h1 := P.on
  have h2 : (1 - d) * (P.x * P.x) = 0 := by
    have : d*P.x*P.x*P.y*P.y = d*P.x*P.x*(P.y*P.y) := by grind -lia
    rw [this, h] at h1
    grind -lia
  exact sq_zero (eq_zero h2 (fun e => d_ne1 g (by grind -lia)))

theorem y_zero {ε d : Fq} (g : Good ε d) {P : Pt d} (h : P.y = 1) : P = zeroP d :=
  Pt.ext (y_one g (by rw [h]; grind -lia)) h

theorem y_low {ε d : Fq} (g : Good ε d) {P : Pt d} (h : P.y = 1 ∨ P.y = -1) (k : Nat) : smul g.ns (k * 2) P = zeroP d := by
  have h2 : smul g.ns 2 P = zeroP d := by
    have hx : P.x = 0 := y_one g (by rcases h with h | h <;> rw [h] <;> grind -lia)
    show Fq.add g.ns (Fq.add g.ns (zeroP d) P) P = zeroP d
    rw [zero_addP]
    refine y_zero g ?_
    have := add_y g.ns P P
    rw [hx] at this
    rcases h with h | h <;> rw [h] at this <;> grind -lia
  rw [smul_mul, h2, smul_zero]

theorem ux_one (ε : Fq) : ux ε 1 = 0 := by
  unfold ux
  have : (1 : Fq) - 1 = 0 := by grind -lia
  rw [this, inv_zero]
  grind -lia

theorem lad_comp {u : Fq} {G G' : Nat → Fq} (h : Lad u G) (n : Nat) (h' : Lad (G n) G') (bit : Nat → Bool) (i k : Nat) (hk : top bit (i + 1) = k * 2) :
    G' (top bit (i + 1)) = G (top bit (i + 1) * n) := by
  rcases h with ⟨h1, h2⟩ | ⟨ε, d, g, P, h1, h2, h3, h4⟩
  · rw [h2, ← lad_C h' bit i, h2, ladC_nought, inv_zero]
    grind -lia
  · rw [h4, smul_mul]
    generalize hQ : smul g.ns n P = Q at *
    by_cases hy : Q.y = 1 ∨ Q.y = -1
    · rw [hk, y_low g hy, ← hk, ← lad_C h' bit i]
      have : G n = 0 := by
        rw [h4, hQ]
        rcases hy with hy | hy
        · rw [hy, ux_one]
        · unfold ux
          rw [hy]
          generalize ((1 : Fq) - -1)⁻¹ = z
          grind -lia
      rw [this, ladC_nought, inv_zero]
      show _ = ux ε 1
      rw [ux_one]
      grind -lia
    · have hy1 : Q.y ≠ 1 := fun e => hy (.inl e)
      have hy2 : Q.y ≠ -1 := fun e => hy (.inr e)
      have hn : G n * (1 - Q.y) = ε * (1 + Q.y) := by
        rw [h4, hQ]
        unfold ux
        have hne : 1 - Q.y ≠ 0 := fun e => hy1 (by grind -lia)
        have := mul_inv hne
        generalize (1 - Q.y)⁻¹ = z at *
        grind -lia
      rw [← lad_C h' bit i, (ladC_rep g hn hy1 hy2 bit (i + 1)).val]

end Fq
end Go.Proofs.YtdhnkkogbbhnmaaGreat

namespace Go.Proofs.YtdhnkkogbbhnmaaGreat
open Go
open Fq
theorem top_val {V N : Nat} (hV : V < 2 ^ N) {bit : Nat → Bool} (hb : ∀ i, i < N → bit i = decide (V / 2 ^ (N - 1 - i) % 2 = 1)) : ∀ i, i ≤ N → top bit i = V / 2 ^ (N - i)
  | 0, _ => by
    rw [Nat.sub_zero, Nat.div_eq_of_lt hV]
    rfl
  | i + 1, hi => by
    have ih := top_val hV hb i (by omega)
    have hh := half_bit V (N - (i + 1))
    rw [show N - (i + 1) + 1 = N - i by omega] at hh
    unfold top
    rw [ih, hb i (by omega), show N - 1 - i = N - (i + 1) by omega]
    by_cases h : V / 2 ^ (N - (i + 1)) % 2 = 1
    · rw [decide_eq_true h]
      rw [h] at hh
      exact hh.symm
    · rw [decide_eq_false h]
      rw [show V / 2 ^ (N - (i + 1)) % 2 = 0 by omega] at hh
      exact hh.symm

theorem ladG_rel {α : Type} {R : α → Rg → Prop} {p q : α} {u : Fq} {f : α → α} {g h : α → α → α} {F : Rg → Rg} {A : Rg → Rg → Rg} (bit : Nat → Bool)
    (hp : R p (1, 0)) (hq : R q (u, 1)) (hf : ∀ {a r}, R a r → R (f a) (F r)) (hg : ∀ {a b r s}, R a r → R b s → R (g a b) (A r s)) (hh : ∀ {a b r s}, R a r → R b s → R (h a b) (A r s)) :
    ∀ i, R (ladG p q f g h bit i).1 (lad F A u bit i).1 ∧ R (ladG p q f g h bit i).2 (lad F A u bit i).2
  | 0 => ⟨hp, hq⟩
  | i + 1 => by
    obtain ⟨h1, h2⟩ := ladG_rel bit hp hq hf hg hh i
    unfold ladG lad
    simp only
    cases bit i
    · exact ⟨hf h1, hg h1 h2⟩
    · exact ⟨hh h1 h2, hf h2⟩

def RC (p : L2) (r : Rg) : Prop := ∃ v w, EV p.1 v ∧ EV p.2 w ∧ r = (c v, c w)

theorem RC_mk {a b : List Nat} {v w : Nat} (h : EV a v) (k : EV b w) : RC (a, b) (c v, c w) := ⟨v, w, h, k, rfl⟩

theorem RC_dbl {p : L2} {r : Rg} (h : RC p r) : RC (ops3.dbl p) (dblC r) := by
  obtain ⟨v, w, e1, e2, rfl⟩ := h
  have s := mulE (addE2 e1 e2) (addE2 e1 e2)
  have m := mulE (subE e1 e2) (subE e1 e2)
  have e := subE s m
  rw [ops3_dbl]
  unfold dblL
  simp only [ops_mul, ops_sub, ops_add]
  refine ⟨_, _, mulE s m, mulE e (addE2 s (mulE (smallE (n := 121665) (by decide)) e)), ?_⟩
  unfold dblC
  simp only [c_mul, c_add, c_neg, sub_d] <;> rfl

theorem RC_sum {u : List Nat} {x : Nat} (hu : EV u x) {p q : L2} {r s : Rg} (h : RC p r) (h' : RC q s) : RC (ops3.sum u p q) (addC (c x) r s) := by
  obtain ⟨v, w, e1, e2, rfl⟩ := h
  obtain ⟨v', w', f1, f2, rfl⟩ := h'
  have l := mulE (subE f1 f2) (addE2 e1 e2)
  have m := mulE (addE2 f1 f2) (subE e1 e2)
  have g := subE l m
  rw [ops3_sum]
  unfold addL
  simp only [ops_mul, ops_sub, ops_add, ops_pd]
  refine ⟨_, _, mulE (addE2 l m) (addE2 l m), pd3E hu g g, ?_⟩
  unfold addC
  simp only [c_mul, c_add, c_neg, sub_d] <;> rfl

theorem addC_comm (u : Fq) (p q : Rg) : addC u q p = addC u p q := by
  unfold addC
  refine Prod.ext ?_ ?_ <;> simp only <;> grind

theorem bitK_cl {k : List Nat} (h : g32 k = true) (i : Nat) (hi : i < 255) : bitK (clF k) (254 - i) = decide (nK k / 2 ^ (255 - 1 - i) % 2 = 1) :=
  bitK_val (cl_g32 h) (by omega)

theorem ml_val' {k u : List Nat} {x : Nat} (hk : g32 k = true) (eu : EV (ofF u) x) {G : Nat → Fq} (hG : Lad (c x) G) : mlO ops3 k u = dB 256 32 (G (nK k)).v := by
  have h1 : RC ([1, 0, 0, 0, 0], [0, 0, 0, 0, 0]) (1, 0) := by
    refine ⟨1, 0, ?_, ?_, ?_⟩
    · exact oneE
    · exact zE'
    · exact Prod.ext (nat_d 1) (nat_d 0)
  have h2 : RC (ofF u, [1, 0, 0, 0, 0]) (c x, 1) := by
    rw [show (1 : Fq) = c 1 from nat_d 1]
    exact RC_mk eu oneE
  have h3 : ∀ {a b : L2} {r s : Rg}, RC a r → RC b s → RC (ops3.sum (ofF u) b a) (addC (c x) r s) := fun a b => by
    rw [← addC_comm]
    exact RC_sum eu b a
  have hrel := ladG_rel (R := RC) (u := c x) (F := dblC) (A := addC (c x)) (p := ([1, 0, 0, 0, 0], [0, 0, 0, 0, 0])) (q := (ofF u, [1, 0, 0, 0, 0]))
    (f := ops3.dbl) (g := ops3.sum (ofF u)) (h := fun p q => ops3.sum (ofF u) q p) (fun i => bitK (clF k) (254 - i)) h1 h2 RC_dbl (RC_sum eu) h3 255
  obtain ⟨⟨v, w, e1, e2, e3⟩, _⟩ := hrel
  have hv := lad_C hG (fun i => bitK (clF k) (254 - i)) 254
  rw [show 254 + 1 = 255 from rfl, e3] at hv
  have ht := top_val (V := nK k) (N := 255) (by have := nK_lt hk; rw [show (2 : Nat) ^ 255 = P2 by decide]; exact this) (bitK_cl hk) 255 (Nat.le_refl _)
  rw [Nat.sub_self, Nat.pow_zero, Nat.div_one] at ht
  rw [ht] at hv
  have em := mulE e1 (invE e2)
  unfold mlO ldO
  rw [ops3_bytes, ops3_mul, ops3_inv, ops3_of, ops3_cl, bytesE em]
  have hc : c (v * w ^ (P255 - 2)) = G (nK k) := by
    rw [c_mul, c_inv]
    exact hv
  rw [← hc, c_v]

theorem ml_val {k u : List Nat} (hk : g32 k = true) (hu : g32 u = true) {G : Nat → Fq} (hG : Lad (c (uV u)) G) : mlO ops3 k u = dB 256 32 (G (nK k)).v :=
  ml_val' hk (ofE hu) hG

end Go.Proofs.YtdhnkkogbbhnmaaGreat

namespace Go.Proofs.YtdhnkkogbbhnmaaGreat
open Go
structure OpsMl where
  ml : List Nat → List Nat → List Nat
  g32 : List Nat → Bool

def opsMl : OpsMl := { ml := mlO ops3, g32 := g32 }

theorem opsMl_ml : opsMl.ml = mlO ops3 := by kernel_rfl

theorem opsMl_g32 : opsMl.g32 = g32 := by kernel_rfl

def Kml (o : OpsMl) : FSem := ⟨false, fun args hin => match args, hin with
  | [.agg [.ints .u8 32 k], .agg [.ints .u8 32 u]], [] => some (.need (o.g32 u) (.leaf (.agg [.ints .u8 32 (o.ml k u)], [])))
  | _, _ => none⟩

theorem okMl : FOk Tryz.prog 28 (Kml opsMl) := by
  have e : Kml opsMl = F63 := by kernel_rfl
  rw [e]
  exact ok63

theorem fnAgree : Fn Tryz.prog 44 Tryz.f44 := ⟨mixedF, Tryz.func44, by kernel_rfl, of_decide_eq_true (by kernel_rfl)⟩

theorem fnPub : Fn Tryz.prog 12 Tryz.f12 := ⟨mixedF, Tryz.func12, by kernel_rfl, of_decide_eq_true (by kernel_rfl)⟩

def nine : List Nat := 9 :: List.replicate 31 0

/-- The secret, or that anybody could know it. -/
def Kagree (o : OpsMl) : FSem := ⟨false, fun args hin => match args, hin with
  | [.agg [.ints .u8 32 k], .agg [.ints .u8 32 u]], [] => some (.need (o.g32 u) (.br (decide (o.ml k u = zero32)) (.leaf (.tup [.agg [.ints .u8 32 zero32], .s (.nat .i64 50)], []))
      (.leaf (.tup [.agg [.ints .u8 32 (o.ml k u)], .s (.nat .i64 0)], []))))
  | _, _ => none⟩

def Kpub (o : OpsMl) : FSem := ⟨false, fun args hin => match args, hin with
  | [.agg [.ints .u8 32 k]], [] => some (.leaf (.agg [.ints .u8 32 (o.ml k nine)], []))
  | _, _ => none⟩

set_option maxRecDepth 100000 in
theorem rAgree (o : OpsMl) (k u : List Nat) : runB Tryz.prog [(28, Kml o)] [] .nat 7 Tryz.f44 [.agg [.ints .u8 32 k], .agg [.ints .u8 32 u]] [] =
(nd [o.g32 u]
 (cond (decide (o.ml k u = zero32))
 (some (AV.tup [AV.agg [Ch.ints IntKind.u8 32 zero32], AV.s (SV.nat IntKind.i64 50)], []))
 (some (AV.tup [AV.agg [Ch.ints IntKind.u8 32 (o.ml k u)], AV.s (SV.nat IntKind.i64 0)], [])))) := by kernel_rfl

set_option maxRecDepth 100000 in
theorem rPub (o : OpsMl) (k : List Nat) : runB Tryz.prog [(28, Kml o)] [] .nat 7 Tryz.f12 [.agg [.ints .u8 32 k]] [] = nd [o.g32 nine] (some (.agg [.ints .u8 32 (o.ml k nine)], [])) := by kernel_rfl

theorem nine32 : g32 nine = true := by decide +kernel

theorem okAgree : FOk Tryz.prog 44 (Kagree opsMl) := by
  refine fokB (fs := [(28, Kml opsMl)]) (xs := []) (m := .nat) (fuel := 7) (.cons okMl .nil) fnAgree ?_
  intro args hin t r h hg
  unfold Kagree at h
  simp only at h
  split at h
  · rename_i k u
    simp only [Option.some.injEq] at h
    subst h
    obtain ⟨hc, hgt⟩ := need1 hg
    rw [rAgree, hc]
    simp only [Tr.get] at hgt
    rw [← hgt]
    cases decide (opsMl.ml k u = zero32) <;> rfl
  · cases h

theorem okPub : FOk Tryz.prog 12 (Kpub opsMl) := by
  refine fokB (fs := [(28, Kml opsMl)]) (xs := []) (m := .nat) (fuel := 7) (.cons okMl .nil) fnPub ?_
  intro args hin t r h hg
  unfold Kpub at h
  simp only at h
  split at h
  · rename_i k
    simp only [Option.some.injEq] at h
    subst h
    cases hg
    rw [rPub]
    refine nd_of ?_ rfl
    simp only [List.mem_cons, List.not_mem_nil, or_false, forall_eq, opsMl_g32]
    exact nine32
  · cases h

end Go.Proofs.YtdhnkkogbbhnmaaGreat

namespace Go.Proofs.YtdhnkkogbbhnmaaGreat
open Go
open Fq
theorem top_nK {k : List Nat} (hk : g32 k = true) : ∃ bit, top bit (254 + 1) = nK k := by
  have ht := top_val (V := nK k) (N := 255) (by have := nK_lt hk; rw [show (2 : Nat) ^ 255 = P2 by decide]; exact this) (bitK_cl hk) 255 (Nat.le_refl _)
  rw [Nat.sub_self, Nat.pow_zero, Nat.div_one] at ht
  exact ⟨_, ht⟩

theorem ml_g32 {k u : List Nat} (hk : g32 k = true) (hu : g32 u = true) : g32 (mlO ops3 k u) = true := by
  obtain ⟨G, hG⟩ := lad_ex (c (uV u))
  rw [ml_val hk hu hG]
  exact dB_g32

theorem uV_dB (a : Fq) : c (uV (dB 256 32 a.v)) = a := by
  unfold uV
  rw [vB_bytes a.lt, c_self]

theorem ml_ml {a b u : List Nat} (ha : g32 a = true) (hb : g32 b = true) (hu : g32 u = true) {G : Nat → Fq} (hG : Lad (c (uV u)) G) :
    mlO ops3 a (mlO ops3 b u) = dB 256 32 (G (nK a * nK b)).v := by
  rw [ml_val hb hu hG]
  obtain ⟨G', hG'⟩ := lad_ex (G (nK b))
  have hG2 : Lad (c (uV (dB 256 32 (G (nK b)).v))) G' := by rw [uV_dB]; exact hG'
  rw [ml_val ha dB_g32 hG2]
  obtain ⟨bit, hbit⟩ := top_nK ha
  have h8 := nK_8 ha
  have := lad_comp hG (nK b) hG' bit 254 (nK a / 8 * 4) (by rw [hbit]; omega)
  rw [hbit] at this
  rw [this]

theorem ml_comm {a b u : List Nat} (ha : g32 a = true) (hb : g32 b = true) (hu : g32 u = true) : mlO ops3 a (mlO ops3 b u) = mlO ops3 b (mlO ops3 a u) := by
  obtain ⟨G, hG⟩ := lad_ex (c (uV u))
  rw [ml_ml ha hb hu hG, ml_ml hb ha hu hG, Nat.mul_comm]

def dblN (p : Nat × Nat) : Nat × Nat :=
  let s := (p.1 + p.2) * (p.1 + p.2) % P255
  let m := (p.1 + (P255 - p.2)) * (p.1 + (P255 - p.2)) % P255
  let e := (s + (P255 - m)) % P255
  (s * m % P255, e * (s + 121665 * e) % P255)

def addN (u : Nat) (p q : Nat × Nat) : Nat × Nat :=
  let l := (q.1 + (P255 - q.2)) * (p.1 + p.2) % P255
  let r := (q.1 + q.2) * (p.1 + (P255 - p.2)) % P255
  ((l + r) * (l + r) % P255, u * (l + (P255 - r)) * (l + (P255 - r)) % P255)

def bitN (V i : Nat) : Bool := decide (V / 2 ^ (255 - 1 - i) % 2 = 1)

def stN (u V n : Nat) : (Nat × Nat) × (Nat × Nat) := ladG (1, 0) (u, 1) dblN (addN u) (addN u) (bitN V) n

def RN (p : Nat × Nat) (r : Rg) : Prop := p.1 < P255 ∧ p.2 < P255 ∧ r = (c p.1, c p.2)

theorem RN_dbl {p : Nat × Nat} {r : Rg} (h : RN p r) : RN (dblN p) (dblC r) := by
  obtain ⟨h1, h2, rfl⟩ := h
  refine ⟨mod_lt' _, mod_lt' _, ?_⟩
  unfold dblN dblC
  simp only [c_mod, c_mul, c_add, c_psub h2, c_psub (mod_lt' _)]
  rfl

theorem RN_sum {u : Nat} {p q : Nat × Nat} {r s : Rg} (h : RN p r) (h' : RN q s) : RN (addN u p q) (addC (c u) r s) := by
  obtain ⟨h1, h2, rfl⟩ := h
  obtain ⟨k1, k2, rfl⟩ := h'
  refine ⟨mod_lt' _, mod_lt' _, ?_⟩
  unfold addN addC
  simp only [c_mod, c_mul, c_add, c_psub h2, c_psub k2, c_psub (mod_lt' _)]

theorem stN_val {u V : Nat} (hu : u < P255) (hV : V < P2) {G : Nat → Fq} (hG : Lad (c u) G) : c (stN u V 255).1.1 * (c (stN u V 255).1.2)⁻¹ = G V := by
  have hrel := ladG_rel (R := RN) (u := c u) (F := dblC) (A := addC (c u)) (p := (1, 0)) (q := (u, 1)) (f := dblN) (g := addN u) (h := addN u) (bitN V)
    ⟨by decide, by decide, Prod.ext (nat_d 1) (nat_d 0)⟩ ⟨hu, show 1 < P255 by decide, Prod.ext (Eq.refl (c u)) (nat_d 1)⟩ RN_dbl RN_sum RN_sum 255
  have hv := lad_C hG (bitN V) 254
  rw [show 254 + 1 = 255 from rfl, hrel.1.2.2] at hv
  have ht := top_val (V := V) (N := 255) (by rw [show (2 : Nat) ^ 255 = P2 by decide]; exact hV) (bit := bitN V) (fun i _ => rfl) 255 (Nat.le_refl _)
  rw [Nat.sub_self, Nat.pow_zero, Nat.div_one] at ht
  rw [ht] at hv
  exact hv

theorem u9 : uV nine = 9 := by decide +kernel

theorem G_ne {x z : Nat} (h1 : z % P255 ≠ 0) (h2 : x % P255 ≠ 0) : c x * (c z)⁻¹ ≠ 0 := fun h => by
  have hz : c z ≠ 0 := fun e => h1 (c_zero.1 e)
  have hx : c x ≠ 0 := fun e => h2 (c_zero.1 e)
  have hi := mul_inv hz
  have := eq_zero h hx
  rw [this] at hi
  exact zero_ne_one (by rw [← hi]; grind)

theorem G_is {x z w : Nat} (h1 : z % P255 ≠ 0) (h2 : x % P255 = w * z % P255) : c x * (c z)⁻¹ = c w := by
  have hz : c z ≠ 0 := fun e => h1 (c_zero.1 e)
  have hi := mul_inv hz
  have e : c x = c w * c z := by rw [← c_mul]; exact c_eq.2 h2
  rw [e]
  generalize (c z)⁻¹ = i at *
  grind

end Go.Proofs.YtdhnkkogbbhnmaaGreat

namespace Go.Proofs.YtdhnkkogbbhnmaaGreat
open Go

structure OpsLt where
  ml : List Nat → List Nat → List Nat
  g32 : List Nat → Bool
  pub : List Nat → List Nat
  sig : List Nat → List (List Nat) → List Nat
  cok : List Nat → List Nat → List (List Nat) → Bool
  s2 : List (List Nat) → List Nat
  ka : List Nat → List Nat → List Nat → List Nat
  k1 : List Nat → List Nat → List Nat → List Nat
  k2 : List Nat → List Nat → List Nat → List Nat
  mc : List Nat → List Nat → List Nat
  sl : List Nat → List Nat → List Nat → List Nat → List Nat
  tel : List Nat → List Nat → List Nat → List Nat → Bool
  opn : List Nat → List Nat → List Nat → List Nat
  cat : List (List Nat) → Nat → List Nat
  okL : List (List Nat) → Bool
  lon : List (List Nat) → Bool
  le : List Nat → List Nat → Nat → Nat → List Nat
  he : List Nat → Nat → Nat → List Nat
  oe : List Nat → List Nat → List Nat → List Nat → Nat → Nat → List Nat → List Nat
  pc : Nat → Nat → List Nat → List Nat
  a4 : List Nat → Nat → Nat

def opsLt : OpsLt := {
  ml := mlO ops3, g32 := g32, pub := mkA opsSh, sig := mkSig opsSh, cok := ckOk opsSh, s2 := sumF2, ka := kaF,
  k1 := fun a b c => k1L (ksT a b c), k2 := fun a b c => k2L (ksT a b c), mc := opsN.mc, sl := slT, tel := telT, opn := opnT, cat := catN, okL := okLens, lon := lonB,
  le := letB, he := hedB, oe := offB, pc := pc, a4 := at4 }
theorem opsLt_ml : opsLt.ml = mlO ops3 := by kernel_rfl
theorem opsLt_g32 : opsLt.g32 = g32 := by kernel_rfl
theorem opsLt_pub : opsLt.pub = mkA opsSh := by kernel_rfl
theorem opsLt_sig : opsLt.sig = mkSig opsSh := by kernel_rfl
theorem opsLt_cok : opsLt.cok = ckOk opsSh := by kernel_rfl
theorem opsLt_s2 : opsLt.s2 = sumF2 := by kernel_rfl
theorem opsLt_ka : opsLt.ka = kaF := by kernel_rfl
theorem opsLt_k1 : opsLt.k1 = fun a b c => k1L (ksT a b c) := by kernel_rfl
theorem opsLt_k2 : opsLt.k2 = fun a b c => k2L (ksT a b c) := by kernel_rfl
theorem opsLt_mc : opsLt.mc = opsN.mc := by kernel_rfl
theorem opsLt_sl : opsLt.sl = slT := by kernel_rfl
theorem opsLt_tel : opsLt.tel = telT := by kernel_rfl
theorem opsLt_opn : opsLt.opn = opnT := by kernel_rfl
theorem opsLt_cat : opsLt.cat = catN := by kernel_rfl
theorem opsLt_okL : opsLt.okL = okLens := by kernel_rfl
theorem opsLt_lon : opsLt.lon = lonB := by kernel_rfl
theorem opsLt_le : opsLt.le = letB := by kernel_rfl
theorem opsLt_he : opsLt.he = hedB := by kernel_rfl
theorem opsLt_oe : opsLt.oe = offB := by kernel_rfl
theorem opsLt_pc : opsLt.pc = pc := by kernel_rfl
theorem opsLt_a4 : opsLt.a4 = at4 := by kernel_rfl

def Lpub (o : OpsLt) : FSem := ⟨false, fun args hin => match args, hin with
  | [.agg [.ints .u8 32 s]], [] => some (.need (decide (s.length = 32)) (.leaf (.agg [.ints .u8 32 (o.pub s)], [])))
  | _, _ => none⟩
theorem lkPub : FOk Tryz.prog 27 (Lpub opsLt) := by
  have e : Lpub opsLt = Kpublic opsSi := by unfold Lpub Kpublic; rw [opsLt_pub, opsSi_pub]; try rfl
  rw [e]; exact okPublic
def Lml (o : OpsLt) : FSem := ⟨false, fun args hin => match args, hin with
  | [.agg [.ints .u8 32 k]], [] => some (.leaf (.agg [.ints .u8 32 (o.ml k nine)], []))
  | _, _ => none⟩
theorem lkMl : FOk Tryz.prog 12 (Lml opsLt) := by
  have e : Lml opsLt = Kpub opsMl := by unfold Lml Kpub; rw [opsLt_ml, opsMl_ml]; try rfl
  rw [e]; exact okPub
def Lag (o : OpsLt) : FSem := ⟨false, fun args hin => match args, hin with
  | [.agg [.ints .u8 32 k], .agg [.ints .u8 32 u]], [] => some (.need (o.g32 u) (.br (decide (o.ml k u = zero32)) (.leaf (.tup [.agg [.ints .u8 32 zero32], .s (.nat .i64 50)], []))
      (.leaf (.tup [.agg [.ints .u8 32 (o.ml k u)], .s (.nat .i64 0)], []))))
  | _, _ => none⟩
theorem lkAg : FOk Tryz.prog 44 (Lag opsLt) := by
  have e : Lag opsLt = Kagree opsMl := by unfold Lag Kagree; rw [opsLt_ml, opsMl_ml, opsLt_g32, opsMl_g32]; try rfl
  rw [e]; exact okAgree
def Ls2 (o : OpsLt) : FSem := ⟨true, fun args hin => match args, hin with
  | [.s (.xsl (.bss pss))], [] => some (.need (okParts pss) (.leaf (.agg [.ints .u8 32 (o.s2 pss)], [])))
  | _, _ => none⟩
theorem lkS2 : FOk Tryz.prog 46 (Ls2 opsLt) := by
  have e : Ls2 opsLt = Ksum256 opsH2 := by unfold Ls2 Ksum256; rw [opsLt_s2, opsH2_s2]; try rfl
  rw [e]; exact okSum256
def Lky1 (o : OpsLt) : FSem := ⟨true, fun args hin => match args, hin with
  | [.s (.xsl (.ints .u8 salt)), .s (.xsl (.ints .u8 secret)), .s (.str info), .s (.nat .i64 1)], [] =>
    some (Tr.needs [decide (salt.length ≤ 1099511627776), decide (secret.length ≤ 1099511627776), decide (info.length ≤ 1099511627776)]
      (.leaf (.tup [.s (.sl .whole 0 0 1 32), .s (.nat .i64 0)], [some [.ints .u8 32 (o.ka salt secret info)]])))
  | _, _ => none⟩
theorem lkKy1 : FOk Tryz.prog 45 (Lky1 opsLt) := by
  have e : Lky1 opsLt = Kkeys1 opsKy := by unfold Lky1 Kkeys1; rw [opsLt_ka, opsKy_ka]; try rfl
  rw [e]; exact okKeys1
def Lky2 (o : OpsLt) : FSem := ⟨true, fun args hin => match args, hin with
  | [.s (.xsl (.ints .u8 salt)), .s (.xsl (.ints .u8 secret)), .s (.str info), .s (.nat .i64 2)], [] =>
    some (Tr.needs [decide (salt.length ≤ 1099511627776), decide (secret.length ≤ 1099511627776), decide (info.length ≤ 1099511627776)]
      (.leaf (.tup [.s (.sl .whole 0 0 2 32), .s (.nat .i64 0)], [some [.ints .u8 32 (o.k1 salt secret info), .ints .u8 32 (o.k2 salt secret info)]])))
  | _, _ => none⟩
theorem lkKy2 : FOk Tryz.prog 45 (Lky2 opsLt) := by
  have e : Lky2 opsLt = Y4 opsL := by unfold Lky2 Y4; rw [opsLt_k1, opsL_k1, opsLt_k2, opsL_k2]; try rfl
  rw [e]; exact y4
def Lmc (o : OpsLt) : FSem := ⟨true, fun args hin => match args, hin with
  | [.s (.xsl (.ints .u8 key)), .s (.xsl (.bss [p]))], [] => some (Tr.needs [decide (key.length ≤ 1099511627776), decide (p.length ≤ 1099511627776)] (.leaf (.agg [.ints .u8 32 (o.mc key p)], [])))
  | _, _ => none⟩
theorem lkMc : FOk Tryz.prog 55 (Lmc opsLt) := by
  have e : Lmc opsLt = R24h opsN := by unfold Lmc R24h; rw [opsLt_mc]; try rfl
  rw [e]; exact or24h
def Lsl (o : OpsLt) : FSem := ⟨true, fun args hin => match args, hin with
  | [.agg [.ints .u8 32 key, .ints .u8 12 nonce], .s (.xsl (.ints .u8 xs)), .s (.xsl (.bss pss))], [] =>
    some (Tr.needs [decide (xs.length < 9223372036854775808), decide (pss.length < 9223372036854775808), o.okL pss]
      (.br (decide (1048576 < xs.length) || o.lon pss) (.leaf (.tup [.s .nil, .s (.nat .i64 2)], []))
        (.leaf (.tup [.s (.sl .whole 0 0 (xs.length + 16) 1), .s (.nat .i64 0)], [some [.ints .u8 (xs.length + 16) (o.sl key nonce xs (o.cat pss pss.length))]]))))
  | _, _ => none⟩
theorem lkSl : FOk Tryz.prog 32 (Lsl opsLt) := by
  have e : Lsl opsLt = Y5 opsL := by unfold Lsl Y5; rw [opsLt_okL, opsL_okL, opsLt_lon, opsL_lon, opsLt_sl, opsL_sl, opsLt_cat, opsL_cat]; try rfl
  rw [e]; exact y5
def Lop (o : OpsLt) : FSem := ⟨true, fun args hin => match args, hin with
  | [.agg [.ints .u8 32 key, .ints .u8 12 nonce], .s (.xsl (.ints .u8 xs)), .s (.xsl (.bss pss))], [] =>
    some (Tr.needs [decide (xs.length < 9223372036854775808), decide (pss.length < 9223372036854775808), o.okL pss]
      (.br (decide (1048592 < xs.length) || o.lon pss) (.leaf (.tup [.s .nil, .s (.nat .i64 2)], []))
        (.br (decide (xs.length < 16)) (.leaf (.tup [.s .nil, .s (.nat .i64 111)], []))
          (.br (o.tel key nonce xs (o.cat pss pss.length))
            (.leaf (.tup [.s (.sl .whole 0 0 (xs.length - 16) 1), .s (.nat .i64 0)], [some [.ints .u8 (xs.length - 16) (o.opn key nonce xs)]]))
            (.leaf (.tup [.s .nil, .s (.nat .i64 100)], []))))))
  | _, _ => none⟩
theorem lkOp : FOk Tryz.prog 36 (Lop opsLt) := by
  have e : Lop opsLt = Y6 opsL := by unfold Lop Y6; rw [opsLt_okL, opsL_okL, opsLt_lon, opsL_lon, opsLt_tel, opsL_tel, opsLt_opn, opsL_opn, opsLt_cat, opsL_cat]; try rfl
  rw [e]; exact y6

end Go.Proofs.YtdhnkkogbbhnmaaGreat

namespace Go.Proofs.YtdhnkkogbbhnmaaGreat
open Go

theorem okPartsN {ps : List (List Nat)} (h1 : 0 < ps.length) (h2 : ps.length ≤ 16) (h3 : ∀ p ∈ ps, p.length ≤ 1099511627776) : okParts ps = true := by
  simp only [okParts, okPs, Bool.and_eq_true, decide_eq_true_eq, List.all_eq_true]
  exact ⟨⟨h1, h2⟩, h3⟩

def Lmk (o : OpsLt) : FSem := ⟨false, fun args hin => match args, hin with
  | [.agg [.ints .u8 32 s], .s (.sl .whole 0 0 4 1)], [[.one (.sl .whole 1 0 12 1), .one (.sl .whole 2 0 32 1), .one (.sl .whole 3 0 32 1), .one (.sl .whole 4 0 4 1)], [.ints .u8 12 a], [.ints .u8 32 b], [.ints .u8 32 c], [.ints .u8 4 d]] =>
    some (Tr.needs [decide (s.length = 32), decide (a.length = 12), decide (b.length = 32), decide (c.length = 32), decide (d.length = 4)] (.leaf (.agg [.ints .u8 64 (o.sig s [a, b, c, d])],
      [some [.one (.sl .whole 1 0 12 1), .one (.sl .whole 2 0 32 1), .one (.sl .whole 3 0 32 1), .one (.sl .whole 4 0 4 1)], some [.ints .u8 12 a], some [.ints .u8 32 b], some [.ints .u8 32 c], some [.ints .u8 4 d]])))
  | _, _ => none⟩
theorem lkMk : FOk Tryz.prog 19 (Lmk opsLt) := by
  refine fokB (fs := envSh opsSh) (xs := []) (m := .nat) (fuel := 20) envSh_ok fnMake ?_
  intro args hin t r h hg
  unfold Lmk at h
  rw [opsLt_sig] at h
  simp only at h
  split at h
  · rename_i s a b c d
    simp only [Option.some.injEq] at h
    subst h
    obtain ⟨hc, hgt⟩ := Tr.needs_get hg
    cases hgt
    simp only [List.mem_cons, List.not_mem_nil, or_false, forall_eq_or_imp, forall_eq, decide_eq_true_eq] at hc
    obtain ⟨hl, ha, hb, hcc, hd⟩ := hc
    have := rMake4 opsSh s a b c d
    unfold p4R p4B at this
    rw [this]
    refine nd_of ?_ rfl
    obtain ⟨b1, b2, b3, b4⟩ := basH
    obtain ⟨p1, p2, p3, p4⟩ := mpH opsSh.bas (opsSh.hs s)
    obtain ⟨q1, q2, q3, q4⟩ := mpH opsSh.bas (mkr opsSh s [a, b, c, d])
    have e1 : (mkF opsSh s [a, b, c, d]).length = 32 := enc_len (mkR opsSh s [a, b, c, d])
    have e2 : (mkA opsSh s).length = 32 := enc_len (pbP opsSh s)
    have e3 := hp_len s
    have k1 : (mkk opsSh s [a, b, c, d]).length = 32 := rd_len _
    have k2 : (mkr opsSh s [a, b, c, d]).length = 32 := rd_len _
    simp only [List.mem_cons, List.not_mem_nil, or_false, forall_eq_or_imp, forall_eq, decide_eq_true_eq]
    refine ⟨okParts1 (by omega), b1, b2, b3, b4, p1, p2, p3, okPartsN (by simp) (by simp) ?_, b1, b2, b3, b4, q1, q2, q3, okPartsN (by simp) (by simp) ?_, k1, hs_len s, k2⟩
    · simp only [List.mem_cons, List.not_mem_nil, or_false, forall_eq_or_imp, forall_eq]; omega
    · simp only [List.mem_cons, List.not_mem_nil, or_false, forall_eq_or_imp, forall_eq]; omega
  · cases h

def Lck (o : OpsLt) : FSem := ⟨false, fun args hin => match args, hin with
  | [.agg [.ints .u8 32 p], .agg [.ints .u8 64 g], .s (.sl .whole 0 0 4 1)], [[.one (.sl .whole 1 0 12 1), .one (.sl .whole 2 0 32 1), .one (.sl .whole 3 0 32 1), .one (.sl .whole 4 0 4 1)], [.ints .u8 12 a], [.ints .u8 32 b], [.ints .u8 32 c], [.ints .u8 4 d]] =>
    some (Tr.needs [decide (p.length = 32), decide (g.length = 64), decide (a.length = 12), decide (b.length = 32), decide (c.length = 32), decide (d.length = 4), o.cok p g [a, b, c, d]] (.leaf (.s (.nat .i64 0),
      [some [.one (.sl .whole 1 0 12 1), .one (.sl .whole 2 0 32 1), .one (.sl .whole 3 0 32 1), .one (.sl .whole 4 0 4 1)], some [.ints .u8 12 a], some [.ints .u8 32 b], some [.ints .u8 32 c], some [.ints .u8 4 d]])))
  | _, _ => none⟩
theorem lkCk : FOk Tryz.prog 43 (Lck opsLt) := by
  refine fokB (fs := envSh opsSh) (xs := []) (m := .nat) (fuel := 20) envSh_ok fnCheck ?_
  intro args hin t r h hg
  unfold Lck at h
  rw [opsLt_cok] at h
  simp only at h
  split at h
  · rename_i p g a b c d
    simp only [Option.some.injEq] at h
    subst h
    obtain ⟨hc, hgt⟩ := Tr.needs_get hg
    cases hgt
    simp only [List.mem_cons, List.not_mem_nil, or_false, forall_eq_or_imp, forall_eq, decide_eq_true_eq] at hc
    obtain ⟨hp, hl, ha, hb, hcc, hd, hk⟩ := hc
    unfold ckOk at hk
    simp only [Bool.and_eq_true, decide_eq_true_eq] at hk
    obtain ⟨k1, k2, k3, k4, k5⟩ := hk
    have := rCheck4 opsSh p g a b c d
    unfold p4R p4B at this
    rw [this]
    obtain ⟨b1, b2, b3, b4⟩ := basH
    obtain ⟨d1, d2, d3, d4⟩ := dkH p
    obtain ⟨n1, n2, n3, n4⟩ := ngH (p := opsSh.dkp p) ⟨d2, d3⟩
    obtain ⟨p1, p2, p3, p4⟩ := mpH opsSh.bas (ckB g)
    obtain ⟨q1, q2, q3, q4⟩ := mpH (ckN opsSh p) (ckk opsSh p g [a, b, c, d])
    obtain ⟨s1, s2, s3, s4⟩ := plsH (ckS opsSh g) (ckM opsSh p g [a, b, c, d])
    have f1 : (ckB g).length = 32 := by unfold ckB; rw [List.length_take, List.length_drop, hl]; decide
    have f2 : (ckF g).length = 32 := by unfold ckF; rw [List.length_take, List.length_drop, hl]; decide
    refine nd_of ?_ (cond_f ?_ (nd_of ?_ (cond_f ?_ (nd_of ?_ (cond_f ?_ rfl)))))
    · simp only [List.mem_cons, List.not_mem_nil, or_false, forall_eq_or_imp, forall_eq]
      exact ⟨k1, d1, d2, d3, d4⟩
    · cases hz : opsSh.tny (opsSh.dkp p)
      · rfl
      · rw [hz] at k2; cases k2
    · simp only [List.mem_cons, List.not_mem_nil, or_false, forall_eq, decide_eq_true_eq]
      exact f1
    · rw [k3]; rfl
    · simp only [List.mem_cons, List.not_mem_nil, or_false, forall_eq_or_imp, forall_eq]
      refine ⟨k4, okPartsN (by simp) (by simp) ?_, b1, b2, b3, b4, d1, d4, n1, n2, n3, n4, p1, p2, p3, p4, q1, q2, q3, q4, s1, s2, s3⟩
      simp only [List.mem_cons, List.not_mem_nil, or_false, forall_eq_or_imp, forall_eq]; omega
    · exact bnf k5
  · cases h

theorem fnSigned : Fn Tryz.prog 20 Tryz.f20 := ⟨mixedF, Tryz.func20, by kernel_rfl, of_decide_eq_true (by kernel_rfl)⟩
def sgA : List Nat := [115, 105, 103, 110, 101, 116, 32, 111, 102, 102, 101, 114]
def Lsg : FSem := ⟨false, fun args hin => match args, hin with
  | [.agg [.ints .u8 32 b], .agg [.ints .u8 32 c], .s (.nat .u32 n)], [] => some (.leaf (.s (.sl .whole 0 0 4 1), [some [.one (.sl .whole 1 0 12 1), .one (.sl .whole 2 0 32 1), .one (.sl .whole 3 0 32 1), .one (.sl .whole 4 0 4 1)], some [.ints .u8 12 sgA], some [.ints .u8 32 b], some [.ints .u8 32 c], some [.ints .u8 4 (num4 n)]]))
  | _, _ => none⟩
set_option maxRecDepth 100000 in
theorem rSigned (b c : List Nat) (n : Nat) : runB Tryz.prog [] [] .nat 20 Tryz.f20 [.agg [.ints .u8 32 b], .agg [.ints .u8 32 c], .s (.nat .u32 n)] [] =
  some (.s (.sl .whole 0 0 4 1), [some [.one (.sl .whole 1 0 12 1), .one (.sl .whole 2 0 32 1), .one (.sl .whole 3 0 32 1), .one (.sl .whole 4 0 4 1)], some [.ints .u8 12 sgA], some [.ints .u8 32 b], some [.ints .u8 32 c], some [.ints .u8 4 (num4 n)]]) := by kernel_rfl
theorem lkSg : FOk Tryz.prog 20 Lsg := by
  refine fokB (fs := []) (xs := []) (m := .nat) (fuel := 20) .nil fnSigned ?_
  intro args hin t r h hg
  unfold Lsg at h
  simp only at h
  split at h
  · cases h; cases hg
    exact rSigned _ _ _
  · cases h

def envA (o : OpsLt) : List (Nat × FSem) := [(27, Lpub o), (12, Lml o), (44, Lag o), (46, Ls2 o), (45, Lky1 o), (19, Lmk o), (43, Lck o), (20, Lsg)]
theorem envA_ok : EnvOk ⟨Tryz.prog, envA opsLt, []⟩ := .cons lkPub (.cons lkMl (.cons lkAg (.cons lkS2 (.cons lkKy1 (.cons lkMk (.cons lkCk (.cons lkSg .nil)))))))

end Go.Proofs.YtdhnkkogbbhnmaaGreat

namespace Go.Proofs.YtdhnkkogbbhnmaaGreat
open Go

theorem fnPubA : Fn Tryz.prog 11 Tryz.f11 := ⟨mixedF, Tryz.func11, by kernel_rfl, of_decide_eq_true (by kernel_rfl)⟩
theorem fnBound : Fn Tryz.prog 26 Tryz.f26 := ⟨mixedF, Tryz.func26, by kernel_rfl, of_decide_eq_true (by kernel_rfl)⟩
theorem fnTog : Fn Tryz.prog 25 Tryz.f25 := ⟨mixedF, Tryz.func25, by kernel_rfl, of_decide_eq_true (by kernel_rfl)⟩

def Lpa (o : OpsLt) : FSem := ⟨false, fun args hin => match args, hin with
  | [.agg [.ints .u8 32 s, .ints .u8 32 g]], [] => some (.need (decide (s.length = 32)) (.leaf (.agg [.ints .u8 32 (o.pub s), .ints .u8 32 (o.ml g nine)], [])))
  | _, _ => none⟩
theorem rPubA (o : OpsLt) (s g : List Nat) : runB Tryz.prog (envA o) [] .nat 20 Tryz.f11 [.agg [.ints .u8 32 s, .ints .u8 32 g]] [] =
  nd [decide (s.length = 32)] (some (.agg [.ints .u8 32 (o.pub s), .ints .u8 32 (o.ml g nine)], [])) := by kernel_rfl
theorem lkPa : FOk Tryz.prog 11 (Lpa opsLt) := by
  refine fokB (fs := envA opsLt) (xs := []) (m := .nat) (fuel := 20) envA_ok fnPubA ?_
  intro args hin t r h hg
  unfold Lpa at h
  simp only at h
  split at h
  · simp only [Option.some.injEq] at h
    subst h
    obtain ⟨hc, hgt⟩ := need1 hg
    cases hgt
    rw [rPubA]
    exact nd_of (by simpa using of_decide_eq_true hc) rfl
  · cases h

def bdA : List Nat := [115, 105, 103, 110, 101, 116, 32, 98, 111, 117, 110, 100]
def bdO (o : OpsLt) (s g s' g' : List Nat) : List Nat := o.s2 [bdA, s, g, s', g']
set_option maxRecDepth 100000 in
theorem rBound (o : OpsLt) (s g s' g' : List Nat) : runB Tryz.prog (envA o) [] .nat 40 Tryz.f26 [.agg [.ints .u8 32 s, .ints .u8 32 g], .agg [.ints .u8 32 s', .ints .u8 32 g']] [] =
  nd [okParts [bdA, s, g, s', g']] (some (.agg [.ints .u8 32 (bdO o s g s' g')], [])) := by kernel_rfl
def Lbd (o : OpsLt) : FSem := ⟨false, fun args hin => match args, hin with
  | [.agg [.ints .u8 32 s, .ints .u8 32 g], .agg [.ints .u8 32 s', .ints .u8 32 g']], [] => some (Tr.needs [decide (s.length = 32), decide (g.length = 32), decide (s'.length = 32), decide (g'.length = 32)] (.leaf (.agg [.ints .u8 32 (bdO o s g s' g')], [])))
  | _, _ => none⟩
theorem lkBd : FOk Tryz.prog 26 (Lbd opsLt) := by
  refine fokB (fs := envA opsLt) (xs := []) (m := .nat) (fuel := 40) envA_ok fnBound ?_
  intro args hin t r h hg
  unfold Lbd at h
  simp only at h
  split at h
  · rename_i s g s' g'
    simp only [Option.some.injEq] at h
    subst h
    obtain ⟨hc, hgt⟩ := Tr.needs_get hg
    cases hgt
    simp only [List.mem_cons, List.not_mem_nil, or_false, forall_eq_or_imp, forall_eq, decide_eq_true_eq] at hc
    rw [rBound]
    refine nd_of ?_ rfl
    simp only [List.mem_cons, List.not_mem_nil, or_false, forall_eq]
    refine okPartsN (by simp) (by simp) ?_
    have hb : bdA.length = 12 := rfl
    simp only [List.mem_cons, List.not_mem_nil, or_false, forall_eq_or_imp, forall_eq]; omega
  · cases h

/-! The key of four secrets. -/
def f255 : List Nat := List.replicate 32 255
def tgL (o : OpsLt) (a b c d e f g h : List Nat) : List Nat := f255 ++ o.ml a b ++ o.ml c d ++ o.ml e f ++ o.ml g h
def agS : List Nat := [115, 105, 103, 110, 101, 116, 32, 97, 103, 114, 101, 101]
def tgK (o : OpsLt) (a b c d e f g h : List Nat) : List Nat := o.ka [] (tgL o a b c d e f g h) agS
def tgB (a b c d e f g h : List Nat) : Blk := [.ints .u8 32 a, .ints .u8 32 b, .ints .u8 32 c, .ints .u8 32 d, .ints .u8 32 e, .ints .u8 32 f, .ints .u8 32 g, .ints .u8 32 h]
def tgE (a b c d e f g h : List Nat) : Option (AV × List (Option Blk)) := some (.tup [.agg [.ints .u8 32 zero32], .s (.nat .i64 50)], [some (tgB a b c d e f g h)])
set_option maxRecDepth 100000 in
theorem rTog (o : OpsLt) (a b c d e f g h : List Nat) : runB Tryz.prog (envA o) [] .nat 40 Tryz.f25 [.s (.sl .whole 0 0 4 64)] [tgB a b c d e f g h] =
  nd [o.g32 b] (cond (decide (o.ml a b = zero32)) (tgE a b c d e f g h)
  (nd [o.g32 d] (cond (decide (o.ml c d = zero32)) (tgE a b c d e f g h)
  (nd [o.g32 f] (cond (decide (o.ml e f = zero32)) (tgE a b c d e f g h)
  (nd [o.g32 h] (cond (decide (o.ml g h = zero32)) (tgE a b c d e f g h)
  (nd [decide (([] : List Nat).length ≤ 1099511627776), decide ((tgL o a b c d e f g h).length ≤ 1099511627776), decide (agS.length ≤ 1099511627776)]
    (some (.tup [.agg [.ints .u8 32 (tgK o a b c d e f g h)], .s (.nat .i64 0)], [some (tgB a b c d e f g h)])))))))))) := by kernel_rfl

def tgZ (o : OpsLt) (a b c d e f g h : List Nat) : Bool := decide (o.ml a b = zero32) || (decide (o.ml c d = zero32) || (decide (o.ml e f = zero32) || decide (o.ml g h = zero32)))
def Ltg (o : OpsLt) : FSem := ⟨false, fun args hin => match args, hin with
  | [.s (.sl .whole 0 0 4 64)], [[.ints .u8 32 a, .ints .u8 32 b, .ints .u8 32 c, .ints .u8 32 d, .ints .u8 32 e, .ints .u8 32 f, .ints .u8 32 g, .ints .u8 32 h]] =>
    some (Tr.needs [o.g32 b, o.g32 d, o.g32 f, o.g32 h] (.br (tgZ o a b c d e f g h)
      (.leaf (.tup [.agg [.ints .u8 32 zero32], .s (.nat .i64 50)], [some [.ints .u8 32 a, .ints .u8 32 b, .ints .u8 32 c, .ints .u8 32 d, .ints .u8 32 e, .ints .u8 32 f, .ints .u8 32 g, .ints .u8 32 h]]))
      (.leaf (.tup [.agg [.ints .u8 32 (tgK o a b c d e f g h)], .s (.nat .i64 0)], [some [.ints .u8 32 a, .ints .u8 32 b, .ints .u8 32 c, .ints .u8 32 d, .ints .u8 32 e, .ints .u8 32 f, .ints .u8 32 g, .ints .u8 32 h]]))))
  | _, _ => none⟩

theorem mlO_len (k u : List Nat) : (opsLt.ml k u).length = 32 := by
  rw [opsLt_ml]
  unfold mlO
  rw [ops3_bytes]
  exact bytesF_len _

theorem lkTg : FOk Tryz.prog 25 (Ltg opsLt) := by
  refine fokB (fs := envA opsLt) (xs := []) (m := .nat) (fuel := 40) envA_ok fnTog ?_
  intro args hin t r hh hg
  unfold Ltg at hh
  simp only at hh
  split at hh
  · rename_i a b c d e f g h
    simp only [Option.some.injEq] at hh
    subst hh
    obtain ⟨hc, hgt⟩ := Tr.needs_get hg
    simp only [List.mem_cons, List.not_mem_nil, or_false, forall_eq_or_imp, forall_eq] at hc
    obtain ⟨h1, h2, h3, h4⟩ := hc
    simp only [Tr.get] at hgt
    have := rTog opsLt a b c d e f g h
    rw [show tgB a b c d e f g h = [.ints .u8 32 a, .ints .u8 32 b, .ints .u8 32 c, .ints .u8 32 d, .ints .u8 32 e, .ints .u8 32 f, .ints .u8 32 g, .ints .u8 32 h] from rfl] at this
    rw [this, h1, h2, h3, h4]
    unfold tgZ at hgt
    have hl : (tgL opsLt a b c d e f g h).length = 160 := by
      unfold tgL
      simp only [List.length_append, mlO_len]
      rfl
    have hn : ∀ x ∈ [decide (([] : List Nat).length ≤ 1099511627776), decide ((tgL opsLt a b c d e f g h).length ≤ 1099511627776), decide (agS.length ≤ 1099511627776)], x = true := by
      have ha : agS.length = 12 := rfl
      simp only [List.mem_cons, List.not_mem_nil, or_false, forall_eq_or_imp, forall_eq, decide_eq_true_eq, hl, ha, List.length_nil]
      omega
    have ht : ∀ x ∈ [true], x = true := by simp
    generalize decide (opsLt.ml a b = zero32) = z1 at *
    generalize decide (opsLt.ml c d = zero32) = z2 at *
    generalize decide (opsLt.ml e f = zero32) = z3 at *
    generalize decide (opsLt.ml g h = zero32) = z4 at *
    cases z1
    · cases z2
      · cases z3
        · cases z4
          · rw [← hgt]
            exact nd_of ht (cond_f rfl (nd_of ht (cond_f rfl (nd_of ht (cond_f rfl (nd_of ht (cond_f rfl (nd_of hn rfl))))))))
          · rw [← hgt]; rfl
        · rw [← hgt]; rfl
      · rw [← hgt]; rfl
    · rw [← hgt]; rfl
  · cases hh

def envLB (o : OpsLt) : List (Nat × FSem) := (11, Lpa o) :: (26, Lbd o) :: (25, Ltg o) :: envA o
theorem envLB_ok : EnvOk ⟨Tryz.prog, envLB opsLt, []⟩ := .cons lkPa (.cons lkBd (.cons lkTg envA_ok))

end Go.Proofs.YtdhnkkogbbhnmaaGreat

namespace Go.Proofs.YtdhnkkogbbhnmaaGreat
open Go

theorem fnOffer : Fn Tryz.prog 5 Tryz.f5 := ⟨mixedF, Tryz.func5, by kernel_rfl, of_decide_eq_true (by kernel_rfl)⟩
theorem fnOFrame : Fn Tryz.prog 6 Tryz.f6 := ⟨mixedF, Tryz.func6, by kernel_rfl, of_decide_eq_true (by kernel_rfl)⟩
theorem fnRead : Fn Tryz.prog 8 Tryz.f8 := ⟨mixedF, Tryz.func8, by kernel_rfl, of_decide_eq_true (by kernel_rfl)⟩
theorem fnOCheck : Fn Tryz.prog 24 Tryz.f24 := ⟨mixedF, Tryz.func24, by kernel_rfl, of_decide_eq_true (by kernel_rfl)⟩
theorem fnBegin : Fn Tryz.prog 9 Tryz.f9 := ⟨mixedF, Tryz.func9, by kernel_rfl, of_decide_eq_true (by kernel_rfl)⟩
theorem fnAccept : Fn Tryz.prog 10 Tryz.f10 := ⟨mixedF, Tryz.func10, by kernel_rfl, of_decide_eq_true (by kernel_rfl)⟩

def Len (o : OpsLt) : FSem := ⟨false, fun args hin => match args, hin with
  | [.agg [.one (.nat .i64 3), .one (.sl .whole 0 0 1 32), .one (.sl .whole 1 0 2 1), .one .nil, .one (.sl .whole 2 0 18 1)]], [[.ints .u8 32 k], [.ints .u32 2 [b, n]], [.ints .u8 18 d]] =>
    some (.leaf (.tup [.s (.sl .whole 3 0 63 1), .s (.nat .i64 0)], [some [.ints .u8 32 k], some [.ints .u32 2 [b, n]], some [.ints .u8 18 d], some [.ints .u8 63 (o.le k d b n)]]))
  | [.agg [.one (.nat .i64 3), .one (.sl .whole 0 0 1 32), .one (.sl .whole 1 0 2 1), .one .nil, .one .nil]], [[.ints .u8 32 k], [.ints .u32 2 [b, n]]] =>
    some (.leaf (.tup [.s (.sl .whole 2 0 45 1), .s (.nat .i64 0)], [some [.ints .u8 32 k], some [.ints .u32 2 [b, n]], some [.ints .u8 45 (o.he k b n)]]))
  | [.agg [.one (.nat .i64 1), .one (.sl .whole 0 0 4 32), .one (.sl .whole 1 0 2 1), .one (.sl .whole 2 0 1 64), .one .nil]], [[.ints .u8 32 k1, .ints .u8 32 k2, .ints .u8 32 k3, .ints .u8 32 k4], [.ints .u32 2 [b, n]], [.ints .u8 64 s]] =>
    some (.leaf (.tup [.s (.sl .whole 3 0 201 1), .s (.nat .i64 0)], [some [.ints .u8 32 k1, .ints .u8 32 k2, .ints .u8 32 k3, .ints .u8 32 k4], some [.ints .u32 2 [b, n]], some [.ints .u8 64 s], some [.ints .u8 201 (o.oe k1 k2 k3 k4 b n s)]]))
  | _, _ => none⟩
theorem lkEn : FOk Tryz.prog 4 (Len opsLt) := by
  have e : Len opsLt = Kenc opsFr := by unfold Len Kenc; rw [opsLt_le, opsFr_le, opsLt_he, opsFr_he, opsLt_oe, opsFr_oe]; try rfl
  rw [e]; exact okEnc
def Lde (o : OpsLt) : FSem := ⟨false, fun args hin => match args, hin with
  | [.s (.sl .whole 0 0 63 1)], [[.ints .u8 63 xs]] => some (Tr.needs [decide (xs.getD 0 0 = 3), decide (o.a4 xs 41 = 18)]
     (.leaf (.tup [.agg [.one (.nat .i64 3), .one (.sl .whole 1 0 1 32), .one (.sl .whole 2 0 2 1), .one .nil, .one (.sl .whole 3 0 18 1)], .s (.nat .i64 0)],
     [some [.ints .u8 63 xs], some [.ints .u8 32 (o.pc 1 32 xs)], some [.ints .u32 2 [o.a4 xs 33, o.a4 xs 37]], some [.ints .u8 18 (o.pc 45 18 xs)]])))
  | [.s (.sl .whole 0 0 201 1)], [[.ints .u8 201 xs]] => some (.need (decide (xs.getD 0 0 = 1))
     (.leaf (.tup [.agg [.one (.nat .i64 1), .one (.sl .whole 1 0 4 32), .one (.sl .whole 2 0 2 1), .one (.sl .whole 3 0 1 64), .one .nil], .s (.nat .i64 0)],
     [some [.ints .u8 201 xs], some [.ints .u8 32 (o.pc 1 32 xs), .ints .u8 32 (o.pc 33 32 xs), .ints .u8 32 (o.pc 65 32 xs), .ints .u8 32 (o.pc 97 32 xs)],
      some [.ints .u32 2 [o.a4 xs 129, o.a4 xs 133]], some [.ints .u8 64 (o.pc 137 64 xs)]])))
  | _, _ => none⟩
theorem lkDe : FOk Tryz.prog 7 (Lde opsLt) := by
  have e : Lde opsLt = Kde opsDe := by unfold Lde Kde; rw [opsLt_pc, opsDe_pc, opsLt_a4, opsDe_rn, opsRn_a4]; try rfl
  rw [e]; exact okDe

/-! An offer. -/
def ofSg (o : OpsLt) (s g p : List Nat) (m : Nat) : List Nat := o.sig s [sgA, o.ml g nine, o.ml p nine, num4 m]
set_option maxRecDepth 100000 in
theorem rOffer (o : OpsLt) (s g p : List Nat) (m n : Nat) : runB Tryz.prog (envLB o) [] .nat 40 Tryz.f5 [.agg [.ints .u8 32 s, .ints .u8 32 g], .agg [.ints .u8 32 p], .agg [.ints .u8 32 (12 :: List.replicate 31 0)], .s (.nat .u32 m), .s (.nat .u32 n)] [] =
  nd [decide (s.length = 32), decide (s.length = 32), decide (sgA.length = 12), decide ((o.ml g nine).length = 32), decide ((o.ml p nine).length = 32), decide ((num4 m).length = 4)]
   (some (.agg [.ints .u8 32 (o.pub s), .ints .u8 32 (o.ml g nine), .ints .u8 32 (o.ml p nine), .ints .u8 32 (o.ml (12 :: List.replicate 31 0) nine), .one (.nat .u32 m), .ints .u32 1 [n], .ints .u8 64 (ofSg o s g p m)], [])) := by kernel_rfl

def Lof (o : OpsLt) : FSem := ⟨false, fun args hin => match args, hin with
  | [.agg [.ints .u8 32 s, .ints .u8 32 g], .agg [.ints .u8 32 p], .agg [.ints .u8 32 q], .s (.nat .u32 m), .s (.nat .u32 n)], [] =>
    some (Tr.needs [decide (s.length = 32), decide (q = 12 :: List.replicate 31 0)] (.leaf (.agg [.ints .u8 32 (o.pub s), .ints .u8 32 (o.ml g nine), .ints .u8 32 (o.ml p nine), .ints .u8 32 (o.ml q nine), .one (.nat .u32 m), .ints .u32 1 [n], .ints .u8 64 (ofSg o s g p m)], [])))
  | _, _ => none⟩
theorem lkOf : FOk Tryz.prog 5 (Lof opsLt) := by
  refine fokB (fs := envLB opsLt) (xs := []) (m := .nat) (fuel := 40) envLB_ok fnOffer ?_
  intro args hin t r h hg
  unfold Lof at h
  simp only at h
  split at h
  · rename_i s g p q m n
    simp only [Option.some.injEq] at h
    subst h
    obtain ⟨hc, hgt⟩ := Tr.needs_get hg
    cases hgt
    simp only [List.mem_cons, List.not_mem_nil, or_false, forall_eq_or_imp, forall_eq, decide_eq_true_eq] at hc
    obtain ⟨h1, rfl⟩ := hc
    rw [rOffer]
    refine nd_of ?_ rfl
    simp only [List.mem_cons, List.not_mem_nil, or_false, forall_eq_or_imp, forall_eq, decide_eq_true_eq, mlO_len]
    exact ⟨h1, h1, rfl, trivial, trivial, rfl⟩
  · cases h

set_option maxRecDepth 100000 in
theorem rOFrame (a b c d s : List Nat) (m n : Nat) : runB Tryz.prog [] [] .nat 40 Tryz.f6 [.agg [.ints .u8 32 a, .ints .u8 32 b, .ints .u8 32 c, .ints .u8 32 d, .one (.nat .u32 m), .ints .u32 1 [n], .ints .u8 64 s]] [] =
  some (.agg [.one (.nat .i64 1), .one (.sl .whole 0 0 4 32), .one (.sl .whole 1 0 2 1), .one (.sl .whole 2 0 1 64), .one .nil], [some [.ints .u8 32 a, .ints .u8 32 b, .ints .u8 32 c, .ints .u8 32 d], some [.ints .u32 2 [m, n]], some [.ints .u8 64 s]]) := by kernel_rfl
def Lfr : FSem := ⟨false, fun args hin => match args, hin with
  | [.agg [.ints .u8 32 a, .ints .u8 32 b, .ints .u8 32 c, .ints .u8 32 d, .one (.nat .u32 m), .ints .u32 1 [n], .ints .u8 64 s]], [] =>
    some (.leaf (.agg [.one (.nat .i64 1), .one (.sl .whole 0 0 4 32), .one (.sl .whole 1 0 2 1), .one (.sl .whole 2 0 1 64), .one .nil], [some [.ints .u8 32 a, .ints .u8 32 b, .ints .u8 32 c, .ints .u8 32 d], some [.ints .u32 2 [m, n]], some [.ints .u8 64 s]]))
  | _, _ => none⟩
theorem lkFr : FOk Tryz.prog 6 Lfr := by
  refine fokB (fs := []) (xs := []) (m := .nat) (fuel := 40) .nil fnOFrame ?_
  intro args hin t r h hg
  unfold Lfr at h
  simp only at h
  split at h
  · cases h; cases hg
    exact rOFrame _ _ _ _ _ _ _
  · cases h

set_option maxRecDepth 100000 in
theorem rRead (o : OpsLt) (a b c d s : List Nat) (m n : Nat) : runB Tryz.prog [(4, Len o)] [] .nat 40 Tryz.f8 [.agg [.one (.nat .i64 1), .one (.sl .whole 0 0 4 32), .one (.sl .whole 1 0 2 1), .one (.sl .whole 2 0 1 64), .one .nil]] [[.ints .u8 32 a, .ints .u8 32 b, .ints .u8 32 c, .ints .u8 32 d], [.ints .u32 2 [m, n]], [.ints .u8 64 s]] =
  some (.tup [.agg [.ints .u8 32 a, .ints .u8 32 b, .ints .u8 32 c, .ints .u8 32 d, .one (.nat .u32 m), .one (.nat .u32 n), .ints .u8 64 s], .s (.nat .i64 0)], [some [.ints .u8 32 a, .ints .u8 32 b, .ints .u8 32 c, .ints .u8 32 d], some [.ints .u32 2 [m, n]], some [.ints .u8 64 s]]) := by kernel_rfl
def Lrd : FSem := ⟨false, fun args hin => match args, hin with
  | [.agg [.one (.nat .i64 1), .one (.sl .whole 0 0 4 32), .one (.sl .whole 1 0 2 1), .one (.sl .whole 2 0 1 64), .one .nil]], [[.ints .u8 32 a, .ints .u8 32 b, .ints .u8 32 c, .ints .u8 32 d], [.ints .u32 2 [m, n]], [.ints .u8 64 s]] =>
    some (.leaf (.tup [.agg [.ints .u8 32 a, .ints .u8 32 b, .ints .u8 32 c, .ints .u8 32 d, .one (.nat .u32 m), .one (.nat .u32 n), .ints .u8 64 s], .s (.nat .i64 0)], [some [.ints .u8 32 a, .ints .u8 32 b, .ints .u8 32 c, .ints .u8 32 d], some [.ints .u32 2 [m, n]], some [.ints .u8 64 s]]))
  | _, _ => none⟩
theorem lkRd : FOk Tryz.prog 8 Lrd := by
  refine fokB (fs := [(4, Len opsLt)]) (xs := []) (m := .nat) (fuel := 40) (.cons lkEn .nil) fnRead ?_
  intro args hin t r h hg
  unfold Lrd at h
  simp only at h
  split at h
  · cases h; cases hg
    exact rRead _ _ _ _ _ _ _ _
  · cases h

/-! The secret. -/
def ofV (a b c d s : List Nat) (m n : Nat) : AV := .agg [.ints .u8 32 a, .ints .u8 32 b, .ints .u8 32 c, .ints .u8 32 d, .one (.nat .u32 m), .one (.nat .u32 n), .ints .u8 64 s]
set_option maxRecDepth 100000 in
theorem rOCheck (o : OpsLt) (a b c d s : List Nat) (m n : Nat) : runB Tryz.prog (envLB o) [] .nat 40 Tryz.f24 [ofV a b c d s m n] [] =
  nd [decide (a.length = 32), decide (s.length = 64), decide (sgA.length = 12), decide (b.length = 32), decide (c.length = 32), decide ((num4 m).length = 4), o.cok a s [sgA, b, c, num4 m]] (some (.s (.nat .i64 0), [])) := by kernel_rfl
def Loc (o : OpsLt) : FSem := ⟨false, fun args hin => match args, hin with
  | [.agg [.ints .u8 32 a, .ints .u8 32 b, .ints .u8 32 c, .ints .u8 32 d, .one (.nat .u32 m), .one (.nat .u32 n), .ints .u8 64 s]], [] =>
    some (Tr.needs [decide (a.length = 32), decide (s.length = 64), decide (b.length = 32), decide (c.length = 32), o.cok a s [sgA, b, c, num4 m]] (.leaf (.s (.nat .i64 0), [])))
  | _, _ => none⟩
theorem lkOc : FOk Tryz.prog 24 (Loc opsLt) := by
  refine fokB (fs := envLB opsLt) (xs := []) (m := .nat) (fuel := 40) envLB_ok fnOCheck ?_
  intro args hin t r h hg
  unfold Loc at h
  simp only at h
  split at h
  · rename_i a b c d m n s
    simp only [Option.some.injEq] at h
    subst h
    obtain ⟨hc, hgt⟩ := Tr.needs_get hg
    cases hgt
    simp only [List.mem_cons, List.not_mem_nil, or_false, forall_eq_or_imp, forall_eq, decide_eq_true_eq] at hc
    obtain ⟨h1, h2, h3, h4, h5⟩ := hc
    have := rOCheck opsLt a b c d s m n
    rw [show ofV a b c d s m n = .agg [.ints .u8 32 a, .ints .u8 32 b, .ints .u8 32 c, .ints .u8 32 d, .one (.nat .u32 m), .one (.nat .u32 n), .ints .u8 64 s] from rfl] at this
    rw [this]
    refine nd_of ?_ rfl
    simp only [List.mem_cons, List.not_mem_nil, or_false, forall_eq_or_imp, forall_eq, decide_eq_true_eq]
    exact ⟨h1, h2, rfl, h3, h4, rfl, h5⟩
  · cases h

def envLC (o : OpsLt) : List (Nat × FSem) := (24, Loc o) :: envLB o
theorem envLC_ok : EnvOk ⟨Tryz.prog, envLC opsLt, []⟩ := .cons lkOc envLB_ok

def z64 : List Nat := List.replicate 64 0
def scE : Option (AV × List (Option Blk)) := some (.tup [.agg [.ints .u8 64 z64], .s (.nat .i64 50)], [])
def scV (k b : List Nat) : Option (AV × List (Option Blk)) := some (.tup [.agg [.ints .u8 32 k, .ints .u8 32 b], .s (.nat .i64 0)], [])

set_option maxRecDepth 100000 in
theorem rBegin (o : OpsLt) (s g f a b c d i : List Nat) (m n : Nat) : runB Tryz.prog (envLC o) [] .nat 40 Tryz.f9 [.agg [.ints .u8 32 s, .ints .u8 32 g], .agg [.ints .u8 32 f], ofV a b c d i m n] [] =
  nd [decide (a.length = 32), decide (i.length = 64), decide (b.length = 32), decide (c.length = 32), o.cok a i [sgA, b, c, num4 m]]
  (cond (!decide (d = zero32)) (nd [o.g32 c, o.g32 b, o.g32 c, o.g32 d] (cond (tgZ o g c f b f c f d) scE
    (nd [decide (s.length = 32), decide ((o.pub s).length = 32), decide ((o.ml g nine).length = 32), decide (a.length = 32), decide (b.length = 32)] (scV (tgK o g c f b f c f d) (bdO o (o.pub s) (o.ml g nine) a b))))) none) := by kernel_rfl

set_option maxRecDepth 100000 in
theorem rAccept (o : OpsLt) (s g p q a b f : List Nat) : runB Tryz.prog (envLC o) [] .nat 40 Tryz.f10 [.agg [.ints .u8 32 s, .ints .u8 32 g], .agg [.ints .u8 32 p], .agg [.ints .u8 32 q], .agg [.ints .u8 32 a, .ints .u8 32 b], .agg [.ints .u8 32 f]] [] =
  (cond (!decide (q = zero32)) (nd [o.g32 b, o.g32 f, o.g32 f, o.g32 f] (cond (tgZ o p b g f p f q f) scE
    (nd [decide (s.length = 32), decide (a.length = 32), decide (b.length = 32), decide ((o.pub s).length = 32), decide ((o.ml g nine).length = 32)] (scV (tgK o p b g f p f q f) (bdO o a b (o.pub s) (o.ml g nine)))))) none) := by kernel_rfl

def Lbg (o : OpsLt) : FSem := ⟨false, fun args hin => match args, hin with
  | [.agg [.ints .u8 32 s, .ints .u8 32 g], .agg [.ints .u8 32 f], .agg [.ints .u8 32 a, .ints .u8 32 b, .ints .u8 32 c, .ints .u8 32 d, .one (.nat .u32 m), .one (.nat .u32 n), .ints .u8 64 i]], [] =>
    some (Tr.needs [decide (a.length = 32), decide (i.length = 64), decide (b.length = 32), decide (c.length = 32), o.cok a i [sgA, b, c, num4 m], !decide (d = zero32), o.g32 b, o.g32 c, o.g32 d, decide (s.length = 32), decide ((o.pub s).length = 32)]
      (.br (tgZ o g c f b f c f d) (.leaf (.tup [.agg [.ints .u8 64 z64], .s (.nat .i64 50)], []))
        (.leaf (.tup [.agg [.ints .u8 32 (tgK o g c f b f c f d), .ints .u8 32 (bdO o (o.pub s) (o.ml g nine) a b)], .s (.nat .i64 0)], []))))
  | _, _ => none⟩
theorem lkBg : FOk Tryz.prog 9 (Lbg opsLt) := by
  refine fokB (fs := envLC opsLt) (xs := []) (m := .nat) (fuel := 40) envLC_ok fnBegin ?_
  intro args hin t r h hg
  unfold Lbg at h
  simp only at h
  split at h
  · rename_i s g f a b c d m n i
    simp only [Option.some.injEq] at h
    subst h
    obtain ⟨hc, hgt⟩ := Tr.needs_get hg
    simp only [List.mem_cons, List.not_mem_nil, or_false, forall_eq_or_imp, forall_eq] at hc
    obtain ⟨h1, h2, h3, h4, h5, h6, h7, h8, h9, h10, h11⟩ := hc
    simp only [Tr.get] at hgt
    have := rBegin opsLt s g f a b c d i m n
    rw [show ofV a b c d i m n = .agg [.ints .u8 32 a, .ints .u8 32 b, .ints .u8 32 c, .ints .u8 32 d, .one (.nat .u32 m), .one (.nat .u32 n), .ints .u8 64 i] from rfl] at this
    rw [this, ← hgt]
    refine nd_of ?_ (cond_t h6 (nd_of ?_ ?_))
    · simp only [List.mem_cons, List.not_mem_nil, or_false, forall_eq_or_imp, forall_eq]
      exact ⟨h1, h2, h3, h4, h5⟩
    · simp only [List.mem_cons, List.not_mem_nil, or_false, forall_eq_or_imp, forall_eq]
      exact ⟨h8, h7, h8, h9⟩
    · cases tgZ opsLt g c f b f c f d
      · refine cond_f rfl (nd_of ?_ rfl)
        simp only [List.mem_cons, List.not_mem_nil, or_false, forall_eq_or_imp, forall_eq]
        exact ⟨h10, h11, decide_eq_true (mlO_len _ _), h1, h3⟩
      · rfl
  · cases h

def Lac (o : OpsLt) : FSem := ⟨false, fun args hin => match args, hin with
  | [.agg [.ints .u8 32 s, .ints .u8 32 g], .agg [.ints .u8 32 p], .agg [.ints .u8 32 q], .agg [.ints .u8 32 a, .ints .u8 32 b], .agg [.ints .u8 32 f]], [] =>
    some (Tr.needs [!decide (q = zero32), o.g32 b, o.g32 f, decide (s.length = 32), decide (a.length = 32), decide (b.length = 32), decide ((o.pub s).length = 32)]
      (.br (tgZ o p b g f p f q f) (.leaf (.tup [.agg [.ints .u8 64 z64], .s (.nat .i64 50)], []))
        (.leaf (.tup [.agg [.ints .u8 32 (tgK o p b g f p f q f), .ints .u8 32 (bdO o a b (o.pub s) (o.ml g nine))], .s (.nat .i64 0)], []))))
  | _, _ => none⟩
theorem lkAc : FOk Tryz.prog 10 (Lac opsLt) := by
  refine fokB (fs := envLC opsLt) (xs := []) (m := .nat) (fuel := 40) envLC_ok fnAccept ?_
  intro args hin t r h hg
  unfold Lac at h
  simp only at h
  split at h
  · rename_i s g p q a b f
    simp only [Option.some.injEq] at h
    subst h
    obtain ⟨hc, hgt⟩ := Tr.needs_get hg
    simp only [List.mem_cons, List.not_mem_nil, or_false, forall_eq_or_imp, forall_eq] at hc
    obtain ⟨h1, h2, h3, h4, h5, h6, h7⟩ := hc
    simp only [Tr.get] at hgt
    rw [rAccept, ← hgt]
    refine cond_t h1 (nd_of ?_ ?_)
    · simp only [List.mem_cons, List.not_mem_nil, or_false, forall_eq_or_imp, forall_eq]
      exact ⟨h2, h3, h3, h3⟩
    · cases tgZ opsLt p b g f p f q f
      · refine cond_f rfl (nd_of ?_ rfl)
        simp only [List.mem_cons, List.not_mem_nil, or_false, forall_eq_or_imp, forall_eq]
        exact ⟨h4, h5, h6, h7, decide_eq_true (mlO_len _ _)⟩
      · rfl
  · cases h

end Go.Proofs.YtdhnkkogbbhnmaaGreat

namespace Go.Proofs.YtdhnkkogbbhnmaaGreat
open Go

structure St9 where
  rt : List Nat
  ow : List Nat
  th : List Nat
  bd : List Nat
  sc : List Nat
  sn : Nat
  so : Bool
  gc : List Nat
  gn : Nat
  go : Bool
  bf : Nat

def stB (s : St9) : Blk := [.ints .u8 32 s.rt, .ints .u8 32 s.ow, .ints .u8 32 s.th, .ints .u8 32 s.bd, .ints .u8 32 s.sc, .one (.nat .u32 s.sn), .one (.bool s.so), .ints .u8 32 s.gc, .one (.nat .u32 s.gn), .one (.bool s.go), .one (.nat .u32 s.bf), .one .nil]

def envLD (o : OpsLt) : List (Nat × FSem) := [(12, Lml o), (44, Lag o), (45, Lky2 o), (55, Lmc o), (32, Lsl o), (36, Lop o), (4, Len o)]
theorem envLD_ok : EnvOk ⟨Tryz.prog, envLD opsLt, []⟩ := .cons lkMl (.cons lkAg (.cons lkKy2 (.cons lkMc (.cons lkSl (.cons lkOp (.cons lkEn .nil))))))

end Go.Proofs.YtdhnkkogbbhnmaaGreat

namespace Go.Proofs.YtdhnkkogbbhnmaaGreat
open Go

def stC (rt ow th bd sc : List Nat) (sn : Nat) (so : Bool) (gc : List Nat) (gn : Nat) (go : Bool) (bf : Nat) : Blk := [.ints .u8 32 rt, .ints .u8 32 ow, .ints .u8 32 th, .ints .u8 32 bd, .ints .u8 32 sc, .one (.nat .u32 sn), .one (.bool so), .ints .u8 32 gc, .one (.nat .u32 gn), .one (.bool go), .one (.nat .u32 bf), .one .nil]
def rtS : List Nat := [115, 105, 103, 110, 101, 116, 32, 114, 111, 111, 116]
def ltS : List Nat := [115, 105, 103, 110, 101, 116, 32, 108, 101, 116, 116, 101, 114]

theorem fnTurn : Fn Tryz.prog 29 Tryz.f29 := ⟨mixedF, Tryz.func29, by kernel_rfl, of_decide_eq_true (by kernel_rfl)⟩
theorem fnNext : Fn Tryz.prog 30 Tryz.f30 := ⟨mixedF, Tryz.func30, by kernel_rfl, of_decide_eq_true (by kernel_rfl)⟩
theorem fnBox : Fn Tryz.prog 31 Tryz.f31 := ⟨mixedF, Tryz.func31, by kernel_rfl, of_decide_eq_true (by kernel_rfl)⟩
theorem fnHeader : Fn Tryz.prog 33 Tryz.f33 := ⟨mixedF, Tryz.func33, by kernel_rfl, of_decide_eq_true (by kernel_rfl)⟩
theorem fnIdx : Fn Tryz.prog 59 Tryz.f59 := ⟨mixedF, Tryz.func59, by kernel_rfl, of_decide_eq_true (by kernel_rfl)⟩
theorem fnSkip : Fn Tryz.prog 62 Tryz.f62 := ⟨mixedF, Tryz.func62, by kernel_rfl, of_decide_eq_true (by kernel_rfl)⟩
theorem fnClone : Fn Tryz.prog 34 Tryz.f34 := ⟨mixedF, Tryz.func34, by kernel_rfl, of_decide_eq_true (by kernel_rfl)⟩

def l40 (xs : List Nat) : Bool := decide (xs.length ≤ 1099511627776)

set_option maxRecDepth 100000 in
theorem rTurnS (o : OpsLt) (rt ow th bd sc gc : List Nat) (sn gn bf : Nat) (so go : Bool) : runB Tryz.prog (envLD o) [] .nat 40 Tryz.f29 [.s (.ptr 0 0), .s (.ptr 0 128)] [stC rt ow th bd sc sn so gc gn go bf] =
  nd [o.g32 th] (cond (decide (o.ml ow th = zero32)) (some (.s (.nat .i64 50), [some (stC rt ow th bd sc sn so gc gn go bf)]))
   (nd [l40 rt, l40 (o.ml ow th), l40 rtS] (some (.s (.nat .i64 0), [some (stC (o.k1 rt (o.ml ow th) rtS) ow th bd (o.k2 rt (o.ml ow th) rtS) 0 true gc gn go bf)])))) := by kernel_rfl
set_option maxRecDepth 100000 in
theorem rTurnG (o : OpsLt) (rt ow th bd sc gc : List Nat) (sn gn bf : Nat) (so go : Bool) : runB Tryz.prog (envLD o) [] .nat 40 Tryz.f29 [.s (.ptr 0 0), .s (.ptr 0 162)] [stC rt ow th bd sc sn so gc gn go bf] =
  nd [o.g32 th] (cond (decide (o.ml ow th = zero32)) (some (.s (.nat .i64 50), [some (stC rt ow th bd sc sn so gc gn go bf)]))
   (nd [l40 rt, l40 (o.ml ow th), l40 rtS] (some (.s (.nat .i64 0), [some (stC (o.k1 rt (o.ml ow th) rtS) ow th bd sc sn so (o.k2 rt (o.ml ow th) rtS) 0 true bf)])))) := by kernel_rfl

def nz (o : OpsLt) (ow th : List Nat) : Bool := !decide (o.ml ow th = zero32)
def Ltn (o : OpsLt) : FSem := ⟨false, fun args hin => match args, hin with
  | [.s (.ptr 0 0), .s (.ptr 0 128)], [[.ints .u8 32 rt, .ints .u8 32 ow, .ints .u8 32 th, .ints .u8 32 bd, .ints .u8 32 sc, .one (.nat .u32 sn), .one (.bool so), .ints .u8 32 gc, .one (.nat .u32 gn), .one (.bool go), .one (.nat .u32 bf), .one .nil]] =>
    some (Tr.needs [o.g32 th, nz o ow th, l40 rt] (.leaf (.s (.nat .i64 0), [some (stC (o.k1 rt (o.ml ow th) rtS) ow th bd (o.k2 rt (o.ml ow th) rtS) 0 true gc gn go bf)])))
  | [.s (.ptr 0 0), .s (.ptr 0 162)], [[.ints .u8 32 rt, .ints .u8 32 ow, .ints .u8 32 th, .ints .u8 32 bd, .ints .u8 32 sc, .one (.nat .u32 sn), .one (.bool so), .ints .u8 32 gc, .one (.nat .u32 gn), .one (.bool go), .one (.nat .u32 bf), .one .nil]] =>
    some (Tr.needs [o.g32 th, nz o ow th, l40 rt] (.leaf (.s (.nat .i64 0), [some (stC (o.k1 rt (o.ml ow th) rtS) ow th bd sc sn so (o.k2 rt (o.ml ow th) rtS) 0 true bf)])))
  | _, _ => none⟩

theorem l40_of {xs : List Nat} {n : Nat} (h : xs.length = n) (hn : n ≤ 1099511627776) : l40 xs = true := by
  unfold l40
  exact decide_eq_true (by omega)
theorem not_t {c : Bool} (h : (!c) = true) : c = false := by cases c <;> simp_all
theorem lkTn : FOk Tryz.prog 29 (Ltn opsLt) := by
  refine fokB (fs := envLD opsLt) (xs := []) (m := .nat) (fuel := 40) envLD_ok fnTurn ?_
  intro args hin t r h hg
  unfold Ltn at h
  simp only at h
  split at h
  · rename_i rt ow th bd sc sn so gc gn go bf
    simp only [Option.some.injEq] at h
    subst h
    obtain ⟨hc, hgt⟩ := Tr.needs_get hg
    simp only [List.mem_cons, List.not_mem_nil, or_false, forall_eq_or_imp, forall_eq] at hc
    obtain ⟨h1, hz, h2⟩ := hc
    cases hgt
    refine (rTurnS opsLt rt ow th bd sc gc sn gn bf so go).trans ?_
    refine nd_of (by simpa using h1) (cond_f (not_t hz) (nd_of ?_ rfl))
    simp only [List.mem_cons, List.not_mem_nil, or_false, forall_eq_or_imp, forall_eq]
    exact ⟨h2, l40_of (mlO_len _ _) (by omega), rfl⟩
  · rename_i rt ow th bd sc sn so gc gn go bf
    simp only [Option.some.injEq] at h
    subst h
    obtain ⟨hc, hgt⟩ := Tr.needs_get hg
    simp only [List.mem_cons, List.not_mem_nil, or_false, forall_eq_or_imp, forall_eq] at hc
    obtain ⟨h1, hz, h2⟩ := hc
    cases hgt
    refine (rTurnG opsLt rt ow th bd sc gc sn gn bf so go).trans ?_
    refine nd_of (by simpa using h1) (cond_f (not_t hz) (nd_of ?_ rfl))
    simp only [List.mem_cons, List.not_mem_nil, or_false, forall_eq_or_imp, forall_eq]
    exact ⟨h2, l40_of (mlO_len _ _) (by omega), rfl⟩
  · cases h

/-! The next key of a chain. -/
def nxE (r : List Blk) : Option (AV × List (Option Blk)) := some (.tup [.agg [.ints .u8 32 zero32], .s (.nat .i64 3)], someL r)
set_option maxRecDepth 100000 in
theorem rNextS (o : OpsLt) (rt ow th bd sc gc : List Nat) (sn gn bf : Nat) (so go : Bool) : runB Tryz.prog (envLD o) [] .nat 40 Tryz.f30 [.s (.ptr 0 128)] [stC rt ow th bd sc sn so gc gn go bf] =
  cond (decide (16777216 ≤ sn)) (nxE [stC rt ow th bd sc sn so gc gn go bf])
   (nd [l40 sc, l40 sc] (some (.tup [.agg [.ints .u8 32 (o.mc sc [1])], .s (.nat .i64 0)], [some (stC rt ow th bd (o.mc sc [2]) ((sn + 1) % 4294967296) so gc gn go bf)]))) := by kernel_rfl
set_option maxRecDepth 100000 in
theorem rNextG (o : OpsLt) (rt ow th bd sc gc : List Nat) (sn gn bf : Nat) (so go : Bool) : runB Tryz.prog (envLD o) [] .nat 40 Tryz.f30 [.s (.ptr 0 162)] [stC rt ow th bd sc sn so gc gn go bf] =
  cond (decide (16777216 ≤ gn)) (nxE [stC rt ow th bd sc sn so gc gn go bf])
   (nd [l40 gc, l40 gc] (some (.tup [.agg [.ints .u8 32 (o.mc gc [1])], .s (.nat .i64 0)], [some (stC rt ow th bd sc sn so (o.mc gc [2]) ((gn + 1) % 4294967296) go bf)]))) := by kernel_rfl
def Lnx (o : OpsLt) : FSem := ⟨false, fun args hin => match args, hin with
  | [.s (.ptr 0 128)], [[.ints .u8 32 rt, .ints .u8 32 ow, .ints .u8 32 th, .ints .u8 32 bd, .ints .u8 32 sc, .one (.nat .u32 sn), .one (.bool so), .ints .u8 32 gc, .one (.nat .u32 gn), .one (.bool go), .one (.nat .u32 bf), .one .nil]] =>
    some (Tr.needs [decide (sn ≤ 3), l40 sc] (.leaf (.tup [.agg [.ints .u8 32 (o.mc sc [1])], .s (.nat .i64 0)], [some (stC rt ow th bd (o.mc sc [2]) (sn + 1) so gc gn go bf)])))
  | [.s (.ptr 0 162)], [[.ints .u8 32 rt, .ints .u8 32 ow, .ints .u8 32 th, .ints .u8 32 bd, .ints .u8 32 sc, .one (.nat .u32 sn), .one (.bool so), .ints .u8 32 gc, .one (.nat .u32 gn), .one (.bool go), .one (.nat .u32 bf), .one .nil]] =>
    some (Tr.needs [decide (gn ≤ 3), l40 gc] (.leaf (.tup [.agg [.ints .u8 32 (o.mc gc [1])], .s (.nat .i64 0)], [some (stC rt ow th bd sc sn so (o.mc gc [2]) (gn + 1) go bf)])))
  | _, _ => none⟩
theorem lkNx : FOk Tryz.prog 30 (Lnx opsLt) := by
  refine fokB (fs := envLD opsLt) (xs := []) (m := .nat) (fuel := 40) envLD_ok fnNext ?_
  intro args hin t r h hg
  unfold Lnx at h
  simp only at h
  split at h
  · rename_i rt ow th bd sc sn so gc gn go bf
    simp only [Option.some.injEq] at h
    subst h
    obtain ⟨hc, hgt⟩ := Tr.needs_get hg
    simp only [List.mem_cons, List.not_mem_nil, or_false, forall_eq_or_imp, forall_eq] at hc
    obtain ⟨h1, h2⟩ := hc
    cases hgt
    have h1 := of_decide_eq_true h1
    refine (rNextS opsLt rt ow th bd sc gc sn gn bf so go).trans ?_
    rw [Nat.mod_eq_of_lt (show sn + 1 < 4294967296 by omega)]
    refine cond_f (decide_eq_false (by omega)) (nd_of ?_ rfl)
    simp only [List.mem_cons, List.not_mem_nil, or_false, forall_eq_or_imp, forall_eq]
    exact ⟨h2, h2⟩
  · rename_i rt ow th bd sc sn so gc gn go bf
    simp only [Option.some.injEq] at h
    subst h
    obtain ⟨hc, hgt⟩ := Tr.needs_get hg
    simp only [List.mem_cons, List.not_mem_nil, or_false, forall_eq_or_imp, forall_eq] at hc
    obtain ⟨h1, h2⟩ := hc
    cases hgt
    have h1 := of_decide_eq_true h1
    refine (rNextG opsLt rt ow th bd sc gc sn gn bf so go).trans ?_
    rw [Nat.mod_eq_of_lt (show gn + 1 < 4294967296 by omega)]
    refine cond_f (decide_eq_false (by omega)) (nd_of ?_ rfl)
    simp only [List.mem_cons, List.not_mem_nil, or_false, forall_eq_or_imp, forall_eq]
    exact ⟨h2, h2⟩
  · cases h

/-! The box of a letter, its header. -/
def bxN (o : OpsLt) (k : List Nat) : List Nat := (o.k2 [] k ltS).take 12
set_option maxRecDepth 100000 in
theorem rBox (o : OpsLt) (k : List Nat) : runB Tryz.prog (envLD o) [] .nat 40 Tryz.f31 [.agg [.ints .u8 32 k]] [] =
  nd [l40 k] (some (.agg [.ints .u8 32 (o.k1 [] k ltS), .ints .u8 12 (bxN o k)], [])) := by kernel_rfl
def Lbx (o : OpsLt) : FSem := ⟨false, fun args hin => match args, hin with
  | [.agg [.ints .u8 32 k]], [] => some (.need (l40 k) (.leaf (.agg [.ints .u8 32 (o.k1 [] k ltS), .ints .u8 12 (bxN o k)], [])))
  | _, _ => none⟩
theorem lkBx : FOk Tryz.prog 31 (Lbx opsLt) := by
  refine fokB (fs := envLD opsLt) (xs := []) (m := .nat) (fuel := 40) envLD_ok fnBox ?_
  intro args hin t r h hg
  unfold Lbx at h
  simp only at h
  split at h
  · simp only [Option.some.injEq] at h
    subst h
    obtain ⟨hc, hgt⟩ := need1 hg
    cases hgt
    rw [rBox]
    exact nd_of (by simpa using hc) rfl
  · cases h

set_option maxRecDepth 100000 in
theorem rHeadS (o : OpsLt) (k : List Nat) (b n : Nat) : runB Tryz.prog (envLD o) [] .nat 40 Tryz.f33 [.agg [.one (.nat .i64 3), .one (.sl .whole 0 0 1 32), .one (.sl .whole 1 0 2 1), .one .nil, .one .nil]] [[.ints .u8 32 k], [.ints .u32 2 [b, n]]] =
  some (.s (.sl .whole 2 0 45 1), [some [.ints .u8 32 k], some [.ints .u32 2 [b, n]], some [.ints .u8 45 (o.he k b n)]]) := by kernel_rfl
set_option maxRecDepth 100000 in
theorem rHeadO (o : OpsLt) (k d : List Nat) (b n : Nat) : runB Tryz.prog (envLD o) [] .nat 40 Tryz.f33 [.agg [.one (.nat .i64 3), .one (.sl .whole 0 0 1 32), .one (.sl .whole 1 0 2 1), .one .nil, .one (.sl .whole 2 0 18 1)]] [[.ints .u8 32 k], [.ints .u32 2 [b, n]], [.ints .u8 18 d]] =
  some (.s (.sl .whole 3 0 45 1), [some [.ints .u8 32 k], some [.ints .u32 2 [b, n]], some [.ints .u8 18 d], some [.ints .u8 45 (o.he k b n)]]) := by kernel_rfl
def Lhd (o : OpsLt) : FSem := ⟨false, fun args hin => match args, hin with
  | [.agg [.one (.nat .i64 3), .one (.sl .whole 0 0 1 32), .one (.sl .whole 1 0 2 1), .one .nil, .one .nil]], [[.ints .u8 32 k], [.ints .u32 2 [b, n]]] =>
    some (.leaf (.s (.sl .whole 2 0 45 1), [some [.ints .u8 32 k], some [.ints .u32 2 [b, n]], some [.ints .u8 45 (o.he k b n)]]))
  | [.agg [.one (.nat .i64 3), .one (.sl .whole 0 0 1 32), .one (.sl .whole 1 0 2 1), .one .nil, .one (.sl .whole 2 0 18 1)]], [[.ints .u8 32 k], [.ints .u32 2 [b, n]], [.ints .u8 18 d]] =>
    some (.leaf (.s (.sl .whole 3 0 45 1), [some [.ints .u8 32 k], some [.ints .u32 2 [b, n]], some [.ints .u8 18 d], some [.ints .u8 45 (o.he k b n)]]))
  | _, _ => none⟩
theorem lkHd : FOk Tryz.prog 33 (Lhd opsLt) := by
  refine fokB (fs := envLD opsLt) (xs := []) (m := .nat) (fuel := 40) envLD_ok fnHeader ?_
  intro args hin t r h hg
  unfold Lhd at h
  simp only at h
  split at h
  · cases h; cases hg
    exact rHeadS opsLt _ _ _
  · cases h; cases hg
    exact rHeadO opsLt _ _ _ _
  · cases h

/-! Nothing kept back. -/
theorem rClone : runB Tryz.prog [] [] .nat 40 Tryz.f34 [.s .nil] [] = some (.s .nil, []) := by kernel_rfl
def Lcl : FSem := ⟨false, fun args hin => match args, hin with
  | [.s .nil], [] => some (.leaf (.s .nil, []))
  | _, _ => none⟩
theorem lkCl : FOk Tryz.prog 34 Lcl := by
  refine fokB (fs := []) (xs := []) (m := .nat) (fuel := 40) .nil fnClone ?_
  intro args hin t r h hg
  unfold Lcl at h
  simp only at h
  split at h
  · cases h; cases hg
    exact rClone
  · cases h
set_option maxRecDepth 100000 in
theorem rIdx (k : List Nat) (n : Nat) : runB Tryz.prog [] [] .nat 40 Tryz.f59 [.s .nil, .s (.fn 60 [] [(0, 0), (1, 0)])] [[.ints .u8 32 k], [.one (.nat .u32 n)]] = some (.s (.int (-1)), [some [.ints .u8 32 k], some [.one (.nat .u32 n)]]) := by kernel_rfl
def Lix : FSem := ⟨false, fun args hin => match args, hin with
  | [.s .nil, .s (.fn 60 [] [(0, 0), (1, 0)])], [[.ints .u8 32 k], [.one (.nat .u32 n)]] => some (.leaf (.s (.int (-1)), [some [.ints .u8 32 k], some [.one (.nat .u32 n)]]))
  | _, _ => none⟩
theorem lkIx : FOk Tryz.prog 59 Lix := by
  refine fokB (fs := []) (xs := []) (m := .nat) (fuel := 40) .nil fnIdx ?_
  intro args hin t r h hg
  unfold Lix at h
  simp only at h
  split at h
  · cases h; cases hg
    exact rIdx _ _
  · cases h

end Go.Proofs.YtdhnkkogbbhnmaaGreat

namespace Go.Proofs.YtdhnkkogbbhnmaaGreat
open Go

set_option maxRecDepth 100000 in
theorem rSk0 (rt ow th bd sc gc : List Nat) (sn gn bf n : Nat) (so : Bool) : runB Tryz.prog [] [] .int 40 Tryz.f62 [.s (.ptr 0 0), .s (.nat .u32 n)] [stC rt ow th bd sc sn so gc gn false bf] = some (.s (.nat .i64 0), [some (stC rt ow th bd sc sn so gc gn false bf)]) := by kernel_rfl
set_option maxRecDepth 100000 in
theorem rSk10 (rt ow th bd sc gc : List Nat) (sn bf : Nat) (so : Bool) : runB Tryz.prog [] [] .int 40 Tryz.f62 [.s (.ptr 0 0), .s (.nat .u32 0)] [stC rt ow th bd sc sn so gc 0 true bf] = some (.s (.nat .i64 0), [some (stC rt ow th bd sc sn so gc 0 true bf)]) := by kernel_rfl
set_option maxRecDepth 100000 in
theorem rSk11 (rt ow th bd sc gc : List Nat) (sn bf : Nat) (so : Bool) : runB Tryz.prog [] [] .int 40 Tryz.f62 [.s (.ptr 0 0), .s (.nat .u32 1)] [stC rt ow th bd sc sn so gc 1 true bf] = some (.s (.nat .i64 0), [some (stC rt ow th bd sc sn so gc 1 true bf)]) := by kernel_rfl
set_option maxRecDepth 100000 in
theorem rSk12 (rt ow th bd sc gc : List Nat) (sn bf : Nat) (so : Bool) : runB Tryz.prog [] [] .int 40 Tryz.f62 [.s (.ptr 0 0), .s (.nat .u32 2)] [stC rt ow th bd sc sn so gc 2 true bf] = some (.s (.nat .i64 0), [some (stC rt ow th bd sc sn so gc 2 true bf)]) := by kernel_rfl
set_option maxRecDepth 100000 in
theorem rSk13 (rt ow th bd sc gc : List Nat) (sn bf : Nat) (so : Bool) : runB Tryz.prog [] [] .int 40 Tryz.f62 [.s (.ptr 0 0), .s (.nat .u32 3)] [stC rt ow th bd sc sn so gc 3 true bf] = some (.s (.nat .i64 0), [some (stC rt ow th bd sc sn so gc 3 true bf)]) := by kernel_rfl

def Lsk : FSem := ⟨false, fun args hin => match args, hin with
  | [.s (.ptr 0 0), .s (.nat .u32 n)], [[.ints .u8 32 rt, .ints .u8 32 ow, .ints .u8 32 th, .ints .u8 32 bd, .ints .u8 32 sc, .one (.nat .u32 sn), .one (.bool so), .ints .u8 32 gc, .one (.nat .u32 gn), .one (.bool go), .one (.nat .u32 bf), .one .nil]] =>
    some (.need (!go || (decide (n = gn) && decide (gn ≤ 3))) (.leaf (.s (.nat .i64 0), [some (stC rt ow th bd sc sn so gc gn go bf)])))
  | _, _ => none⟩
theorem lkSk : FOk Tryz.prog 62 Lsk := by
  refine fokB (fs := []) (xs := []) (m := .int) (fuel := 40) .nil fnSkip ?_
  intro args hin t r h hg
  unfold Lsk at h
  simp only at h
  split at h
  · rename_i n rt ow th bd sc sn so gc gn go bf
    simp only [Option.some.injEq] at h
    subst h
    obtain ⟨hc, hgt⟩ := need1 hg
    cases hgt
    cases go
    · exact rSk0 rt ow th bd sc gc sn gn bf n so
    · simp only [Bool.not_true, Bool.false_or, Bool.and_eq_true, decide_eq_true_eq] at hc
      obtain ⟨rfl, hn⟩ := hc
      have : n = 0 ∨ n = 1 ∨ n = 2 ∨ n = 3 := by omega
      rcases this with rfl | rfl | rfl | rfl
      · exact rSk10 rt ow th bd sc gc sn bf so
      · exact rSk11 rt ow th bd sc gc sn bf so
      · exact rSk12 rt ow th bd sc gc sn bf so
      · exact rSk13 rt ow th bd sc gc sn bf so
  · cases h

def envLE (o : OpsLt) : List (Nat × FSem) := [(12, Lml o), (29, Ltn o), (30, Lnx o), (31, Lbx o), (32, Lsl o), (33, Lhd o), (34, Lcl), (36, Lop o), (4, Len o), (59, Lix), (62, Lsk)]
theorem envLE_ok : EnvOk ⟨Tryz.prog, envLE opsLt, []⟩ := .cons lkMl (.cons lkTn (.cons lkNx (.cons lkBx (.cons lkSl (.cons lkHd (.cons lkCl (.cons lkOp (.cons lkEn (.cons lkIx (.cons lkSk .nil))))))))))

end Go.Proofs.YtdhnkkogbbhnmaaGreat

namespace Go.Proofs.YtdhnkkogbbhnmaaGreat
open Go

theorem fnKey : Fn Tryz.prog 35 Tryz.f35 := ⟨mixedF, Tryz.func35, by kernel_rfl, of_decide_eq_true (by kernel_rfl)⟩

def newT (o : OpsLt) (s : St9) (k f : List Nat) : St9 := ⟨o.k1 (o.k1 s.rt (o.ml s.ow k) rtS) (o.ml f k) rtS, f, k, s.bd, o.k2 (o.k1 s.rt (o.ml s.ow k) rtS) (o.ml f k) rtS, 0, true, o.mc (o.k2 s.rt (o.ml s.ow k) rtS) [2], 1, true, s.sn⟩
def sameT (o : OpsLt) (s : St9) : St9 := ⟨s.rt, s.ow, s.th, s.bd, s.sc, s.sn, s.so, o.mc s.gc [2], s.gn + 1, true, s.bf⟩
def kySm (s : St9) (k : List Nat) : Bool := s.go && decide (k = s.th)
def kyS (o : OpsLt) (s : St9) (k f : List Nat) : St9 := cond (kySm s k) (sameT o s) (newT o s k f)
def kyK (o : OpsLt) (s : St9) (k : List Nat) : List Nat := cond (kySm s k) (o.mc s.gc [1]) (o.mc (o.k2 s.rt (o.ml s.ow k) rtS) [1])
def okSame (s : St9) (n : Nat) : Bool := decide (n = s.gn) && (decide (s.gn ≤ 3) && l40 s.gc)
def okNew (o : OpsLt) (s : St9) (k f : List Nat) (b n : Nat) : Bool :=
  (!s.go || (decide (b = s.gn) && decide (s.gn ≤ 3))) && (o.g32 k && (nz o s.ow k && (l40 s.rt && (nz o f k && (l40 (o.k1 s.rt (o.ml s.ow k) rtS) && (decide (n = 0) && l40 (o.k2 s.rt (o.ml s.ow k) rtS)))))))
def kyOk (o : OpsLt) (s : St9) (k f : List Nat) (b n : Nat) : Bool := cond (kySm s k) (okSame s n) (okNew o s k f b n)

def ltA (i : Nat) : AV := .agg [.one (.nat .i64 3), .one (.sl .whole i 0 1 32), .one (.sl .whole (i + 1) 0 2 1), .one .nil, .one (.sl .whole (i + 2) 0 18 1)]
def newR (o : OpsLt) (s : St9) (k f d : List Nat) (b n : Nat) : Option (AV × List (Option Blk)) :=
  some (.tup [.agg [.ints .u8 32 (o.mc (o.k2 s.rt (o.ml s.ow k) rtS) [1])], .s (.nat .i64 0)], [some (stB (newT o s k f)), some [.ints .u8 32 k], some [.ints .u32 2 [b, n]], some [.ints .u8 18 d]])
def newN (o : OpsLt) (s : St9) (k f : List Nat) (n : Nat) : List Bool := [o.g32 k, nz o s.ow k, l40 s.rt, o.g32 k, nz o f k, l40 (o.k1 s.rt (o.ml s.ow k) rtS), decide (n = 0) && decide (0 ≤ 3), l40 (o.k2 s.rt (o.ml s.ow k) rtS)]
set_option maxRecDepth 100000 in
theorem rKey0 (o : OpsLt) (rt ow th bd sc gc k d f : List Nat) (sn gn bf b n : Nat) (so : Bool) : runB Tryz.prog (envLE o) [] .nat 40 Tryz.f35 [.s (.ptr 0 0), ltA 1, .agg [.ints .u8 32 f]] [stC rt ow th bd sc sn so gc gn false bf, [.ints .u8 32 k], [.ints .u32 2 [b, n]], [.ints .u8 18 d]] =
  nd (newN o ⟨rt, ow, th, bd, sc, sn, so, gc, gn, false, bf⟩ k f n) (newR o ⟨rt, ow, th, bd, sc, sn, so, gc, gn, false, bf⟩ k f d b n) := by kernel_rfl
set_option maxRecDepth 100000 in
theorem rKey1 (o : OpsLt) (rt ow th bd sc gc k d f : List Nat) (sn gn bf b n : Nat) (so : Bool) : runB Tryz.prog (envLE o) [] .nat 40 Tryz.f35 [.s (.ptr 0 0), ltA 1, .agg [.ints .u8 32 f]] [stC rt ow th bd sc sn so gc gn true bf, [.ints .u8 32 k], [.ints .u32 2 [b, n]], [.ints .u8 18 d]] =
  cond (!decide (k = th)) (nd ((decide (b = gn) && decide (gn ≤ 3)) :: newN o ⟨rt, ow, th, bd, sc, sn, so, gc, gn, true, bf⟩ k f n) (newR o ⟨rt, ow, th, bd, sc, sn, so, gc, gn, true, bf⟩ k f d b n))
  (cond (decide (n < gn)) (some (.tup [.agg [.ints .u8 32 zero32], .s (.nat .i64 151)], [some (stC rt ow th bd sc sn so gc gn true bf), some [.ints .u8 32 k], some [.ints .u32 2 [b, n]], some [.ints .u8 18 d]]))
   (nd [decide (n = gn) && decide (gn ≤ 3), decide (gn ≤ 3), l40 gc]
    (some (.tup [.agg [.ints .u8 32 (o.mc gc [1])], .s (.nat .i64 0)], [some (stB (sameT o ⟨rt, ow, th, bd, sc, sn, so, gc, gn, true, bf⟩)), some [.ints .u8 32 k], some [.ints .u32 2 [b, n]], some [.ints .u8 18 d]])))) := by kernel_rfl

def Lky (o : OpsLt) : FSem := ⟨false, fun args hin => match args, hin with
  | [.s (.ptr 0 0), .agg [.one (.nat .i64 3), .one (.sl .whole 1 0 1 32), .one (.sl .whole 2 0 2 1), .one .nil, .one (.sl .whole 3 0 18 1)], .agg [.ints .u8 32 f]], [[.ints .u8 32 rt, .ints .u8 32 ow, .ints .u8 32 th, .ints .u8 32 bd, .ints .u8 32 sc, .one (.nat .u32 sn), .one (.bool so), .ints .u8 32 gc, .one (.nat .u32 gn), .one (.bool go), .one (.nat .u32 bf), .one .nil], [.ints .u8 32 k], [.ints .u32 2 [b, n]], [.ints .u8 18 d]] =>
    some (.need (kyOk o ⟨rt, ow, th, bd, sc, sn, so, gc, gn, go, bf⟩ k f b n)
     (.leaf (.tup [.agg [.ints .u8 32 (kyK o ⟨rt, ow, th, bd, sc, sn, so, gc, gn, go, bf⟩ k)], .s (.nat .i64 0)], [some (stB (kyS o ⟨rt, ow, th, bd, sc, sn, so, gc, gn, go, bf⟩ k f)), some [.ints .u8 32 k], some [.ints .u32 2 [b, n]], some [.ints .u8 18 d]])))
  | _, _ => none⟩

theorem newN_of {o : OpsLt} {s : St9} {k f : List Nat} {b n : Nat} (h : okNew o s k f b n = true) : (!s.go || (decide (b = s.gn) && decide (s.gn ≤ 3))) = true ∧ ∀ x ∈ newN o s k f n, x = true := by
  unfold okNew at h
  simp only [Bool.and_eq_true] at h
  obtain ⟨h0, h1, h2, h3, h4, h5, h6, h7⟩ := h
  refine ⟨h0, ?_⟩
  unfold newN
  simp only [List.mem_cons, List.not_mem_nil, or_false, forall_eq_or_imp, forall_eq]
  exact ⟨h1, h2, h3, h1, h4, h5, by rw [h6]; rfl, h7⟩

theorem lkKy : FOk Tryz.prog 35 (Lky opsLt) := by
  refine fokB (fs := envLE opsLt) (xs := []) (m := .nat) (fuel := 40) envLE_ok fnKey ?_
  intro args hin t r h hg
  unfold Lky at h
  simp only at h
  split at h
  · rename_i f rt ow th bd sc sn so gc gn go bf k b n d
    simp only [Option.some.injEq] at h
    subst h
    obtain ⟨hc, hgt⟩ := need1 hg
    cases hgt
    generalize hs : (⟨rt, ow, th, bd, sc, sn, so, gc, gn, go, bf⟩ : St9) = s at hc
    unfold kyK kyS
    unfold kyOk at hc
    cases hm : kySm s k
    · rw [hm, cond_false] at hc
      rw [cond_false, cond_false]
      obtain ⟨h0, h1⟩ := newN_of hc
      subst hs
      cases go
      · exact (rKey0 opsLt rt ow th bd sc gc k d f sn gn bf b n so).trans (nd_of h1 rfl)
      · have hk : decide (k = th) = false := hm
        refine (rKey1 opsLt rt ow th bd sc gc k d f sn gn bf b n so).trans (cond_t (by rw [hk]; rfl) (nd_of ?_ rfl))
        intro x hx
        rcases List.mem_cons.1 hx with rfl | hx
        · exact h0
        · exact h1 x hx
    · rw [hm, cond_true] at hc
      rw [cond_true, cond_true]
      subst hs
      unfold kySm at hm
      simp only [Bool.and_eq_true] at hm
      obtain ⟨rfl, hk⟩ := hm
      unfold okSame at hc
      simp only [Bool.and_eq_true, decide_eq_true_eq] at hc
      obtain ⟨rfl, hn, hl⟩ := hc
      refine (rKey1 opsLt rt ow th bd sc gc k d f sn n bf b n so).trans (cond_f (by rw [hk]; rfl) (cond_f (decide_eq_false (Nat.lt_irrefl _)) (nd_of ?_ rfl)))
      simp only [List.mem_cons, List.not_mem_nil, or_false, forall_eq_or_imp, forall_eq, Bool.and_eq_true, decide_eq_true_eq]
      exact ⟨⟨trivial, hn⟩, hn, hl⟩
  · cases h

def envLF (o : OpsLt) : List (Nat × FSem) := (35, Lky o) :: envLE o
theorem envLF_ok : EnvOk ⟨Tryz.prog, envLF opsLt, []⟩ := .cons lkKy envLE_ok

end Go.Proofs.YtdhnkkogbbhnmaaGreat

namespace Go.Proofs.YtdhnkkogbbhnmaaGreat
open Go

theorem fnSeal : Fn Tryz.prog 15 Tryz.f15 := ⟨mixedF, Tryz.func15, by kernel_rfl, of_decide_eq_true (by kernel_rfl)⟩
theorem fnOpen : Fn Tryz.prog 16 Tryz.f16 := ⟨mixedF, Tryz.func16, by kernel_rfl, of_decide_eq_true (by kernel_rfl)⟩
theorem fnBeg : Fn Tryz.prog 13 Tryz.f13 := ⟨mixedF, Tryz.func13, by kernel_rfl, of_decide_eq_true (by kernel_rfl)⟩
theorem fnAcc : Fn Tryz.prog 14 Tryz.f14 := ⟨mixedF, Tryz.func14, by kernel_rfl, of_decide_eq_true (by kernel_rfl)⟩

/-! Seal. -/
def hdP (o : OpsLt) (s : St9) (k : List Nat) (b n : Nat) : List (List Nat) := [s.bd, o.he k b n]
def seS (o : OpsLt) (s : St9) : St9 := ⟨s.rt, s.ow, s.th, s.bd, o.mc s.sc [2], s.sn + 1, true, s.gc, s.gn, s.go, s.bf⟩
def slB (o : OpsLt) (s : St9) (xs : List Nat) : List Nat := o.sl (o.k1 [] (o.mc s.sc [1]) ltS) (bxN o (o.mc s.sc [1])) xs (o.cat (hdP o s (o.ml s.ow nine) s.bf s.sn) 2)
def slOk (o : OpsLt) (s : St9) : Bool := decide (s.sn ≤ 3) && (l40 s.sc && (l40 (o.mc s.sc [1]) && (o.okL (hdP o s (o.ml s.ow nine) s.bf s.sn) && !o.lon (hdP o s (o.ml s.ow nine) s.bf s.sn))))
set_option maxRecDepth 100000 in
theorem rSeal (o : OpsLt) (rt ow th bd sc gc : List Nat) (sn gn bf x y : Nat) (go : Bool) : runB Tryz.prog (envLE o) [] .nat 40 Tryz.f15 [.agg (stC rt ow th bd sc sn true gc gn go bf), .s (.sl .whole 0 0 2 1)] [[.ints .u8 2 [x, y]]] =
  nd [decide (sn ≤ 3), l40 sc, l40 (o.mc sc [1]), o.okL (hdP o ⟨rt, ow, th, bd, sc, sn, true, gc, gn, go, bf⟩ (o.ml ow nine) bf sn)] (cond (o.lon (hdP o ⟨rt, ow, th, bd, sc, sn, true, gc, gn, go, bf⟩ (o.ml ow nine) bf sn))
    (some (.tup [.agg (stC rt ow th bd sc sn true gc gn go bf), .agg [.one (.nat .i64 0), .one .nil, .one .nil, .one .nil, .one .nil], .s (.nat .i64 2)], [some [.ints .u8 2 [x, y]]]))
    (some (.tup [.agg (stB (seS o ⟨rt, ow, th, bd, sc, sn, true, gc, gn, go, bf⟩)), ltA 1, .s (.nat .i64 0)], [some [.ints .u8 2 [x, y]], some [.ints .u8 32 (o.ml ow nine)], some [.ints .u32 2 [bf, sn]], some [.ints .u8 18 (slB o ⟨rt, ow, th, bd, sc, sn, true, gc, gn, go, bf⟩ [x, y])]]))) := by kernel_rfl
def Lse (o : OpsLt) : FSem := ⟨false, fun args hin => match args, hin with
  | [.agg (.ints .u8 32 rt :: .ints .u8 32 ow :: .ints .u8 32 th :: .ints .u8 32 bd :: .ints .u8 32 sc :: .one (.nat .u32 sn) :: .one (.bool so) :: .ints .u8 32 gc :: .one (.nat .u32 gn) :: .one (.bool go) :: .one (.nat .u32 bf) :: .one .nil :: []), .s (.sl .whole 0 0 2 1)], [[.ints .u8 2 [x, y]]] =>
    some (Tr.needs [so, slOk o ⟨rt, ow, th, bd, sc, sn, so, gc, gn, go, bf⟩] (.leaf (.tup [.agg (stB (seS o ⟨rt, ow, th, bd, sc, sn, so, gc, gn, go, bf⟩)), ltA 1, .s (.nat .i64 0)], [some [.ints .u8 2 [x, y]], some [.ints .u8 32 (o.ml ow nine)], some [.ints .u32 2 [bf, sn]], some [.ints .u8 18 (slB o ⟨rt, ow, th, bd, sc, sn, so, gc, gn, go, bf⟩ [x, y])]])))
  | _, _ => none⟩
theorem lkSe : FOk Tryz.prog 15 (Lse opsLt) := by
  refine fokB (fs := envLE opsLt) (xs := []) (m := .nat) (fuel := 40) envLE_ok fnSeal ?_
  intro args hin t r h hg
  unfold Lse at h
  simp only at h
  split at h
  · rename_i rt ow th bd sc sn so gc gn go bf x y
    simp only [Option.some.injEq] at h
    subst h
    obtain ⟨hc, hgt⟩ := Tr.needs_get hg
    cases hgt
    simp only [List.mem_cons, List.not_mem_nil, or_false, forall_eq_or_imp, forall_eq] at hc
    obtain ⟨rfl, hc⟩ := hc
    unfold slOk at hc
    simp only [Bool.and_eq_true] at hc
    obtain ⟨h1, h2, h3, h4, h5⟩ := hc
    refine (rSeal opsLt rt ow th bd sc gc sn gn bf x y go).trans (nd_of ?_ (cond_f (not_t h5) rfl))
    simp only [List.mem_cons, List.not_mem_nil, or_false, forall_eq_or_imp, forall_eq]
    exact ⟨h1, h2, h3, h4⟩
  · cases h

/-! Open. -/
def opB (o : OpsLt) (s : St9) (k d : List Nat) : List Nat := o.opn (o.k1 [] (kyK o s k) ltS) (bxN o (kyK o s k)) d
def opTe (o : OpsLt) (s : St9) (k d : List Nat) (b n : Nat) : Bool := o.tel (o.k1 [] (kyK o s k) ltS) (bxN o (kyK o s k)) d (o.cat (hdP o s k b n) 2)
def opE (s : St9) (k d : List Nat) (b n e : Nat) : Option (AV × List (Option Blk)) := some (.tup [.agg (stB s), .s .nil, .s (.nat .i64 e)], [some [.ints .u8 32 k], some [.ints .u32 2 [b, n]], some [.ints .u8 18 d]])
set_option maxRecDepth 100000 in
theorem rOpen (o : OpsLt) (rt ow th bd sc gc k d f : List Nat) (sn gn bf b n : Nat) (so go : Bool) : runB Tryz.prog (envLF o) [] .nat 40 Tryz.f16 [.agg (stC rt ow th bd sc sn so gc gn go bf), ltA 0, .agg [.ints .u8 32 f]] [[.ints .u8 32 k], [.ints .u32 2 [b, n]], [.ints .u8 18 d]] =
  nd [kyOk o ⟨rt, ow, th, bd, sc, sn, so, gc, gn, go, bf⟩ k f b n, l40 (kyK o ⟨rt, ow, th, bd, sc, sn, so, gc, gn, go, bf⟩ k), decide (d.length < 9223372036854775808), o.okL (hdP o ⟨rt, ow, th, bd, sc, sn, so, gc, gn, go, bf⟩ k b n)]
   (cond (decide (1048592 < d.length) || o.lon (hdP o ⟨rt, ow, th, bd, sc, sn, so, gc, gn, go, bf⟩ k b n)) (opE ⟨rt, ow, th, bd, sc, sn, so, gc, gn, go, bf⟩ k d b n 2)
   (cond (decide (d.length < 16)) (opE ⟨rt, ow, th, bd, sc, sn, so, gc, gn, go, bf⟩ k d b n 111)
   (cond (opTe o ⟨rt, ow, th, bd, sc, sn, so, gc, gn, go, bf⟩ k d b n)
    (some (.tup [.agg (stB (kyS o ⟨rt, ow, th, bd, sc, sn, so, gc, gn, go, bf⟩ k f)), .s (.sl .whole 3 0 (d.length - 16) 1), .s (.nat .i64 0)], [some [.ints .u8 32 k], some [.ints .u32 2 [b, n]], some [.ints .u8 18 d], some [.ints .u8 (d.length - 16) (opB o ⟨rt, ow, th, bd, sc, sn, so, gc, gn, go, bf⟩ k d)]]))
    (opE ⟨rt, ow, th, bd, sc, sn, so, gc, gn, go, bf⟩ k d b n 100)))) := by kernel_rfl
def opOk (o : OpsLt) (s : St9) (k d f : List Nat) (b n : Nat) : Bool := kyOk o s k f b n && (l40 (kyK o s k) && (decide (d.length = 18) && (o.okL (hdP o s k b n) && (!o.lon (hdP o s k b n) && opTe o s k d b n))))
def Lon (o : OpsLt) : FSem := ⟨false, fun args hin => match args, hin with
  | [.agg (.ints .u8 32 rt :: .ints .u8 32 ow :: .ints .u8 32 th :: .ints .u8 32 bd :: .ints .u8 32 sc :: .one (.nat .u32 sn) :: .one (.bool so) :: .ints .u8 32 gc :: .one (.nat .u32 gn) :: .one (.bool go) :: .one (.nat .u32 bf) :: .one .nil :: []), .agg [.one (.nat .i64 3), .one (.sl .whole 0 0 1 32), .one (.sl .whole 1 0 2 1), .one .nil, .one (.sl .whole 2 0 18 1)], .agg [.ints .u8 32 f]], [[.ints .u8 32 k], [.ints .u32 2 [b, n]], [.ints .u8 18 d]] =>
    some (.need (opOk o ⟨rt, ow, th, bd, sc, sn, so, gc, gn, go, bf⟩ k d f b n)
     (.leaf (.tup [.agg (stB (kyS o ⟨rt, ow, th, bd, sc, sn, so, gc, gn, go, bf⟩ k f)), .s (.sl .whole 3 0 2 1), .s (.nat .i64 0)], [some [.ints .u8 32 k], some [.ints .u32 2 [b, n]], some [.ints .u8 18 d], some [.ints .u8 2 (opB o ⟨rt, ow, th, bd, sc, sn, so, gc, gn, go, bf⟩ k d)]])))
  | _, _ => none⟩
theorem lkOn : FOk Tryz.prog 16 (Lon opsLt) := by
  refine fokB (fs := envLF opsLt) (xs := []) (m := .nat) (fuel := 40) envLF_ok fnOpen ?_
  intro args hin t r h hg
  unfold Lon at h
  simp only at h
  split at h
  · rename_i rt ow th bd sc sn so gc gn go bf f k b n d
    simp only [Option.some.injEq] at h
    subst h
    obtain ⟨hc, hgt⟩ := need1 hg
    cases hgt
    unfold opOk at hc
    simp only [Bool.and_eq_true, decide_eq_true_eq] at hc
    obtain ⟨h1, h2, h3, h4, h5, h6⟩ := hc
    have := rOpen opsLt rt ow th bd sc gc k d f sn gn bf b n so go
    rw [h3] at this
    refine this.trans (nd_of ?_ (cond_f ?_ (cond_f rfl (cond_t h6 rfl))))
    · simp only [List.mem_cons, List.not_mem_nil, or_false, forall_eq_or_imp, forall_eq]
      exact ⟨h1, h2, rfl, h4⟩
    · rw [not_t h5]; rfl
  · cases h

/-! Begin and accept. -/
def bgS (o : OpsLt) (k b t f : List Nat) : St9 := ⟨o.k1 k (o.ml f t) rtS, f, t, b, o.k2 k (o.ml f t) rtS, 0, true, zero32, 0, false, 0⟩
def acS (k b t : List Nat) : St9 := ⟨k, t, zero32, b, zero32, 0, false, zero32, 0, false, 0⟩
set_option maxRecDepth 100000 in
theorem rBeg (o : OpsLt) (k b t f : List Nat) : runB Tryz.prog (envLF o) [] .nat 40 Tryz.f13 [.agg [.ints .u8 32 k, .ints .u8 32 b], .agg [.ints .u8 32 t], .agg [.ints .u8 32 f]] [] =
  nd [o.g32 t, nz o f t, l40 k] (some (.tup [.agg (stB (bgS o k b t f)), .s (.nat .i64 0)], [])) := by kernel_rfl
set_option maxRecDepth 100000 in
theorem rAcc (o : OpsLt) (k b t : List Nat) : runB Tryz.prog (envLF o) [] .nat 40 Tryz.f14 [.agg [.ints .u8 32 k, .ints .u8 32 b], .agg [.ints .u8 32 t]] [] =
  some (.agg (stB (acS k b t)), []) := by kernel_rfl
def Lbe (o : OpsLt) : FSem := ⟨false, fun args hin => match args, hin with
  | [.agg [.ints .u8 32 k, .ints .u8 32 b], .agg [.ints .u8 32 t], .agg [.ints .u8 32 f]], [] => some (Tr.needs [o.g32 t, nz o f t, l40 k] (.leaf (.tup [.agg (stB (bgS o k b t f)), .s (.nat .i64 0)], [])))
  | _, _ => none⟩
theorem lkBe : FOk Tryz.prog 13 (Lbe opsLt) := by
  refine fokB (fs := envLF opsLt) (xs := []) (m := .nat) (fuel := 40) envLF_ok fnBeg ?_
  intro args hin t r h hg
  unfold Lbe at h
  simp only at h
  split at h
  · simp only [Option.some.injEq] at h
    subst h
    obtain ⟨hc, hgt⟩ := Tr.needs_get hg
    cases hgt
    exact (rBeg opsLt _ _ _ _).trans (nd_of hc rfl)
  · cases h
def Lap : FSem := ⟨false, fun args hin => match args, hin with
  | [.agg [.ints .u8 32 k, .ints .u8 32 b], .agg [.ints .u8 32 t]], [] => some (.leaf (.agg (stB (acS k b t)), []))
  | _, _ => none⟩
theorem lkAp : FOk Tryz.prog 14 Lap := by
  refine fokB (fs := envLF opsLt) (xs := []) (m := .nat) (fuel := 40) envLF_ok fnAcc ?_
  intro args hin t r h hg
  unfold Lap at h
  simp only at h
  split at h
  · cases h; cases hg
    exact rAcc opsLt _ _ _
  · cases h

end Go.Proofs.YtdhnkkogbbhnmaaGreat

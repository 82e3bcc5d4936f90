/-
  Part 5 of what the last text stands on: SHA-512: Write.
-/
import Derived.Test.YtdhnkkogbbhnmaaGreatB4

set_option linter.unusedSimpArgs false
set_option linter.unusedVariables false

namespace Go.Proofs.YtdhnkkogbbhnmaaGreat
open Go
/-- A hash to which something was written: the row that its rest lies in, how long that is, the count, the state. -/
structure HV5 where
  n : Nat
  c : Nat
  y : List Nat
  st : List Nat

def w0F5 (o : OpsHf) (c : Nat) (st p : List Nat) : HV5 := ⟨p.length, (c + p.length) % 18446744073709551616, p, o.bks p st (p.length / 128)⟩

def w1F5 (o : OpsHf) (m : LK) (off len : Nat) (xs : List Nat) (c : Nat) (st p : List Nat) : HV5 := ⟨len + p.length, (c + p.length) % 18446744073709551616, rowB m off len xs ++ p, o.bks (rowB m off len xs ++ p) st ((len + p.length) / 128)⟩

def more5 (o : OpsHf) (v : HV5) (p : List Nat) : HV5 := w1F5 o (lk (v.n / 128)) (128 * (v.n / 128)) (v.n - 128 * (v.n / 128)) v.y v.c v.st p

def wrN5 (o : OpsHf) (c : Nat) (st : List Nat) (pss : List (List Nat)) : Nat → HV5
  | 0 => w0F5 o c st (pss.getD 0 [])
  | i + 1 => more5 o (wrN5 o c st pss i) (pss.getD (i + 1) [])

def hV5 (b : Nat) (v : HV5) : Blk := [.one (lfH b v.n), .ints .u64 1 [v.c], .ints .u64 8 v.st]

def hY5 (v : HV5) : Blk := [.ints .u8 v.n v.y]

def okPs (pss : List (List Nat)) : Bool := pss.all fun p => decide (p.length ≤ 1099511627776)

theorem okPs_get {pss : List (List Nat)} (h : okPs pss = true) {i : Nat} (hi : i < pss.length) : (pss.getD i []).length ≤ 1099511627776 := by
  have := List.all_eq_true.1 h (pss.getD i []) (by rw [List.getD, List.getElem?_eq_getElem hi]; exact List.getElem_mem hi)
  exact of_decide_eq_true this

structure OpsHv where
  wr : Nat → List Nat → List (List Nat) → HV5
  w1 : LK → Nat → Nat → List Nat → Nat → List Nat → List Nat → HV5

def opsHv : OpsHv := ⟨fun c st pss => wrN5 opsHf c st pss (pss.length - 1), w1F5 opsHf⟩

theorem opsHv_wr : opsHv.wr = fun c st pss => wrN5 opsHf c st pss (pss.length - 1) := by kernel_rfl

theorem opsHv_w1 : opsHv.w1 = w1F5 opsHf := by kernel_rfl

theorem bks5_len (y st : List Nat) (q : Nat) (h : st.length = 8) : (opsHf.bks y st q).length = 8 := by
  rw [opsHf_bks]
  exact bkNH_len y st h q

theorem wrN5_st {c : Nat} {st : List Nat} {pss : List (List Nat)} (h : st.length = 8) : ∀ i, (wrN5 opsHf c st pss i).st.length = 8
  | 0 => bks5_len _ _ _ h
  | i + 1 => bks5_len _ _ _ (wrN5_st h i)

def Swr5 (o : OpsHv) : LSem := ⟨[0, 6, 7, 8], [], fun args hin => match args, hin with
  | [.s (.ptr 0 0), .s (.xsl (.bss pss)), .s (.nat .i64 n), .s (.nat .i64 0)], [[.one .nil, .ints .u64 1 [c], .ints .u64 8 st]] =>
    some (Tr.needs [decide (n = pss.length), decide (0 < n), decide (n < 9223372036854775808), okPs pss, decide (st.length = 8)] (.leaf (.normal, [], [some (hV5 1 (o.wr c st pss)), some (hY5 (o.wr c st pss))])))
  | _, _ => none⟩

set_option maxRecDepth 100000 in
theorem rlWr0 (o : OpsHf) (q : OpsHv) (pss : List (List Nat)) (n i c : Nat) (st : List Nat) : runR Tryz.prog [(115, Kfeed5 o)] [] .nat 20 [] Tryz.f104 0 (Swr5 q) 1 [.s (.ptr 0 0), .s (.xsl (.bss pss)), .s (.nat .i64 n), .s (.nat .i64 i)] [some [.one .nil, .ints .u64 1 [c], .ints .u64 8 st]] =
(cond (decide (i < n))
 (nd [decide (i < pss.length), decide (i < pss.length), decide ((pss.getD i []).length ≤ 4398046511104), decide (st.length = 8), decide (i + 1 < 9223372036854775808)]
 (some (Ex.normal, [AV.s (SV.ptr 0 0), AV.s (SV.xsl (XC.bss pss)), AV.s (SV.nat IntKind.i64 n), AV.s (SV.nat IntKind.i64 (i + 1))], [some (hV5 1 (w0F5 o c st (pss.getD i []))), some (hY5 (w0F5 o c st (pss.getD i [])))])))
 (some (Ex.exit 0, [], [some [Ch.one SV.nil, Ch.ints IntKind.u64 1 [c], Ch.ints IntKind.u64 8 st]]))) := by kernel_rfl

set_option maxRecDepth 100000 in
theorem rlWr1 (o : OpsHf) (q : OpsHv) (pss : List (List Nat)) (n i : Nat) (v : HV5) : runR Tryz.prog [(115, Kfeed5 o)] [] .nat 20 [] Tryz.f104 0 (Swr5 q) 1 [.s (.ptr 0 0), .s (.xsl (.bss pss)), .s (.nat .i64 n), .s (.nat .i64 i)] [some (hV5 1 v), some (hY5 v)] =
(cond (decide (i < n))
 (nd [decide (i < pss.length), decide (i < pss.length), rowN (lk (v.n / 128)) (128 * (v.n / 128)) (v.n - 128 * (v.n / 128)) v.n, decide (v.n - 128 * (v.n / 128) + (pss.getD i []).length ≤ 4398046511104), decide (v.st.length = 8), decide (i + 1 < 9223372036854775808)]
 (some (Ex.normal, [AV.s (SV.ptr 0 0), AV.s (SV.xsl (XC.bss pss)), AV.s (SV.nat IntKind.i64 n), AV.s (SV.nat IntKind.i64 (i + 1))], [some (hV5 1 (more5 o v (pss.getD i []))), some (hY5 (more5 o v (pss.getD i [])))])))
 (some (Ex.exit 0, [], [some (hV5 1 v), some (hY5 v)]))) := by kernel_rfl

theorem lokWr5 : LOk Tryz.prog Tryz.f104.ntmps (.block 0 (.loop (lb 0 Tryz.f104))) (Swr5 opsHv) := by
  refine lokR (fs := [(115, Kfeed5 opsHf)]) (xs := []) (m := .nat) (fuel := 20) (sums := []) (.cons okFeed5 .nil) mixedF (loopsOk_none rfl _) ?_
  intro args hin t e vs hout h hg
  unfold Swr5 at h
  simp only at h
  split at h
  rotate_left
  · cases h
  rename_i pss n c st
  simp only [Option.some.injEq] at h
  subst h
  obtain ⟨hc, hgt⟩ := Tr.needs_get hg
  cases hgt
  simp only [List.mem_cons, List.not_mem_nil, or_false, forall_eq_or_imp, forall_eq, decide_eq_true_eq] at hc
  obtain ⟨rfl, h2, h3, h4, h5⟩ := hc
  refine ⟨pss.length, fun i => ([.s (.ptr 0 0), .s (.xsl (.bss pss)), .s (.nat .i64 pss.length), .s (.nat .i64 i)], match i with
    | 0 => [some [.one .nil, .ints .u64 1 [c], .ints .u64 8 st]]
    | i + 1 => [some (hV5 1 (wrN5 opsHf c st pss i)), some (hY5 (wrN5 opsHf c st pss i))]), .exit 0, rfl, fun i hi => ?_, ?_, rfl⟩
  · simp only [List.length_cons, List.length_nil]
    have hp := okPs_get h4 hi
    cases i with
    | zero =>
      simp only
      rw [rlWr0]
      refine cond_t (decide_eq_true hi) (nd_of ?_ rfl)
      simp only [List.mem_cons, List.not_mem_nil, or_false, forall_eq_or_imp, forall_eq, decide_eq_true_eq]; omega
    | succ i =>
      simp only
      rw [rlWr1]
      refine cond_t (decide_eq_true hi) (nd_of ?_ rfl)
      simp only [List.mem_cons, List.not_mem_nil, or_false, forall_eq_or_imp, forall_eq, decide_eq_true_eq]
      exact ⟨hi, hi, rowN_lk 128 _ (by decide), by omega, wrN5_st h5 i, by omega⟩
  · simp only [List.length_cons, List.length_nil]
    obtain ⟨q, hq⟩ : ∃ q, pss.length = q + 1 := ⟨pss.length - 1, by omega⟩
    have hq1 : pss.length - 1 = q := by omega
    rw [opsHv_wr]
    simp only [hq1]
    simp only [hq]
    rw [rlWr1]
    exact cond_f (decide_eq_false (by omega)) rfl

theorem loopsWr5 : LoopsOk Tryz.prog ⟨Tryz.f104.ntmps, 20, [(0, Swr5 opsHv)]⟩ (bodyOf Tryz.f104) := by
  refine loopsOk_of ?_
  have e : loopsIn [(0, Swr5 opsHv)] (bodyOf Tryz.f104) = [(0, .loop (lb 0 Tryz.f104), Swr5 opsHv)] := by kernel_rfl
  simp only [e]
  intro x hx
  simp only [List.mem_cons, List.not_mem_nil, or_false] at hx
  rcases hx with rfl
  · exact lokWr5

theorem fnWrite5 : Fn Tryz.prog 104 Tryz.f104 := ⟨mixedF, Tryz.func104, by kernel_rfl, of_decide_eq_true (by kernel_rfl)⟩

set_option maxRecDepth 100000 in
theorem rWrite5 (o : OpsHv) (pss : List (List Nat)) (c : Nat) (st : List Nat) : runL Tryz.prog [(115, Kfeed5 opsHf)] [] .nat 20 [(0, Swr5 o)] Tryz.f104 [.s (.ptr 0 0), .s (.xsl (.bss pss))] [[.one .nil, .ints .u64 1 [c], .ints .u64 8 st]] =
  nd [decide (pss.length < 9223372036854775808), decide (pss.length = pss.length), decide (0 < pss.length), decide (pss.length < 9223372036854775808), okPs pss, decide (st.length = 8)]
    (some (.tup [], [some (hV5 1 (o.wr c st pss)), some (hY5 (o.wr c st pss))])) := by kernel_rfl

set_option maxRecDepth 100000 in
theorem rWrite5p (o : OpsHf) (p : List Nat) (c : Nat) (st : List Nat) (m : LK) (off len k : Nat) (xs : List Nat) : runB Tryz.prog [(115, Kfeed5 o)] [] .nat 20 Tryz.f104 [.s (.ptr 0 0), .s (.xsl (.bss [p]))] [[.one (.sl m 1 off len 1), .one (.nat .u64 c), .ints .u64 8 st], [.ints .u8 k xs]] =
  nd [rowN m off len k, decide (len + p.length ≤ 4398046511104), decide (st.length = 8)]
    (some (.tup [], [some (hC false (lfH 2 (len + p.length)) ((c + p.length) % 18446744073709551616) (w1F5 o m off len xs c st p).st), none, some (hY5 (w1F5 o m off len xs c st p))])) := by kernel_rfl

def Kwrite5 (o : OpsHv) : FSem := ⟨true, fun args hin => match args, hin with
  | [.s (.ptr 0 0), .s (.xsl (.bss pss))], [[.one .nil, .ints .u64 1 [c], .ints .u64 8 st]] =>
    some (Tr.needs [decide (0 < pss.length), decide (pss.length < 9223372036854775808), okPs pss, decide (st.length = 8)] (.leaf (.tup [], [some (hV5 1 (o.wr c st pss)), some (hY5 (o.wr c st pss))])))
  | _, _ => none⟩

theorem okWrite5 : FOk Tryz.prog 104 (Kwrite5 opsHv) := by
  refine fokL (fs := [(115, Kfeed5 opsHf)]) (xs := []) (m := .nat) (fuel := 20) (sums := [(0, Swr5 opsHv)]) (.cons okFeed5 .nil) fnWrite5 loopsWr5 ?_
  intro args hin t r h hg
  unfold Kwrite5 at h
  simp only at h
  split at h
  · rename_i pss c st
    simp only [Option.some.injEq] at h
    subst h
    obtain ⟨hc, hgt⟩ := Tr.needs_get hg
    cases hgt
    simp only [List.mem_cons, List.not_mem_nil, or_false, forall_eq_or_imp, forall_eq, decide_eq_true_eq] at hc
    rw [rWrite5]
    refine nd_of ?_ rfl
    simp only [List.mem_cons, List.not_mem_nil, or_false, forall_eq_or_imp, forall_eq, decide_eq_true_eq, true_and]
    exact ⟨hc.2.1, hc.1, hc.2.1, hc.2.2⟩
  · cases h

/-- Of the hash that Sum makes: one part more. -/
def Kwrite5p (o : OpsHv) : FSem := ⟨true, fun args hin => match args, hin with
  | [.s (.ptr 0 0), .s (.xsl (.bss [p]))], [[.one (.sl m 1 off len 1), .one (.nat .u64 c), .ints .u64 8 st], [.ints .u8 k xs]] =>
    some (Tr.needs [rowN m off len k, decide (len + p.length ≤ 4398046511104), decide (st.length = 8)]
      (.leaf (.tup [], [some (hC false (lfH 2 (len + p.length)) ((c + p.length) % 18446744073709551616) (o.w1 m off len xs c st p).st), none, some (hY5 (o.w1 m off len xs c st p))])))
  | _, _ => none⟩

theorem okWrite5p : FOk Tryz.prog 104 (Kwrite5p opsHv) := by
  refine fokB (fs := [(115, Kfeed5 opsHf)]) (xs := []) (m := .nat) (fuel := 20) (.cons okFeed5 .nil) fnWrite5 ?_
  intro args hin t r h hg
  unfold Kwrite5p at h
  rw [opsHv_w1] at h
  simp only at h
  split at h
  · rename_i p m off len c st k xs
    simp only [Option.some.injEq] at h
    subst h
    obtain ⟨hc, hgt⟩ := Tr.needs_get hg
    cases hgt
    rw [rWrite5p]
    exact nd_of hc rfl
  · cases h

end Go.Proofs.YtdhnkkogbbhnmaaGreat

namespace Go.Proofs.YtdhnkkogbbhnmaaGreat
open Go
def fz5 (c : Nat) : Nat := (128 - (c + 17) % 128) % 128

def pz5 : Nat → List Nat
  | 0 => [128]
  | i + 1 => pz5 i ++ [0]

structure OpsPd where
  fz : Nat → Nat
  pz : Nat → List Nat

def opsPd : OpsPd := ⟨fz5, pz5⟩

theorem opsPd_fz : opsPd.fz = fz5 := by kernel_rfl

theorem opsPd_pz : opsPd.pz = pz5 := by kernel_rfl

def Spd5 (o : OpsPd) : LSem := ⟨[0, 1, 2, 7], [7], fun args hin => match args, hin with
  | [.s (.ptr 0 0), .s (.nat .i64 128), .s (.nat .i64 16), .s (.sl .whole 1 0 1 1)], [[.one (.sl m 2 off len 1), .ints .u64 1 [c], .ints .u64 8 st], [.ints .u8 1 p], [.ints .u8 n xs]] =>
    some (Tr.needs [decide (p = [128]), decide (c < 1152921504606846976)] (.br (decide (o.fz c = 0))
      (.leaf (.normal, [.s (.sl .whole 1 0 (o.fz c + 1) 1)], [some (hC true (.sl m 2 off len 1) c st), some [.ints .u8 (o.fz c + 1) (o.pz (o.fz c))], some [.ints .u8 n xs]]))
      (.leaf (.normal, [.s (.sl .whole 3 0 (o.fz c + 1) 1)], [some (hC true (.sl m 2 off len 1) c st), none, some [.ints .u8 n xs], some [.ints .u8 (o.fz c + 1) (o.pz (o.fz c))]]))))
  | _, _ => none⟩

set_option maxRecDepth 100000 in
theorem rlPd0 (n c l off len : Nat) (mo : LK) (y xs st : List Nat) : runR Tryz.prog [] [] .nat 20 [] Tryz.f117 0 (Spd5 opsPd) 3 [.s (.ptr 0 0), .s (.nat .i64 128), .s (.nat .i64 16), .s (.sl .whole 1 0 l 1)] [some (hC true (.sl mo 2 off len 1) c st), some [.ints .u8 l y], some [.ints .u8 n xs]] =
(nd [decide (c < 9223372036854775808), decide (l < 9223372036854775808), decide (c + l < 9223372036854775808), decide (c + l + 16 < 9223372036854775808)]
 (cond (!decide ((c + l + 16) % 128 = 0))
 (nd [decide (l = l), decide (l + 1 ≤ 4398046511104)]
 (some (Ex.normal, [.s (.ptr 0 0), .s (.nat .i64 128), .s (.nat .i64 16), .s (.sl .whole 3 0 (l + 1) 1)], [some (hC true (.sl mo 2 off len 1) c st), none, some [.ints .u8 n xs], some [.ints .u8 (l + 1) (y ++ [0])]])))
 (some (Ex.exit 0, [.s (.sl .whole 1 0 l 1)], [some (hC true (.sl mo 2 off len 1) c st), some [.ints .u8 l y], some [.ints .u8 n xs]])))) := by kernel_rfl

set_option maxRecDepth 100000 in
theorem rlPd1 (n c l off len : Nat) (mo : LK) (y xs st : List Nat) : runR Tryz.prog [] [] .nat 20 [] Tryz.f117 0 (Spd5 opsPd) 3 [.s (.ptr 0 0), .s (.nat .i64 128), .s (.nat .i64 16), .s (.sl .whole 3 0 l 1)] [some (hC true (.sl mo 2 off len 1) c st), none, some [.ints .u8 n xs], some [.ints .u8 l y]] =
(nd [decide (c < 9223372036854775808), decide (l < 9223372036854775808), decide (c + l < 9223372036854775808), decide (c + l + 16 < 9223372036854775808)]
 (cond (!decide ((c + l + 16) % 128 = 0))
 (nd [decide (l = l), decide (l + 1 ≤ 4398046511104)]
 (some (Ex.normal, [.s (.ptr 0 0), .s (.nat .i64 128), .s (.nat .i64 16), .s (.sl .whole 3 0 (l + 1) 1)], [some (hC true (.sl mo 2 off len 1) c st), none, some [.ints .u8 n xs], some [.ints .u8 (l + 1) (y ++ [0])]])))
 (some (Ex.exit 0, [.s (.sl .whole 3 0 l 1)], [some (hC true (.sl mo 2 off len 1) c st), none, some [.ints .u8 n xs], some [.ints .u8 l y]])))) := by kernel_rfl

def apd (m : LK) (off len n c : Nat) (xs st : List Nat) : Nat → List AV × List (Option Blk)
  | 0 => ([.s (.ptr 0 0), .s (.nat .i64 128), .s (.nat .i64 16), .s (.sl .whole 1 0 1 1)], [some (hC true (.sl m 2 off len 1) c st), some [.ints .u8 1 [128]], some [.ints .u8 n xs]])
  | i + 1 => ([.s (.ptr 0 0), .s (.nat .i64 128), .s (.nat .i64 16), .s (.sl .whole 3 0 (i + 1 + 1) 1)], [some (hC true (.sl m 2 off len 1) c st), none, some [.ints .u8 n xs], some [.ints .u8 (i + 1 + 1) (pz5 (i + 1))]])

theorem fz5_lt (c : Nat) : fz5 c < 128 := Nat.mod_lt _ (by decide)

theorem bnt {p : Prop} [Decidable p] (h : ¬ p) : (!decide p) = true := by simp [h]

theorem bnf {p : Prop} [Decidable p] (h : p) : (!decide p) = false := by simp [h]

theorem lokPd5 : LOk Tryz.prog Tryz.f117.ntmps (.block 0 (.loop (lb 0 Tryz.f117))) (Spd5 opsPd) := by
  refine lokR (fs := []) (xs := []) (m := .nat) (fuel := 20) (sums := []) EnvOk.nil mixedF (loopsOk_none rfl _) ?_
  intro args hin t e vs hout h hg
  unfold Spd5 at h
  rw [opsPd_fz, opsPd_pz] at h
  simp only at h
  split at h
  rotate_left
  · cases h
  rename_i m off len c st p n xs
  simp only [Option.some.injEq] at h
  subst h
  obtain ⟨hc, hgt⟩ := Tr.needs_get hg
  clear hg
  simp only [List.mem_cons, List.not_mem_nil, or_false, forall_eq_or_imp, forall_eq, decide_eq_true_eq] at hc
  obtain ⟨rfl, hc⟩ := hc
  simp only [Tr.get] at hgt
  have hl := fz5_lt c
  have hfz : fz5 c = (128 - (c + 17) % 128) % 128 := rfl
  have hstep : ∀ i, i < fz5 c → runR Tryz.prog [] [] .nat 20 [] Tryz.f117 0 (Spd5 opsPd) 3 (apd m off len n c xs st i).1 (apd m off len n c xs st i).2 = some (.normal, apd m off len n c xs st (i + 1)) := fun i hi => by
    cases i with
    | zero =>
      simp only [apd]
      rw [rlPd0]
      refine nd_of ?_ (cond_t (bnt (by omega)) (nd_of ?_ rfl))
      · simp only [List.mem_cons, List.not_mem_nil, or_false, forall_eq_or_imp, forall_eq, decide_eq_true_eq]; omega
      · simp only [List.mem_cons, List.not_mem_nil, or_false, forall_eq_or_imp, forall_eq, decide_eq_true_eq]; exact ⟨trivial, by omega⟩
    | succ i =>
      simp only [apd]
      rw [rlPd1]
      refine nd_of ?_ (cond_t (bnt (by omega)) (nd_of ?_ rfl))
      · simp only [List.mem_cons, List.not_mem_nil, or_false, forall_eq_or_imp, forall_eq, decide_eq_true_eq]; omega
      · simp only [List.mem_cons, List.not_mem_nil, or_false, forall_eq_or_imp, forall_eq, decide_eq_true_eq]
        exact ⟨trivial, by omega⟩
  cases hz : decide (fz5 c = 0) with
  | true =>
    have hz' := of_decide_eq_true hz
    rw [hz, cond_true, hz'] at hgt
    cases hgt
    refine ⟨fz5 c, apd m off len n c xs st, .exit 0, rfl, hstep, ?_, rfl⟩
    rw [hz']
    simp only [apd, List.length_cons, List.length_nil]
    rw [rlPd0]
    refine nd_of ?_ (cond_f (bnf (by omega)) rfl)
    simp only [List.mem_cons, List.not_mem_nil, or_false, forall_eq_or_imp, forall_eq, decide_eq_true_eq]; omega
  | false =>
    have hz' := of_decide_eq_false hz
    rw [hz, cond_false] at hgt
    cases hgt
    refine ⟨fz5 c, apd m off len n c xs st, .exit 0, rfl, hstep, ?_, rfl⟩
    obtain ⟨q, hq⟩ : ∃ q, fz5 c = q + 1 := ⟨fz5 c - 1, by omega⟩
    rw [hq]
    simp only [apd, List.length_cons, List.length_nil]
    rw [rlPd1]
    refine nd_of ?_ (cond_f (bnf (by omega)) rfl)
    simp only [List.mem_cons, List.not_mem_nil, or_false, forall_eq_or_imp, forall_eq, decide_eq_true_eq]; omega

theorem loopsPd5 : LoopsOk Tryz.prog ⟨Tryz.f117.ntmps, 20, [(0, Spd5 opsPd)]⟩ (bodyOf Tryz.f117) := by
  refine loopsOk_of ?_
  have e : loopsIn [(0, Spd5 opsPd)] (bodyOf Tryz.f117) = [(0, .loop (lb 0 Tryz.f117), Spd5 opsPd)] := by kernel_rfl
  simp only [e]
  intro x hx
  simp only [List.mem_cons, List.not_mem_nil, or_false] at hx
  rcases hx with rfl
  · exact lokPd5

theorem fnPad5 : Fn Tryz.prog 117 Tryz.f117 := ⟨mixedF, Tryz.func117, by kernel_rfl, of_decide_eq_true (by kernel_rfl)⟩

def pdn : Nat → Nat → List Bool
  | _, 0 => []
  | v, k + 1 => decide (v + 1 = v + 1) :: decide (v + 1 + 1 ≤ 4398046511104) :: pdn (v + 1) k

theorem pdn_ok : ∀ {k v : Nat}, v + k + 1 ≤ 4398046511104 → ∀ b ∈ pdn v k, b = true
  | 0, _, _, b, hb => by cases hb
  | k + 1, v, h, b, hb => by
    rcases List.mem_cons.1 hb with rfl | hb
    · exact decide_eq_true rfl
    rcases List.mem_cons.1 hb with rfl | hb
    · exact decide_eq_true (by omega)
    · exact pdn_ok (by omega) b hb

def cb5 (c i : Nat) : Nat := c / 2 ^ (8 * (i + 1)) * 2 ^ 3 % 18446744073709551616 % 256 ||| (c / 2 ^ (8 * i) &&& 255) / 2 ^ 5 % 256

def app16 (y : List Nat) (c : Nat) : List Nat := y ++ [0] ++ [0] ++ [0] ++ [0] ++ [0] ++ [0] ++ [0] ++ [cb5 c 7] ++ [cb5 c 6] ++ [cb5 c 5] ++ [cb5 c 4] ++ [cb5 c 3] ++ [cb5 c 2] ++ [cb5 c 1] ++ [cb5 c 0] ++ [c / 2 ^ (8 * 0) * 2 ^ 3 % 18446744073709551616 % 256]

set_option maxRecDepth 100000 in
theorem rPad5 (o : OpsPd) (c off len n : Nat) (m : LK) (xs st : List Nat) : runL Tryz.prog [] [] .down 20 [(0, Spd5 o)] Tryz.f117 [.s (.ptr 0 0), .s (.nat .i64 128), .s (.nat .i64 16)] [hC true (.sl m 1 off len 1) c st, [.ints .u8 n xs]] =
  nd [true, decide (c < 1152921504606846976)] (cond (decide (o.fz c = 0))
    (nd (pdn (o.fz c) 16) (some (.s (.sl .whole 2 0 (o.fz c + 17) 1), [some (hC true (.sl m 1 off len 1) c st), some [.ints .u8 n xs], some [.ints .u8 (o.fz c + 17) (app16 (o.pz (o.fz c)) c)]])))
    (nd (pdn (o.fz c) 16) (some (.s (.sl .whole 2 0 (o.fz c + 17) 1), [some (hC true (.sl m 1 off len 1) c st), some [.ints .u8 n xs], some [.ints .u8 (o.fz c + 17) (app16 (o.pz (o.fz c)) c)]])))) := by kernel_rfl

def padL5 (c : Nat) : Nat := fz5 c + 17

def pad5 (c : Nat) : List Nat := app16 (pz5 (fz5 c)) c

structure OpsHp extends OpsHv where
  pl : Nat → Nat
  pad : Nat → List Nat

def opsHp : OpsHp := { toOpsHv := opsHv, pl := padL5, pad := pad5 }

theorem opsHp_ops : opsHp.toOpsHv = opsHv := by kernel_rfl

theorem opsHp_pl : opsHp.pl = padL5 := by kernel_rfl

theorem opsHp_pad : opsHp.pad = pad5 := by kernel_rfl

def Kpad5 (o : OpsHp) : FSem := ⟨false, fun args hin => match args, hin with
  | [.s (.ptr 0 0), .s (.nat .i64 128), .s (.nat .i64 16)], [[.one (.sl m 1 off len 1), .ints .u64 1 [c], .ints .u64 8 st], [.ints .u8 n xs]] =>
    some (Tr.needs [decide (c < 1152921504606846976)] (.leaf (.s (.sl .whole 2 0 (o.pl c) 1), [some (hC true (.sl m 1 off len 1) c st), some [.ints .u8 n xs], some [.ints .u8 (o.pl c) (o.pad c)]])))
  | _, _ => none⟩

theorem okPad5 : FOk Tryz.prog 117 (Kpad5 opsHp) := by
  refine fokL (fs := []) (xs := []) (m := .down) (fuel := 20) (sums := [(0, Spd5 opsPd)]) EnvOk.nil fnPad5 loopsPd5 ?_
  intro args hin t r h hg
  unfold Kpad5 at h
  rw [opsHp_pl, opsHp_pad] at h
  simp only at h
  split at h
  · rename_i m off len c st n xs
    simp only [Option.some.injEq] at h
    subst h
    obtain ⟨hc, hgt⟩ := Tr.needs_get hg
    cases hgt
    simp only [List.mem_cons, List.not_mem_nil, or_false, forall_eq, decide_eq_true_eq] at hc
    have := rPad5 opsPd c off len n m xs st
    rw [show hC true (.sl m 1 off len 1) c st = [.one (.sl m 1 off len 1), .ints .u64 1 [c], .ints .u64 8 st] from rfl] at this
    rw [this, opsPd_fz, opsPd_pz]
    have hl := fz5_lt c
    have hn : ∀ b ∈ pdn (fz5 c) 16, b = true := pdn_ok (by omega)
    refine nd_of ?_ ?_
    · simp only [List.mem_cons, List.not_mem_nil, or_false, forall_eq_or_imp, forall_eq, decide_eq_true_eq]
      exact ⟨trivial, hc⟩
    · cases decide (fz5 c = 0)
      · exact cond_f rfl (nd_of hn rfl)
      · exact cond_t rfl (nd_of hn rfl)
  · cases h

def genH (f : Nat → Nat) : Nat → Nat → List Nat
  | 0, _ => []
  | n + 1, i => f i :: genH f n (i + 1)

theorem genH_len (f : Nat → Nat) : ∀ n i, (genH f n i).length = n
  | 0, _ => rfl
  | n + 1, i => by rw [genH, List.length_cons, genH_len f n (i + 1)]

theorem genH_mem {f : Nat → Nat} {B : Nat} (hf : ∀ i, f i < B) : ∀ n i, ∀ x ∈ genH f n i, x < B
  | 0, _, x, hx => by cases hx
  | n + 1, i, x, hx => by
    rcases List.mem_cons.1 hx with rfl | h
    · exact hf i
    · exact genH_mem hf n (i + 1) x h

def fin5 (st : List Nat) : List Nat := genH (fun i => st.getD (i / 8) 0 / 2 ^ (56 - 8 * (i % 8)) % 256) 64 0

theorem fnSum5 : Fn Tryz.prog 105 Tryz.f105 := ⟨mixedF, Tryz.func105, by kernel_rfl, of_decide_eq_true (by kernel_rfl)⟩

theorem fnSum512 : Fn Tryz.prog 64 Tryz.f64 := ⟨mixedF, Tryz.func64, by kernel_rfl, of_decide_eq_true (by kernel_rfl)⟩

set_option maxRecDepth 100000 in
theorem rSum5 (o : OpsHp) {m : LK} {off len n : Nat} {xs ys : List Nat} {cs : List Bool} (c : Nat) (st : List Nat) (h : rowOf .u8 m off len [.ints .u8 n xs] = some (cs, ys)) : runB Tryz.prog [(117, Kpad5 o), (104, Kwrite5p o.toOpsHv)] [] .nat 70 Tryz.f105 [.s (.ptr 0 0)] [hC true (.sl m 1 off len 1) c st, [.ints .u8 n xs]] =
    nd (cs ++ [decide (0 + len ≤ 4398046511104), decide (c < 1152921504606846976), decide (o.pl c = o.pl c), rowN LK.whole 0 (0 + len) (0 + len), decide (0 + len + (o.pad c).length ≤ 4398046511104), decide (st.length = 8)])
      (some (.agg [.ints .u8 64 (fin5 (o.w1 .whole 0 (0 + len) ys c st (o.pad c)).st)], [some (hC true (.sl m 1 off len 1) c st), some [.ints .u8 n xs]])) := by
  cases m <;> cases h <;> kernel_rfl

end Go.Proofs.YtdhnkkogbbhnmaaGreat

namespace Go.Proofs.YtdhnkkogbbhnmaaGreat
open Go
theorem fnDecode : Fn Tryz.prog 76 Tryz.f76 := ⟨mixedF, Tryz.func76, by kernel_rfl, of_decide_eq_true (by kernel_rfl)⟩

theorem fnAddP : Fn Tryz.prog 79 Tryz.f79 := ⟨mixedF, Tryz.func79, by kernel_rfl, of_decide_eq_true (by kernel_rfl)⟩

theorem fnEqualP : Fn Tryz.prog 113 Tryz.f113 := ⟨mixedF, Tryz.func113, by kernel_rfl, of_decide_eq_true (by kernel_rfl)⟩

theorem fnNegP : Fn Tryz.prog 80 Tryz.f80 := ⟨mixedF, Tryz.func80, by kernel_rfl, of_decide_eq_true (by kernel_rfl)⟩

theorem fnTiny : Fn Tryz.prog 77 Tryz.f77 := ⟨mixedF, Tryz.func77, by kernel_rfl, of_decide_eq_true (by kernel_rfl)⟩

structure OpsRt extends OpsM where
  rtl : List Nat → List Nat → List Nat
  rtr : List Nat → List Nat → Bool

def opsRt : OpsRt := { toOpsM := opsM, rtl := fun u v => (rootF u v).1, rtr := fun u v => (rootF u v).2 }

theorem opsRt_ops : opsRt.toOpsM = opsM := by kernel_rfl

theorem opsRt_rtl : opsRt.rtl = fun u v => (rootF u v).1 := by kernel_rfl

theorem opsRt_rtr : opsRt.rtr = fun u v => (rootF u v).2 := by kernel_rfl

def Krt (o : OpsRt) : FSem := ⟨false, fun args hin => match args, hin with
  | [.agg [.ints .u64 5 u], .agg [.ints .u64 5 v]], [] => some (.need (o.l5 u) (.need (o.l5 v) (.leaf (.tup [.agg [.ints .u64 5 (o.rtl u v)], .s (.bool (o.rtr u v))], []))))
  | _, _ => none⟩

theorem okRt22 : FOk Tryz.prog 110 (Krt opsRt) := by
  have e : Krt opsRt = F58 := by
    unfold Krt F58
    rw [opsRt_rtl, opsRt_rtr, opsRt_ops, opsM_ops, opsP_l5]
    rfl
  rw [e]
  exact ok58

def envRt (o : OpsRt) : List (Nat × FSem) := (110, Krt o) :: envM o.toOpsM

theorem envRt_ok : EnvOk ⟨Tryz.prog, envRt opsRt, []⟩ := .cons okRt22 envM_ok

def dkK (k : List Nat) : List Nat := k.set 31 (k.getD 31 0 &&& 127)

def dkB (k : List Nat) : Bool := decide (k.getD 31 0 / 2 ^ 7 = 1)

def dkY (o : OpsRt) (k : List Nat) : List Nat := o.of (dkK k)

def dkU (o : OpsRt) (k : List Nat) : List Nat := o.sub (o.mul (dkY o k) (dkY o k)) n1

def dkV (o : OpsRt) (k : List Nat) : List Nat := o.add [o.mul o.fac (o.mul (dkY o k) (dkY o k)), n1]

def dkX0 (o : OpsRt) (k : List Nat) : List Nat := o.rtl (dkU o k) (dkV o k)

def dkX (o : OpsRt) (k : List Nat) : List Nat := cond (dkB k) (o.neg (dkX0 o k)) (dkX0 o k)

def dkP (o : OpsRt) (k : List Nat) : L4 := ⟨dkX o k, dkY o k, n1, o.mul (dkX o k) (dkY o k)⟩

def dkOk (o : OpsRt) (k : List Nat) : Bool := o.can (dkK k) && (o.rtr (dkU o k) (dkV o k) && !(dkB k && o.isz (dkX0 o k)))

def dkE : Option (AV × List (Option Blk)) := some (.tup [.agg [.ints .u64 20 [0, 0, 0, 0, 0, 0, 0, 0, 0, 0, 0, 0, 0, 0, 0, 0, 0, 0, 0, 0]], .s (.nat .i64 60)], [])

def dkR (o : OpsRt) (k x : List Nat) : Option (AV × List (Option Blk)) := some (.tup [ag4 ⟨x, dkY o k, n1, o.mul x (dkY o k)⟩, .s (.nat .i64 0)], [])

set_option maxRecDepth 100000 in
theorem rDecode (o : OpsRt) (k : List Nat) : runB Tryz.prog (envRt o) [] .nat 20 Tryz.f76 [.agg [.ints .u8 32 k]] [] =
  cond (!o.can (dkK k)) dkE
  (nd [o.l5 (dkY o k), o.l5 (dkY o k), o.l5 (o.mul (dkY o k) (dkY o k)), o.l5 n1, o.l5 o.fac, o.l5 (o.mul (dkY o k) (dkY o k)), o.l5 (dkU o k), o.l5 (dkV o k)]
  (cond (!o.rtr (dkU o k) (dkV o k)) dkE
  (cond (dkB k) (nd [o.l5 (dkX0 o k)] (cond (o.isz (dkX0 o k)) dkE
      (cond (dkB k) (nd [o.l5 (dkX0 o k), o.l5 (o.neg (dkX0 o k)), o.l5 (dkY o k)] (dkR o k (o.neg (dkX0 o k)))) (nd [o.l5 (dkX0 o k), o.l5 (dkY o k)] (dkR o k (dkX0 o k))))))
    (cond (dkB k) (nd [o.l5 (dkX0 o k), o.l5 (o.neg (dkX0 o k)), o.l5 (dkY o k)] (dkR o k (o.neg (dkX0 o k)))) (nd [o.l5 (dkX0 o k), o.l5 (dkY o k)] (dkR o k (dkX0 o k))))))) := by kernel_rfl

structure OpsDk extends OpsRt where
  dok : List Nat → Bool
  dkp : List Nat → L4

def opsDk : OpsDk := { toOpsRt := opsRt, dok := dkOk opsRt, dkp := dkP opsRt }

theorem opsDk_dok : opsDk.dok = dkOk opsRt := by kernel_rfl

theorem opsDk_dkp : opsDk.dkp = dkP opsRt := by kernel_rfl

/-- Where it is a point. -/
def Kdec (o : OpsDk) : FSem := ⟨false, fun args hin => match args, hin with
  | [.agg [.ints .u8 32 k]], [] => some (.need (o.dok k) (.leaf (.tup [.agg [.ints .u64 5 (o.dkp k).x, .ints .u64 5 (o.dkp k).y, .ints .u64 5 (o.dkp k).z, .ints .u64 5 (o.dkp k).t], .s (.nat .i64 0)], [])))
  | _, _ => none⟩

theorem rt_mul (a b : List Nat) : opsRt.mul a b = mulF a b := by rw [opsRt_ops, opsM_ops, opsP_ops, ops_mul]

theorem rt_sub (a b : List Nat) : opsRt.sub a b = subF a b := by rw [opsRt_ops, opsM_ops, opsP_ops, ops_sub]

theorem rt_add (a : List (List Nat)) : opsRt.add a = addF a := by rw [opsRt_ops, opsM_ops, opsP_ops, ops_add]

theorem rt_of (a : List Nat) : opsRt.of a = ofF a := by rw [opsRt_ops, opsM_ops, opsP_ops, ops_of]

theorem rt_neg (a : List Nat) : opsRt.neg a = negF a := by rw [opsRt_ops, opsM_ops, opsP_ops, ops_neg]

theorem rt_can (a : List Nat) : opsRt.can a = canF a := by rw [opsRt_ops, opsM_ops, opsP_ops, ops_can]

theorem rt_isz (a : List Nat) : opsRt.isz a = isZ a := by rw [opsRt_ops, opsM_ops, opsP_ops, ops_isz]

theorem rt_l5 (a : List Nat) : opsRt.l5 a = decide (a.length = 5) := by rw [opsRt_ops, opsM_ops, opsP_l5]

theorem rt_fac : opsRt.fac = ofF facK := by rw [opsRt_ops, opsM_ops, opsP_fac]

theorem rootF_len (u v : List Nat) : (rootF u v).1.length = 5 := by
  have l1 : (try1 u v).length = 5 := pdN_len _ _
  have l3 : (try2 u v).length = 5 := rfl
  have l4 : ∀ x, (negF x).length = 5 := fun _ => rfl
  unfold rootF evenF
  generalize eqF (sqrF u v) u = c1
  generalize eqF (sqrF u v) (negF u) = c2
  generalize oddF (try1 u v) = c3
  generalize oddF (try2 u v) = c4
  generalize try1 u v = t1 at *
  generalize try2 u v = t2 at *
  have l5 := l4 t1
  have l6 := l4 t2
  generalize negF t1 = t3 at *
  generalize negF t2 = t4 at *
  cases c1
  · cases c2
    · rfl
    · cases c4
      · exact l3
      · exact l6
  · cases c3
    · exact l1
    · exact l5

/-- The walk where it is a point. -/
theorem rDecOk (o : OpsRt) (k : List Nat) (h : dkOk o k = true) (l : ∀ b ∈ [o.l5 (dkY o k), o.l5 (o.mul (dkY o k) (dkY o k)), o.l5 n1, o.l5 o.fac, o.l5 (dkU o k), o.l5 (dkV o k), o.l5 (dkX0 o k), o.l5 (o.neg (dkX0 o k))], b = true) :
    runB Tryz.prog (envRt o) [] .nat 20 Tryz.f76 [.agg [.ints .u8 32 k]] [] = some (.tup [ag4 (dkP o k), .s (.nat .i64 0)], []) := by
  rw [rDecode]
  unfold dkOk at h
  simp only [Bool.and_eq_true] at h
  obtain ⟨h1, h2, h3⟩ := h
  simp only [List.mem_cons, List.not_mem_nil, or_false, forall_eq_or_imp, forall_eq] at l
  obtain ⟨l1, l2, l3, l4, l5, l6, l7, l8⟩ := l
  rw [h1, h2]
  refine cond_f rfl (nd_of ?_ (cond_f rfl ?_))
  · simp only [List.mem_cons, List.not_mem_nil, or_false, forall_eq_or_imp, forall_eq]
    exact ⟨l1, l1, l2, l3, l4, l2, l5, l6⟩
  · unfold dkP dkX
    generalize dkB k = b at *
    cases b
    · refine cond_f rfl (cond_f rfl (nd_of ?_ rfl))
      simp only [List.mem_cons, List.not_mem_nil, or_false, forall_eq_or_imp, forall_eq]
      exact ⟨l7, l1⟩
    · have hz : o.isz (dkX0 o k) = false := by
        cases hz : o.isz (dkX0 o k)
        · rfl
        · rw [hz] at h3; cases h3
      refine cond_t rfl (nd_of ?_ (cond_f hz (cond_t rfl (nd_of ?_ rfl))))
      · simp only [List.mem_cons, List.not_mem_nil, or_false, forall_eq]
        exact l7
      · simp only [List.mem_cons, List.not_mem_nil, or_false, forall_eq_or_imp, forall_eq]
        exact ⟨l7, l8, l1⟩

theorem dkY_len (k : List Nat) : (dkY opsRt k).length = 5 := by unfold dkY; rw [rt_of]; exact ofF_len _

theorem rt_rtl (u v : List Nat) : opsRt.rtl u v = (rootF u v).1 := congrFun (congrFun opsRt_rtl u) v

theorem rt_rtr (u v : List Nat) : opsRt.rtr u v = (rootF u v).2 := congrFun (congrFun opsRt_rtr u) v

theorem dkX0_def (o : OpsRt) (k : List Nat) : dkX0 o k = o.rtl (dkU o k) (dkV o k) := rfl

theorem dkX0_len (k : List Nat) : (dkX0 opsRt k).length = 5 := by
  rw [dkX0_def, rt_rtl]
  exact rootF_len _ _

theorem subF_len5 (x y : List Nat) : (subF x y).length = 5 := rfl

theorem addF_len5 (x : List (List Nat)) : (addF x).length = 5 := rfl

theorem negF_len5 (x : List Nat) : (negF x).length = 5 := rfl

theorem dkU_len (k : List Nat) : (dkU opsRt k).length = 5 := by unfold dkU; rw [rt_sub]; exact subF_len5 _ _

theorem dkV_len (k : List Nat) : (dkV opsRt k).length = 5 := by unfold dkV; rw [rt_add]; exact addF_len5 _

theorem fac_len : opsRt.fac.length = 5 := by rw [rt_fac]; exact ofF_len _

theorem n1_len : n1.length = 5 := rfl

theorem okDec : FOk Tryz.prog 76 (Kdec opsDk) := by
  refine fokB (fs := envRt opsRt) (xs := []) (m := .nat) (fuel := 20) envRt_ok fnDecode ?_
  intro args hin t r h hg
  unfold Kdec at h
  rw [opsDk_dok, opsDk_dkp] at h
  simp only at h
  split at h
  · rename_i k
    simp only [Option.some.injEq] at h
    subst h
    obtain ⟨hc, hgt⟩ := need1 hg
    cases hgt
    refine rDecOk opsRt k hc ?_
    have lm := mulF_len (dkY opsRt k) (dkY opsRt k)
    have ln := negF_len5 (dkX0 opsRt k)
    simp only [rt_l5, rt_mul, rt_neg, List.mem_cons, List.not_mem_nil, or_false, forall_eq_or_imp, forall_eq, decide_eq_true_eq]
    exact ⟨dkY_len k, lm, n1_len, fac_len, dkU_len k, dkV_len k, dkX0_len k, ln⟩
  · cases h

def sumL (o : OpsP) (p q : L4) : L4 := o.pl (o.pl zer4 p o.fac) q o.fac

def ngL (o : Ops) (p : L4) : L4 := ⟨o.neg p.x, p.y, p.z, o.neg p.t⟩

set_option maxRecDepth 100000 in
theorem rAddP (o : OpsP) (a b c d x y z t : List Nat) : runB Tryz.prog (envR o) [] .nat 20 Tryz.f79 [.s (.sl .whole 0 0 2 20)] [[.ints .u64 5 a, .ints .u64 5 b, .ints .u64 5 c, .ints .u64 5 d, .ints .u64 5 x, .ints .u64 5 y, .ints .u64 5 z, .ints .u64 5 t]] =
  nd [o.l5 zer4.x, o.l5 zer4.y, o.l5 zer4.z, o.l5 zer4.t, o.l5 a, o.l5 b, o.l5 c, o.l5 d, o.l5 o.fac, o.l5 (o.pl zer4 ⟨a, b, c, d⟩ o.fac).x, o.l5 (o.pl zer4 ⟨a, b, c, d⟩ o.fac).y, o.l5 (o.pl zer4 ⟨a, b, c, d⟩ o.fac).z, o.l5 (o.pl zer4 ⟨a, b, c, d⟩ o.fac).t, o.l5 x, o.l5 y, o.l5 z, o.l5 t, o.l5 o.fac]
   (some (ag4 (sumL o ⟨a, b, c, d⟩ ⟨x, y, z, t⟩), [some [.ints .u64 5 a, .ints .u64 5 b, .ints .u64 5 c, .ints .u64 5 d, .ints .u64 5 x, .ints .u64 5 y, .ints .u64 5 z, .ints .u64 5 t]])) := by kernel_rfl

end Go.Proofs.YtdhnkkogbbhnmaaGreat

namespace Go.Proofs.YtdhnkkogbbhnmaaGreat
open Go
def eqL (o : Ops) (p q : L4) : Bool := o.eq (o.mul p.x q.z) (o.mul q.x p.z) && o.eq (o.mul p.y q.z) (o.mul q.y p.z)

def tnL (o : OpsP) (p : L4) : Bool := eqL o.toOps (o.tw (o.tw (o.tw p))) zer4

set_option maxRecDepth 100000 in
theorem rEqualP (o : OpsP) (a b c d x y z t : List Nat) : runB Tryz.prog (envR o) [] .nat 20 Tryz.f113 [.agg [.ints .u64 5 a, .ints .u64 5 b, .ints .u64 5 c, .ints .u64 5 d], .agg [.ints .u64 5 x, .ints .u64 5 y, .ints .u64 5 z, .ints .u64 5 t]] [] =
  nd [o.l5 a, o.l5 z, o.l5 x, o.l5 c, o.l5 (o.mul a z), o.l5 (o.mul x c)]
   (cond (o.eq (o.mul a z) (o.mul x c)) (nd [o.l5 b, o.l5 z, o.l5 y, o.l5 c, o.l5 (o.mul b z), o.l5 (o.mul y c)] (some (.s (.bool (o.eq (o.mul b z) (o.mul y c))), []))) (some (.s (.bool false), []))) := by kernel_rfl

set_option maxRecDepth 100000 in
theorem rNegP (o : OpsP) (a b c d : List Nat) : runB Tryz.prog (envR o) [] .nat 20 Tryz.f80 [.agg [.ints .u64 5 a, .ints .u64 5 b, .ints .u64 5 c, .ints .u64 5 d]] [] =
  nd [o.l5 a, o.l5 d] (some (.agg [.ints .u64 5 (o.neg a), .ints .u64 5 b, .ints .u64 5 c, .ints .u64 5 (o.neg d)], [])) := by kernel_rfl

structure OpsPt extends OpsDk where
  pls : L4 → L4 → L4
  peq : L4 → L4 → Bool
  png : L4 → L4
  tny : L4 → Bool

def opsPt : OpsPt := { toOpsDk := opsDk, pls := sumL opsP, peq := eqL ops, png := ngL ops, tny := tnL opsP }

theorem opsPt_pls : opsPt.pls = sumL opsP := by kernel_rfl

theorem opsPt_peq : opsPt.peq = eqL ops := by kernel_rfl

theorem opsPt_png : opsPt.png = ngL ops := by kernel_rfl

theorem opsPt_tny : opsPt.tny = tnL opsP := by kernel_rfl

theorem opsPt_opsP : opsPt.toOpsP = opsP := by kernel_rfl

def KaddP (o : OpsPt) : FSem := ⟨false, fun args hin => match args, hin with
  | [.s (.sl .whole 0 0 2 20)], [[.ints .u64 5 a, .ints .u64 5 b, .ints .u64 5 c, .ints .u64 5 d, .ints .u64 5 x, .ints .u64 5 y, .ints .u64 5 z, .ints .u64 5 t]] =>
    some (Tr.needs [o.l5 a, o.l5 b, o.l5 c, o.l5 d, o.l5 x, o.l5 y, o.l5 z, o.l5 t] (.leaf (.agg [.ints .u64 5 (o.pls ⟨a, b, c, d⟩ ⟨x, y, z, t⟩).x, .ints .u64 5 (o.pls ⟨a, b, c, d⟩ ⟨x, y, z, t⟩).y, .ints .u64 5 (o.pls ⟨a, b, c, d⟩ ⟨x, y, z, t⟩).z, .ints .u64 5 (o.pls ⟨a, b, c, d⟩ ⟨x, y, z, t⟩).t],
      [some [.ints .u64 5 a, .ints .u64 5 b, .ints .u64 5 c, .ints .u64 5 d, .ints .u64 5 x, .ints .u64 5 y, .ints .u64 5 z, .ints .u64 5 t]])))
  | _, _ => none⟩

def KeqP (o : OpsPt) : FSem := ⟨false, fun args hin => match args, hin with
  | [.agg [.ints .u64 5 a, .ints .u64 5 b, .ints .u64 5 c, .ints .u64 5 d], .agg [.ints .u64 5 x, .ints .u64 5 y, .ints .u64 5 z, .ints .u64 5 t]], [] =>
    some (Tr.needs [o.l5 a, o.l5 b, o.l5 c, o.l5 x, o.l5 y, o.l5 z] (.leaf (.s (.bool (o.peq ⟨a, b, c, d⟩ ⟨x, y, z, t⟩)), [])))
  | _, _ => none⟩

def KngP (o : OpsPt) : FSem := ⟨false, fun args hin => match args, hin with
  | [.agg [.ints .u64 5 a, .ints .u64 5 b, .ints .u64 5 c, .ints .u64 5 d]], [] =>
    some (Tr.needs [o.l5 a, o.l5 d] (.leaf (.agg [.ints .u64 5 (o.png ⟨a, b, c, d⟩).x, .ints .u64 5 (o.png ⟨a, b, c, d⟩).y, .ints .u64 5 (o.png ⟨a, b, c, d⟩).z, .ints .u64 5 (o.png ⟨a, b, c, d⟩).t], [])))
  | _, _ => none⟩

theorem l54_mem {o : OpsP} {p : L4} (h : ∀ b ∈ l54 o p, b = true) : o.l5 p.x = true ∧ o.l5 p.y = true ∧ o.l5 p.z = true ∧ o.l5 p.t = true := by
  unfold l54 at h
  simpa only [List.mem_cons, List.not_mem_nil, or_false, forall_eq_or_imp, forall_eq] using h

theorem okAddP : FOk Tryz.prog 79 (KaddP opsPt) := by
  refine fokB (fs := envR opsP) (xs := []) (m := .nat) (fuel := 20) envR_ok fnAddP ?_
  intro args hin t r h hg
  unfold KaddP at h
  rw [opsPt_pls] at h
  simp only at h
  split at h
  · rename_i a b c d x y z t
    simp only [Option.some.injEq] at h
    subst h
    obtain ⟨hc, hgt⟩ := Tr.needs_get hg
    cases hgt
    simp only [List.mem_cons, List.not_mem_nil, or_false, forall_eq_or_imp, forall_eq, opsPt_opsP] at hc
    obtain ⟨h1, h2, h3, h4, h5, h6, h7, h8⟩ := hc
    obtain ⟨s1, s2, s3, s4⟩ := l54_mem (l54_iff.2 (len_pl zer4 ⟨a, b, c, d⟩ opsP.fac))
    obtain ⟨z1, z2, z3, z4⟩ := l54_mem (l54_iff.2 len_zer)
    have hf : opsP.l5 opsP.fac = true := by rw [opsP_l5, opsP_fac]; exact decide_eq_true (ofF_len _)
    rw [rAddP]
    refine nd_of ?_ rfl
    simp only [List.mem_cons, List.not_mem_nil, or_false, forall_eq_or_imp, forall_eq]
    exact ⟨z1, z2, z3, z4, h1, h2, h3, h4, hf, s1, s2, s3, s4, h5, h6, h7, h8, hf⟩
  · cases h

theorem okEqP : FOk Tryz.prog 113 (KeqP opsPt) := by
  refine fokB (fs := envR opsP) (xs := []) (m := .nat) (fuel := 20) envR_ok fnEqualP ?_
  intro args hin t r h hg
  unfold KeqP at h
  rw [opsPt_peq] at h
  simp only at h
  split at h
  · rename_i a b c d x y z t
    simp only [Option.some.injEq] at h
    subst h
    obtain ⟨hc, hgt⟩ := Tr.needs_get hg
    cases hgt
    simp only [List.mem_cons, List.not_mem_nil, or_false, forall_eq_or_imp, forall_eq, opsPt_opsP] at hc
    obtain ⟨h1, h2, h3, h5, h6, h7⟩ := hc
    have lm : ∀ u v, opsP.l5 (opsP.mul u v) = true := fun u v => by rw [opsP_l5, opsP_ops, ops_mul]; exact decide_eq_true (mulF_len u v)
    rw [rEqualP]
    unfold eqL
    rw [← opsP_ops]
    refine nd_of ?_ ?_
    · simp only [List.mem_cons, List.not_mem_nil, or_false, forall_eq_or_imp, forall_eq]
      exact ⟨h1, h7, h5, h3, lm _ _, lm _ _⟩
    · simp only
      cases opsP.eq (opsP.mul a z) (opsP.mul x c)
      · exact cond_f rfl rfl
      · refine cond_t rfl (nd_of ?_ rfl)
        simp only [List.mem_cons, List.not_mem_nil, or_false, forall_eq_or_imp, forall_eq]
        exact ⟨h2, h7, h6, h3, lm _ _, lm _ _⟩
  · cases h

theorem okNgP : FOk Tryz.prog 80 (KngP opsPt) := by
  refine fokB (fs := envR opsP) (xs := []) (m := .nat) (fuel := 20) envR_ok fnNegP ?_
  intro args hin t r h hg
  unfold KngP at h
  rw [opsPt_png] at h
  simp only at h
  split at h
  · rename_i a b c d
    simp only [Option.some.injEq] at h
    subst h
    obtain ⟨hc, hgt⟩ := Tr.needs_get hg
    cases hgt
    rw [opsPt_opsP] at hc
    rw [rNegP]
    unfold ngL
    rw [← opsP_ops]
    exact nd_of hc rfl
  · cases h

set_option maxRecDepth 100000 in
theorem rTiny (o : OpsPt) (a b c d : List Nat) : runB Tryz.prog ((113, KeqP o) :: envR o.toOpsP) [] .nat 20 Tryz.f77 [.agg [.ints .u64 5 a, .ints .u64 5 b, .ints .u64 5 c, .ints .u64 5 d]] [] =
  nd [o.l5 a, o.l5 b, o.l5 c, o.l5 d, o.l5 (o.tw ⟨a, b, c, d⟩).x, o.l5 (o.tw ⟨a, b, c, d⟩).y, o.l5 (o.tw ⟨a, b, c, d⟩).z, o.l5 (o.tw ⟨a, b, c, d⟩).t, o.l5 (o.tw (o.tw ⟨a, b, c, d⟩)).x, o.l5 (o.tw (o.tw ⟨a, b, c, d⟩)).y, o.l5 (o.tw (o.tw ⟨a, b, c, d⟩)).z, o.l5 (o.tw (o.tw ⟨a, b, c, d⟩)).t,
    o.l5 (o.tw (o.tw (o.tw ⟨a, b, c, d⟩))).x, o.l5 (o.tw (o.tw (o.tw ⟨a, b, c, d⟩))).y, o.l5 (o.tw (o.tw (o.tw ⟨a, b, c, d⟩))).z, o.l5 zer4.x, o.l5 zer4.y, o.l5 zer4.z]
    (some (.s (.bool (o.peq (o.tw (o.tw (o.tw ⟨a, b, c, d⟩))) zer4)), [])) := by kernel_rfl

def Ktiny (o : OpsPt) : FSem := ⟨false, fun args hin => match args, hin with
  | [.agg [.ints .u64 5 a, .ints .u64 5 b, .ints .u64 5 c, .ints .u64 5 d]], [] =>
    some (Tr.needs [o.l5 a, o.l5 b, o.l5 c, o.l5 d] (.leaf (.s (.bool (o.tny ⟨a, b, c, d⟩)), [])))
  | _, _ => none⟩

theorem okTiny : FOk Tryz.prog 77 (Ktiny opsPt) := by
  refine fokB (fs := (113, KeqP opsPt) :: envR opsP) (xs := []) (m := .nat) (fuel := 20) (.cons okEqP envR_ok) fnTiny ?_
  intro args hin t r h hg
  unfold Ktiny at h
  rw [opsPt_tny] at h
  simp only at h
  split at h
  · rename_i a b c d
    simp only [Option.some.injEq] at h
    subst h
    obtain ⟨hc, hgt⟩ := Tr.needs_get hg
    cases hgt
    have := rTiny opsPt a b c d
    rw [opsPt_opsP] at this
    rw [this, opsPt_peq]
    unfold tnL
    rw [opsP_ops]
    simp only [List.mem_cons, List.not_mem_nil, or_false, forall_eq_or_imp, forall_eq, opsPt_opsP] at hc
    obtain ⟨h1, h2, h3, h4⟩ := hc
    obtain ⟨s1, s2, s3, s4⟩ := l54_mem (l54_iff.2 (len_tw ⟨a, b, c, d⟩))
    obtain ⟨t1, t2, t3, t4⟩ := l54_mem (l54_iff.2 (len_tw (opsP.tw ⟨a, b, c, d⟩)))
    obtain ⟨u1, u2, u3, u4⟩ := l54_mem (l54_iff.2 (len_tw (opsP.tw (opsP.tw ⟨a, b, c, d⟩))))
    obtain ⟨z1, z2, z3, z4⟩ := l54_mem (l54_iff.2 len_zer)
    refine nd_of ?_ rfl
    simp only [List.mem_cons, List.not_mem_nil, or_false, forall_eq_or_imp, forall_eq]
    exact ⟨h1, h2, h3, h4, s1, s2, s3, s4, t1, t2, t3, t4, u1, u2, u3, z1, z2, z3⟩
  · cases h

def envPt (o : OpsPt) : List (Nat × FSem) := (76, Kdec o.toOpsDk) :: (79, KaddP o) :: (113, KeqP o) :: (80, KngP o) :: (77, Ktiny o) :: envM o.toOpsM

theorem envPt_ok : EnvOk ⟨Tryz.prog, envPt opsPt, []⟩ := .cons okDec (.cons okAddP (.cons okEqP (.cons okNgP (.cons okTiny envM_ok))))

end Go.Proofs.YtdhnkkogbbhnmaaGreat

namespace Go.Proofs.YtdhnkkogbbhnmaaGreat
open Go
structure OpsHs extends OpsHv where
  sm : LK → Nat → Nat → List Nat → Nat → List Nat → List Nat

def smF5 (m : LK) (off len : Nat) (xs : List Nat) (c : Nat) (st : List Nat) : List Nat := fin5 (opsHv.w1 .whole 0 len (rowB m off len xs) c st (pad5 c)).st

def opsHs : OpsHs := { toOpsHv := opsHv, sm := smF5 }

theorem opsHs_ops : opsHs.toOpsHv = opsHv := by kernel_rfl

theorem opsHs_sm : opsHs.sm = smF5 := by kernel_rfl

def Ksum5 (o : OpsHs) : FSem := ⟨false, fun args hin => match args, hin with
  | [.s (.ptr 0 0)], [[.one (.sl m 1 off len 1), .ints .u64 1 [c], .ints .u64 8 st], [.ints .u8 n xs]] =>
    some (Tr.needs [rowN m off len n, decide (len ≤ 2199023255552), decide (c < 1152921504606846976), decide (st.length = 8)] (.leaf (.agg [.ints .u8 64 (o.sm m off len xs c st)], [some (hC true (.sl m 1 off len 1) c st), some [.ints .u8 n xs]])))
  | _, _ => none⟩

theorem pz5_len : ∀ i, (pz5 i).length = i + 1
  | 0 => rfl
  | i + 1 => by rw [pz5, List.length_append, pz5_len i]; rfl

theorem pad5_len (c : Nat) : (pad5 c).length = fz5 c + 17 := by
  simp only [pad5, app16, List.length_append, pz5_len, List.length_cons, List.length_nil]

theorem okSum5 : FOk Tryz.prog 105 (Ksum5 opsHs) := by
  refine fokB (fs := [(117, Kpad5 opsHp), (104, Kwrite5p opsHv)]) (xs := []) (m := .nat) (fuel := 70) (.cons okPad5 (.cons okWrite5p .nil)) fnSum5 ?_
  intro args hin t r h hg
  unfold Ksum5 at h
  rw [opsHs_sm] at h
  simp only at h
  split at h
  · rename_i m off len c st n xs
    simp only [Option.some.injEq] at h
    subst h
    obtain ⟨hc, hgt⟩ := Tr.needs_get hg
    cases hgt
    simp only [List.mem_cons, List.not_mem_nil, or_false, forall_eq_or_imp, forall_eq, decide_eq_true_eq] at hc
    obtain ⟨h1, h2, h3, h4⟩ := hc
    obtain ⟨cs, hr, hcs⟩ := rowOf_B xs h1
    have := rSum5 opsHp c st hr
    rw [opsHp_ops, opsHp_pl, opsHp_pad, show hC true (.sl m 1 off len 1) c st = [.one (.sl m 1 off len 1), .ints .u64 1 [c], .ints .u64 8 st] from rfl] at this
    rw [this, Nat.zero_add]
    refine nd_of (fun b hb => ?_) rfl
    rcases List.mem_append.1 hb with hb | hb
    · exact hcs b hb
    · refine (show ∀ b ∈ [decide (len ≤ 4398046511104), decide (c < 1152921504606846976), decide (padL5 c = padL5 c), rowN LK.whole 0 len len, decide (len + (pad5 c).length ≤ 4398046511104), decide (st.length = 8)], b = true from ?_) b hb
      have hl := fz5_lt c
      have hp := pad5_len c
      simp only [List.mem_cons, List.not_mem_nil, or_false, forall_eq_or_imp, forall_eq, decide_eq_true_eq]
      exact ⟨by omega, h3, trivial, by simp [rowN], by omega, h4⟩
  · cases h

/-- Of a hash to which something was written. -/
def OpsHs.sv (o : OpsHs) (v : HV5) : List Nat := o.sm (lk (v.n / 128)) (128 * (v.n / 128)) (v.n - 128 * (v.n / 128)) v.y v.c v.st

set_option maxRecDepth 100000 in
theorem rSum512 (o : OpsHs) (pss : List (List Nat)) : runB Tryz.prog [(103, Knew512), (104, Kwrite5 o.toOpsHv), (105, Ksum5 o)] [] .nat 70 Tryz.f64 [.s (.xsl (.bss pss))] [] =
    nd [decide (0 < pss.length), decide (pss.length < 9223372036854775808), okPs pss, true, rowN (lk ((o.wr 0 st512 pss).n / 128)) (128 * ((o.wr 0 st512 pss).n / 128)) ((o.wr 0 st512 pss).n - 128 * ((o.wr 0 st512 pss).n / 128)) (o.wr 0 st512 pss).n, decide ((o.wr 0 st512 pss).n - 128 * ((o.wr 0 st512 pss).n / 128) ≤ 2199023255552), decide ((o.wr 0 st512 pss).c < 1152921504606846976), decide ((o.wr 0 st512 pss).st.length = 8)]
      (some (.agg [.ints .u8 64 (o.sv (o.wr 0 st512 pss))], [])) := by kernel_rfl

/-- The sum of parts. -/
def sumF5 (pss : List (List Nat)) : List Nat := opsHs.sv (opsHs.wr 0 st512 pss)

structure OpsH5 where
  s5 : List (List Nat) → List Nat

def opsH5 : OpsH5 := ⟨sumF5⟩

theorem opsH5_s5 : opsH5.s5 = sumF5 := by kernel_rfl

def okParts (pss : List (List Nat)) : Bool := decide (0 < pss.length) && decide (pss.length ≤ 16) && okPs pss

theorem wrN5_n {pss : List (List Nat)} (h : okPs pss = true) (c : Nat) (st : List Nat) : ∀ i, i < pss.length → (wrN5 opsHf c st pss i).n ≤ 1099511627776 + 128
  | 0, hi => by
    have := okPs_get h hi
    show (pss.getD 0 []).length ≤ _
    omega
  | i + 1, hi => by
    have := okPs_get h hi
    show (wrN5 opsHf c st pss i).n - 128 * ((wrN5 opsHf c st pss i).n / 128) + (pss.getD (i + 1) []).length ≤ _
    omega

theorem wrN5_c {pss : List (List Nat)} (h : okPs pss = true) (st : List Nat) : ∀ i, i < pss.length → (wrN5 opsHf 0 st pss i).c ≤ (i + 1) * 1099511627776
  | 0, hi => by
    have := okPs_get h hi
    show (0 + (pss.getD 0 []).length) % 18446744073709551616 ≤ _
    omega
  | i + 1, hi => by
    have := okPs_get h hi
    have ih := wrN5_c h st i (by omega)
    show ((wrN5 opsHf 0 st pss i).c + (pss.getD (i + 1) []).length) % 18446744073709551616 ≤ _
    have := Nat.mod_le ((wrN5 opsHf 0 st pss i).c + (pss.getD (i + 1) []).length) 18446744073709551616
    omega

def Ksum512 (o : OpsH5) : FSem := ⟨true, fun args hin => match args, hin with
  | [.s (.xsl (.bss pss))], [] => some (.need (okParts pss) (.leaf (.agg [.ints .u8 64 (o.s5 pss)], [])))
  | _, _ => none⟩

theorem okSum512 : FOk Tryz.prog 64 (Ksum512 opsH5) := by
  refine fokB (fs := [(103, Knew512), (104, Kwrite5 opsHv), (105, Ksum5 opsHs)]) (xs := []) (m := .nat) (fuel := 70) (.cons okNew512 (.cons okWrite5 (.cons okSum5 .nil))) fnSum512 ?_
  intro args hin t r h hg
  unfold Ksum512 at h
  rw [opsH5_s5] at h
  simp only at h
  split at h
  · rename_i pss
    simp only [Option.some.injEq] at h
    subst h
    obtain ⟨hc, hgt⟩ := need1 hg
    cases hgt
    simp only [okParts, Bool.and_eq_true, decide_eq_true_eq] at hc
    obtain ⟨⟨h1, h2⟩, h3⟩ := hc
    have := rSum512 opsHs pss
    rw [opsHs_ops] at this
    rw [this]
    refine nd_of ?_ ?_
    · have e1 : (opsHv.wr 0 st512 pss) = wrN5 opsHf 0 st512 pss (pss.length - 1) := by rw [opsHv_wr]
      have e2 := wrN5_n h3 0 st512 (pss.length - 1) (by omega)
      have e3 := wrN5_c h3 st512 (pss.length - 1) (by omega)
      have e4 := wrN5_st (c := 0) (pss := pss) (show st512.length = 8 from rfl) (pss.length - 1)
      rw [e1]
      generalize wrN5 opsHf 0 st512 pss (pss.length - 1) = v at *
      simp only [List.mem_cons, List.not_mem_nil, or_false, forall_eq_or_imp, forall_eq, decide_eq_true_eq]
      exact ⟨h1, by omega, h3, trivial, rowN_lk 128 _ (by decide), by omega, by omega, e4⟩
    · unfold sumF5
      rw [opsHs_ops]
  · cases h

theorem sumF5_len (pss : List (List Nat)) : (sumF5 pss).length = 64 := by
  unfold sumF5 OpsHs.sv
  rw [opsHs_sm]
  exact genH_len _ _ _

theorem sumF5_mem (pss : List (List Nat)) : ∀ x ∈ sumF5 pss, x < 256 := by
  unfold sumF5 OpsHs.sv
  rw [opsHs_sm]
  exact genH_mem (fun _ => Nat.mod_lt _ (by decide)) _ _

end Go.Proofs.YtdhnkkogbbhnmaaGreat

namespace Go.Proofs.YtdhnkkogbbhnmaaGreat
open Go
def sub32 (x y b : Nat) : Nat := ((x + 4294967296 - y) % 4294967296 + 4294967296 - b) % 4294967296

def bor32 (x y b : Nat) : Nat := (4294967296 - 1 - x &&& y ||| 4294967296 - 1 - (x ^^^ y) &&& ((x + 4294967296 - y) % 4294967296 + 4294967296 - b) % 4294967296) / 2 ^ 31

def add32 (x y b : Nat) : Nat := ((x + y) % 18446744073709551616 + b) % 18446744073709551616 % 4294967296

def car32 (x y b : Nat) : Nat := ((x + y) % 18446744073709551616 + b) % 18446744073709551616 / 2 ^ 32 % 4294967296

theorem fnSub32 : Fn Tryz.prog 108 Tryz.f108 := ⟨mixedF, Tryz.func108, by kernel_rfl, of_decide_eq_true (by kernel_rfl)⟩

theorem fnAdd32 : Fn Tryz.prog 106 Tryz.f106 := ⟨mixedF, Tryz.func106, by kernel_rfl, of_decide_eq_true (by kernel_rfl)⟩

theorem fnOrder : Fn Tryz.prog 107 Tryz.f107 := ⟨mixedF, Tryz.func107, by kernel_rfl, of_decide_eq_true (by kernel_rfl)⟩

theorem fnLess : Fn Tryz.prog 114 Tryz.f114 := ⟨mixedF, Tryz.func114, by kernel_rfl, of_decide_eq_true (by kernel_rfl)⟩

def Ksub32 : FSem := ⟨false, fun args hin => match args, hin with
  | [.s (.nat .u32 x), .s (.nat .u32 y), .s (.nat .u32 b)], [] => some (.leaf (.tup [.s (.nat .u32 (sub32 x y b)), .s (.nat .u32 (bor32 x y b))], []))
  | _, _ => none⟩

def Kadd32 : FSem := ⟨false, fun args hin => match args, hin with
  | [.s (.nat .u32 x), .s (.nat .u32 y), .s (.nat .u32 b)], [] => some (.leaf (.tup [.s (.nat .u32 (add32 x y b)), .s (.nat .u32 (car32 x y b))], []))
  | _, _ => none⟩

theorem rSub32 (x y b : Nat) : runB Tryz.prog [] [] .nat 7 Tryz.f108 [.s (.nat .u32 x), .s (.nat .u32 y), .s (.nat .u32 b)] [] = some (.tup [.s (.nat .u32 (sub32 x y b)), .s (.nat .u32 (bor32 x y b))], []) := by kernel_rfl

theorem rAdd32 (x y b : Nat) : runB Tryz.prog [] [] .nat 7 Tryz.f106 [.s (.nat .u32 x), .s (.nat .u32 y), .s (.nat .u32 b)] [] = some (.tup [.s (.nat .u32 (add32 x y b)), .s (.nat .u32 (car32 x y b))], []) := by kernel_rfl

theorem okSub32 : FOk Tryz.prog 108 Ksub32 := by
  refine fokB (fs := []) (xs := []) (m := .nat) (fuel := 7) EnvOk.nil fnSub32 ?_
  intro args hin t r h hg
  unfold Ksub32 at h
  simp only at h
  split at h
  · cases h; cases hg
    exact rSub32 _ _ _
  · cases h

theorem okAdd32 : FOk Tryz.prog 106 Kadd32 := by
  refine fokB (fs := []) (xs := []) (m := .nat) (fuel := 7) EnvOk.nil fnAdd32 ?_
  intro args hin t r h hg
  unfold Kadd32 at h
  simp only at h
  split at h
  · cases h; cases hg
    exact rAdd32 _ _ _
  · cases h

/-- The order's words. -/
def ord : List Nat := [1559614445, 1477600026, 2734136534, 350157278, 0, 0, 0, 268435456]

def Kord : FSem := ⟨false, fun args hin => match args, hin with
  | [], [] => some (.leaf (.s (.sl .whole 0 0 8 1), [some [.ints .u32 8 ord]]))
  | _, _ => none⟩

theorem rOrder : runB Tryz.prog [] [] .nat 7 Tryz.f107 [] [] = some (.s (.sl .whole 0 0 8 1), [some [.ints .u32 8 ord]]) := by kernel_rfl

theorem okOrd : FOk Tryz.prog 107 Kord := by
  refine fokB (fs := []) (xs := []) (m := .nat) (fuel := 7) EnvOk.nil fnOrder ?_
  intro args hin t r h hg
  unfold Kord at h
  simp only at h
  split at h
  · cases h; cases hg
    exact rOrder
  · cases h

def lsN (w o : List Nat) : Nat → Nat
  | 0 => 0
  | i + 1 => bor32 (w.getD i 0) (o.getD i 0) (lsN w o i)

structure OpsLs where
  ls : List Nat → List Nat → Nat

def opsLs : OpsLs := ⟨fun w o => lsN w o w.length⟩

theorem opsLs_ls : opsLs.ls = fun w o => lsN w o w.length := by kernel_rfl

def SLs (o : OpsLs) : LSem := ⟨[0, 1, 5, 8, 9], [5], fun args hin => match args, hin with
  | [.s (.xsl (.ints .u32 w)), .s (.xsl (.ints .u32 u)), .s (.nat .u32 0), .s (.nat .i64 n), .s (.nat .i64 0)], [] =>
    some (Tr.needs [decide (n = w.length), decide (n ≤ u.length), decide (n < 9223372036854775808)] (.leaf (.normal, [.s (.nat .u32 (o.ls w u))], [])))
  | _, _ => none⟩

set_option maxRecDepth 100000 in
theorem rlLess (o : OpsLs) (w u : List Nat) (c i n : Nat) : runR Tryz.prog [(108, Ksub32)] [] .nat 7 [] Tryz.f114 0 (SLs o) 0 [.s (.xsl (.ints .u32 w)), .s (.xsl (.ints .u32 u)), .s (.nat .u32 c), .s (.nat .i64 n), .s (.nat .i64 i)] [] =
    cond (decide (i < n)) (nd [decide (i < w.length), decide (i < w.length), decide (i < u.length), decide (i < u.length), decide (i + 1 < 9223372036854775808)] (some (.normal, [.s (.xsl (.ints .u32 w)), .s (.xsl (.ints .u32 u)), .s (.nat .u32 (bor32 (w.getD i 0) (u.getD i 0) c)), .s (.nat .i64 n), .s (.nat .i64 (i + 1))], [])))
      (some (.exit 0, [.s (.nat .u32 c)], [])) := by kernel_rfl

theorem lokLess : LOk Tryz.prog Tryz.f114.ntmps (.block 0 (.loop (lb 0 Tryz.f114))) (SLs opsLs) := by
  refine lokR (fs := [(108, Ksub32)]) (xs := []) (m := .nat) (fuel := 7) (sums := []) (.cons okSub32 .nil) mixedF (loopsOk_none rfl _) ?_
  intro args hin t e vs hout h hg
  unfold SLs at h
  simp only at h
  split at h
  rotate_left
  · cases h
  rename_i w u n
  simp only [Option.some.injEq] at h
  subst h
  obtain ⟨hc, hgt⟩ := Tr.needs_get hg
  cases hgt
  simp only [List.mem_cons, List.not_mem_nil, or_false, forall_eq_or_imp, forall_eq, decide_eq_true_eq] at hc
  obtain ⟨rfl, h2, h3⟩ := hc
  refine ⟨w.length, fun i => ([.s (.xsl (.ints .u32 w)), .s (.xsl (.ints .u32 u)), .s (.nat .u32 (lsN w u i)), .s (.nat .i64 w.length), .s (.nat .i64 i)], []), .exit 0, rfl, fun i hi => ?_, ?_, rfl⟩
  · simp only [List.length_nil]
    rw [rlLess]
    refine cond_t (decide_eq_true hi) (nd_of ?_ rfl)
    simp only [List.mem_cons, List.not_mem_nil, or_false, forall_eq_or_imp, forall_eq, decide_eq_true_eq]; omega
  · simp only [List.length_nil]
    rw [rlLess, opsLs_ls]
    exact cond_f (decide_eq_false (by omega)) rfl

theorem loopsLess : LoopsOk Tryz.prog ⟨Tryz.f114.ntmps, 7, [(0, SLs opsLs)]⟩ (bodyOf Tryz.f114) := by
  refine loopsOk_of ?_
  have e : loopsIn [(0, SLs opsLs)] (bodyOf Tryz.f114) = [(0, .loop (lb 0 Tryz.f114), SLs opsLs)] := by kernel_rfl
  simp only [e]
  intro x hx
  simp only [List.mem_cons, List.not_mem_nil, or_false] at hx
  rcases hx with rfl
  · exact lokLess

set_option maxRecDepth 100000 in
theorem rLess (o : OpsLs) (w u : List Nat) : runL Tryz.prog [(108, Ksub32)] [] .nat 7 [(0, SLs o)] Tryz.f114 [.s (.xsl (.ints .u32 w)), .s (.xsl (.ints .u32 u))] [] =
    nd [decide (w.length < 9223372036854775808), decide (w.length = w.length), decide (w.length ≤ u.length), decide (w.length < 9223372036854775808)] (some (.s (.bool (decide (o.ls w u = 1))), [])) := by kernel_rfl

def Kless (o : OpsLs) : FSem := ⟨true, fun args hin => match args, hin with
  | [.s (.xsl (.ints .u32 w)), .s (.xsl (.ints .u32 u))], [] => some (Tr.needs [decide (w.length ≤ u.length), decide (w.length < 9223372036854775808)] (.leaf (.s (.bool (decide (o.ls w u = 1))), [])))
  | _, _ => none⟩

theorem okLess : FOk Tryz.prog 114 (Kless opsLs) := by
  refine fokL (fs := [(108, Ksub32)]) (xs := []) (m := .nat) (fuel := 7) (sums := [(0, SLs opsLs)]) (.cons okSub32 .nil) fnLess loopsLess ?_
  intro args hin t r h hg
  unfold Kless at h
  simp only at h
  split at h
  · simp only [Option.some.injEq] at h
    subst h
    obtain ⟨hc, hgt⟩ := Tr.needs_get hg
    cases hgt
    simp only [List.mem_cons, List.not_mem_nil, or_false, forall_eq_or_imp, forall_eq, decide_eq_true_eq] at hc
    rw [rLess]
    refine nd_of ?_ rfl
    simp only [List.mem_cons, List.not_mem_nil, or_false, forall_eq_or_imp, forall_eq, decide_eq_true_eq, true_and]
    exact ⟨hc.2, hc.1, hc.2⟩
  · cases h

end Go.Proofs.YtdhnkkogbbhnmaaGreat

namespace Go.Proofs.YtdhnkkogbbhnmaaGreat
open Go
theorem fnMod : Fn Tryz.prog 74 Tryz.f74 := ⟨mixedF, Tryz.func74, by kernel_rfl, of_decide_eq_true (by kernel_rfl)⟩

/-- Doubled, and a bit more: word by word, with what is carried. -/
def dblW (c : Nat) (r : List Nat) : Nat → List Nat × Nat
  | 0 => (r, c)
  | i + 1 => ((dblW c r i).1.set i ((dblW c r i).1.getD i 0 * 2 ^ 1 % 4294967296 ||| (dblW c r i).2), (dblW c r i).1.getD i 0 / 2 ^ 31)

/-- Less another, into a third: word by word, with what is borrowed. -/
def lessW (r l x : List Nat) : Nat → List Nat × Nat
  | 0 => (x, 0)
  | i + 1 => ((lessW r l x i).1.set i (sub32 (r.getD i 0) (l.getD i 0) (lessW r l x i).2), bor32 (r.getD i 0) (l.getD i 0) (lessW r l x i).2)

structure OpsMd where
  sh : Nat → List Nat → List Nat
  su : List Nat → List Nat → List Nat → List Nat
  bo : List Nat → List Nat → List Nat → Nat

def opsMd : OpsMd := ⟨fun c r => (dblW c r 8).1, fun r l x => (lessW r l x 8).1, fun r l x => (lessW r l x 8).2⟩

theorem opsMd_sh : opsMd.sh = fun c r => (dblW c r 8).1 := by kernel_rfl

theorem opsMd_su : opsMd.su = fun r l x => (lessW r l x 8).1 := by kernel_rfl

theorem opsMd_bo : opsMd.bo = fun r l x => (lessW r l x 8).2 := by kernel_rfl

def Ssh (o : OpsMd) : LSem := ⟨[3, 7, 32, 33], [], fun args hin => match args, hin with
  | [.s (.sl .whole 0 0 8 1), .s (.nat .u32 c), .s (.nat .i64 8), .s (.nat .i64 0)], [[.ints .u32 8 r]] => some (.leaf (.normal, [], [some [.ints .u32 8 (o.sh c r)]]))
  | _, _ => none⟩

def Ssu (o : OpsMd) : LSem := ⟨[3, 4, 5, 9, 53, 54], [9], fun args hin => match args, hin with
  | [.s (.sl .whole 0 0 8 1), .s (.sl .whole 1 0 8 1), .s (.sl .whole 2 0 8 1), .s (.nat .u32 0), .s (.nat .i64 8), .s (.nat .i64 0)], [[.ints .u32 8 r], [.ints .u32 8 l], [.ints .u32 8 x]] =>
    some (.leaf (.normal, [.s (.nat .u32 (o.bo r l x))], [some [.ints .u32 8 r], some [.ints .u32 8 l], some [.ints .u32 8 (o.su r l x)]]))
  | _, _ => none⟩

set_option maxRecDepth 100000 in
theorem rlSh (o : OpsMd) (r : List Nat) (c i : Nat) : runR Tryz.prog [] [] .nat 7 [] Tryz.f74 2 (Ssh o) 1 [.s (.sl .whole 0 0 8 1), .s (.nat .u32 c), .s (.nat .i64 8), .s (.nat .i64 i)] [some [.ints .u32 8 r]] =
(cond (decide (i < 8))
 (nd [decide (i < 8), decide (i < 8), decide (i < 8), decide (i < 8), decide (i < 8), decide (i < 8), decide (i + 1 < 9223372036854775808)]
 (some (Ex.normal, [AV.s (SV.sl LK.whole 0 0 8 1), AV.s (SV.nat IntKind.u32 (r.getD i 0 / 2 ^ 31)), AV.s (SV.nat IntKind.i64 8), AV.s (SV.nat IntKind.i64 (i + 1))], [some [Ch.ints IntKind.u32 8 (r.set i (r.getD i 0 * 2 ^ 1 % 4294967296 ||| c))]])))
 (some (Ex.exit 2, [], [some [Ch.ints IntKind.u32 8 r]]))) := by kernel_rfl

set_option maxRecDepth 100000 in
theorem rlSu (o : OpsMd) (r l x : List Nat) (c i : Nat) : runR Tryz.prog [(108, Ksub32)] [] .nat 7 [] Tryz.f74 4 (Ssu o) 3 [.s (.sl .whole 0 0 8 1), .s (.sl .whole 1 0 8 1), .s (.sl .whole 2 0 8 1), .s (.nat .u32 c), .s (.nat .i64 8), .s (.nat .i64 i)] [some [.ints .u32 8 r], some [.ints .u32 8 l], some [.ints .u32 8 x]] =
(cond (decide (i < 8))
 (nd [decide (i < 8), decide (i < 8), decide (i < 8), decide (i < 8), decide (i < 8), decide (i < 8), decide (i + 1 < 9223372036854775808)]
 (some (Ex.normal, [AV.s (SV.sl LK.whole 0 0 8 1), AV.s (SV.sl LK.whole (0 + 1) 0 8 1), AV.s (SV.sl LK.whole (0 + 1 + 1) 0 8 1), AV.s (SV.nat IntKind.u32 (bor32 (r.getD i 0) (l.getD i 0) c)), AV.s (SV.nat IntKind.i64 8), AV.s (SV.nat IntKind.i64 (i + 1))], [some [Ch.ints IntKind.u32 8 r], some [Ch.ints IntKind.u32 8 l], some [Ch.ints IntKind.u32 8 (x.set i (sub32 (r.getD i 0) (l.getD i 0) c))]])))
 (some (Ex.exit 4, [AV.s (SV.nat IntKind.u32 c)], [some [Ch.ints IntKind.u32 8 r], some [Ch.ints IntKind.u32 8 l], some [Ch.ints IntKind.u32 8 x]]))) := by kernel_rfl

theorem lokSh : LOk Tryz.prog Tryz.f74.ntmps (.block 2 (.loop (lb 2 Tryz.f74))) (Ssh opsMd) := by
  refine lokR (fs := []) (xs := []) (m := .nat) (fuel := 7) (sums := []) .nil mixedF (loopsOk_none rfl _) ?_
  intro args hin t e vs hout h hg
  unfold Ssh at h
  simp only at h
  split at h
  rotate_left
  · cases h
  rename_i c r
  simp only [Option.some.injEq] at h
  subst h
  cases hg
  refine ⟨8, fun i => ([.s (.sl .whole 0 0 8 1), .s (.nat .u32 (dblW c r i).2), .s (.nat .i64 8), .s (.nat .i64 i)], [some [.ints .u32 8 (dblW c r i).1]]), .exit 2, rfl, fun i hi => ?_, ?_, rfl⟩
  · simp only [List.length_cons, List.length_nil]
    rw [rlSh]
    refine cond_t (decide_eq_true hi) (nd_of ?_ rfl)
    simp only [List.mem_cons, List.not_mem_nil, or_false, forall_eq_or_imp, forall_eq, decide_eq_true_eq]; omega
  · simp only [List.length_cons, List.length_nil]
    rw [rlSh, opsMd_sh]
    exact cond_f rfl rfl

theorem lokSu : LOk Tryz.prog Tryz.f74.ntmps (.block 4 (.loop (lb 4 Tryz.f74))) (Ssu opsMd) := by
  refine lokR (fs := [(108, Ksub32)]) (xs := []) (m := .nat) (fuel := 7) (sums := []) (.cons okSub32 .nil) mixedF (loopsOk_none rfl _) ?_
  intro args hin t e vs hout h hg
  unfold Ssu at h
  simp only at h
  split at h
  rotate_left
  · cases h
  rename_i r l x
  simp only [Option.some.injEq] at h
  subst h
  cases hg
  refine ⟨8, fun i => ([.s (.sl .whole 0 0 8 1), .s (.sl .whole 1 0 8 1), .s (.sl .whole 2 0 8 1), .s (.nat .u32 (lessW r l x i).2), .s (.nat .i64 8), .s (.nat .i64 i)], [some [.ints .u32 8 r], some [.ints .u32 8 l], some [.ints .u32 8 (lessW r l x i).1]]), .exit 4, rfl, fun i hi => ?_, ?_, rfl⟩
  · simp only [List.length_cons, List.length_nil]
    rw [rlSu]
    refine cond_t (decide_eq_true hi) (nd_of ?_ rfl)
    simp only [List.mem_cons, List.not_mem_nil, or_false, forall_eq_or_imp, forall_eq, decide_eq_true_eq]; omega
  · simp only [List.length_cons, List.length_nil]
    rw [rlSu, opsMd_su, opsMd_bo]
    exact cond_f rfl rfl

structure Md where
  r : List Nat
  x : List Nat
  sw : Bool

def mdS (o : OpsMd) (w : List Nat) (s : Md) (j : Nat) : Md :=
  cond (decide (o.bo (o.sh (w.getD (j / 32) 0 / 2 ^ (j % 32) &&& 1) s.r) ord s.x = 0))
    ⟨o.su (o.sh (w.getD (j / 32) 0 / 2 ^ (j % 32) &&& 1) s.r) ord s.x, o.sh (w.getD (j / 32) 0 / 2 ^ (j % 32) &&& 1) s.r, !s.sw⟩
    ⟨o.sh (w.getD (j / 32) 0 / 2 ^ (j % 32) &&& 1) s.r, o.su (o.sh (w.getD (j / 32) 0 / 2 ^ (j % 32) &&& 1) s.r) ord s.x, s.sw⟩

def z8 : List Nat := [0, 0, 0, 0, 0, 0, 0, 0]

def mdN (o : OpsMd) (w : List Nat) (n : Nat) : Nat → Md
  | 0 => ⟨z8, z8, false⟩
  | i + 1 => mdS o w (mdN o w n i) (n - 1 - i)

structure OpsMe extends OpsMd where
  md : List Nat → Nat → Md

def opsMe : OpsMe := { toOpsMd := opsMd, md := fun w n => mdN opsMd w n n }

theorem opsMe_md : opsMe.md = fun w n => mdN opsMd w n n := by kernel_rfl

def Smd (o : OpsMe) : LSem := ⟨[0, 3, 4, 5, 6], [3], fun args hin => match args, hin with
  | [.s (.xsl (.ints .u32 w)), .s (.sl .whole 0 0 8 1), .s (.sl .whole 1 0 8 1), .s (.sl .whole 2 0 8 1), .s (.nat .i64 j)], [[.ints .u32 8 r], [.ints .u32 8 l], [.ints .u32 8 x]] =>
    some (Tr.needs [decide (r = z8), decide (l = ord), decide (x = z8), decide (j + 1 = 32 * w.length)] (.br (o.md w (j + 1)).sw
      (.leaf (.normal, [.s (.sl .whole 2 0 8 1)], [some [.ints .u32 8 (o.md w (j + 1)).x], some [.ints .u32 8 l], some [.ints .u32 8 (o.md w (j + 1)).r]]))
      (.leaf (.normal, [.s (.sl .whole 0 0 8 1)], [some [.ints .u32 8 (o.md w (j + 1)).r], some [.ints .u32 8 l], some [.ints .u32 8 (o.md w (j + 1)).x]]))))
  | _, _ => none⟩

/-- The state's rows and blocks. -/
def amd (w : List Nat) (s : Md) (j : AV) : List AV × List (Option Blk) :=
  cond s.sw ([.s (.xsl (.ints .u32 w)), .s (.sl .whole 2 0 8 1), .s (.sl .whole 1 0 8 1), .s (.sl .whole 0 0 8 1), j], [some [.ints .u32 8 s.x], some [.ints .u32 8 ord], some [.ints .u32 8 s.r]])
    ([.s (.xsl (.ints .u32 w)), .s (.sl .whole 0 0 8 1), .s (.sl .whole 1 0 8 1), .s (.sl .whole 2 0 8 1), j], [some [.ints .u32 8 s.r], some [.ints .u32 8 ord], some [.ints .u32 8 s.x]])

def emd (w : List Nat) (s : Md) : Ex × List AV × List (Option Blk) :=
  cond s.sw (.exit 0, [.s (.sl .whole 2 0 8 1)], [some [.ints .u32 8 s.x], some [.ints .u32 8 ord], some [.ints .u32 8 s.r]])
    (.exit 0, [.s (.sl .whole 0 0 8 1)], [some [.ints .u32 8 s.r], some [.ints .u32 8 ord], some [.ints .u32 8 s.x]])

def sums36 (o : OpsMd) : List (Nat × LSem) := [(2, Ssh o), (4, Ssu o)]

set_option maxRecDepth 100000 in
theorem rmdF1 (o : OpsMd) (p : OpsMe) (w r x : List Nat) (j : Nat) : runR Tryz.prog [(108, Ksub32)] [] .down 7 (sums36 o) Tryz.f74 0 (Smd p) 3 (amd w ⟨r, x, false⟩ (.s (.nat .i64 (j + 1)))).1 (amd w ⟨r, x, false⟩ (.s (.nat .i64 (j + 1)))).2 =
(nd [decide ((j + 1) / 32 < w.length), decide ((j + 1) / 32 < w.length)]
 (cond (decide (o.bo (o.sh (w.getD ((j + 1) / 32) 0 / 2 ^ ((j + 1) % 32) &&& 1) r) ord x = 0))
 (some (.normal, amd w ⟨o.su (o.sh (w.getD ((j + 1) / 32) 0 / 2 ^ ((j + 1) % 32) &&& 1) r) ord x, o.sh (w.getD ((j + 1) / 32) 0 / 2 ^ ((j + 1) % 32) &&& 1) r, true⟩ (.s (.nat .i64 j))))
 (some (.normal, amd w ⟨o.sh (w.getD ((j + 1) / 32) 0 / 2 ^ ((j + 1) % 32) &&& 1) r, o.su (o.sh (w.getD ((j + 1) / 32) 0 / 2 ^ ((j + 1) % 32) &&& 1) r) ord x, false⟩ (.s (.nat .i64 j)))))) := by kernel_rfl

set_option maxRecDepth 100000 in
theorem rmdT1 (o : OpsMd) (p : OpsMe) (w r x : List Nat) (j : Nat) : runR Tryz.prog [(108, Ksub32)] [] .down 7 (sums36 o) Tryz.f74 0 (Smd p) 3 (amd w ⟨r, x, true⟩ (.s (.nat .i64 (j + 1)))).1 (amd w ⟨r, x, true⟩ (.s (.nat .i64 (j + 1)))).2 =
(nd [decide ((j + 1) / 32 < w.length), decide ((j + 1) / 32 < w.length)]
 (cond (decide (o.bo (o.sh (w.getD ((j + 1) / 32) 0 / 2 ^ ((j + 1) % 32) &&& 1) r) ord x = 0))
 (some (.normal, amd w ⟨o.su (o.sh (w.getD ((j + 1) / 32) 0 / 2 ^ ((j + 1) % 32) &&& 1) r) ord x, o.sh (w.getD ((j + 1) / 32) 0 / 2 ^ ((j + 1) % 32) &&& 1) r, false⟩ (.s (.nat .i64 j))))
 (some (.normal, amd w ⟨o.sh (w.getD ((j + 1) / 32) 0 / 2 ^ ((j + 1) % 32) &&& 1) r, o.su (o.sh (w.getD ((j + 1) / 32) 0 / 2 ^ ((j + 1) % 32) &&& 1) r) ord x, true⟩ (.s (.nat .i64 j)))))) := by kernel_rfl

set_option maxRecDepth 100000 in
theorem rmdF0 (o : OpsMd) (p : OpsMe) (w r x : List Nat) : runR Tryz.prog [(108, Ksub32)] [] .down 7 (sums36 o) Tryz.f74 0 (Smd p) 3 (amd w ⟨r, x, false⟩ (.s (.nat .i64 0))).1 (amd w ⟨r, x, false⟩ (.s (.nat .i64 0))).2 =
(nd [decide (0 < w.length), decide (0 < w.length)]
 (cond (decide (o.bo (o.sh (w.getD (0 / 32) 0 / 2 ^ (0 % 32) &&& 1) r) ord x = 0))
 (some (.normal, amd w ⟨o.su (o.sh (w.getD (0 / 32) 0 / 2 ^ (0 % 32) &&& 1) r) ord x, o.sh (w.getD (0 / 32) 0 / 2 ^ (0 % 32) &&& 1) r, true⟩ (.s (.int (Int.negSucc 0)))))
 (some (.normal, amd w ⟨o.sh (w.getD (0 / 32) 0 / 2 ^ (0 % 32) &&& 1) r, o.su (o.sh (w.getD (0 / 32) 0 / 2 ^ (0 % 32) &&& 1) r) ord x, false⟩ (.s (.int (Int.negSucc 0))))))) := by kernel_rfl

set_option maxRecDepth 100000 in
theorem rmdT0 (o : OpsMd) (p : OpsMe) (w r x : List Nat) : runR Tryz.prog [(108, Ksub32)] [] .down 7 (sums36 o) Tryz.f74 0 (Smd p) 3 (amd w ⟨r, x, true⟩ (.s (.nat .i64 0))).1 (amd w ⟨r, x, true⟩ (.s (.nat .i64 0))).2 =
(nd [decide (0 < w.length), decide (0 < w.length)]
 (cond (decide (o.bo (o.sh (w.getD (0 / 32) 0 / 2 ^ (0 % 32) &&& 1) r) ord x = 0))
 (some (.normal, amd w ⟨o.su (o.sh (w.getD (0 / 32) 0 / 2 ^ (0 % 32) &&& 1) r) ord x, o.sh (w.getD (0 / 32) 0 / 2 ^ (0 % 32) &&& 1) r, false⟩ (.s (.int (Int.negSucc 0)))))
 (some (.normal, amd w ⟨o.sh (w.getD (0 / 32) 0 / 2 ^ (0 % 32) &&& 1) r, o.su (o.sh (w.getD (0 / 32) 0 / 2 ^ (0 % 32) &&& 1) r) ord x, true⟩ (.s (.int (Int.negSucc 0))))))) := by kernel_rfl

set_option maxRecDepth 100000 in
theorem rmdF (o : OpsMd) (p : OpsMe) (w r x : List Nat) : runR Tryz.prog [(108, Ksub32)] [] .down 7 (sums36 o) Tryz.f74 0 (Smd p) 3 (amd w ⟨r, x, false⟩ (.s (.int (Int.negSucc 0)))).1 (amd w ⟨r, x, false⟩ (.s (.int (Int.negSucc 0)))).2 = some (emd w ⟨r, x, false⟩) := by kernel_rfl

set_option maxRecDepth 100000 in
theorem rmdT (o : OpsMd) (p : OpsMe) (w r x : List Nat) : runR Tryz.prog [(108, Ksub32)] [] .down 7 (sums36 o) Tryz.f74 0 (Smd p) 3 (amd w ⟨r, x, true⟩ (.s (.int (Int.negSucc 0)))).1 (amd w ⟨r, x, true⟩ (.s (.int (Int.negSucc 0)))).2 = some (emd w ⟨r, x, true⟩) := by kernel_rfl

end Go.Proofs.YtdhnkkogbbhnmaaGreat

namespace Go.Proofs.YtdhnkkogbbhnmaaGreat
open Go
theorem loopsMd0 : LoopsOk Tryz.prog ⟨Tryz.f74.ntmps, 7, sums36 opsMd⟩ (lb 0 Tryz.f74) := by
  refine loopsOk_of ?_
  have e : loopsIn (sums36 opsMd) (lb 0 Tryz.f74) = [(2, .loop (lb 2 Tryz.f74), Ssh opsMd), (4, .loop (lb 4 Tryz.f74), Ssu opsMd)] := by kernel_rfl
  simp only [e]
  intro x hx
  simp only [List.mem_cons, List.not_mem_nil, or_false] at hx
  rcases hx with rfl | rfl
  · exact lokSh
  · exact lokSu

theorem mdS_t {o : OpsMd} {w r x : List Nat} {s : Bool} {j : Nat} (h : decide (o.bo (o.sh (w.getD (j / 32) 0 / 2 ^ (j % 32) &&& 1) r) ord x = 0) = true) :
    mdS o w ⟨r, x, s⟩ j = ⟨o.su (o.sh (w.getD (j / 32) 0 / 2 ^ (j % 32) &&& 1) r) ord x, o.sh (w.getD (j / 32) 0 / 2 ^ (j % 32) &&& 1) r, !s⟩ := by
  unfold mdS; rw [h]; rfl

theorem mdS_f {o : OpsMd} {w r x : List Nat} {s : Bool} {j : Nat} (h : decide (o.bo (o.sh (w.getD (j / 32) 0 / 2 ^ (j % 32) &&& 1) r) ord x = 0) = false) :
    mdS o w ⟨r, x, s⟩ j = ⟨o.sh (w.getD (j / 32) 0 / 2 ^ (j % 32) &&& 1) r, o.su (o.sh (w.getD (j / 32) 0 / 2 ^ (j % 32) &&& 1) r) ord x, s⟩ := by
  unfold mdS; rw [h]; rfl

theorem rmd1 (p : OpsMe) (w : List Nat) (s : Md) (j : Nat) (hj : (j + 1) / 32 < w.length) : runR Tryz.prog [(108, Ksub32)] [] .down 7 (sums36 opsMd) Tryz.f74 0 (Smd p) 3 (amd w s (.s (.nat .i64 (j + 1)))).1 (amd w s (.s (.nat .i64 (j + 1)))).2 =
    some (.normal, amd w (mdS opsMd w s (j + 1)) (.s (.nat .i64 j))) := by
  have hn : ∀ c ∈ [decide ((j + 1) / 32 < w.length), decide ((j + 1) / 32 < w.length)], c = true := by
    simp only [List.mem_cons, List.not_mem_nil, or_false, forall_eq_or_imp, forall_eq, decide_eq_true_eq, and_self]
    exact hj
  obtain ⟨r, x, b⟩ := s
  cases hd : decide (opsMd.bo (opsMd.sh (w.getD ((j + 1) / 32) 0 / 2 ^ ((j + 1) % 32) &&& 1) r) ord x = 0) with
  | true =>
    rw [mdS_t hd]
    cases b
    · rw [rmdF1]; exact nd_of hn (cond_t hd rfl)
    · rw [rmdT1]; exact nd_of hn (cond_t hd rfl)
  | false =>
    rw [mdS_f hd]
    cases b
    · rw [rmdF1]; exact nd_of hn (cond_f hd rfl)
    · rw [rmdT1]; exact nd_of hn (cond_f hd rfl)

theorem rmd0 (p : OpsMe) (w : List Nat) (s : Md) (hj : 0 < w.length) : runR Tryz.prog [(108, Ksub32)] [] .down 7 (sums36 opsMd) Tryz.f74 0 (Smd p) 3 (amd w s (.s (.nat .i64 0))).1 (amd w s (.s (.nat .i64 0))).2 =
    some (.normal, amd w (mdS opsMd w s 0) (.s (.int (Int.negSucc 0)))) := by
  have hn : ∀ c ∈ [decide (0 < w.length), decide (0 < w.length)], c = true := by
    simp only [List.mem_cons, List.not_mem_nil, or_false, forall_eq_or_imp, forall_eq, decide_eq_true_eq, and_self]
    exact hj
  obtain ⟨r, x, b⟩ := s
  cases hd : decide (opsMd.bo (opsMd.sh (w.getD (0 / 32) 0 / 2 ^ (0 % 32) &&& 1) r) ord x = 0) with
  | true =>
    rw [mdS_t hd]
    cases b
    · rw [rmdF0]; exact nd_of hn (cond_t hd rfl)
    · rw [rmdT0]; exact nd_of hn (cond_t hd rfl)
  | false =>
    rw [mdS_f hd]
    cases b
    · rw [rmdF0]; exact nd_of hn (cond_f hd rfl)
    · rw [rmdT0]; exact nd_of hn (cond_f hd rfl)

theorem rmdE (p : OpsMe) (w : List Nat) (s : Md) : runR Tryz.prog [(108, Ksub32)] [] .down 7 (sums36 opsMd) Tryz.f74 0 (Smd p) 3 (amd w s (.s (.int (Int.negSucc 0)))).1 (amd w s (.s (.int (Int.negSucc 0)))).2 = some (emd w s) := by
  obtain ⟨r, x, b⟩ := s
  cases b
  · exact rmdF opsMd p w r x
  · exact rmdT opsMd p w r x

theorem lokMd : LOk Tryz.prog Tryz.f74.ntmps (.block 0 (.loop (lb 0 Tryz.f74))) (Smd opsMe) := by
  refine lokR (fs := [(108, Ksub32)]) (xs := []) (m := .down) (fuel := 7) (sums := sums36 opsMd) (.cons okSub32 .nil) mixedF loopsMd0 ?_
  intro args hin t e vs hout h hg
  unfold Smd at h
  simp only at h
  split at h
  rotate_left
  · cases h
  rename_i w j r l x
  simp only [Option.some.injEq] at h
  subst h
  obtain ⟨hc, hgt⟩ := Tr.needs_get hg
  clear hg
  simp only [List.mem_cons, List.not_mem_nil, or_false, forall_eq_or_imp, forall_eq, decide_eq_true_eq] at hc
  obtain ⟨e1, e2, e3, hj⟩ := hc
  subst e1 e2 e3
  rw [opsMe_md] at hgt
  simp only [Tr.get] at hgt
  refine ⟨j + 1, fun i => amd w (mdN opsMd w (j + 1) i) (downV (j + 1) i), .exit 0, rfl, fun i hi => ?_, ?_, ?_⟩
  · have hs : mdN opsMd w (j + 1) (i + 1) = mdS opsMd w (mdN opsMd w (j + 1) i) (j - i) := by
      show mdS opsMd w (mdN opsMd w (j + 1) i) (j + 1 - 1 - i) = _
      rw [Nat.add_sub_cancel]
    simp only [List.length_cons, List.length_nil]
    rw [hs]
    by_cases hij : i = j
    · subst hij
      have e1 : downV (i + 1) i = .s (.nat .i64 0) := by unfold downV; rw [if_pos (by omega), show i + 1 - 1 - i = 0 by omega]
      have e2 : downV (i + 1) (i + 1) = .s (.int (Int.negSucc 0)) := by unfold downV; rw [if_neg (by omega)]
      rw [e1, e2, Nat.sub_self]
      exact rmd0 _ _ _ (by omega)
    · obtain ⟨q, hq⟩ : ∃ q, j - i = q + 1 := ⟨j - i - 1, by omega⟩
      have e1 : downV (j + 1) i = .s (.nat .i64 (q + 1)) := by unfold downV; rw [if_pos hi, show j + 1 - 1 - i = q + 1 by omega]
      have e2 : downV (j + 1) (i + 1) = .s (.nat .i64 q) := by unfold downV; rw [if_pos (by omega), show j + 1 - 1 - (i + 1) = q by omega]
      rw [e1, e2, hq]
      exact rmd1 _ _ _ _ (by omega)
  · simp only [List.length_cons, List.length_nil]
    have e2 : downV (j + 1) (j + 1) = .s (.int (Int.negSucc 0)) := by unfold downV; rw [if_neg (by omega)]
    rw [e2, rmdE]
    generalize mdN opsMd w (j + 1) (j + 1) = s at *
    obtain ⟨r, x, b⟩ := s
    cases b
    · cases hgt; rfl
    · cases hgt; rfl
  · generalize (mdN opsMd w (j + 1) (j + 1)).sw = b at *
    cases b
    · cases hgt; rfl
    · cases hgt; rfl

def sumsMod (o : OpsMe) : List (Nat × LSem) := [(0, Smd o)]

theorem loopsMod : LoopsOk Tryz.prog ⟨Tryz.f74.ntmps, 7, sumsMod opsMe⟩ (bodyOf Tryz.f74) := by
  refine loopsOk_of ?_
  have e : loopsIn (sumsMod opsMe) (bodyOf Tryz.f74) = [(0, .loop (lb 0 Tryz.f74), Smd opsMe)] := by kernel_rfl
  simp only [e]
  intro x hx
  simp only [List.mem_cons, List.not_mem_nil, or_false] at hx
  rcases hx with rfl
  · exact lokMd

set_option maxRecDepth 100000 in
theorem rMod (o : OpsMe) (a : Nat) (w : List Nat) : runL Tryz.prog [(108, Ksub32), (107, Kord)] [] .down 7 (sumsMod o) Tryz.f74 [.s (.xsl (.ints .u32 (a :: w)))] [] =
    nd [decide (w.length + 1 < 9223372036854775808), decide (32 * (w.length + 1) < 9223372036854775808), true, true, true, decide (32 * w.length + 31 + 1 = 32 * (w.length + 1))]
      (cond (o.md (a :: w) (32 * w.length + 31 + 1)).sw (some (.s (.sl .whole 0 0 8 1), [some [.ints .u32 8 (o.md (a :: w) (32 * w.length + 31 + 1)).r]]))
        (some (.s (.sl .whole 0 0 8 1), [some [.ints .u32 8 (o.md (a :: w) (32 * w.length + 31 + 1)).r]]))) := by kernel_rfl

structure OpsMod where
  mo : List Nat → List Nat

def modW (w : List Nat) : List Nat := (mdN opsMd w (32 * w.length) (32 * w.length)).r

def opsMod : OpsMod := ⟨modW⟩

theorem opsMod_mo : opsMod.mo = modW := by kernel_rfl

def Kmod (o : OpsMod) : FSem := ⟨true, fun args hin => match args, hin with
  | [.s (.xsl (.ints .u32 w))], [] => some (Tr.needs [decide (0 < w.length), decide (w.length < 1048576)] (.leaf (.s (.sl .whole 0 0 8 1), [some [.ints .u32 8 (o.mo w)]])))
  | _, _ => none⟩

theorem okMod : FOk Tryz.prog 74 (Kmod opsMod) := by
  refine fokL (fs := [(108, Ksub32), (107, Kord)]) (xs := []) (m := .down) (fuel := 7) (sums := sumsMod opsMe) (.cons okSub32 (.cons okOrd .nil)) fnMod loopsMod ?_
  intro args hin t r h hg
  unfold Kmod at h
  rw [opsMod_mo] at h
  simp only at h
  split at h
  · rename_i w
    simp only [Option.some.injEq] at h
    subst h
    obtain ⟨hc, hgt⟩ := Tr.needs_get hg
    cases hgt
    simp only [List.mem_cons, List.not_mem_nil, or_false, forall_eq_or_imp, forall_eq, decide_eq_true_eq] at hc
    obtain ⟨h1, h2⟩ := hc
    match w, h1 with
    | a :: w, _ =>
      rw [rMod, opsMe_md]
      simp only [List.length_cons] at h2
      unfold modW
      simp only [List.length_cons]
      rw [show 32 * w.length + 31 + 1 = 32 * (w.length + 1) by omega]
      refine nd_of ?_ ?_
      · simp only [List.mem_cons, List.not_mem_nil, or_false, forall_eq_or_imp, forall_eq, decide_eq_true_eq, true_and, and_true]
        omega
      · cases (mdN opsMd (a :: w) (32 * (w.length + 1)) (32 * (w.length + 1))).sw
        · exact cond_f rfl rfl
        · exact cond_t rfl rfl
  · cases h

end Go.Proofs.YtdhnkkogbbhnmaaGreat

namespace Go.Proofs.YtdhnkkogbbhnmaaGreat
open Go
theorem fnOf32 : Fn Tryz.prog 71 Tryz.f71 := ⟨mixedF, Tryz.func71, by kernel_rfl, of_decide_eq_true (by kernel_rfl)⟩

theorem fnBytes32 : Fn Tryz.prog 75 Tryz.f75 := ⟨mixedF, Tryz.func75, by kernel_rfl, of_decide_eq_true (by kernel_rfl)⟩

def wdN (b : List Nat) : Nat → List Nat
  | 0 => List.replicate ((b.length + 3) / 4) 0
  | i + 1 => (wdN b i).set (i / 4) ((wdN b i).getD (i / 4) 0 ||| b.getD i 0 * 2 ^ (8 * (i % 4)) % 4294967296)

def byN (w : List Nat) : Nat → List Nat
  | 0 => List.replicate 32 0
  | i + 1 => (byN w i).set i (w.getD (i / 4) 0 / 2 ^ (8 * (i % 4)) % 256)

structure OpsWd where
  wd : List Nat → List Nat
  by' : List Nat → List Nat

def opsWd : OpsWd := ⟨fun b => wdN b b.length, fun w => byN w 32⟩

theorem opsWd_wd : opsWd.wd = fun b => wdN b b.length := by kernel_rfl

theorem opsWd_by : opsWd.by' = fun w => byN w 32 := by kernel_rfl

def Swd (o : OpsWd) : LSem := ⟨[3, 11, 12, 13], [], fun args hin => match args, hin with
  | [.s (.sl .whole 0 0 m 1), .s (.xsl (.ints .u8 b)), .s (.nat .i64 n), .s (.nat .i64 0)], [[.ints .u32 k r]] =>
    some (Tr.needs [decide (n = b.length), decide (m = (n + 3) / 4), decide (k = m), decide (r = List.replicate m 0), decide (n < 9223372036854775808)] (.leaf (.normal, [], [some [.ints .u32 k (o.wd b)]])))
  | _, _ => none⟩

def Sby (o : OpsWd) : LSem := ⟨[0, 3, 5], [], fun args hin => match args, hin with
  | [.s (.xsl (.ints .u32 w)), .s (.ptr 0 0), .s (.nat .i64 0)], [[.ints .u8 32 r]] => some (Tr.needs [decide (r = List.replicate 32 0), decide (8 ≤ w.length)] (.leaf (.normal, [], [some [.ints .u8 32 (o.by' w)]])))
  | _, _ => none⟩

set_option maxRecDepth 100000 in
theorem rlWd (o : OpsWd) (r b : List Nat) (m k n i : Nat) : runR Tryz.prog [] [] .nat 7 [] Tryz.f71 0 (Swd o) 1 [.s (.sl .whole 0 0 m 1), .s (.xsl (.ints .u8 b)), .s (.nat .i64 n), .s (.nat .i64 i)] [some [.ints .u32 k r]] =
(cond (decide (i < n))
 (nd [decide (i < b.length), decide (i < b.length), decide (i / 4 < m), decide (i / 4 < k), decide (8 * (i % 4) < 9223372036854775808), decide (i / 4 < m), decide (i / 4 < k), decide (i + 1 < 9223372036854775808)]
 (some (Ex.normal, [AV.s (SV.sl LK.whole 0 0 m 1), AV.s (SV.xsl (XC.ints IntKind.u8 b)), AV.s (SV.nat IntKind.i64 n), AV.s (SV.nat IntKind.i64 (i + 1))], [some [Ch.ints IntKind.u32 k (r.set (i / 4) (r.getD (i / 4) 0 ||| b.getD i 0 * 2 ^ (8 * (i % 4)) % 4294967296))]])))
 (some (Ex.exit 0, [], [some [Ch.ints IntKind.u32 k r]]))) := by kernel_rfl

set_option maxRecDepth 100000 in
theorem rlBy (o : OpsWd) (w r : List Nat) (i : Nat) : runR Tryz.prog [] [] .nat 7 [] Tryz.f75 0 (Sby o) 1 [.s (.xsl (.ints .u32 w)), .s (.ptr 0 0), .s (.nat .i64 i)] [some [.ints .u8 32 r]] =
(cond (decide (i < 32))
 (nd [decide (i / 4 < w.length), decide (i / 4 < w.length), decide (8 * (i % 4) < 9223372036854775808), decide (i < 32), decide (i < 32), decide (i + 1 < 9223372036854775808)]
 (some (Ex.normal, [AV.s (SV.xsl (XC.ints IntKind.u32 w)), AV.s (SV.ptr 0 0), AV.s (SV.nat IntKind.i64 (i + 1))], [some [Ch.ints IntKind.u8 32 (r.set i (w.getD (i / 4) 0 / 2 ^ (8 * (i % 4)) % 256))]])))
 (some (Ex.exit 0, [], [some [Ch.ints IntKind.u8 32 r]]))) := by kernel_rfl

theorem lokWd : LOk Tryz.prog Tryz.f71.ntmps (.block 0 (.loop (lb 0 Tryz.f71))) (Swd opsWd) := by
  refine lokR (fs := []) (xs := []) (m := .nat) (fuel := 7) (sums := []) .nil mixedF (loopsOk_none rfl _) ?_
  intro args hin t e vs hout h hg
  unfold Swd at h
  simp only at h
  split at h
  rotate_left
  · cases h
  rename_i m b n k r
  simp only [Option.some.injEq] at h
  subst h
  obtain ⟨hc, hgt⟩ := Tr.needs_get hg
  cases hgt
  simp only [List.mem_cons, List.not_mem_nil, or_false, forall_eq_or_imp, forall_eq, decide_eq_true_eq] at hc
  obtain ⟨rfl, rfl, rfl, rfl, h5⟩ := hc
  refine ⟨b.length, fun i => ([.s (.sl .whole 0 0 ((b.length + 3) / 4) 1), .s (.xsl (.ints .u8 b)), .s (.nat .i64 b.length), .s (.nat .i64 i)], [some [.ints .u32 ((b.length + 3) / 4) (wdN b i)]]), .exit 0, rfl, fun i hi => ?_, ?_, rfl⟩
  · simp only [List.length_cons, List.length_nil]
    rw [rlWd]
    refine cond_t (decide_eq_true hi) (nd_of ?_ rfl)
    simp only [List.mem_cons, List.not_mem_nil, or_false, forall_eq_or_imp, forall_eq, decide_eq_true_eq]; omega
  · simp only [List.length_cons, List.length_nil]
    rw [rlWd, opsWd_wd]
    exact cond_f (decide_eq_false (by omega)) rfl

theorem lokBy : LOk Tryz.prog Tryz.f75.ntmps (.block 0 (.loop (lb 0 Tryz.f75))) (Sby opsWd) := by
  refine lokR (fs := []) (xs := []) (m := .nat) (fuel := 7) (sums := []) .nil mixedF (loopsOk_none rfl _) ?_
  intro args hin t e vs hout h hg
  unfold Sby at h
  simp only at h
  split at h
  rotate_left
  · cases h
  rename_i w r
  simp only [Option.some.injEq] at h
  subst h
  obtain ⟨hc, hgt⟩ := Tr.needs_get hg
  cases hgt
  simp only [List.mem_cons, List.not_mem_nil, or_false, forall_eq_or_imp, forall_eq, decide_eq_true_eq] at hc
  obtain ⟨rfl, h2⟩ := hc
  refine ⟨32, fun i => ([.s (.xsl (.ints .u32 w)), .s (.ptr 0 0), .s (.nat .i64 i)], [some [.ints .u8 32 (byN w i)]]), .exit 0, rfl, fun i hi => ?_, ?_, rfl⟩
  · simp only [List.length_cons, List.length_nil]
    rw [rlBy]
    refine cond_t (decide_eq_true hi) (nd_of ?_ rfl)
    simp only [List.mem_cons, List.not_mem_nil, or_false, forall_eq_or_imp, forall_eq, decide_eq_true_eq]; omega
  · simp only [List.length_cons, List.length_nil]
    rw [rlBy, opsWd_by]
    exact cond_f (decide_eq_false (by omega)) rfl

theorem loopsWd : LoopsOk Tryz.prog ⟨Tryz.f71.ntmps, 7, [(0, Swd opsWd)]⟩ (bodyOf Tryz.f71) := by
  refine loopsOk_of ?_
  have e : loopsIn [(0, Swd opsWd)] (bodyOf Tryz.f71) = [(0, .loop (lb 0 Tryz.f71), Swd opsWd)] := by kernel_rfl
  simp only [e]
  intro x hx
  simp only [List.mem_cons, List.not_mem_nil, or_false] at hx
  rcases hx with rfl
  · exact lokWd

theorem loopsBy : LoopsOk Tryz.prog ⟨Tryz.f75.ntmps, 7, [(0, Sby opsWd)]⟩ (bodyOf Tryz.f75) := by
  refine loopsOk_of ?_
  have e : loopsIn [(0, Sby opsWd)] (bodyOf Tryz.f75) = [(0, .loop (lb 0 Tryz.f75), Sby opsWd)] := by kernel_rfl
  simp only [e]
  intro x hx
  simp only [List.mem_cons, List.not_mem_nil, or_false] at hx
  rcases hx with rfl
  · exact lokBy

set_option maxRecDepth 100000 in
theorem rWd (o : OpsWd) (b : List Nat) : runL Tryz.prog [] [] .nat 7 [(0, Swd o)] Tryz.f71 [.s (.xsl (.ints .u8 b))] [] =
  nd [decide (b.length < 9223372036854775808), decide (b.length + 3 < 9223372036854775808), decide ((b.length + 3) / 4 ≤ (b.length + 3) / 4), decide ((b.length + 3) / 4 ≤ 4398046511104), decide (b.length < 9223372036854775808), decide (b.length = b.length), decide ((b.length + 3) / 4 = (b.length + 3) / 4), decide ((b.length + 3) / 4 = (b.length + 3) / 4), decide (List.replicate ((b.length + 3) / 4) 0 = List.replicate ((b.length + 3) / 4) 0), decide (b.length < 9223372036854775808)]
    (some (.s (.sl .whole 0 0 ((b.length + 3) / 4) 1), [some [.ints .u32 ((b.length + 3) / 4) (o.wd b)]])) := by kernel_rfl

set_option maxRecDepth 100000 in
theorem rBy (o : OpsWd) (w : List Nat) : runL Tryz.prog [] [] .nat 7 [(0, Sby o)] Tryz.f75 [.s (.xsl (.ints .u32 w))] [] =
  nd [true, decide (8 ≤ w.length)] (some (.agg [.ints .u8 32 (o.by' w)], [])) := by kernel_rfl

def Kwd (o : OpsWd) : FSem := ⟨true, fun args hin => match args, hin with
  | [.s (.xsl (.ints .u8 b))], [] => some (Tr.needs [decide (b.length < 1099511627776)] (.leaf (.s (.sl .whole 0 0 ((b.length + 3) / 4) 1), [some [.ints .u32 ((b.length + 3) / 4) (o.wd b)]])))
  | _, _ => none⟩

theorem okWd : FOk Tryz.prog 71 (Kwd opsWd) := by
  refine fokL (fs := []) (xs := []) (m := .nat) (fuel := 7) (sums := [(0, Swd opsWd)]) .nil fnOf32 loopsWd ?_
  intro args hin t r h hg
  unfold Kwd at h
  simp only at h
  split at h
  · simp only [Option.some.injEq] at h
    subst h
    obtain ⟨hc, hgt⟩ := Tr.needs_get hg
    cases hgt
    simp only [List.mem_cons, List.not_mem_nil, or_false, forall_eq_or_imp, forall_eq, decide_eq_true_eq] at hc
    rw [rWd]
    refine nd_of ?_ rfl
    simp only [List.mem_cons, List.not_mem_nil, or_false, forall_eq_or_imp, forall_eq, decide_eq_true_eq, true_and, and_true]
    omega
  · cases h

def Kby (o : OpsWd) : FSem := ⟨true, fun args hin => match args, hin with
  | [.s (.xsl (.ints .u32 w))], [] => some (Tr.needs [decide (8 ≤ w.length)] (.leaf (.agg [.ints .u8 32 (o.by' w)], [])))
  | _, _ => none⟩

theorem okBy : FOk Tryz.prog 75 (Kby opsWd) := by
  refine fokL (fs := []) (xs := []) (m := .nat) (fuel := 7) (sums := [(0, Sby opsWd)]) .nil fnBytes32 loopsBy ?_
  intro args hin t r h hg
  unfold Kby at h
  simp only at h
  split at h
  · simp only [Option.some.injEq] at h
    subst h
    obtain ⟨hc, hgt⟩ := Tr.needs_get hg
    cases hgt
    rw [rBy]
    refine nd_of ?_ rfl
    intro c hcm
    rcases List.mem_cons.1 hcm with rfl | hcm
    · rfl
    · exact hc c hcm
  · cases h

end Go.Proofs.YtdhnkkogbbhnmaaGreat

namespace Go.Proofs.YtdhnkkogbbhnmaaGreat
open Go
theorem fnTimes32 : Fn Tryz.prog 72 Tryz.f72 := ⟨mixedF, Tryz.func72, by kernel_rfl, of_decide_eq_true (by kernel_rfl)⟩

theorem fnPlus32 : Fn Tryz.prog 73 Tryz.f73 := ⟨mixedF, Tryz.func73, by kernel_rfl, of_decide_eq_true (by kernel_rfl)⟩

def stp (a x y c : Nat) : Nat := (c + (x + a * y % 18446744073709551616) % 18446744073709551616) % 18446744073709551616

/-- A word times a number, put to what is there. -/
def tmI (u : List Nat) (i a : Nat) (r : List Nat) : Nat → List Nat × Nat
  | 0 => (r, 0)
  | j + 1 => ((tmI u i a r j).1.set (i + j) (stp a ((tmI u i a r j).1.getD (i + j) 0) (u.getD j 0) (tmI u i a r j).2 % 4294967296), stp a ((tmI u i a r j).1.getD (i + j) 0) (u.getD j 0) (tmI u i a r j).2 / 2 ^ 32)

structure OpsTi where
  tl : List Nat → Nat → Nat → List Nat → List Nat
  tc : List Nat → Nat → Nat → List Nat → Nat

def opsTi : OpsTi := ⟨fun u i a r => (tmI u i a r u.length).1, fun u i a r => (tmI u i a r u.length).2⟩

theorem opsTi_tl : opsTi.tl = fun u i a r => (tmI u i a r u.length).1 := by kernel_rfl

theorem opsTi_tc : opsTi.tc = fun u i a r => (tmI u i a r u.length).2 := by kernel_rfl

def Sti (o : OpsTi) : LSem := ⟨[5, 6, 7, 8, 24, 25, 26], [8], fun args hin => match args, hin with
  | [.s (.sl .whole 0 0 n 1), .s (.nat .i64 i), .s (.nat .u32 a), .s (.nat .u64 0), .s (.xsl (.ints .u32 u)), .s (.nat .i64 m), .s (.nat .i64 0)], [[.ints .u32 k r]] =>
    some (Tr.needs [decide (m = u.length), decide (k = n), decide (i + m ≤ n), decide (n < 9223372036854775808)] (.leaf (.normal, [.s (.nat .u64 (o.tc u i a r))], [some [.ints .u32 k (o.tl u i a r)]])))
  | _, _ => none⟩

set_option maxRecDepth 100000 in
theorem rlTi (o : OpsTi) (u r : List Nat) (n i a c m j k : Nat) : runR Tryz.prog [] [] .nat 7 [] Tryz.f72 2 (Sti o) 1 [.s (.sl .whole 0 0 n 1), .s (.nat .i64 i), .s (.nat .u32 a), .s (.nat .u64 c), .s (.xsl (.ints .u32 u)), .s (.nat .i64 m), .s (.nat .i64 j)] [some [.ints .u32 k r]] =
(cond (decide (j < m))
 (nd [decide (j < u.length), decide (j < u.length), decide (i + j < 9223372036854775808), decide (i + j < n), decide (i + j < k), decide (i + j < 9223372036854775808), decide (i + j < n), decide (i + j < k), decide (j + 1 < 9223372036854775808)]
 (some (Ex.normal, [AV.s (SV.sl LK.whole 0 0 n 1), AV.s (SV.nat IntKind.i64 i), AV.s (SV.nat IntKind.u32 a), AV.s (SV.nat IntKind.u64 (stp a (r.getD (i + j) 0) (u.getD j 0) c / 2 ^ 32)), AV.s (SV.xsl (XC.ints IntKind.u32 u)), AV.s (SV.nat IntKind.i64 m), AV.s (SV.nat IntKind.i64 (j + 1))], [some [Ch.ints IntKind.u32 k (r.set (i + j) (stp a (r.getD (i + j) 0) (u.getD j 0) c % 4294967296))]])))
 (some (Ex.exit 2, [AV.s (SV.nat IntKind.u64 c)], [some [Ch.ints IntKind.u32 k r]]))) := by kernel_rfl

theorem lokTi : LOk Tryz.prog Tryz.f72.ntmps (.block 2 (.loop (lb 2 Tryz.f72))) (Sti opsTi) := by
  refine lokR (fs := []) (xs := []) (m := .nat) (fuel := 7) (sums := []) .nil mixedF (loopsOk_none rfl _) ?_
  intro args hin t e vs hout h hg
  unfold Sti at h
  simp only at h
  split at h
  rotate_left
  · cases h
  rename_i n i a u m k r
  simp only [Option.some.injEq] at h
  subst h
  obtain ⟨hc, hgt⟩ := Tr.needs_get hg
  cases hgt
  simp only [List.mem_cons, List.not_mem_nil, or_false, forall_eq_or_imp, forall_eq, decide_eq_true_eq] at hc
  obtain ⟨rfl, rfl, h3, h4⟩ := hc
  refine ⟨u.length, fun j => ([.s (.sl .whole 0 0 k 1), .s (.nat .i64 i), .s (.nat .u32 a), .s (.nat .u64 (tmI u i a r j).2), .s (.xsl (.ints .u32 u)), .s (.nat .i64 u.length), .s (.nat .i64 j)], [some [.ints .u32 k (tmI u i a r j).1]]), .exit 2, rfl, fun j hj => ?_, ?_, rfl⟩
  · simp only [List.length_cons, List.length_nil]
    rw [rlTi]
    refine cond_t (decide_eq_true hj) (nd_of ?_ rfl)
    simp only [List.mem_cons, List.not_mem_nil, or_false, forall_eq_or_imp, forall_eq, decide_eq_true_eq]; omega
  · simp only [List.length_cons, List.length_nil]
    rw [rlTi, opsTi_tl, opsTi_tc]
    exact cond_f (decide_eq_false (by omega)) rfl

def tmN (o : OpsTi) (w u : List Nat) : Nat → List Nat
  | 0 => List.replicate (w.length + u.length) 0
  | i + 1 => (o.tl u i (w.getD i 0) (tmN o w u i)).set (i + u.length) (o.tc u i (w.getD i 0) (tmN o w u i) % 4294967296)

structure OpsTm extends OpsTi where
  tm : List Nat → List Nat → List Nat

def opsTm : OpsTm := { toOpsTi := opsTi, tm := fun w u => tmN opsTi w u w.length }

theorem opsTm_tm : opsTm.tm = fun w u => tmN opsTi w u w.length := by kernel_rfl

def Stm (o : OpsTm) : LSem := ⟨[1, 5, 17, 18, 19], [], fun args hin => match args, hin with
  | [.s (.xsl (.ints .u32 u)), .s (.sl .whole 0 0 n 1), .s (.xsl (.ints .u32 w)), .s (.nat .i64 m), .s (.nat .i64 0)], [[.ints .u32 k r]] =>
    some (Tr.needs [decide (m = w.length), decide (n = w.length + u.length), decide (k = n), decide (r = List.replicate n 0), decide (n < 9223372036854775808)] (.leaf (.normal, [], [some [.ints .u32 k (o.tm w u)]])))
  | _, _ => none⟩

set_option maxRecDepth 100000 in
theorem rlTm (o : OpsTi) (p : OpsTm) (u w r : List Nat) (n m j k : Nat) : runR Tryz.prog [] [] .nat 7 [(2, Sti o)] Tryz.f72 0 (Stm p) 1 [.s (.xsl (.ints .u32 u)), .s (.sl .whole 0 0 n 1), .s (.xsl (.ints .u32 w)), .s (.nat .i64 m), .s (.nat .i64 j)] [some [.ints .u32 k r]] =
(cond (decide (j < m))
 (nd [decide (j < w.length), decide (j < w.length), decide (u.length < 9223372036854775808), decide (u.length = u.length), decide (k = n), decide (j + u.length ≤ n), decide (n < 9223372036854775808), decide (u.length < 9223372036854775808), decide (j + u.length < 9223372036854775808), decide (j + u.length < n), decide (j + u.length < k), decide (j + 1 < 9223372036854775808)]
 (some (Ex.normal, [AV.s (SV.xsl (XC.ints IntKind.u32 u)), AV.s (SV.sl LK.whole 0 0 n 1), AV.s (SV.xsl (XC.ints IntKind.u32 w)), AV.s (SV.nat IntKind.i64 m), AV.s (SV.nat IntKind.i64 (j + 1))], [some [Ch.ints IntKind.u32 k ((o.tl u j (w.getD j 0) r).set (j + u.length) (o.tc u j (w.getD j 0) r % 4294967296))]])))
 (some (Ex.exit 0, [], [some [Ch.ints IntKind.u32 k r]]))) := by kernel_rfl

theorem loopsTm0 : LoopsOk Tryz.prog ⟨Tryz.f72.ntmps, 7, [(2, Sti opsTi)]⟩ (lb 0 Tryz.f72) := by
  refine loopsOk_of ?_
  have e : loopsIn [(2, Sti opsTi)] (lb 0 Tryz.f72) = [(2, .loop (lb 2 Tryz.f72), Sti opsTi)] := by kernel_rfl
  simp only [e]
  intro x hx
  simp only [List.mem_cons, List.not_mem_nil, or_false] at hx
  rcases hx with rfl
  · exact lokTi

theorem lokTm : LOk Tryz.prog Tryz.f72.ntmps (.block 0 (.loop (lb 0 Tryz.f72))) (Stm opsTm) := by
  refine lokR (fs := []) (xs := []) (m := .nat) (fuel := 7) (sums := [(2, Sti opsTi)]) .nil mixedF loopsTm0 ?_
  intro args hin t e vs hout h hg
  unfold Stm at h
  simp only at h
  split at h
  rotate_left
  · cases h
  rename_i u n w m k r
  simp only [Option.some.injEq] at h
  subst h
  obtain ⟨hc, hgt⟩ := Tr.needs_get hg
  cases hgt
  simp only [List.mem_cons, List.not_mem_nil, or_false, forall_eq_or_imp, forall_eq, decide_eq_true_eq] at hc
  obtain ⟨rfl, rfl, rfl, rfl, h5⟩ := hc
  refine ⟨w.length, fun j => ([.s (.xsl (.ints .u32 u)), .s (.sl .whole 0 0 (w.length + u.length) 1), .s (.xsl (.ints .u32 w)), .s (.nat .i64 w.length), .s (.nat .i64 j)], [some [.ints .u32 (w.length + u.length) (tmN opsTi w u j)]]), .exit 0, rfl, fun j hj => ?_, ?_, rfl⟩
  · simp only [List.length_cons, List.length_nil]
    rw [rlTm]
    refine cond_t (decide_eq_true hj) (nd_of ?_ rfl)
    simp only [List.mem_cons, List.not_mem_nil, or_false, forall_eq_or_imp, forall_eq, decide_eq_true_eq, true_and]; omega
  · simp only [List.length_cons, List.length_nil]
    rw [rlTm, opsTm_tm]
    exact cond_f (decide_eq_false (by omega)) rfl

theorem loopsTm : LoopsOk Tryz.prog ⟨Tryz.f72.ntmps, 7, [(0, Stm opsTm)]⟩ (bodyOf Tryz.f72) := by
  refine loopsOk_of ?_
  have e : loopsIn [(0, Stm opsTm)] (bodyOf Tryz.f72) = [(0, .loop (lb 0 Tryz.f72), Stm opsTm)] := by kernel_rfl
  simp only [e]
  intro x hx
  simp only [List.mem_cons, List.not_mem_nil, or_false] at hx
  rcases hx with rfl
  · exact lokTm

set_option maxRecDepth 100000 in
theorem rTm (o : OpsTm) (w u : List Nat) : runL Tryz.prog [] [] .nat 7 [(0, Stm o)] Tryz.f72 [.s (.xsl (.ints .u32 w)), .s (.xsl (.ints .u32 u))] [] =
  nd [decide (w.length < 9223372036854775808), decide (u.length < 9223372036854775808), decide (w.length + u.length < 9223372036854775808), decide (w.length + u.length ≤ w.length + u.length), decide (w.length + u.length ≤ 4398046511104), decide (w.length < 9223372036854775808), decide (w.length = w.length), decide (w.length + u.length = w.length + u.length), decide (w.length + u.length = w.length + u.length), decide (List.replicate (w.length + u.length) 0 = List.replicate (w.length + u.length) 0), decide (w.length + u.length < 9223372036854775808)]
   (some (.s (.sl .whole 0 0 (w.length + u.length) 1), [some [.ints .u32 (w.length + u.length) (o.tm w u)]])) := by kernel_rfl

def Ktm (o : OpsTm) : FSem := ⟨true, fun args hin => match args, hin with
  | [.s (.xsl (.ints .u32 w)), .s (.xsl (.ints .u32 u))], [] => some (Tr.needs [decide (w.length < 1048576), decide (u.length < 1048576)] (.leaf (.s (.sl .whole 0 0 (w.length + u.length) 1), [some [.ints .u32 (w.length + u.length) (o.tm w u)]])))
  | _, _ => none⟩

theorem okTm : FOk Tryz.prog 72 (Ktm opsTm) := by
  refine fokL (fs := []) (xs := []) (m := .nat) (fuel := 7) (sums := [(0, Stm opsTm)]) .nil fnTimes32 loopsTm ?_
  intro args hin t r h hg
  unfold Ktm at h
  simp only at h
  split at h
  · simp only [Option.some.injEq] at h
    subst h
    obtain ⟨hc, hgt⟩ := Tr.needs_get hg
    cases hgt
    simp only [List.mem_cons, List.not_mem_nil, or_false, forall_eq_or_imp, forall_eq, decide_eq_true_eq] at hc
    rw [rTm]
    refine nd_of ?_ rfl
    simp only [List.mem_cons, List.not_mem_nil, or_false, forall_eq_or_imp, forall_eq, decide_eq_true_eq, true_and, and_true]
    omega
  · cases h

def plN (w u : List Nat) : Nat → List Nat × Nat
  | 0 => (w ++ [0], 0)
  | j + 1 => cond (decide (j < u.length))
      ((plN w u j).1.set j (add32 ((plN w u j).1.getD j 0) (u.getD j 0) (plN w u j).2), car32 ((plN w u j).1.getD j 0) (u.getD j 0) (plN w u j).2)
      ((plN w u j).1.set j (add32 ((plN w u j).1.getD j 0) 0 (plN w u j).2), car32 ((plN w u j).1.getD j 0) 0 (plN w u j).2)

structure OpsPn where
  pn : List Nat → List Nat → List Nat

def opsPn : OpsPn := ⟨fun w u => (plN w u (w.length + 1)).1⟩

theorem opsPn_pn : opsPn.pn = fun w u => (plN w u (w.length + 1)).1 := by kernel_rfl

def Spn (o : OpsPn) : LSem := ⟨[1, 5, 6, 19, 20], [], fun args hin => match args, hin with
  | [.s (.xsl (.ints .u32 u)), .s (.sl .whole 0 0 n 1), .s (.nat .u32 0), .s (.nat .i64 m), .s (.nat .i64 0)], [[.ints .u32 k r]] =>
    some (Tr.needs [decide (m = n), decide (n = r.dropLast.length + 1), decide (k = n), decide (r = r.dropLast ++ [0]), decide (n < 9223372036854775808), decide (u.length < 9223372036854775808)] (.leaf (.normal, [], [some [.ints .u32 k (o.pn r.dropLast u)]])))
  | _, _ => none⟩

set_option maxRecDepth 100000 in
theorem rlPn (o : OpsPn) (u r : List Nat) (n c m j k : Nat) : runR Tryz.prog [(106, Kadd32)] [] .nat 7 [] Tryz.f73 0 (Spn o) 1 [.s (.xsl (.ints .u32 u)), .s (.sl .whole 0 0 n 1), .s (.nat .u32 c), .s (.nat .i64 m), .s (.nat .i64 j)] [some [.ints .u32 k r]] =
(cond (decide (j < m))
 (nd [decide (u.length < 9223372036854775808)]
 (cond (decide (j < u.length))
 (nd [decide (j < u.length), decide (j < u.length), decide (j < n), decide (j < k), decide (j < n), decide (j < k), decide (j + 1 < 9223372036854775808)]
 (some (Ex.normal, [AV.s (SV.xsl (XC.ints IntKind.u32 u)), AV.s (SV.sl LK.whole 0 0 n 1), AV.s (SV.nat IntKind.u32 (car32 (r.getD j 0) (u.getD j 0) c)), AV.s (SV.nat IntKind.i64 m), AV.s (SV.nat IntKind.i64 (j + 1))], [some [Ch.ints IntKind.u32 k (r.set j (add32 (r.getD j 0) (u.getD j 0) c))]])))
 (nd [decide (j < n), decide (j < k), decide (j < n), decide (j < k), decide (j + 1 < 9223372036854775808)]
 (some (Ex.normal, [AV.s (SV.xsl (XC.ints IntKind.u32 u)), AV.s (SV.sl LK.whole 0 0 n 1), AV.s (SV.nat IntKind.u32 (car32 (r.getD j 0) 0 c)), AV.s (SV.nat IntKind.i64 m), AV.s (SV.nat IntKind.i64 (j + 1))], [some [Ch.ints IntKind.u32 k (r.set j (add32 (r.getD j 0) 0 c))]])))))
 (some (Ex.exit 0, [], [some [Ch.ints IntKind.u32 k r]]))) := by kernel_rfl

theorem lokPn : LOk Tryz.prog Tryz.f73.ntmps (.block 0 (.loop (lb 0 Tryz.f73))) (Spn opsPn) := by
  refine lokR (fs := [(106, Kadd32)]) (xs := []) (m := .nat) (fuel := 7) (sums := []) (.cons okAdd32 .nil) mixedF (loopsOk_none rfl _) ?_
  intro args hin t e vs hout h hg
  unfold Spn at h
  simp only at h
  split at h
  rotate_left
  · cases h
  rename_i u n m k r
  simp only [Option.some.injEq] at h
  subst h
  obtain ⟨hc, hgt⟩ := Tr.needs_get hg
  cases hgt
  simp only [List.mem_cons, List.not_mem_nil, or_false, forall_eq_or_imp, forall_eq, decide_eq_true_eq] at hc
  obtain ⟨rfl, h2, rfl, h4, h5, h6⟩ := hc
  generalize r.dropLast = w at *
  subst h4
  subst h2
  refine ⟨w.length + 1, fun j => ([.s (.xsl (.ints .u32 u)), .s (.sl .whole 0 0 (w.length + 1) 1), .s (.nat .u32 (plN w u j).2), .s (.nat .i64 (w.length + 1)), .s (.nat .i64 j)], [some [.ints .u32 (w.length + 1) (plN w u j).1]]), .exit 0, rfl, fun j hj => ?_, ?_, rfl⟩
  · simp only [List.length_cons, List.length_nil]
    rw [rlPn]
    refine cond_t (decide_eq_true hj) (nd_of ?_ ?_)
    · simp only [List.mem_cons, List.not_mem_nil, or_false, forall_eq, decide_eq_true_eq]; exact h6
    · rw [plN]
      cases hd : decide (j < u.length) with
      | true =>
        have hd' := of_decide_eq_true hd
        refine cond_t rfl (nd_of ?_ rfl)
        simp only [List.mem_cons, List.not_mem_nil, or_false, forall_eq_or_imp, forall_eq, decide_eq_true_eq, true_and]; omega
      | false =>
        refine cond_f rfl (nd_of ?_ rfl)
        simp only [List.mem_cons, List.not_mem_nil, or_false, forall_eq_or_imp, forall_eq, decide_eq_true_eq]; omega
  · simp only [List.length_cons, List.length_nil]
    rw [rlPn, opsPn_pn]
    exact cond_f (decide_eq_false (by omega)) rfl

theorem loopsPn : LoopsOk Tryz.prog ⟨Tryz.f73.ntmps, 7, [(0, Spn opsPn)]⟩ (bodyOf Tryz.f73) := by
  refine loopsOk_of ?_
  have e : loopsIn [(0, Spn opsPn)] (bodyOf Tryz.f73) = [(0, .loop (lb 0 Tryz.f73), Spn opsPn)] := by kernel_rfl
  simp only [e]
  intro x hx
  simp only [List.mem_cons, List.not_mem_nil, or_false] at hx
  rcases hx with rfl
  · exact lokPn

set_option maxRecDepth 100000 in
theorem rPn (o : OpsPn) (w u : List Nat) : runL Tryz.prog [] [] .nat 7 [(0, Spn o)] Tryz.f73 [.s (.xsl (.ints .u32 w)), .s (.xsl (.ints .u32 u))] [] =
  nd [decide (w.length < 9223372036854775808), decide (w.length + 1 < 9223372036854775808), decide (w.length + 1 ≤ 4398046511104), decide (0 + w.length ≤ 4398046511104), decide (0 + w.length = 0 + w.length), decide (0 + w.length + 1 ≤ 4398046511104), decide (0 + w.length + 1 < 9223372036854775808),
     decide (0 + w.length + 1 = 0 + w.length + 1), decide (0 + w.length + 1 = (w ++ [0]).dropLast.length + 1), decide (0 + w.length + 1 = 0 + w.length + 1), decide (w ++ [0] = (w ++ [0]).dropLast ++ [0]), decide (0 + w.length + 1 < 9223372036854775808), decide (u.length < 9223372036854775808)]
   (some (.s (.sl .whole 0 0 (0 + w.length + 1) 1), [some [.ints .u32 (0 + w.length + 1) (o.pn (w ++ [0]).dropLast u)]])) := by kernel_rfl

def Kpn (o : OpsPn) : FSem := ⟨true, fun args hin => match args, hin with
  | [.s (.xsl (.ints .u32 w)), .s (.xsl (.ints .u32 u))], [] => some (Tr.needs [decide (w.length < 1048576), decide (u.length < 1048576)] (.leaf (.s (.sl .whole 0 0 (w.length + 1) 1), [some [.ints .u32 (w.length + 1) (o.pn w u)]])))
  | _, _ => none⟩

theorem okPn : FOk Tryz.prog 73 (Kpn opsPn) := by
  refine fokL (fs := []) (xs := []) (m := .nat) (fuel := 7) (sums := [(0, Spn opsPn)]) .nil fnPlus32 loopsPn ?_
  intro args hin t r h hg
  unfold Kpn at h
  simp only at h
  split at h
  · simp only [Option.some.injEq] at h
    subst h
    obtain ⟨hc, hgt⟩ := Tr.needs_get hg
    cases hgt
    simp only [List.mem_cons, List.not_mem_nil, or_false, forall_eq_or_imp, forall_eq, decide_eq_true_eq] at hc
    rw [rPn, Nat.zero_add, List.dropLast_concat]
    refine nd_of ?_ rfl
    simp only [List.mem_cons, List.not_mem_nil, or_false, forall_eq_or_imp, forall_eq, decide_eq_true_eq, true_and, and_true]
    omega
  · cases h

end Go.Proofs.YtdhnkkogbbhnmaaGreat

namespace Go.Proofs.YtdhnkkogbbhnmaaGreat
open Go
structure OpsR0 extends OpsWd, OpsMod, OpsTm, OpsPn, OpsLs

def opsR0 : OpsR0 := { toOpsWd := opsWd, toOpsMod := opsMod, toOpsTm := opsTm, toOpsPn := opsPn, toOpsLs := opsLs }

def envR0 (o : OpsR0) : List (Nat × FSem) := [(71, Kwd o.toOpsWd), (74, Kmod o.toOpsMod), (75, Kby o.toOpsWd), (72, Ktm o.toOpsTm), (73, Kpn o.toOpsPn), (114, Kless o.toOpsLs), (107, Kord)]

theorem envR0_ok : EnvOk ⟨Tryz.prog, envR0 opsR0, []⟩ := .cons okWd (.cons okMod (.cons okBy (.cons okTm (.cons okPn (.cons okLess (.cons okOrd .nil))))))

theorem fnReduce : Fn Tryz.prog 70 Tryz.f70 := ⟨mixedF, Tryz.func70, by kernel_rfl, of_decide_eq_true (by kernel_rfl)⟩

theorem fnScan : Fn Tryz.prog 78 Tryz.f78 := ⟨mixedF, Tryz.func78, by kernel_rfl, of_decide_eq_true (by kernel_rfl)⟩

theorem fnMad : Fn Tryz.prog 42 Tryz.f42 := ⟨mixedF, Tryz.func42, by kernel_rfl, of_decide_eq_true (by kernel_rfl)⟩

theorem rReduce (o : OpsR0) (b : List Nat) : runB Tryz.prog (envR0 o) [] .nat 7 Tryz.f70 [.s (.xsl (.bss [b]))] [] =
  nd [decide (b.length ≤ 4398046511104), decide (b.length = b.length), decide (b.length < 1099511627776), decide ((b.length + 3) / 4 = (b.length + 3) / 4), decide (0 < (o.wd b).length), decide ((o.wd b).length < 1048576), decide (8 ≤ (o.mo (o.wd b)).length)]
    (some (.agg [.ints .u8 32 (o.by' (o.mo (o.wd b)))], [])) := by kernel_rfl

theorem rScan (o : OpsR0) (k : List Nat) : runB Tryz.prog (envR0 o) [] .nat 7 Tryz.f78 [.agg [.ints .u8 32 k]] [] =
  nd [decide (k.length < 1099511627776), decide ((k.length + 3) / 4 = (k.length + 3) / 4), decide ((o.wd k).length ≤ ord.length), decide ((o.wd k).length < 9223372036854775808)]
    (some (.s (.bool (decide (o.ls (o.wd k) ord = 1))), [])) := by kernel_rfl

theorem rMad (o : OpsR0) (a b c : List Nat) : runB Tryz.prog (envR0 o) [] .nat 7 Tryz.f42 [.agg [.ints .u8 32 a], .agg [.ints .u8 32 b], .agg [.ints .u8 32 c]] [] =
  nd [decide (a.length < 1099511627776), decide (b.length < 1099511627776), decide ((a.length + 3) / 4 = (a.length + 3) / 4), decide ((b.length + 3) / 4 = (b.length + 3) / 4), decide ((o.wd a).length < 1048576), decide ((o.wd b).length < 1048576), decide (c.length < 1099511627776), decide ((o.wd a).length + (o.wd b).length = (o.wd a).length + (o.wd b).length), decide ((c.length + 3) / 4 = (c.length + 3) / 4), decide ((o.tm (o.wd a) (o.wd b)).length < 1048576), decide ((o.wd c).length < 1048576), decide ((o.tm (o.wd a) (o.wd b)).length + 1 = (o.tm (o.wd a) (o.wd b)).length + 1), decide (0 < (o.pn (o.tm (o.wd a) (o.wd b)) (o.wd c)).length), decide ((o.pn (o.tm (o.wd a) (o.wd b)) (o.wd c)).length < 1048576), decide (8 ≤ (o.mo (o.pn (o.tm (o.wd a) (o.wd b)) (o.wd c))).length)]
    (some (.agg [.ints .u8 32 (o.by' (o.mo (o.pn (o.tm (o.wd a) (o.wd b)) (o.wd c))))], [])) := by kernel_rfl

theorem wdN_len (b : List Nat) : ∀ i, (wdN b i).length = (b.length + 3) / 4
  | 0 => List.length_replicate
  | i + 1 => by rw [wdN, List.length_set, wdN_len b i]

theorem byN_len (w : List Nat) : ∀ i, (byN w i).length = 32
  | 0 => List.length_replicate
  | i + 1 => by rw [byN, List.length_set, byN_len w i]

theorem dblW_len (c : Nat) (r : List Nat) : ∀ i, (dblW c r i).1.length = r.length
  | 0 => rfl
  | i + 1 => by rw [dblW, List.length_set, dblW_len c r i]

theorem lessW_len (r l x : List Nat) : ∀ i, (lessW r l x i).1.length = x.length
  | 0 => rfl
  | i + 1 => by rw [lessW, List.length_set, lessW_len r l x i]

theorem mdS_len {w : List Nat} {s : Md} {j : Nat} (h : s.r.length = 8 ∧ s.x.length = 8) : (mdS opsMd w s j).r.length = 8 ∧ (mdS opsMd w s j).x.length = 8 := by
  obtain ⟨r, x, b⟩ := s
  cases hd : decide (opsMd.bo (opsMd.sh (w.getD (j / 32) 0 / 2 ^ (j % 32) &&& 1) r) ord x = 0) with
  | true => rw [mdS_t hd, opsMd_sh, opsMd_su]; exact ⟨(lessW_len _ _ _ _).trans h.2, (dblW_len _ _ _).trans h.1⟩
  | false => rw [mdS_f hd, opsMd_sh, opsMd_su]; exact ⟨(dblW_len _ _ _).trans h.1, (lessW_len _ _ _ _).trans h.2⟩

theorem mdN_len (w : List Nat) (n : Nat) : ∀ i, (mdN opsMd w n i).r.length = 8 ∧ (mdN opsMd w n i).x.length = 8
  | 0 => ⟨rfl, rfl⟩
  | i + 1 => mdS_len (mdN_len w n i)

theorem modW_len (w : List Nat) : (modW w).length = 8 := (mdN_len w _ _).1

theorem tmI_len (u : List Nat) (i a : Nat) (r : List Nat) : ∀ j, (tmI u i a r j).1.length = r.length
  | 0 => rfl
  | j + 1 => by rw [tmI, List.length_set, tmI_len u i a r j]

theorem tmN_len (w u : List Nat) : ∀ i, (tmN opsTi w u i).length = w.length + u.length
  | 0 => List.length_replicate
  | i + 1 => by rw [tmN, List.length_set, opsTi_tl]; exact (tmI_len _ _ _ _ _).trans (tmN_len w u i)

theorem plN_len (w u : List Nat) : ∀ i, (plN w u i).1.length = w.length + 1
  | 0 => by rw [plN, List.length_append]; rfl
  | i + 1 => by
    rw [plN]
    cases decide (i < u.length)
    · rw [cond_false, List.length_set, plN_len w u i]
    · rw [cond_true, List.length_set, plN_len w u i]

def redC (b : List Nat) : List Nat := byN (modW (wdN b b.length)) 32

def scanC (k : List Nat) : Bool := decide (lsN (wdN k k.length) ord (wdN k k.length).length = 1)

def madC (a b c : List Nat) : List Nat :=
  byN (modW (plN (tmN opsTi (wdN a a.length) (wdN b b.length) (wdN a a.length).length) (wdN c c.length) ((tmN opsTi (wdN a a.length) (wdN b b.length) (wdN a a.length).length).length + 1)).1) 32

structure OpsSc where
  red : List Nat → List Nat
  scan : List Nat → Bool
  mad : List Nat → List Nat → List Nat → List Nat

def opsSc : OpsSc := ⟨redC, scanC, madC⟩

theorem opsSc_red : opsSc.red = redC := by kernel_rfl

theorem opsSc_scan : opsSc.scan = scanC := by kernel_rfl

theorem opsSc_mad : opsSc.mad = madC := by kernel_rfl

theorem opsR0_wd : opsR0.wd = fun b => wdN b b.length := by kernel_rfl

theorem opsR0_by : opsR0.by' = fun w => byN w 32 := by kernel_rfl

theorem opsR0_mo : opsR0.mo = modW := by kernel_rfl

theorem opsR0_tm : opsR0.tm = fun w u => tmN opsTi w u w.length := by kernel_rfl

theorem opsR0_pn : opsR0.pn = fun w u => (plN w u (w.length + 1)).1 := by kernel_rfl

theorem opsR0_ls : opsR0.ls = fun w o => lsN w o w.length := by kernel_rfl

def Kred (o : OpsSc) : FSem := ⟨true, fun args hin => match args, hin with
  | [.s (.xsl (.bss [b]))], [] => some (Tr.needs [decide (0 < b.length), decide (b.length < 1048576)] (.leaf (.agg [.ints .u8 32 (o.red b)], [])))
  | _, _ => none⟩

theorem okRed : FOk Tryz.prog 70 (Kred opsSc) := by
  refine fokB (fs := envR0 opsR0) (xs := []) (m := .nat) (fuel := 7) envR0_ok fnReduce ?_
  intro args hin t r h hg
  unfold Kred at h
  simp only at h
  split at h
  · rename_i b
    simp only [Option.some.injEq] at h
    subst h
    obtain ⟨hc, hgt⟩ := Tr.needs_get hg
    cases hgt
    simp only [List.mem_cons, List.not_mem_nil, or_false, forall_eq_or_imp, forall_eq, decide_eq_true_eq] at hc
    rw [rReduce, opsR0_wd, opsR0_by, opsR0_mo, opsSc_red]
    refine nd_of ?_ rfl
    simp only [List.mem_cons, List.not_mem_nil, or_false, forall_eq_or_imp, forall_eq, decide_eq_true_eq, true_and, and_true, wdN_len, modW_len]
    omega
  · cases h

def Kscan (o : OpsSc) : FSem := ⟨false, fun args hin => match args, hin with
  | [.agg [.ints .u8 32 k]], [] => some (Tr.needs [decide (k.length = 32)] (.leaf (.s (.bool (o.scan k)), [])))
  | _, _ => none⟩

theorem okScan : FOk Tryz.prog 78 (Kscan opsSc) := by
  refine fokB (fs := envR0 opsR0) (xs := []) (m := .nat) (fuel := 7) envR0_ok fnScan ?_
  intro args hin t r h hg
  unfold Kscan at h
  simp only at h
  split at h
  · rename_i k
    simp only [Option.some.injEq] at h
    subst h
    obtain ⟨hc, hgt⟩ := Tr.needs_get hg
    cases hgt
    simp only [List.mem_cons, List.not_mem_nil, or_false, forall_eq_or_imp, forall_eq, decide_eq_true_eq] at hc
    have ho : ord.length = 8 := rfl
    rw [rScan, opsR0_wd, opsR0_ls, opsSc_scan]
    refine nd_of ?_ rfl
    simp only [List.mem_cons, List.not_mem_nil, or_false, forall_eq_or_imp, forall_eq, decide_eq_true_eq, true_and, and_true, wdN_len]
    omega
  · cases h

def Kmad (o : OpsSc) : FSem := ⟨false, fun args hin => match args, hin with
  | [.agg [.ints .u8 32 a], .agg [.ints .u8 32 b], .agg [.ints .u8 32 c]], [] => some (Tr.needs [decide (a.length = 32), decide (b.length = 32), decide (c.length = 32)] (.leaf (.agg [.ints .u8 32 (o.mad a b c)], [])))
  | _, _ => none⟩

theorem okMad : FOk Tryz.prog 42 (Kmad opsSc) := by
  refine fokB (fs := envR0 opsR0) (xs := []) (m := .nat) (fuel := 7) envR0_ok fnMad ?_
  intro args hin t r h hg
  unfold Kmad at h
  simp only at h
  split at h
  · rename_i a b c
    simp only [Option.some.injEq] at h
    subst h
    obtain ⟨hc, hgt⟩ := Tr.needs_get hg
    cases hgt
    simp only [List.mem_cons, List.not_mem_nil, or_false, forall_eq_or_imp, forall_eq, decide_eq_true_eq] at hc
    rw [rMad, opsR0_wd, opsR0_by, opsR0_mo, opsR0_tm, opsR0_pn, opsSc_mad]
    refine nd_of ?_ rfl
    simp only [List.mem_cons, List.not_mem_nil, or_false, forall_eq_or_imp, forall_eq, decide_eq_true_eq, true_and, and_true, wdN_len, modW_len, tmN_len, plN_len]
    omega
  · cases h

end Go.Proofs.YtdhnkkogbbhnmaaGreat

namespace Go.Proofs.YtdhnkkogbbhnmaaGreat
open Go
structure OpsSg extends OpsPt, OpsSc, OpsH5 where
  cl : List Nat → List Nat

def opsSg : OpsSg := { toOpsPt := opsPt, toOpsSc := opsSc, toOpsH5 := opsH5, cl := clF }

theorem opsSg_sc : opsSg.toOpsSc = opsSc := by kernel_rfl

theorem opsSg_h5 : opsSg.toOpsH5 = opsH5 := by kernel_rfl

theorem opsSg_cl : opsSg.cl = clF := by kernel_rfl

def Kcl (o : OpsSg) : FSem := ⟨false, fun args hin => match args, hin with
  | [.agg [.ints .u8 32 k]], [] => some (.leaf (.agg [.ints .u8 32 (o.cl k)], []))
  | _, _ => none⟩

theorem okCl : FOk Tryz.prog 47 (Kcl opsSg) := by
  have e : Kcl opsSg = F18 := by
    unfold Kcl F18
    rw [opsSg_cl]
    rfl
  rw [e]
  exact ok18

def envSg (o : OpsSg) : List (Nat × FSem) := (47, Kcl o) :: (64, Ksum512 o.toOpsH5) :: (70, Kred o.toOpsSc) :: (78, Kscan o.toOpsSc) :: (42, Kmad o.toOpsSc) :: envPt o.toOpsPt

theorem envSg_ok : EnvOk ⟨Tryz.prog, envSg opsSg, []⟩ := .cons okCl (.cons okSum512 (.cons okRed (.cons okScan (.cons okMad envPt_ok))))

end Go.Proofs.YtdhnkkogbbhnmaaGreat

namespace Go.Proofs.YtdhnkkogbbhnmaaGreat
open Go
theorem fnHalves : Fn Tryz.prog 37 Tryz.f37 := ⟨mixedF, Tryz.func37, by kernel_rfl, of_decide_eq_true (by kernel_rfl)⟩

theorem fnReduceS : Fn Tryz.prog 41 Tryz.f41 := ⟨mixedF, Tryz.func41, by kernel_rfl, of_decide_eq_true (by kernel_rfl)⟩

theorem fnPublic : Fn Tryz.prog 27 Tryz.f27 := ⟨mixedF, Tryz.func27, by kernel_rfl, of_decide_eq_true (by kernel_rfl)⟩

def hsO (o : OpsSg) (s : List Nat) : List Nat := o.cl (List.take 32 (List.drop 0 (o.s5 [s])))

def hpO (o : OpsSg) (s : List Nat) : List Nat := List.take 32 (List.drop 32 (o.s5 [s]))

def rdO (o : OpsSg) (ps : List (List Nat)) : List Nat := o.red (o.s5 ps)

theorem rHalves (o : OpsSg) (s : List Nat) : runB Tryz.prog (envSg o) [] .nat 20 Tryz.f37 [.agg [.ints .u8 32 s]] [] =
  nd [okParts [s]] (some (.agg [.ints .u8 32 (hsO o s), .ints .u8 32 (hpO o s)], [])) := by kernel_rfl

theorem rReduceS (o : OpsSg) (ps : List (List Nat)) : runB Tryz.prog (envSg o) [] .nat 20 Tryz.f41 [.s (.xsl (.bss ps))] [] =
  nd [okParts ps, decide (0 < (o.s5 ps).length), decide ((o.s5 ps).length < 1048576)] (some (.agg [.ints .u8 32 (rdO o ps)], [])) := by kernel_rfl

structure OpsSh extends OpsSg where
  hs : List Nat → List Nat
  hp : List Nat → List Nat
  rd : List (List Nat) → List Nat

def opsSh : OpsSh := { toOpsSg := opsSg, hs := hsO opsSg, hp := hpO opsSg, rd := rdO opsSg }

theorem opsSh_hs : opsSh.hs = hsO opsSg := by kernel_rfl

theorem opsSh_hp : opsSh.hp = hpO opsSg := by kernel_rfl

theorem opsSh_rd : opsSh.rd = rdO opsSg := by kernel_rfl

theorem opsSg_s5 (ps : List (List Nat)) : opsSg.s5 ps = sumF5 ps := by
  rw [opsSg_h5]
  exact congrFun opsH5_s5 ps

theorem s5_len (ps : List (List Nat)) : (opsSg.s5 ps).length = 64 := by
  rw [opsSg_s5]
  exact sumF5_len ps

def Khalves (o : OpsSh) : FSem := ⟨false, fun args hin => match args, hin with
  | [.agg [.ints .u8 32 s]], [] => some (.need (okParts [s]) (.leaf (.agg [.ints .u8 32 (o.hs s), .ints .u8 32 (o.hp s)], [])))
  | _, _ => none⟩

theorem okHalves : FOk Tryz.prog 37 (Khalves opsSh) := by
  refine fokB (fs := envSg opsSg) (xs := []) (m := .nat) (fuel := 20) envSg_ok fnHalves ?_
  intro args hin t r h hg
  unfold Khalves at h
  rw [opsSh_hs, opsSh_hp] at h
  simp only at h
  split at h
  · rename_i s
    simp only [Option.some.injEq] at h
    subst h
    obtain ⟨hc, hgt⟩ := need1 hg
    cases hgt
    rw [rHalves]
    refine nd_of ?_ rfl
    simp only [List.mem_cons, List.not_mem_nil, or_false, forall_eq]
    exact hc
  · cases h

def KreduceS (o : OpsSh) : FSem := ⟨true, fun args hin => match args, hin with
  | [.s (.xsl (.bss ps))], [] => some (.need (okParts ps) (.leaf (.agg [.ints .u8 32 (o.rd ps)], [])))
  | _, _ => none⟩

theorem okReduceS : FOk Tryz.prog 41 (KreduceS opsSh) := by
  refine fokB (fs := envSg opsSg) (xs := []) (m := .nat) (fuel := 20) envSg_ok fnReduceS ?_
  intro args hin t r h hg
  unfold KreduceS at h
  rw [opsSh_rd] at h
  simp only at h
  split at h
  · rename_i ps
    simp only [Option.some.injEq] at h
    subst h
    obtain ⟨hc, hgt⟩ := need1 hg
    cases hgt
    rw [rReduceS]
    refine nd_of ?_ rfl
    simp only [List.mem_cons, List.not_mem_nil, or_false, forall_eq_or_imp, forall_eq, decide_eq_true_eq, s5_len]
    exact ⟨hc, by decide, by decide⟩
  · cases h

def envSh (o : OpsSh) : List (Nat × FSem) := (37, Khalves o) :: (41, KreduceS o) :: envSg o.toOpsSg

theorem envSh_ok : EnvOk ⟨Tryz.prog, envSh opsSh, []⟩ := .cons okHalves (.cons okReduceS envSg_ok)

/-- The point of a seed. -/
def pbP (o : OpsSh) (s : List Nat) : L4 := o.mp o.bas (o.hs s)

theorem rPublic (o : OpsSh) (s : List Nat) : runB Tryz.prog (envSh o) [] .nat 20 Tryz.f27 [.agg [.ints .u8 32 s]] [] =
  nd [okParts [s], o.l5 o.bas.x, o.l5 o.bas.y, o.l5 o.bas.z, o.l5 o.bas.t, o.l5 (pbP o s).x, o.l5 (pbP o s).y, o.l5 (pbP o s).z] (some (.agg [.ints .u8 32 (o.enc (pbP o s))], [])) := by kernel_rfl

end Go.Proofs.YtdhnkkogbbhnmaaGreat

namespace Go.Proofs.YtdhnkkogbbhnmaaGreat
open Go
theorem fnMake : Fn Tryz.prog 19 Tryz.f19 := ⟨mixedF, Tryz.func19, by kernel_rfl, of_decide_eq_true (by kernel_rfl)⟩

theorem fnCheck : Fn Tryz.prog 43 Tryz.f43 := ⟨mixedF, Tryz.func43, by kernel_rfl, of_decide_eq_true (by kernel_rfl)⟩

def mkA (o : OpsSh) (s : List Nat) : List Nat := o.enc (pbP o s)

def mkr (o : OpsSh) (s : List Nat) (ps : List (List Nat)) : List Nat := o.rd (o.hp s :: ps)

def mkR (o : OpsSh) (s : List Nat) (ps : List (List Nat)) : L4 := o.mp o.bas (mkr o s ps)

def mkF (o : OpsSh) (s : List Nat) (ps : List (List Nat)) : List Nat := o.enc (mkR o s ps)

def mkk (o : OpsSh) (s : List Nat) (ps : List (List Nat)) : List Nat := o.rd (mkF o s ps :: mkA o s :: ps)

def mkB (o : OpsSh) (s : List Nat) (ps : List (List Nat)) : List Nat := o.mad (mkk o s ps) (o.hs s) (mkr o s ps)

def mkSig (o : OpsSh) (s : List Nat) (ps : List (List Nat)) : List Nat := mkF o s ps ++ mkB o s ps

set_option maxRecDepth 100000 in
theorem rMake (o : OpsSh) (s t : List Nat) : runB Tryz.prog (envSh o) [] .nat 20 Tryz.f19 [.agg [.ints .u8 32 s], .s (.sl .whole 0 0 1 1)] [[.one (.xsl (.ints .u8 t))]] =
  nd [okParts [s], o.l5 o.bas.x, o.l5 o.bas.y, o.l5 o.bas.z, o.l5 o.bas.t, o.l5 (pbP o s).x, o.l5 (pbP o s).y, o.l5 (pbP o s).z, okParts [o.hp s, t],
    o.l5 o.bas.x, o.l5 o.bas.y, o.l5 o.bas.z, o.l5 o.bas.t, o.l5 (mkR o s [t]).x, o.l5 (mkR o s [t]).y, o.l5 (mkR o s [t]).z, okParts [mkF o s [t], mkA o s, t],
    decide ((mkk o s [t]).length = 32), decide ((o.hs s).length = 32), decide ((mkr o s [t]).length = 32)]
   (some (.agg [.ints .u8 (32 + 32) (mkSig o s [t])], [some [.one (.xsl (.ints .u8 t))]])) := by kernel_rfl

def ckF (g : List Nat) : List Nat := List.take 32 (List.drop 0 g)

def ckB (g : List Nat) : List Nat := List.take 32 (List.drop 32 g)

def ckk (o : OpsSh) (p g : List Nat) (ps : List (List Nat)) : List Nat := o.rd (ckF g :: p :: ps)

def ckS (o : OpsSh) (g : List Nat) : L4 := o.mp o.bas (ckB g)

def ckN (o : OpsSh) (p : List Nat) : L4 := o.png (o.dkp p)

def ckM (o : OpsSh) (p g : List Nat) (ps : List (List Nat)) : L4 := o.mp (ckN o p) (ckk o p g ps)

def ckE (o : OpsSh) (p g : List Nat) (ps : List (List Nat)) : L4 := o.pls (ckS o g) (ckM o p g ps)

set_option maxRecDepth 100000 in
theorem rCheck (o : OpsSh) (p g t : List Nat) : runB Tryz.prog (envSh o) [] .nat 20 Tryz.f43 [.agg [.ints .u8 32 p], .agg [.ints .u8 64 g], .s (.sl .whole 0 0 1 1)] [[.one (.xsl (.ints .u8 t))]] =
  nd [o.dok p, o.l5 (o.dkp p).x, o.l5 (o.dkp p).y, o.l5 (o.dkp p).z, o.l5 (o.dkp p).t]
  (cond (o.tny (o.dkp p)) (some (.s (.nat .i64 70), [some [.one (.xsl (.ints .u8 t))]]))
  (nd [decide ((ckB g).length = 32)]
  (cond (!o.scan (ckB g)) (some (.s (.nat .i64 70), [some [.one (.xsl (.ints .u8 t))]]))
  (nd [o.dok (ckF g), okParts [ckF g, p, t], o.l5 o.bas.x, o.l5 o.bas.y, o.l5 o.bas.z, o.l5 o.bas.t, o.l5 (o.dkp p).x, o.l5 (o.dkp p).t,
    o.l5 (ckN o p).x, o.l5 (ckN o p).y, o.l5 (ckN o p).z, o.l5 (ckN o p).t, o.l5 (ckS o g).x, o.l5 (ckS o g).y, o.l5 (ckS o g).z, o.l5 (ckS o g).t,
    o.l5 (ckM o p g [t]).x, o.l5 (ckM o p g [t]).y, o.l5 (ckM o p g [t]).z, o.l5 (ckM o p g [t]).t, o.l5 (ckE o p g [t]).x, o.l5 (ckE o p g [t]).y, o.l5 (ckE o p g [t]).z]
  (cond (!decide (o.enc (ckE o p g [t]) = ckF g)) (some (.s (.nat .i64 70), [some [.one (.xsl (.ints .u8 t))]]))
    (some (.s (.nat .i64 0), [some [.one (.xsl (.ints .u8 t))]]))))))) := by kernel_rfl

end Go.Proofs.YtdhnkkogbbhnmaaGreat

namespace Go.Proofs.YtdhnkkogbbhnmaaGreat
open Go
def ckOk (o : OpsSh) (p g : List Nat) (ps : List (List Nat)) : Bool :=
  o.dok p && (!o.tny (o.dkp p) && (o.scan (ckB g) && (o.dok (ckF g) && decide (o.enc (ckE o p g ps) = ckF g))))

structure OpsSi extends OpsSh where
  pub : List Nat → List Nat
  sig : List Nat → List (List Nat) → List Nat
  cok : List Nat → List Nat → List (List Nat) → Bool

def opsSi : OpsSi := { toOpsSh := opsSh, pub := mkA opsSh, sig := mkSig opsSh, cok := ckOk opsSh }

theorem opsSi_sh : opsSi.toOpsSh = opsSh := by kernel_rfl

theorem opsSi_pub : opsSi.pub = mkA opsSh := by kernel_rfl

theorem opsSi_sig : opsSi.sig = mkSig opsSh := by kernel_rfl

theorem opsSi_cok : opsSi.cok = ckOk opsSh := by kernel_rfl

theorem opsSh_opsM : opsSh.toOpsM = opsM := by kernel_rfl

theorem opsSh_opsP : opsSh.toOpsP = opsP := by kernel_rfl

theorem opsSh_l5 (x : List Nat) : opsSh.l5 x = decide (x.length = 5) := by rw [opsSh_opsP]; exact congrFun opsP_l5 x

theorem opsSh_mp (p : L4) (k : List Nat) : opsSh.mp p k = mpO opsP p k := by rw [opsSh_opsM]; exact congrFun (congrFun opsM_mp p) k

theorem opsSh_bas : opsSh.bas = basL ops := by rw [opsSh_opsP]; exact opsP_bas

theorem opsSh_enc (p : L4) : opsSh.enc p = encL ops p := by rw [opsSh_opsP]; exact congrFun opsP_enc p

theorem opsSh_dk : opsSh.toOpsDk = opsDk := by kernel_rfl

theorem opsSh_dkp (k : List Nat) : opsSh.dkp k = dkP opsRt k := by rw [opsSh_dk]; exact congrFun opsDk_dkp k

theorem opsSh_dok (k : List Nat) : opsSh.dok k = dkOk opsRt k := by rw [opsSh_dk]; exact congrFun opsDk_dok k

theorem opsSh_pt : opsSh.toOpsPt = opsPt := by kernel_rfl

theorem opsSh_pls (p q : L4) : opsSh.pls p q = sumL opsP p q := by rw [opsSh_pt]; exact congrFun (congrFun opsPt_pls p) q

theorem opsSh_png (p : L4) : opsSh.png p = ngL ops p := by rw [opsSh_pt]; exact congrFun opsPt_png p

theorem opsSh_tny (p : L4) : opsSh.tny p = tnL opsP p := by rw [opsSh_pt]; exact congrFun opsPt_tny p

theorem opsSh_sc : opsSh.toOpsSc = opsSc := by kernel_rfl

theorem opsSh_scan (k : List Nat) : opsSh.scan k = scanC k := by rw [opsSh_sc]; exact congrFun opsSc_scan k

theorem opsSh_mad (a b c : List Nat) : opsSh.mad a b c = madC a b c := by rw [opsSh_sc]; exact congrFun (congrFun (congrFun opsSc_mad a) b) c

theorem opsSh_rdf (ps : List (List Nat)) : opsSh.rd ps = redC (sumF5 ps) := by
  rw [opsSh_rd]
  unfold rdO
  rw [opsSg_s5, opsSg_sc]
  exact congrFun opsSc_red _

theorem opsSh_hsf (s : List Nat) : opsSh.hs s = clF (List.take 32 (List.drop 0 (sumF5 [s]))) := by
  rw [opsSh_hs]
  unfold hsO
  rw [opsSg_s5, opsSg_cl]

theorem opsSh_hpf (s : List Nat) : opsSh.hp s = List.take 32 (List.drop 32 (sumF5 [s])) := by
  rw [opsSh_hp]
  unfold hpO
  rw [opsSg_s5]

theorem redC_len (b : List Nat) : (redC b).length = 32 := byN_len _ _

theorem rd_len (ps : List (List Nat)) : (opsSh.rd ps).length = 32 := by rw [opsSh_rdf]; exact redC_len _

theorem hp_len (s : List Nat) : (opsSh.hp s).length = 32 := by
  rw [opsSh_hpf, List.length_take, List.length_drop, sumF5_len]
  decide

theorem hs_len (s : List Nat) : (opsSh.hs s).length = 32 := by
  have hl : ∀ k : List Nat, (clF k).length = k.length := fun k => by
    unfold clF
    rw [List.length_set, List.length_set]
  rw [opsSh_hsf, hl, List.length_take, List.length_drop, sumF5_len]
  decide

theorem len4_h {p : L4} (h : Len4 p) : opsSh.l5 p.x = true ∧ opsSh.l5 p.y = true ∧ opsSh.l5 p.z = true ∧ opsSh.l5 p.t = true := by
  simp only [opsSh_l5, decide_eq_true_eq]
  exact h

theorem len_bas : Len4 (basL ops) := by
  unfold basL Len4
  simp only [ops_of, ops_mul]
  exact ⟨ofF_len _, ofF_len _, n1_len, mulF_len _ _⟩

theorem basH : opsSh.l5 opsSh.bas.x = true ∧ opsSh.l5 opsSh.bas.y = true ∧ opsSh.l5 opsSh.bas.z = true ∧ opsSh.l5 opsSh.bas.t = true := by
  rw [opsSh_bas]
  exact len4_h len_bas

theorem mpH (p : L4) (k : List Nat) : opsSh.l5 (opsSh.mp p k).x = true ∧ opsSh.l5 (opsSh.mp p k).y = true ∧ opsSh.l5 (opsSh.mp p k).z = true ∧ opsSh.l5 (opsSh.mp p k).t = true := by
  rw [opsSh_mp]
  exact len4_h (mpN_len _ _ _ _)

theorem len_dkP {o : OpsRt} {k : List Nat} (h1 : (dkX o k).length = 5) (h2 : (dkY o k).length = 5) (h3 : (o.mul (dkX o k) (dkY o k)).length = 5) : Len4 (dkP o k) := ⟨h1, h2, n1_len, h3⟩

theorem dkH (k : List Nat) : opsSh.l5 (opsSh.dkp k).x = true ∧ opsSh.l5 (opsSh.dkp k).y = true ∧ opsSh.l5 (opsSh.dkp k).z = true ∧ opsSh.l5 (opsSh.dkp k).t = true := by
  rw [opsSh_dkp]
  refine len4_h (len_dkP ?_ (dkY_len k) ?_)
  · unfold dkX
    cases dkB k
    · rw [cond_false]
      exact dkX0_len k
    · rw [cond_true, rt_neg]
      exact negF_len5 _
  · rw [rt_mul]
    exact mulF_len _ _

theorem len_ngL {o : Ops} {p : L4} (h1 : (o.neg p.x).length = 5) (h2 : p.y.length = 5) (h3 : p.z.length = 5) (h4 : (o.neg p.t).length = 5) : Len4 (ngL o p) := ⟨h1, h2, h3, h4⟩

theorem ngH {p : L4} (h : opsSh.l5 p.y = true ∧ opsSh.l5 p.z = true) : opsSh.l5 (opsSh.png p).x = true ∧ opsSh.l5 (opsSh.png p).y = true ∧ opsSh.l5 (opsSh.png p).z = true ∧ opsSh.l5 (opsSh.png p).t = true := by
  simp only [opsSh_l5, decide_eq_true_eq] at h
  rw [opsSh_png]
  refine len4_h (len_ngL ?_ h.1 h.2 ?_)
  · rw [ops_neg]
    exact negF_len5 _
  · rw [ops_neg]
    exact negF_len5 _

theorem plsH (p q : L4) : opsSh.l5 (opsSh.pls p q).x = true ∧ opsSh.l5 (opsSh.pls p q).y = true ∧ opsSh.l5 (opsSh.pls p q).z = true ∧ opsSh.l5 (opsSh.pls p q).t = true := by
  rw [opsSh_pls]
  exact len4_h (len_pl _ _ _)

theorem bytesF_len (x : List Nat) : (bytesF x).length = 32 := by
  have hl : ∀ (y : List Nat) i, (bN y i).length = 32 := fun y i => by
    induction i with
    | zero => rfl
    | succ i ih =>
      show (bS y (bN y i) i).length = 32
      unfold bS
      rw [List.length_set]
      exact ih
  unfold bytesF
  exact hl _ _

theorem encL_len (p : L4) : (encL ops p).length = 32 := by
  unfold encL
  rw [ops_bytes]
  have hb := bytesF_len (ops.mul p.y (ops.inv p.z))
  generalize bytesF (ops.mul p.y (ops.inv p.z)) = B at *
  generalize ops.odd (ops.mul p.x (ops.inv p.z)) = c
  cases c
  · exact hb
  · rw [cond_true, List.length_set]
    exact hb

theorem enc_len (p : L4) : (opsSh.enc p).length = 32 := by rw [opsSh_enc]; exact encL_len p

theorem okParts1 {a : List Nat} (ha : a.length ≤ 1099511627776) : okParts [a] = true := by
  simp [okParts, okPs, ha]

theorem okParts2 {a b : List Nat} (ha : a.length ≤ 1099511627776) (hb : b.length ≤ 1099511627776) : okParts [a, b] = true := by
  simp [okParts, okPs, ha, hb]

theorem okParts3 {a b c : List Nat} (ha : a.length ≤ 1099511627776) (hb : b.length ≤ 1099511627776) (hc : c.length ≤ 1099511627776) : okParts [a, b, c] = true := by
  simp [okParts, okPs, ha, hb, hc]

def Kpublic (o : OpsSi) : FSem := ⟨false, fun args hin => match args, hin with
  | [.agg [.ints .u8 32 s]], [] => some (.need (decide (s.length = 32)) (.leaf (.agg [.ints .u8 32 (o.pub s)], [])))
  | _, _ => none⟩

theorem okPublic : FOk Tryz.prog 27 (Kpublic opsSi) := by
  refine fokB (fs := envSh opsSh) (xs := []) (m := .nat) (fuel := 20) envSh_ok fnPublic ?_
  intro args hin t r h hg
  unfold Kpublic at h
  rw [opsSi_pub] at h
  simp only at h
  split at h
  · rename_i s
    simp only [Option.some.injEq] at h
    subst h
    obtain ⟨hc, hgt⟩ := need1 hg
    cases hgt
    have hl := of_decide_eq_true hc
    rw [rPublic]
    refine nd_of ?_ rfl
    obtain ⟨b1, b2, b3, b4⟩ := basH
    obtain ⟨p1, p2, p3, p4⟩ := mpH opsSh.bas (opsSh.hs s)
    simp only [List.mem_cons, List.not_mem_nil, or_false, forall_eq_or_imp, forall_eq]
    exact ⟨okParts1 (by omega), b1, b2, b3, b4, p1, p2, p3⟩
  · cases h

def Kmake (o : OpsSi) : FSem := ⟨false, fun args hin => match args, hin with
  | [.agg [.ints .u8 32 s], .s (.sl .whole 0 0 1 1)], [[.one (.xsl (.ints .u8 t))]] =>
    some (Tr.needs [decide (s.length = 32), decide (t.length ≤ 1099511627776)] (.leaf (.agg [.ints .u8 64 (o.sig s [t])], [some [.one (.xsl (.ints .u8 t))]])))
  | _, _ => none⟩

theorem okMake : FOk Tryz.prog 19 (Kmake opsSi) := by
  refine fokB (fs := envSh opsSh) (xs := []) (m := .nat) (fuel := 20) envSh_ok fnMake ?_
  intro args hin t r h hg
  unfold Kmake at h
  rw [opsSi_sig] at h
  simp only at h
  split at h
  · rename_i s t
    simp only [Option.some.injEq] at h
    subst h
    obtain ⟨hc, hgt⟩ := Tr.needs_get hg
    cases hgt
    simp only [List.mem_cons, List.not_mem_nil, or_false, forall_eq_or_imp, forall_eq, decide_eq_true_eq] at hc
    obtain ⟨hl, ht⟩ := hc
    rw [rMake]
    refine nd_of ?_ rfl
    obtain ⟨b1, b2, b3, b4⟩ := basH
    obtain ⟨p1, p2, p3, p4⟩ := mpH opsSh.bas (opsSh.hs s)
    obtain ⟨q1, q2, q3, q4⟩ := mpH opsSh.bas (mkr opsSh s [t])
    have e1 := enc_len (mkR opsSh s [t])
    have e2 := enc_len (pbP opsSh s)
    have e3 := hp_len s
    have k1 : (mkk opsSh s [t]).length = 32 := rd_len _
    have k2 : (mkr opsSh s [t]).length = 32 := rd_len _
    simp only [List.mem_cons, List.not_mem_nil, or_false, forall_eq_or_imp, forall_eq, decide_eq_true_eq]
    exact ⟨okParts1 (by omega), b1, b2, b3, b4, p1, p2, p3, okParts2 (by omega) ht, b1, b2, b3, b4, q1, q2, q3, okParts3 (by unfold mkF; omega) (by unfold mkA; omega) ht, k1, hs_len s, k2⟩
  · cases h

def Kcheck (o : OpsSi) : FSem := ⟨false, fun args hin => match args, hin with
  | [.agg [.ints .u8 32 p], .agg [.ints .u8 64 g], .s (.sl .whole 0 0 1 1)], [[.one (.xsl (.ints .u8 t))]] =>
    some (Tr.needs [decide (p.length = 32), decide (g.length = 64), decide (t.length ≤ 1099511627776), o.cok p g [t]] (.leaf (.s (.nat .i64 0), [some [.one (.xsl (.ints .u8 t))]])))
  | _, _ => none⟩

theorem okCheck : FOk Tryz.prog 43 (Kcheck opsSi) := by
  refine fokB (fs := envSh opsSh) (xs := []) (m := .nat) (fuel := 20) envSh_ok fnCheck ?_
  intro args hin t r h hg
  unfold Kcheck at h
  rw [opsSi_cok] at h
  simp only at h
  split at h
  · rename_i p g t
    simp only [Option.some.injEq] at h
    subst h
    obtain ⟨hc, hgt⟩ := Tr.needs_get hg
    cases hgt
    simp only [List.mem_cons, List.not_mem_nil, or_false, forall_eq_or_imp, forall_eq, decide_eq_true_eq] at hc
    obtain ⟨hp, hl, ht, hk⟩ := hc
    unfold ckOk at hk
    simp only [Bool.and_eq_true, decide_eq_true_eq] at hk
    obtain ⟨k1, k2, k3, k4, k5⟩ := hk
    rw [rCheck]
    obtain ⟨b1, b2, b3, b4⟩ := basH
    obtain ⟨d1, d2, d3, d4⟩ := dkH p
    obtain ⟨n1, n2, n3, n4⟩ := ngH (p := opsSh.dkp p) ⟨d2, d3⟩
    obtain ⟨p1, p2, p3, p4⟩ := mpH opsSh.bas (ckB g)
    obtain ⟨q1, q2, q3, q4⟩ := mpH (ckN opsSh p) (ckk opsSh p g [t])
    obtain ⟨s1, s2, s3, s4⟩ := plsH (ckS opsSh g) (ckM opsSh p g [t])
    have f1 : (ckB g).length = 32 := by unfold ckB; rw [List.length_take, List.length_drop, hl]; decide
    have f2 : (ckF g).length = 32 := by unfold ckF; rw [List.length_take, List.length_drop, hl]; decide
    refine nd_of ?_ (cond_f ?_ (nd_of ?_ (cond_f ?_ (nd_of ?_ (cond_f ?_ rfl)))))
    · simp only [List.mem_cons, List.not_mem_nil, or_false, forall_eq_or_imp, forall_eq]
      exact ⟨k1, d1, d2, d3, d4⟩
    · cases hz : opsSh.tny (opsSh.dkp p)
      · rfl
      · rw [hz] at k2; cases k2
    · simp only [List.mem_cons, List.not_mem_nil, or_false, forall_eq, decide_eq_true_eq]
      exact f1
    · rw [k3]; rfl
    · simp only [List.mem_cons, List.not_mem_nil, or_false, forall_eq_or_imp, forall_eq]
      exact ⟨k4, okParts3 (by omega) (by omega) ht, b1, b2, b3, b4, d1, d4, n1, n2, n3, n4, p1, p2, p3, p4, q1, q2, q3, q4, s1, s2, s3⟩
    · exact bnf k5
  · cases h

def envSi (o : OpsSi) : List (Nat × FSem) := (27, Kpublic o) :: (19, Kmake o) :: (43, Kcheck o) :: envSh o.toOpsSh

theorem envSi_ok : EnvOk ⟨Tryz.prog, envSi opsSi, []⟩ := .cons okPublic (.cons okMake (.cons okCheck envSh_ok))

end Go.Proofs.YtdhnkkogbbhnmaaGreat

namespace Go.Proofs.YtdhnkkogbbhnmaaGreat
open Go
open Fq
/-- The code's first coordinate. -/
noncomputable def xP (P : Pt d1) : Fq := -(iF * P.x)

noncomputable def encP (P : Pt d1) : List Nat := cond (decide ((xP P).v % 2 = 1)) ((dB 256 32 P.y.v).set 31 ((dB 256 32 P.y.v).getD 31 0 ||| 128)) (dB 256 32 P.y.v)

theorem mul_inv_l {a w i : Fq} (h : w * i = 1) : -(a * w) * i = -a := by grind -lia

theorem enc_P {p : L4} {P : Pt d1} (h : RP p P) : encL ops p = encP P := by
  obtain ⟨x, y, z, t, e1, e2, e3, e4, hz, hx, hy, ht⟩ := h
  unfold encL encP
  simp only [ops_odd, ops_mul, ops_inv, ops_bytes]
  have em := mulE e2 (invE e3)
  have en := mulE e1 (invE e3)
  rw [bytesE em, oddE en]
  have hc : c (y * z ^ (P255 - 2)) = P.y := by
    rw [c_mul, c_inv, hy]
    exact mul_inv_r (mul_inv hz)
  have hn : c (x * z ^ (P255 - 2)) = xP P := by
    rw [c_mul, c_inv, hx]
    exact mul_inv_l (mul_inv hz)
  rw [val_of hc, val_of hn]

theorem x_sq (P : Pt d1) : xP P * xP P * (1 - d1 * (P.y * P.y)) = P.y * P.y - 1 := by
  have hi := i_i
  have hp := P.on
  unfold xP
  generalize iF = i at *
  generalize P.x = x at *
  generalize P.y = y at *
  have : -(i * x) * -(i * x) = (i * i) * (x * x) := by grind -lia
  rw [this, hi]
  grind -lia

theorem x_back (P : Pt d1) : P.x = iF * xP P := by
  have hi := i_i
  unfold xP
  generalize iF = i at *
  have : i * -(i * P.x) = -((i * i) * P.x) := by grind -lia
  rw [this, hi]
  grind -lia

theorem den_ne0 (P : Pt d1) : 1 - d1 * (P.y * P.y) ≠ 0 := fun h => by
  have h1 : (1 : Fq) * 1 = d1 * (P.y * P.y) := by grind -lia
  have h2 := ns_div ns_d1 h1
  rw [h2] at h1
  exact zero_ne_one (by grind -lia)

theorem pow_zero_ne {h : Nat} (hh : P255 - 1 = h * 2) : fpow (0 : Fq) h = 0 := by
  have h0 : 0 < h := by have : P255 - 1 = _ := hh; unfold P255 at this; omega
  have e : (0 : Fq) = c 0 := rfl
  rw [e, ← c_pow, Nat.zero_pow h0]

theorem square_half {h : Nat} (hh : P255 - 1 = h * 2) {a r : Fq} (e : r * r = a) : fpow a h = 0 ∨ fpow a h = 1 := by
  by_cases ha : a = 0
  · left
    rw [ha]
    exact pow_zero_ne hh
  · exact .inr (sq_half hh ha e)

theorem div_back {a b i r : Fq} (h : b * i = 1) (e : r * r * b = a) : r * r = a * i := by grind -lia

theorem sq_cases {a b : Fq} (h : a * a = b * b) : a = b ∨ a = -b := by
  by_cases h1 : a = b
  · exact .inl h1
  · right
    have e : (a - b) * (a + b) = 0 := by grind -lia
    have hne : a - b ≠ 0 := fun h => h1 (by grind -lia)
    have := eq_zero e hne
    grind -lia

theorem even_neg {a : Fq} (ha : a ≠ 0) : (-a).v % 2 = 1 ↔ a.v % 2 = 0 := by
  have hv : a.v ≠ 0 := fun h => ha (ext h)
  have e : -a = c (ngV a.v) := by rw [c_neg, c_self]
  have hl := a.lt
  rw [e, c_v, ng_mod _ (by rwa [v_mod]), v_mod]
  unfold P255 at *
  omega

theorem dk_set {D : List Nat} (b : Bool) (hl : D.length = 32) (h31 : D.getD 31 0 < 128) :
    dkB (cond b (D.set 31 (D.getD 31 0 ||| 128)) D) = b ∧ dkK (cond b (D.set 31 (D.getD 31 0 ||| 128)) D) = D := by
  obtain ⟨a1, a2⟩ := and127 _ h31
  have ho : ∀ x, x < 128 → (x ||| 128) / 2 ^ 7 = 1 := by decide +kernel
  have ho := ho _ h31
  have hz : D.getD 31 0 / 2 ^ 7 = 0 := Nat.div_eq_of_lt h31
  have hg : (D.set 31 (D.getD 31 0 ||| 128)).getD 31 0 = D.getD 31 0 ||| 128 := by rw [getD_set1 _ _ _ hl, if_pos rfl]
  cases b with
  | true =>
    rw [cond_true]
    refine ⟨decide_eq_true (by rw [hg, ho]), ?_⟩
    unfold dkK
    rw [hg, List.set_set, a2, set_get _ (by rw [hl]; decide)]
  | false =>
    rw [cond_false]
    refine ⟨decide_eq_false (by rw [hz]; decide), ?_⟩
    unfold dkK
    rw [a1, set_get _ (by rw [hl]; decide)]

theorem dkB_enc (P : Pt d1) : dkB (encP P) = decide ((xP P).v % 2 = 1) ∧ dkK (encP P) = dB 256 32 P.y.v :=
  dk_set _ (dB_len _ _ _) (dB31 P.y.lt)

theorem c_minus (a b : Nat) : c (a + ngV b) = c a - c b := by
  rw [c_add, c_neg]
  grind -lia

theorem c_1 : c 1 = (1 : Fq) := (nat_d 1).symm

theorem uvE {k : List Nat} {Y : Fq} (hk : dkK k = dB 256 32 Y.v) : EV (dkY opsRt k) Y.v ∧ (∃ u, EV (dkU opsRt k) u ∧ c u = Y * Y - 1) ∧ (∃ v, EV (dkV opsRt k) v ∧ c v = 1 - d1 * (Y * Y)) := by
  have ey : EV (dkY opsRt k) Y.v := by
    unfold dkY
    rw [rt_of, hk]
    have := ofE (dB_g32 (v := Y.v))
    rwa [vB_bytes Y.lt] at this
  have e1 : EV n1 1 := oneE
  have es := mulE ey ey
  refine ⟨ey, ⟨Y.v * Y.v + ngV 1, ?_, ?_⟩, ⟨uV facK * (Y.v * Y.v) + 1, ?_, ?_⟩⟩
  · unfold dkU
    rw [rt_sub, rt_mul]
    exact subE es e1
  · rw [c_minus, c_mul, c_self, c_1]
  · unfold dkV
    rw [rt_add, rt_mul, rt_mul, rt_fac]
    exact addE2 (mulE facE es) e1
  · rw [c_add, c_mul, c_mul, c_self, fac_d, c_1]
    grind -lia

theorem even_root {P : Pt d1} {w : Nat} (hp : w % P255 % 2 = 0) (hw : c w * c w = xP P * xP P) (hx : (xP P).v % 2 = 0) : c w = xP P := by
  rcases sq_cases hw with e | e
  · exact e
  · by_cases h0 : xP P = 0
    · rw [e, h0]
      exact neg_uniq (add_zero 0)
    · have h1 := (even_neg h0).2 hx
      rw [← e, c_v] at h1
      omega

theorem odd_root {P : Pt d1} {w : Nat} (hp : w % P255 % 2 = 0) (hw : c w * c w = xP P * xP P) (hx : (xP P).v % 2 = 1) : c w = -xP P := by
  rcases sq_cases hw with e | e
  · rw [← e, c_v] at hx
    omega
  · exact e

/-- What the root stands for. -/
theorem dec_root (P : Pt d1) : (rootF (dkU opsRt (encP P)) (dkV opsRt (encP P))).2 = true ∧ ∃ w, EV (rootF (dkU opsRt (encP P)) (dkV opsRt (encP P))).1 w ∧ w % P255 % 2 = 0 ∧ c w * c w = xP P * xP P := by
  obtain ⟨hb, hk⟩ := dkB_enc P
  obtain ⟨ey, ⟨u, eu, cu⟩, ⟨v, ev, cv⟩⟩ := uvE hk
  generalize dkU opsRt (encP P) = U at *
  generalize dkV opsRt (encP P) = V at *
  have hv : c v ≠ 0 := by rw [cv]; exact den_ne0 P
  have hxs := x_sq P
  rw [← cu, ← cv] at hxs
  have hsq := div_back (mul_inv hv) hxs
  obtain ⟨r1, r2⟩ := rootE eu ev hv
  generalize rootF U V = R at *
  have hrt : R.2 = true := by
    cases hr : R.2
    · exact absurd (square_half hh_eq hsq) (r2 hr).1
    · rfl
  obtain ⟨_, w, ew, hw2, hw⟩ := r1 hrt
  refine ⟨hrt, w, ew, hw2, ?_⟩
  refine Fq.cancel hv ?_
  have : c v * (c w * c w) = c v * c w * c w := by grind -lia
  rw [this, hw]
  have : c v * (xP P * xP P) = xP P * xP P * c v := by grind -lia
  rw [this, hxs]

theorem odd_ne {P : Pt d1} {w : Nat} (hx : (xP P).v % 2 = 1) (e : c w = -xP P) : ¬ w % P255 = 0 := fun h0 => by
  have hz : c w = 0 := c_zero.2 h0
  rw [hz] at e
  have : xP P = 0 := by
    have := neg_neg (xP P)
    rw [← this, ← e]
    exact neg_uniq (add_zero 0)
  rw [this] at hx
  exact absurd hx (by decide)

theorem dec_ok (P : Pt d1) : dkOk opsRt (encP P) = true := by
  obtain ⟨hb, hk⟩ := dkB_enc P
  obtain ⟨hrt, w, ew, hw2, hww⟩ := dec_root P
  have hcan : canF (dkK (encP P)) = true := by
    rw [hk, canE dB_g32, vB_bytes P.y.lt, v_mod]
    exact decide_eq_true rfl
  have ew' : EV (dkX0 opsRt (encP P)) w := by
    rw [dkX0_def, rt_rtl]
    exact ew
  have hz := isZE ew'
  unfold dkOk
  rw [rt_can, rt_rtr, rt_isz, hcan, hrt, hb, hz]
  cases hd : decide ((xP P).v % 2 = 1) with
  | false => rfl
  | true =>
    have hx := of_decide_eq_true hd
    rw [decide_eq_false (odd_ne hx (odd_root hw2 hww hx))]
    rfl

theorem dec_mk {P : Pt d1} {x : List Nat} {X : Nat} (ey : EV (dkY opsRt (encP P)) P.y.v) (ex : EV x X) (hX : c X = xP P) : RP ⟨x, dkY opsRt (encP P), n1, opsRt.mul x (dkY opsRt (encP P))⟩ P := by
  rw [rt_mul]
  generalize dkY opsRt (encP P) = y at *
  have hn1 : EV n1 1 := oneE
  refine RP_mk ex ey hn1 (mulE ex ey) (Rp_aff ?_ ?_)
  · rw [hX]
    exact x_back P
  · rw [c_self]

theorem dkP_def (o : OpsRt) (k : List Nat) : dkP o k = ⟨dkX o k, dkY o k, n1, o.mul (dkX o k) (dkY o k)⟩ := rfl

theorem dkX_t {o : OpsRt} {k : List Nat} (h : dkB k = true) : dkX o k = o.neg (dkX0 o k) := by unfold dkX; rw [h, cond_true]

theorem dkX_f {o : OpsRt} {k : List Nat} (h : dkB k = false) : dkX o k = dkX0 o k := by unfold dkX; rw [h, cond_false]

theorem dec_P (P : Pt d1) : RP (dkP opsRt (encP P)) P := by
  obtain ⟨hb, hk⟩ := dkB_enc P
  obtain ⟨ey, _, _⟩ := uvE hk
  obtain ⟨hrt, w, ew, hw2, hww⟩ := dec_root P
  have ew' : EV (dkX0 opsRt (encP P)) w := by
    rw [dkX0_def, rt_rtl]
    exact ew
  rw [dkP_def]
  cases hd : decide ((xP P).v % 2 = 1) with
  | false =>
    have hx : (xP P).v % 2 = 0 := by have := of_decide_eq_false hd; omega
    rw [hd] at hb
    rw [dkX_f hb]
    exact dec_mk ey ew' (even_root hw2 hww hx)
  | true =>
    have hx := of_decide_eq_true hd
    rw [hd] at hb
    rw [dkX_t hb, rt_neg]
    refine dec_mk ey (negE ew') ?_
    rw [c_neg, odd_root hw2 hww hx, neg_neg]

end Go.Proofs.YtdhnkkogbbhnmaaGreat

namespace Go.Proofs.YtdhnkkogbbhnmaaGreat
open Go
/-- The order. -/
def ell : Nat := 7237005577332262213973186563042994240857116359379907606001950938285454250989

theorem ord_val : vB 4294967296 ord = ell := by decide +kernel

theorem vB_set {B : Nat} : ∀ {xs : List Nat} {i : Nat}, i < xs.length → ∀ v, vB B (xs.set i v) + xs.getD i 0 * B ^ i = vB B xs + v * B ^ i
  | x :: xs, 0, _, v => by simp [vB]; omega
  | x :: xs, i + 1, h, v => by
    have ih := vB_set (B := B) (xs := xs) (i := i) (by simpa using h) v
    simp only [List.set_cons_succ, vB, List.getD_cons_succ, Nat.pow_succ]
    generalize vB B (xs.set i v) = p at *
    generalize xs.getD i 0 = q at *
    generalize vB B xs = r at *
    generalize B ^ i = s at *
    have e := congrArg (B * ·) ih
    simp only [Nat.mul_add] at e
    have e1 : q * (s * B) = B * (q * s) := by rw [Nat.mul_comm B, Nat.mul_assoc]
    have e2 : v * (s * B) = B * (v * s) := by rw [Nat.mul_comm B, Nat.mul_assoc]
    rw [e1, e2]
    omega

theorem dig_get {B : Nat} {xs : List Nat} (h : ∀ i, xs.getD i 0 < B) {i : Nat} (hi : i < xs.length) : xs.getD i 0 = vB B xs / B ^ i % B := by
  have h1 := dB_of (B := B) (n := xs.length) rfl fun i _ => h i
  have h2 : xs.getD i 0 = (dB B xs.length (vB B xs)).getD i 0 := congrArg (fun l => l.getD i 0) h1
  rw [dB_get, if_pos hi] at h2
  exact h2

theorem dB_bd {B : Nat} (hB : 0 < B) (n v i : Nat) : (dB B n v).getD i 0 < B := by
  rw [dB_get]
  split
  · exact Nat.mod_lt _ hB
  · exact hB

theorem sub32_val {x y b : Nat} (hx : x < 4294967296) (hy : y < 4294967296) (hb : b ≤ 1) : sub32 x y b < 4294967296 ∧ bor32 x y b ≤ 1 ∧ sub32 x y b + y + b = x + bor32 x y b * 4294967296 := by
  have hr : sub32 x y b = if y + b ≤ x then x - y - b else x + 4294967296 - y - b := by
    unfold sub32
    split <;> omega
  have hbor : bor32 x y b = if y + b ≤ x then 0 else 1 := by
    have e : bor32 x y b = ((4294967296 - 1 - x) / 2 ^ 31 &&& y / 2 ^ 31 ||| (4294967296 - 1 - (x ^^^ y)) / 2 ^ 31 &&& sub32 x y b / 2 ^ 31) := by
      unfold bor32 sub32
      simp only [← Nat.shiftRight_eq_div_pow, Nat.shiftRight_or_distrib, Nat.shiftRight_and_distrib]
    have hxy : x ^^^ y < 4294967296 := Nat.xor_lt_two_pow (n := 32) hx hy
    have e1 : (4294967296 - 1 - x) / 2 ^ 31 = 1 - x / 2 ^ 31 := by omega
    have e2 : (4294967296 - 1 - (x ^^^ y)) / 2 ^ 31 = 1 - (x / 2 ^ 31 ^^^ y / 2 ^ 31) := by
      have : (x ^^^ y) / 2 ^ 31 = x / 2 ^ 31 ^^^ y / 2 ^ 31 := by
        simp only [← Nat.shiftRight_eq_div_pow, Nat.shiftRight_xor_distrib]
      rw [← this]
      omega
    rw [e, e1, e2]
    have hs : sub32 x y b < 4294967296 := by rw [hr]; split <;> omega
    obtain ⟨p, hp⟩ : ∃ p, x / 2 ^ 31 = p := ⟨_, rfl⟩
    obtain ⟨q, hq⟩ : ∃ q, y / 2 ^ 31 = q := ⟨_, rfl⟩
    obtain ⟨s, hs'⟩ : ∃ s, sub32 x y b / 2 ^ 31 = s := ⟨_, rfl⟩
    rw [hp, hq, hs']
    generalize sub32 x y b = r at *
    have hp2 : p = 0 ∨ p = 1 := by omega
    have hq2 : q = 0 ∨ q = 1 := by omega
    have hs2 : s = 0 ∨ s = 1 := by omega
    by_cases hyx : y + b ≤ x
    · rw [if_pos hyx] at hr ⊢
      rcases hp2 with rfl | rfl <;> rcases hq2 with rfl | rfl <;> rcases hs2 with rfl | rfl <;> first | rfl | (exfalso; omega)
    · rw [if_neg hyx] at hr ⊢
      rcases hp2 with rfl | rfl <;> rcases hq2 with rfl | rfl <;> rcases hs2 with rfl | rfl <;> first | rfl | (exfalso; omega)
  rw [hr, hbor]
  split <;> refine ⟨?_, ?_, ?_⟩ <;> omega

theorem add32_val {x y b : Nat} (hx : x < 4294967296) (hy : y < 4294967296) (hb : b ≤ 1) : add32 x y b < 4294967296 ∧ car32 x y b ≤ 1 ∧ add32 x y b + car32 x y b * 4294967296 = x + y + b := by
  unfold add32 car32
  refine ⟨?_, ?_, ?_⟩ <;> omega

theorem lsN_val {w o : List Nat} (hw : ∀ i, w.getD i 0 < 4294967296) (ho : ∀ i, o.getD i 0 < 4294967296) : ∀ n, lsN w o n ≤ 1 ∧ ∃ d, d < 4294967296 ^ n ∧ d + sW 4294967296 (fun i => o.getD i 0) n = sW 4294967296 (fun i => w.getD i 0) n + lsN w o n * 4294967296 ^ n
  | 0 => ⟨Nat.zero_le _, 0, by decide, rfl⟩
  | n + 1 => by
    obtain ⟨h1, d, h2, h3⟩ := lsN_val hw ho n
    obtain ⟨g1, g2, g3⟩ := sub32_val (hw n) (ho n) h1
    refine ⟨g2, d + sub32 (w.getD n 0) (o.getD n 0) (lsN w o n) * 4294967296 ^ n, ?_, ?_⟩
    · rw [Nat.pow_succ]
      generalize sub32 (w.getD n 0) (o.getD n 0) (lsN w o n) = s at *
      generalize 4294967296 ^ n = m at *
      have : s * m ≤ 4294967295 * m := Nat.mul_le_mul_right _ (by omega)
      omega
    · rw [lsN, sW, sW, Nat.pow_succ]
      generalize sub32 (w.getD n 0) (o.getD n 0) (lsN w o n) = s at *
      generalize bor32 (w.getD n 0) (o.getD n 0) (lsN w o n) = c at *
      generalize sW 4294967296 (fun i => o.getD i 0) n = O at *
      generalize sW 4294967296 (fun i => w.getD i 0) n = W at *
      generalize lsN w o n = b at *
      generalize o.getD n 0 = y at *
      generalize w.getD n 0 = x at *
      generalize 4294967296 ^ n = m at *
      have e := congrArg (· * m) g3
      simp only [Nat.add_mul] at e
      have e2 : c * 4294967296 * m = c * (m * 4294967296) := by rw [Nat.mul_assoc, Nat.mul_comm 4294967296]
      rw [e2] at e
      omega

theorem lsN_iff {w o : List Nat} (hw : ∀ i, w.getD i 0 < 4294967296) (ho : ∀ i, o.getD i 0 < 4294967296) (hl : o.length = w.length) : lsN w o w.length = 1 ↔ vB 4294967296 w < vB 4294967296 o := by
  obtain ⟨h1, d, h2, h3⟩ := lsN_val hw ho w.length
  have e1 : vB 4294967296 w = _ := vB_sW 4294967296 w
  have e2 : vB 4294967296 o = _ := vB_sW 4294967296 o
  rw [hl] at e2
  rw [← e1, ← e2] at h3
  have hlt : vB 4294967296 o < 4294967296 ^ w.length := by rw [← hl]; exact vB_lt fun i _ => ho i
  generalize lsN w o w.length = c at *
  generalize 4294967296 ^ w.length = m at *
  have hc : c = 0 ∨ c = 1 := by omega
  rcases hc with rfl | rfl
  · constructor
    · intro h; cases h
    · intro h; omega
  · constructor
    · intro _; omega
    · intro _; rfl

theorem pow4 (i : Nat) : 256 ^ i = 2 ^ (8 * (i % 4)) * 4294967296 ^ (i / 4) := by
  have e1 : (256 : Nat) = 2 ^ 8 := rfl
  have e2 : (4294967296 : Nat) = 2 ^ 32 := rfl
  rw [e1, e2, ← Nat.pow_mul, ← Nat.pow_mul, ← Nat.pow_add]
  congr 1
  omega

theorem or_add {a b k : Nat} (h : a < 2 ^ k) : a ||| b * 2 ^ k = a + b * 2 ^ k := by
  rw [Nat.or_comm, ← Nat.shiftLeft_eq, ← Nat.shiftLeft_add_eq_or_of_lt h, Nat.add_comm]

theorem wdN_val {b : List Nat} (hb : ∀ i, b.getD i 0 < 256) : ∀ i, i ≤ b.length → wdN b i = dB 4294967296 ((b.length + 3) / 4) (sW 256 (fun i => b.getD i 0) i)
  | 0, _ => by
    rw [wdN, sW]
    have : ∀ n, dB 4294967296 n 0 = List.replicate n 0 := fun n => by
      induction n with
      | zero => rfl
      | succ n ih =>
        rw [dB, List.replicate_succ]
        exact congrArg (0 :: ·) ih
    exact (this _).symm
  | i + 1, hi => by
    have ih := wdN_val hb i (by omega)
    have hlen := wdN_len b (i + 1)
    have hl0 := wdN_len b i
    have hV : sW 256 (fun i => b.getD i 0) i < 256 ^ i := sW_lt fun j _ => hb j
    have hj : i / 4 < (b.length + 3) / 4 := by omega
    have hw : (wdN b i).getD (i / 4) 0 < 2 ^ (8 * (i % 4)) := by
      rw [ih, dB_get, if_pos hj]
      refine Nat.lt_of_le_of_lt (Nat.mod_le _ _) ?_
      refine Nat.div_lt_of_lt_mul ?_
      rw [Nat.mul_comm, ← pow4]
      exact hV
    have hbi := hb i
    have hp : 2 ^ (8 * (i % 4)) * 256 ≤ 4294967296 := by
      have : i % 4 = 0 ∨ i % 4 = 1 ∨ i % 4 = 2 ∨ i % 4 = 3 := by omega
      rcases this with h | h | h | h <;> rw [h] <;> decide
    have hm : b.getD i 0 * 2 ^ (8 * (i % 4)) ≤ 255 * 2 ^ (8 * (i % 4)) := Nat.mul_le_mul_right _ (by omega)
    have hor : (wdN b i).getD (i / 4) 0 ||| b.getD i 0 * 2 ^ (8 * (i % 4)) % 4294967296 = (wdN b i).getD (i / 4) 0 + b.getD i 0 * 2 ^ (8 * (i % 4)) := by
      rw [Nat.mod_eq_of_lt (by omega), or_add hw]
    have hval : vB 4294967296 (wdN b (i + 1)) = sW 256 (fun i => b.getD i 0) (i + 1) := by
      rw [wdN, hor, vB_addAt (by rw [hl0]; exact hj), ih, vB_dB, sW, Nat.mul_assoc, ← pow4, Nat.mod_eq_of_lt]
      refine Nat.lt_of_lt_of_le hV ?_
      have e1 : (256 : Nat) = 2 ^ 8 := rfl
      have e2 : (4294967296 : Nat) = 2 ^ 32 := rfl
      rw [e1, e2, ← Nat.pow_mul, ← Nat.pow_mul]
      exact Nat.pow_le_pow_right (by decide) (by omega)
    rw [← hval]
    refine dB_of hlen fun k hk => ?_
    rw [wdN, hor, getD_set]
    split
    · omega
    · rw [ih]
      exact dB_bd (by decide) _ _ _

theorem wd_val {b : List Nat} (hb : ∀ i, b.getD i 0 < 256) : wdN b b.length = dB 4294967296 ((b.length + 3) / 4) (vB 256 b) := by
  rw [wdN_val hb _ (Nat.le_refl _), ← vB_sW]

theorem wd_vB {b : List Nat} (hb : ∀ i, b.getD i 0 < 256) : vB 4294967296 (wdN b b.length) = vB 256 b := by
  rw [wd_val hb, vB_dB, Nat.mod_eq_of_lt]
  refine Nat.lt_of_lt_of_le (vB_lt fun i _ => hb i) ?_
  have e1 : (256 : Nat) = 2 ^ 8 := rfl
  have e2 : (4294967296 : Nat) = 2 ^ 32 := rfl
  rw [e1, e2, ← Nat.pow_mul, ← Nat.pow_mul]
  exact Nat.pow_le_pow_right (by decide) (by omega)

theorem byN_get (w : List Nat) : ∀ (n : Nat) (i : Nat), n ≤ 32 → (byN w n).getD i 0 = if i < n then w.getD (i / 4) 0 / 2 ^ (8 * (i % 4)) % 256 else 0
  | 0, i, _ => by
    rw [byN, if_neg (by omega)]
    rw [List.getD, List.getElem?_replicate]
    split <;> rfl
  | n + 1, i, h => by
    have ih := byN_get w n i (by omega)
    rw [byN, getD_set, byN_len, ih]
    by_cases hi : n = i
    · subst hi
      rw [if_pos ⟨rfl, by omega⟩, if_pos (by omega)]
    · rw [if_neg (fun h => hi h.1)]
      by_cases h2 : i < n
      · rw [if_pos h2, if_pos (by omega)]
      · rw [if_neg h2, if_neg (by omega)]

theorem byte_dig (V i : Nat) : V / 4294967296 ^ (i / 4) % 4294967296 / 2 ^ (8 * (i % 4)) % 256 = V / 256 ^ i % 256 := by
  rw [pow4 i, Nat.mul_comm (2 ^ (8 * (i % 4))), ← Nat.div_div_eq_div_mul]
  generalize V / 4294967296 ^ (i / 4) = A
  have : i % 4 = 0 ∨ i % 4 = 1 ∨ i % 4 = 2 ∨ i % 4 = 3 := by omega
  rcases this with h | h | h | h <;> rw [h] <;> omega

theorem by_val (V : Nat) : byN (dB 4294967296 8 V) 32 = dB 256 32 V := by
  have h : ∀ i, i < 32 → (byN (dB 4294967296 8 V) 32).getD i 0 = (dB 256 32 V).getD i 0 := fun i hi => by
    rw [byN_get _ 32 i (Nat.le_refl _), if_pos hi, dB_get, if_pos (by omega), dB_get, if_pos hi, byte_dig]
  refine List.ext_getElem (by rw [byN_len, dB_len]) fun i h1 h2 => ?_
  have hi : i < 32 := by rw [byN_len] at h1; exact h1
  have e := h i hi
  rw [List.getD, List.getD, List.getElem?_eq_getElem h1, List.getElem?_eq_getElem h2] at e
  exact e

end Go.Proofs.YtdhnkkogbbhnmaaGreat

namespace Go.Proofs.YtdhnkkogbbhnmaaGreat
open Go
theorem lp0 : PrimeU 3 := (cert (f := 2) (n := 3) (g := 2) (qs := [2]) (by kernel_rfl) (primesCons prime2 primesNil)).prime

theorem lp1 : PrimeU 5 := (cert (f := 3) (n := 5) (g := 2) (qs := [2, 2]) (by kernel_rfl) (primesCons prime2 (primesCons prime2 primesNil))).prime

theorem lp2 : PrimeU 11 := (cert (f := 4) (n := 11) (g := 2) (qs := [2, 5]) (by kernel_rfl) (primesCons prime2 (primesCons lp1 primesNil))).prime

theorem lp3 : PrimeU 23 := (cert (f := 5) (n := 23) (g := 5) (qs := [2, 11]) (by kernel_rfl) (primesCons prime2 (primesCons lp2 primesNil))).prime

theorem lp4 : PrimeU 47 := (cert (f := 6) (n := 47) (g := 5) (qs := [2, 23]) (by kernel_rfl) (primesCons prime2 (primesCons lp3 primesNil))).prime

theorem lp5 : PrimeU 34123 := (cert (f := 16) (n := 34123) (g := 2) (qs := [2, 3, 11, 11, 47]) (by kernel_rfl) (primesCons prime2 (primesCons lp0 (primesCons lp2 (primesCons lp2 (primesCons lp4 primesNil)))))).prime

theorem lp6 : PrimeU 409477 := (cert (f := 19) (n := 409477) (g := 2) (qs := [2, 2, 3, 34123]) (by kernel_rfl) (primesCons prime2 (primesCons prime2 (primesCons lp0 (primesCons lp5 primesNil))))).prime

theorem lp7 : PrimeU 14741173 := (cert (f := 24) (n := 14741173) (g := 2) (qs := [2, 2, 3, 3, 409477]) (by kernel_rfl) (primesCons prime2 (primesCons prime2 (primesCons lp0 (primesCons lp0 (primesCons lp6 primesNil)))))).prime

theorem lp8 : PrimeU 58964693 := (cert (f := 26) (n := 58964693) (g := 2) (qs := [2, 2, 14741173]) (by kernel_rfl) (primesCons prime2 (primesCons prime2 (primesCons lp7 primesNil)))).prime

theorem lp9 : PrimeU 7 := (cert (f := 3) (n := 7) (g := 3) (qs := [2, 3]) (by kernel_rfl) (primesCons prime2 (primesCons lp0 primesNil))).prime

theorem lp10 : PrimeU 17 := (cert (f := 5) (n := 17) (g := 3) (qs := [2, 2, 2, 2]) (by kernel_rfl) (primesCons prime2 (primesCons prime2 (primesCons prime2 (primesCons prime2 primesNil))))).prime

theorem lp11 : PrimeU 43 := (cert (f := 6) (n := 43) (g := 3) (qs := [2, 3, 7]) (by kernel_rfl) (primesCons prime2 (primesCons lp0 (primesCons lp9 primesNil)))).prime

theorem lp12 : PrimeU 30703 := (cert (f := 15) (n := 30703) (g := 3) (qs := [2, 3, 7, 17, 43]) (by kernel_rfl) (primesCons prime2 (primesCons lp0 (primesCons lp9 (primesCons lp10 (primesCons lp11 primesNil)))))).prime

theorem lp13 : PrimeU 13 := (cert (f := 4) (n := 13) (g := 2) (qs := [2, 2, 3]) (by kernel_rfl) (primesCons prime2 (primesCons prime2 (primesCons lp0 primesNil)))).prime

theorem lp14 : PrimeU 79 := (cert (f := 7) (n := 79) (g := 3) (qs := [2, 3, 13]) (by kernel_rfl) (primesCons prime2 (primesCons lp0 (primesCons lp13 primesNil)))).prime

theorem lp15 : PrimeU 41081 := (cert (f := 16) (n := 41081) (g := 3) (qs := [2, 2, 2, 5, 13, 79]) (by kernel_rfl) (primesCons prime2 (primesCons prime2 (primesCons prime2 (primesCons lp1 (primesCons lp13 (primesCons lp14 primesNil))))))).prime

theorem lp16 : PrimeU 82163 := (cert (f := 17) (n := 82163) (g := 2) (qs := [2, 41081]) (by kernel_rfl) (primesCons prime2 (primesCons lp15 primesNil))).prime

theorem lp17 : PrimeU 67 := (cert (f := 7) (n := 67) (g := 2) (qs := [2, 3, 11]) (by kernel_rfl) (primesCons prime2 (primesCons lp0 (primesCons lp2 primesNil)))).prime

theorem lp18 : PrimeU 22111 := (cert (f := 15) (n := 22111) (g := 6) (qs := [2, 3, 5, 11, 67]) (by kernel_rfl) (primesCons prime2 (primesCons lp0 (primesCons lp1 (primesCons lp2 (primesCons lp17 primesNil)))))).prime

theorem lp19 : PrimeU 132667 := (cert (f := 18) (n := 132667) (g := 5) (qs := [2, 3, 22111]) (by kernel_rfl) (primesCons prime2 (primesCons lp0 (primesCons lp18 primesNil)))).prime

theorem lp20 : PrimeU 41 := (cert (f := 6) (n := 41) (g := 6) (qs := [2, 2, 2, 5]) (by kernel_rfl) (primesCons prime2 (primesCons prime2 (primesCons prime2 (primesCons lp1 primesNil))))).prime

theorem lp21 : PrimeU 1723 := (cert (f := 11) (n := 1723) (g := 3) (qs := [2, 3, 7, 41]) (by kernel_rfl) (primesCons prime2 (primesCons lp0 (primesCons lp9 (primesCons lp20 primesNil))))).prime

theorem lp22 : PrimeU 17231 := (cert (f := 15) (n := 17231) (g := 13) (qs := [2, 5, 1723]) (by kernel_rfl) (primesCons prime2 (primesCons lp1 (primesCons lp21 primesNil)))).prime

theorem lp23 : PrimeU 137849 := (cert (f := 18) (n := 137849) (g := 3) (qs := [2, 2, 2, 17231]) (by kernel_rfl) (primesCons prime2 (primesCons prime2 (primesCons prime2 (primesCons lp22 primesNil))))).prime

theorem lp24 : PrimeU 3044861653679985063343 := (cert (f := 72) (n := 3044861653679985063343) (g := 5) (qs := [2, 3, 11, 30703, 82163, 132667, 137849]) (by kernel_rfl) (primesCons prime2 (primesCons lp0 (primesCons lp2 (primesCons lp12 (primesCons lp16 (primesCons lp19 (primesCons lp23 primesNil)))))))).prime

theorem lp25 : PrimeU 198211423230930754013084525763697 := (cert (f := 108) (n := 198211423230930754013084525763697) (g := 5) (qs := [2, 2, 2, 2, 3, 23, 58964693, 3044861653679985063343]) (by kernel_rfl) (primesCons prime2 (primesCons prime2 (primesCons prime2 (primesCons prime2 (primesCons lp0 (primesCons lp3 (primesCons lp8 (primesCons lp24 primesNil))))))))).prime

theorem lp26 : PrimeU 269 := (cert (f := 9) (n := 269) (g := 2) (qs := [2, 2, 67]) (by kernel_rfl) (primesCons prime2 (primesCons prime2 (primesCons lp17 primesNil)))).prime

theorem lp27 : PrimeU 73 := (cert (f := 7) (n := 73) (g := 5) (qs := [2, 2, 2, 3, 3]) (by kernel_rfl) (primesCons prime2 (primesCons prime2 (primesCons prime2 (primesCons lp0 (primesCons lp0 primesNil)))))).prime

theorem lp28 : PrimeU 307 := (cert (f := 9) (n := 307) (g := 5) (qs := [2, 3, 3, 17]) (by kernel_rfl) (primesCons prime2 (primesCons lp0 (primesCons lp0 (primesCons lp10 primesNil))))).prime

theorem lp29 : PrimeU 113 := (cert (f := 7) (n := 113) (g := 3) (qs := [2, 2, 2, 2, 7]) (by kernel_rfl) (primesCons prime2 (primesCons prime2 (primesCons prime2 (primesCons prime2 (primesCons lp9 primesNil)))))).prime

theorem lp30 : PrimeU 2939 := (cert (f := 12) (n := 2939) (g := 2) (qs := [2, 13, 113]) (by kernel_rfl) (primesCons prime2 (primesCons lp13 (primesCons lp29 primesNil)))).prime

theorem lp31 : PrimeU 5879 := (cert (f := 13) (n := 5879) (g := 11) (qs := [2, 2939]) (by kernel_rfl) (primesCons prime2 (primesCons lp30 primesNil))).prime

theorem lp32 : PrimeU 292386187 := (cert (f := 29) (n := 292386187) (g := 2) (qs := [2, 3, 3, 3, 3, 307, 5879]) (by kernel_rfl) (primesCons prime2 (primesCons lp0 (primesCons lp0 (primesCons lp0 (primesCons lp0 (primesCons lp28 (primesCons lp31 primesNil)))))))).prime

theorem lp33 : PrimeU 213441916511 := (cert (f := 38) (n := 213441916511) (g := 13) (qs := [2, 5, 73, 292386187]) (by kernel_rfl) (primesCons prime2 (primesCons lp1 (primesCons lp27 (primesCons lp32 primesNil))))).prime

theorem lp34 : PrimeU 1361 := (cert (f := 11) (n := 1361) (g := 3) (qs := [2, 2, 2, 2, 5, 17]) (by kernel_rfl) (primesCons prime2 (primesCons prime2 (primesCons prime2 (primesCons prime2 (primesCons lp1 (primesCons lp10 primesNil))))))).prime

theorem lp35 : PrimeU 19 := (cert (f := 5) (n := 19) (g := 2) (qs := [2, 3, 3]) (by kernel_rfl) (primesCons prime2 (primesCons lp0 (primesCons lp0 primesNil)))).prime

theorem lp36 : PrimeU 2851 := (cert (f := 12) (n := 2851) (g := 2) (qs := [2, 3, 5, 5, 19]) (by kernel_rfl) (primesCons prime2 (primesCons lp0 (primesCons lp1 (primesCons lp1 (primesCons lp35 primesNil)))))).prime

theorem lp37 : PrimeU 3797 := (cert (f := 12) (n := 3797) (g := 2) (qs := [2, 2, 13, 73]) (by kernel_rfl) (primesCons prime2 (primesCons prime2 (primesCons lp13 (primesCons lp27 primesNil))))).prime

theorem lp38 : PrimeU 531581 := (cert (f := 20) (n := 531581) (g := 2) (qs := [2, 2, 5, 7, 3797]) (by kernel_rfl) (primesCons prime2 (primesCons prime2 (primesCons lp1 (primesCons lp9 (primesCons lp37 primesNil)))))).prime

theorem lp39 : PrimeU 2551 := (cert (f := 12) (n := 2551) (g := 6) (qs := [2, 3, 5, 5, 17]) (by kernel_rfl) (primesCons prime2 (primesCons lp0 (primesCons lp1 (primesCons lp1 (primesCons lp10 primesNil)))))).prime

theorem lp40 : PrimeU 1224481 := (cert (f := 21) (n := 1224481) (g := 13) (qs := [2, 2, 2, 2, 2, 3, 5, 2551]) (by kernel_rfl) (primesCons prime2 (primesCons prime2 (primesCons prime2 (primesCons prime2 (primesCons prime2 (primesCons lp0 (primesCons lp1 (primesCons lp39 primesNil))))))))).prime

theorem lp41 : PrimeU 1257559732178653 := (cert (f := 51) (n := 1257559732178653) (g := 2) (qs := [2, 2, 3, 7, 23, 531581, 1224481]) (by kernel_rfl) (primesCons prime2 (primesCons prime2 (primesCons lp0 (primesCons lp9 (primesCons lp3 (primesCons lp38 (primesCons lp40 primesNil)))))))).prime

theorem lp42 : PrimeU 4434155615661930479 := (cert (f := 62) (n := 4434155615661930479) (g := 17) (qs := [2, 41, 43, 1257559732178653]) (by kernel_rfl) (primesCons prime2 (primesCons lp20 (primesCons lp11 (primesCons lp41 primesNil))))).prime

theorem lp43 : PrimeU 172054593956031949258510691 := (cert (f := 88) (n := 172054593956031949258510691) (g := 2) (qs := [2, 5, 1361, 2851, 4434155615661930479]) (by kernel_rfl) (primesCons prime2 (primesCons lp1 (primesCons lp34 (primesCons lp36 (primesCons lp42 primesNil)))))).prime

theorem lp44 : PrimeU 19757330305831588566944191468367130476339 := (cert (f := 134) (n := 19757330305831588566944191468367130476339) (g := 2) (qs := [2, 269, 213441916511, 172054593956031949258510691]) (by kernel_rfl) (primesCons prime2 (primesCons lp26 (primesCons lp33 (primesCons lp43 primesNil))))).prime

theorem lp45 : PrimeU 276602624281642239937218680557139826668747 := (cert (f := 138) (n := 276602624281642239937218680557139826668747) (g := 2) (qs := [2, 7, 19757330305831588566944191468367130476339]) (by kernel_rfl) (primesCons prime2 (primesCons lp9 (primesCons lp44 primesNil)))).prime

theorem ell_prime : PrimeU ell := (cert (f := 253) (n := ell) (g := 2) (qs := [2, 2, 3, 11, 198211423230930754013084525763697, 276602624281642239937218680557139826668747]) (by kernel_rfl) (primesCons prime2 (primesCons prime2 (primesCons lp0 (primesCons lp2 (primesCons lp25 (primesCons lp45 primesNil))))))).prime

end Go.Proofs.YtdhnkkogbbhnmaaGreat

namespace Go.Proofs.YtdhnkkogbbhnmaaGreat
open Go
theorem or_two {a b : Nat} (hb : b ≤ 1) : 2 * a ||| b = 2 * a + b := by
  have h : b < 2 ^ 1 := by omega
  have := or_add (a := b) (b := a) (k := 1) h
  rw [Nat.pow_one, Nat.mul_comm a 2, Nat.or_comm] at this
  rw [this, Nat.add_comm]

theorem dblW_val {r : List Nat} (hl : r.length = 8) (hr : ∀ i, r.getD i 0 < 4294967296) {c : Nat} (hc : c ≤ 1) : ∀ k, k ≤ 8 →
    (dblW c r k).2 ≤ 1 ∧ (∀ i, k ≤ i → (dblW c r k).1.getD i 0 = r.getD i 0) ∧ (∀ i, (dblW c r k).1.getD i 0 < 4294967296) ∧
      sW 4294967296 (fun i => (dblW c r k).1.getD i 0) k + (dblW c r k).2 * 4294967296 ^ k = 2 * sW 4294967296 (fun i => r.getD i 0) k + c
  | 0, _ => ⟨hc, fun _ _ => rfl, hr, by simp [dblW, sW]⟩
  | k + 1, hk => by
    obtain ⟨h1, h2, h3, h4⟩ := dblW_val hl hr hc k (by omega)
    have hx := h2 k (Nat.le_refl _)
    have hrk := hr k
    have hlen := dblW_len c r k
    have hor : (dblW c r k).1.getD k 0 * 2 ^ 1 % 4294967296 ||| (dblW c r k).2 = 2 * (r.getD k 0 % 2147483648) + (dblW c r k).2 := by
      rw [hx, show r.getD k 0 * 2 ^ 1 % 4294967296 = 2 * (r.getD k 0 % 2147483648) by omega, or_two h1]
    have hs1 : (dblW c r (k + 1)).1 = (dblW c r k).1.set k (2 * (r.getD k 0 % 2147483648) + (dblW c r k).2) := by rw [dblW, hor]
    have hs2 : (dblW c r (k + 1)).2 = r.getD k 0 / 2 ^ 31 := by rw [dblW, hx]
    refine ⟨by rw [hs2]; omega, fun i hi => ?_, fun i => ?_, ?_⟩
    · rw [hs1, getD_set, if_neg (by omega)]
      exact h2 i (by omega)
    · rw [hs1, getD_set]
      split
      · omega
      · exact h3 i
    · have e1 : sW 4294967296 (fun i => (dblW c r (k + 1)).1.getD i 0) k = sW 4294967296 (fun i => (dblW c r k).1.getD i 0) k := sW_congr fun i hi => by
        rw [hs1, getD_set, if_neg (by omega)]
      have e2 : (dblW c r (k + 1)).1.getD k 0 = 2 * (r.getD k 0 % 2147483648) + (dblW c r k).2 := by
        rw [hs1, getD_set, if_pos ⟨rfl, by omega⟩]
      rw [sW, sW, e1, e2, hs2, show (4294967296 : Nat) ^ (k + 1) = 4294967296 ^ k * 4294967296 from Nat.pow_succ _ _]
      generalize sW 4294967296 (fun i => (dblW c r k).1.getD i 0) k = S at *
      generalize sW 4294967296 (fun i => r.getD i 0) k = R at *
      generalize (dblW c r k).2 = b at *
      have hx2 : r.getD k 0 = r.getD k 0 / 2 ^ 31 * 2147483648 + r.getD k 0 % 2147483648 := by omega
      generalize r.getD k 0 / 2 ^ 31 = q at *
      generalize r.getD k 0 % 2147483648 = t at *
      rw [hx2]
      generalize 4294967296 ^ k = m at *
      have a1 : (2 * t + b) * m = 2 * (t * m) + b * m := by rw [Nat.add_mul, Nat.mul_assoc]
      have a2 : q * (m * 4294967296) = 4294967296 * (q * m) := by rw [← Nat.mul_assoc, Nat.mul_comm]
      have a3 : (q * 2147483648 + t) * m = 2147483648 * (q * m) + t * m := by rw [Nat.add_mul, Nat.mul_comm q, Nat.mul_assoc]
      rw [a1, a2, Nat.mul_add, a3]
      omega

theorem lessW_val {r l x : List Nat} (hx : x.length = 8) (hr : ∀ i, r.getD i 0 < 4294967296) (hl : ∀ i, l.getD i 0 < 4294967296) : ∀ k, k ≤ 8 →
    (lessW r l x k).2 ≤ 1 ∧ (∀ i, i < k → (lessW r l x k).1.getD i 0 < 4294967296) ∧
      sW 4294967296 (fun i => (lessW r l x k).1.getD i 0) k + sW 4294967296 (fun i => l.getD i 0) k = sW 4294967296 (fun i => r.getD i 0) k + (lessW r l x k).2 * 4294967296 ^ k
  | 0, _ => ⟨Nat.zero_le _, fun i hi => by omega, by simp [lessW, sW]⟩
  | k + 1, hk => by
    obtain ⟨h1, h2, h3⟩ := lessW_val hx hr hl k (by omega)
    obtain ⟨g1, g2, g3⟩ := sub32_val (hr k) (hl k) h1
    have hlen := lessW_len r l x k
    have hs1 : (lessW r l x (k + 1)).1 = (lessW r l x k).1.set k (sub32 (r.getD k 0) (l.getD k 0) (lessW r l x k).2) := rfl
    have hs2 : (lessW r l x (k + 1)).2 = bor32 (r.getD k 0) (l.getD k 0) (lessW r l x k).2 := rfl
    refine ⟨by rw [hs2]; exact g2, fun i hi => ?_, ?_⟩
    · rw [hs1, getD_set]
      split
      · exact g1
      · exact h2 i (by omega)
    · have e1 : sW 4294967296 (fun i => (lessW r l x (k + 1)).1.getD i 0) k = sW 4294967296 (fun i => (lessW r l x k).1.getD i 0) k := sW_congr fun i hi => by
        rw [hs1, getD_set, if_neg (by omega)]
      have e2 : (lessW r l x (k + 1)).1.getD k 0 = sub32 (r.getD k 0) (l.getD k 0) (lessW r l x k).2 := by
        rw [hs1, getD_set, if_pos ⟨rfl, by omega⟩]
      rw [sW, sW, sW, e1, e2, hs2, show (4294967296 : Nat) ^ (k + 1) = 4294967296 ^ k * 4294967296 from Nat.pow_succ _ _]
      generalize sW 4294967296 (fun i => (lessW r l x k).1.getD i 0) k = S at *
      generalize sW 4294967296 (fun i => r.getD i 0) k = R at *
      generalize sW 4294967296 (fun i => l.getD i 0) k = T at *
      generalize sub32 (r.getD k 0) (l.getD k 0) (lessW r l x k).2 = s at *
      generalize bor32 (r.getD k 0) (l.getD k 0) (lessW r l x k).2 = c at *
      generalize (lessW r l x k).2 = b at *
      generalize r.getD k 0 = p at *
      generalize l.getD k 0 = q at *
      generalize 4294967296 ^ k = m at *
      have e := congrArg (· * m) g3
      simp only [Nat.add_mul] at e
      have e2 : c * 4294967296 * m = c * (m * 4294967296) := by rw [Nat.mul_assoc, Nat.mul_comm 4294967296]
      rw [e2] at e
      omega

theorem vB8 {r : List Nat} (hl : r.length = 8) : vB 4294967296 r = sW 4294967296 (fun i => r.getD i 0) 8 := by rw [vB_sW, hl]

theorem P8 : (4294967296 : Nat) ^ 8 = 115792089237316195423570985008687907853269984665640564039457584007913129639936 := by decide

theorem ell_v : ell = 7237005577332262213973186563042994240857116359379907606001950938285454250989 := rfl

/-- Doubled and a bit more. -/
theorem dbl_val {R c : Nat} (hR : R < ell) (hc : c ≤ 1) : (dblW c (dB 4294967296 8 R) 8).1 = dB 4294967296 8 (2 * R + c) := by
  have hl : (dB 4294967296 8 R).length = 8 := dB_len _ _ _
  have hr : ∀ i, (dB 4294967296 8 R).getD i 0 < 4294967296 := dB_bd (by decide) _ _
  obtain ⟨h1, _, h3, h4⟩ := dblW_val hl hr hc 8 (Nat.le_refl _)
  have hlen : (dblW c (dB 4294967296 8 R) 8).1.length = 8 := by rw [dblW_len, hl]
  rw [← vB8 hl, ← vB8 hlen, vB_dB] at h4
  have hb := vB_lt (B := 4294967296) (xs := (dblW c (dB 4294967296 8 R) 8).1) fun i _ => h3 i
  rw [hlen] at hb
  rw [dB_of hlen fun i _ => h3 i]
  generalize vB 4294967296 (dblW c (dB 4294967296 8 R) 8).1 = v at *
  generalize (dblW c (dB 4294967296 8 R) 8).2 = b at *
  rw [P8] at h4 hb
  rw [ell_v] at hR
  have : v = 2 * R + c := by omega
  rw [this]

theorem take_val {R : Nat} (x : List Nat) (hx : x.length = 8) (hR : R < 2 * ell) : (lessW (dB 4294967296 8 R) ord x 8).2 ≤ 1 ∧ ((lessW (dB 4294967296 8 R) ord x 8).2 = 0 → (lessW (dB 4294967296 8 R) ord x 8).1 = dB 4294967296 8 (R - ell) ∧ ell ≤ R) ∧ ((lessW (dB 4294967296 8 R) ord x 8).2 ≠ 0 → R < ell) := by
  have hl : (dB 4294967296 8 R).length = 8 := dB_len _ _ _
  have ho : ord.length = 8 := rfl
  have hr : ∀ i, (dB 4294967296 8 R).getD i 0 < 4294967296 := dB_bd (by decide) _ _
  have hord : ∀ i, ord.getD i 0 < 4294967296 := allB_get (by decide) (by decide +kernel)
  obtain ⟨h1, h3, h4⟩ := lessW_val hx hr hord 8 (Nat.le_refl _)
  have hlen : (lessW (dB 4294967296 8 R) ord x 8).1.length = 8 := by rw [lessW_len, hx]
  rw [← vB8 hl, ← vB8 ho, ← vB8 hlen, vB_dB, ord_val] at h4
  have hb := vB_lt (B := 4294967296) (xs := (lessW (dB 4294967296 8 R) ord x 8).1) fun i hi => h3 i (by rw [hlen] at hi; exact hi)
  rw [hlen] at hb
  have hd := dB_of (B := 4294967296) hlen h3
  generalize vB 4294967296 (lessW (dB 4294967296 8 R) ord x 8).1 = v at *
  generalize (lessW (dB 4294967296 8 R) ord x 8).2 = b at *
  rw [P8] at h4 hb
  rw [ell_v] at *
  refine ⟨h1, fun h0 => ⟨?_, by omega⟩, fun h0 => by omega⟩
  rw [hd]
  have : v = R - 7237005577332262213973186563042994240857116359379907606001950938285454250989 := by omega
  rw [this]

theorem half_mod (V j : Nat) : V / 2 ^ j % ell = (2 * (V / 2 ^ (j + 1) % ell) + V / 2 ^ j % 2) % ell := by
  have h := half_bit V j
  rw [h, show (2 * (V / 2 ^ (j + 1)) + V / 2 ^ j % 2) % 2 = V / 2 ^ j % 2 by omega]
  rw [Nat.add_mod (2 * (V / 2 ^ (j + 1))), Nat.mul_mod 2 (V / 2 ^ (j + 1)), Nat.add_mod (2 * (V / 2 ^ (j + 1) % ell)), Nat.mul_mod 2 (V / 2 ^ (j + 1) % ell), Nat.mod_mod]

theorem mdN_val {w : List Nat} (hw : ∀ i, w.getD i 0 < 4294967296) : ∀ i, i ≤ 32 * w.length →
    (mdN opsMd w (32 * w.length) i).r = dB 4294967296 8 (vB 4294967296 w / 2 ^ (32 * w.length - i) % ell)
  | 0, _ => by
    have h : vB 4294967296 w < 2 ^ (32 * w.length - 0) := by
      have := vB_lt (B := 4294967296) (xs := w) fun i _ => hw i
      rwa [show (4294967296 : Nat) = 2 ^ 32 from rfl, ← Nat.pow_mul] at this
    rw [Nat.div_eq_of_lt h]
    rfl
  | i + 1, hi => by
    have ih := mdN_val hw i (by omega)
    have hx := (mdN_len w (32 * w.length) i).2
    have hj : 32 * w.length - (i + 1) = 32 * w.length - 1 - i := by omega
    have hj1 : 32 * w.length - i = 32 * w.length - 1 - i + 1 := by omega
    have hs : mdN opsMd w (32 * w.length) (i + 1) = mdS opsMd w (mdN opsMd w (32 * w.length) i) (32 * w.length - 1 - i) := rfl
    rw [hs, hj]
    rw [hj1] at ih
    generalize hjj : 32 * w.length - 1 - i = j at *
    have hjw : j / 32 < w.length := by omega
    have hc : (w.getD (j / 32) 0 / 2 ^ (j % 32) &&& 1) = vB 4294967296 w / 2 ^ j % 2 := by
      rw [Nat.and_one_is_mod, dig_get hw hjw]
      have hb := bit_dig 32 (vB 4294967296 w) j (by decide)
      rwa [show (2 : Nat) ^ (32 * (j / 32)) = 4294967296 ^ (j / 32) from (Nat.pow_mul 2 32 _), show (2 : Nat) ^ 32 = 4294967296 from rfl] at hb
    have hR : vB 4294967296 w / 2 ^ (j + 1) % ell < ell := Nat.mod_lt _ (by decide)
    have hcb : vB 4294967296 w / 2 ^ j % 2 ≤ 1 := by omega
    rw [half_mod]
    generalize mdN opsMd w (32 * w.length) i = s at *
    obtain ⟨r, x, b⟩ := s
    simp only at ih hx
    subst ih
    have hsh : opsMd.sh (w.getD (j / 32) 0 / 2 ^ (j % 32) &&& 1) (dB 4294967296 8 (vB 4294967296 w / 2 ^ (j + 1) % ell)) = dB 4294967296 8 (2 * (vB 4294967296 w / 2 ^ (j + 1) % ell) + vB 4294967296 w / 2 ^ j % 2) := by
      rw [opsMd_sh, hc]
      exact dbl_val hR hcb
    generalize vB 4294967296 w / 2 ^ (j + 1) % ell = R at *
    generalize vB 4294967296 w / 2 ^ j % 2 = c at *
    obtain ⟨t1, t2, t3⟩ := take_val (R := 2 * R + c) x hx (by omega)
    have hbo : opsMd.bo (dB 4294967296 8 (2 * R + c)) ord x = (lessW (dB 4294967296 8 (2 * R + c)) ord x 8).2 := by rw [opsMd_bo]
    have hsu : opsMd.su (dB 4294967296 8 (2 * R + c)) ord x = (lessW (dB 4294967296 8 (2 * R + c)) ord x 8).1 := by rw [opsMd_su]
    cases hd : decide (opsMd.bo (opsMd.sh (w.getD (j / 32) 0 / 2 ^ (j % 32) &&& 1) (dB 4294967296 8 R)) ord x = 0) with
    | true =>
      rw [mdS_t hd]
      have h0 := of_decide_eq_true hd
      rw [hsh, hbo] at h0
      obtain ⟨u1, u2⟩ := t2 h0
      simp only
      rw [hsh, hsu, u1, Nat.mod_eq_sub_mod u2, Nat.mod_eq_of_lt (by omega)]
    | false =>
      rw [mdS_f hd]
      have h0 := of_decide_eq_false hd
      rw [hsh, hbo] at h0
      have u1 := t3 h0
      simp only
      rw [hsh, Nat.mod_eq_of_lt u1]

theorem modW_val {w : List Nat} (hw : ∀ i, w.getD i 0 < 4294967296) : modW w = dB 4294967296 8 (vB 4294967296 w % ell) := by
  unfold modW
  rw [mdN_val hw _ (Nat.le_refl _), Nat.sub_self, Nat.pow_zero, Nat.div_one]

end Go.Proofs.YtdhnkkogbbhnmaaGreat

namespace Go.Proofs.YtdhnkkogbbhnmaaGreat
open Go
theorem stp_eq {a x y c : Nat} (ha : a < 4294967296) (hx : x < 4294967296) (hy : y < 4294967296) (hc : c < 4294967296) : stp a x y c = c + (x + a * y) ∧ c + (x + a * y) < 18446744073709551616 := by
  have h : a * y ≤ 4294967295 * 4294967295 := Nat.mul_le_mul (by omega) (by omega)
  unfold stp
  generalize a * y = p at *
  have h' : p ≤ 18446744065119617025 := h
  constructor
  · rw [Nat.mod_eq_of_lt (show p < 18446744073709551616 by omega), Nat.mod_eq_of_lt (show x + p < 18446744073709551616 by omega), Nat.mod_eq_of_lt (by omega)]
  · omega

theorem tmI_val {u r : List Nat} {i a : Nat} (hu : ∀ j, u.getD j 0 < 4294967296) (hr : ∀ j, r.getD j 0 < 4294967296) (ha : a < 4294967296) (hl : i + u.length ≤ r.length) : ∀ j, j ≤ u.length →
    (tmI u i a r j).2 < 4294967296 ∧ (∀ k, (tmI u i a r j).1.getD k 0 < 4294967296) ∧ (∀ k, i + j ≤ k → (tmI u i a r j).1.getD k 0 = r.getD k 0) ∧
      vB 4294967296 (tmI u i a r j).1 + (tmI u i a r j).2 * 4294967296 ^ (i + j) = vB 4294967296 r + a * sW 4294967296 (fun j => u.getD j 0) j * 4294967296 ^ i
  | 0, _ => ⟨show 0 < 4294967296 by decide, hr, fun _ _ => rfl, by simp [tmI, sW]⟩
  | j + 1, hj => by
    obtain ⟨h1, h2, h3, h4⟩ := tmI_val hu hr ha hl j (by omega)
    have hx := h3 (i + j) (Nat.le_refl _)
    have hlen := tmI_len u i a r j
    obtain ⟨q1, q2⟩ := stp_eq ha (h2 (i + j)) (hu j) h1
    have hs1 : (tmI u i a r (j + 1)).1 = (tmI u i a r j).1.set (i + j) (((tmI u i a r j).2 + ((tmI u i a r j).1.getD (i + j) 0 + a * u.getD j 0)) % 4294967296) := by rw [tmI, q1]
    have hs2 : (tmI u i a r (j + 1)).2 = ((tmI u i a r j).2 + ((tmI u i a r j).1.getD (i + j) 0 + a * u.getD j 0)) / 4294967296 := by rw [tmI, q1]
    have hset := vB_set (B := 4294967296) (xs := (tmI u i a r j).1) (i := i + j) (by omega) (((tmI u i a r j).2 + ((tmI u i a r j).1.getD (i + j) 0 + a * u.getD j 0)) % 4294967296)
    refine ⟨by rw [hs2]; omega, fun k => ?_, fun k hk => ?_, ?_⟩
    · rw [hs1, getD_set]
      split
      · exact Nat.mod_lt _ (by decide)
      · exact h2 k
    · rw [hs1, getD_set, if_neg (by omega)]
      exact h3 k (by omega)
    · rw [← hs1] at hset
      rw [hs2, sW, show (4294967296 : Nat) ^ (i + (j + 1)) = 4294967296 ^ (i + j) * 4294967296 from Nat.pow_succ _ _]
      have hdm := Nat.div_add_mod ((tmI u i a r j).2 + ((tmI u i a r j).1.getD (i + j) 0 + a * u.getD j 0)) 4294967296
      generalize ((tmI u i a r j).2 + ((tmI u i a r j).1.getD (i + j) 0 + a * u.getD j 0)) / 4294967296 = D at *
      generalize ((tmI u i a r j).2 + ((tmI u i a r j).1.getD (i + j) 0 + a * u.getD j 0)) % 4294967296 = E at *
      generalize vB 4294967296 (tmI u i a r (j + 1)).1 = V' at *
      generalize vB 4294967296 (tmI u i a r j).1 = V at *
      generalize (tmI u i a r j).2 = c at *
      generalize (tmI u i a r j).1.getD (i + j) 0 = x at *
      generalize sW 4294967296 (fun j => u.getD j 0) j = S at *
      generalize vB 4294967296 r = R at *
      generalize u.getD j 0 = y at *
      rw [Nat.pow_add] at *
      generalize 4294967296 ^ i = m at *
      generalize 4294967296 ^ j = n at *
      have e : (4294967296 * D + E) * (m * n) = (c + (x + a * y)) * (m * n) := congrArg (· * (m * n)) hdm
      clear hdm
      grind

theorem tmN_val {w u : List Nat} (hw : ∀ i, w.getD i 0 < 4294967296) (hu : ∀ i, u.getD i 0 < 4294967296) : ∀ i, i ≤ w.length →
    tmN opsTi w u i = dB 4294967296 (w.length + u.length) (sW 4294967296 (fun i => w.getD i 0) i * vB 4294967296 u)
  | 0, _ => by
    rw [tmN, sW, Nat.zero_mul]
    have : ∀ n, dB 4294967296 n 0 = List.replicate n 0 := fun n => by
      induction n with
      | zero => rfl
      | succ n ih =>
        rw [dB, List.replicate_succ]
        exact congrArg (0 :: ·) ih
    exact (this _).symm
  | i + 1, hi => by
    have ih := tmN_val hw hu i (by omega)
    have hl0 := tmN_len w u i
    have hl1 := tmN_len w u (i + 1)
    have hr : ∀ k, (tmN opsTi w u i).getD k 0 < 4294967296 := fun k => by rw [ih]; exact dB_bd (by decide) _ _ _
    obtain ⟨h1, h2, h3, h4⟩ := tmI_val (r := tmN opsTi w u i) (i := i) hu hr (hw i) (by omega) u.length (Nat.le_refl _)
    have hU : vB 4294967296 u < 4294967296 ^ u.length := vB_lt fun k _ => hu k
    have hS : sW 4294967296 (fun i => w.getD i 0) i < 4294967296 ^ i := sW_lt fun k _ => hw k
    have hV : sW 4294967296 (fun i => w.getD i 0) i * vB 4294967296 u < 4294967296 ^ (i + u.length) := by
      rw [Nat.pow_add]
      exact Nat.mul_lt_mul'' hS hU
    have h0 : (tmI u i (w.getD i 0) (tmN opsTi w u i) u.length).1.getD (i + u.length) 0 = 0 := by
      rw [h3 _ (Nat.le_refl _), ih, dB_get]
      split
      · rw [Nat.div_eq_of_lt hV]
      · rfl
    have hstep : tmN opsTi w u (i + 1) = (tmI u i (w.getD i 0) (tmN opsTi w u i) u.length).1.set (i + u.length) ((tmI u i (w.getD i 0) (tmN opsTi w u i) u.length).2 % 4294967296) := by
      rw [tmN, opsTi_tl, opsTi_tc]
    have hset := vB_set (B := 4294967296) (xs := (tmI u i (w.getD i 0) (tmN opsTi w u i) u.length).1) (i := i + u.length) (by rw [tmI_len]; omega) ((tmI u i (w.getD i 0) (tmN opsTi w u i) u.length).2 % 4294967296)
    have hbd : ∀ k, (tmN opsTi w u (i + 1)).getD k 0 < 4294967296 := fun k => by
      rw [hstep, getD_set]
      split
      · exact Nat.mod_lt _ (by decide)
      · exact h2 k
    rw [← hstep, h0, Nat.mod_eq_of_lt h1] at hset
    rw [dB_of hl1 fun k _ => hbd k]
    have hval : vB 4294967296 (tmN opsTi w u (i + 1)) = sW 4294967296 (fun i => w.getD i 0) (i + 1) * vB 4294967296 u := by
      have e0 : vB 4294967296 (tmN opsTi w u i) = sW 4294967296 (fun i => w.getD i 0) i * vB 4294967296 u := by
        rw [ih, vB_dB, Nat.mod_eq_of_lt]
        exact Nat.lt_of_lt_of_le hV (Nat.pow_le_pow_right (by decide) (by omega))
      rw [e0, ← vB_sW] at h4
      rw [sW]
      generalize vB 4294967296 (tmN opsTi w u (i + 1)) = V' at *
      generalize vB 4294967296 (tmI u i (w.getD i 0) (tmN opsTi w u i) u.length).1 = V at *
      generalize (tmI u i (w.getD i 0) (tmN opsTi w u i) u.length).2 = c at *
      generalize sW 4294967296 (fun i => w.getD i 0) i = S at *
      generalize vB 4294967296 u = U at *
      generalize w.getD i 0 = a at *
      generalize 4294967296 ^ i = m at *
      generalize 4294967296 ^ (i + u.length) = n at *
      grind
    rw [hval]

theorem tm_val {w u : List Nat} (hw : ∀ i, w.getD i 0 < 4294967296) (hu : ∀ i, u.getD i 0 < 4294967296) :
    tmN opsTi w u w.length = dB 4294967296 (w.length + u.length) (vB 4294967296 w * vB 4294967296 u) := by
  rw [tmN_val hw hu _ (Nat.le_refl _), ← vB_sW]

theorem getD_app0 (w : List Nat) (i : Nat) : (w ++ [0]).getD i 0 = w.getD i 0 := by
  rw [List.getD, List.getD, List.getElem?_append]
  split
  · rfl
  · rename_i h
    rw [List.getElem?_eq_none (l := w) (by omega)]
    cases h2 : i - w.length with
    | zero => rfl
    | succ k => rfl

theorem plN_val {w u : List Nat} (hw : ∀ i, w.getD i 0 < 4294967296) (hu : ∀ i, u.getD i 0 < 4294967296) : ∀ j, j ≤ w.length + 1 →
    (plN w u j).2 ≤ 1 ∧ (∀ k, (plN w u j).1.getD k 0 < 4294967296) ∧ (∀ k, j ≤ k → (plN w u j).1.getD k 0 = w.getD k 0) ∧
      sW 4294967296 (fun k => (plN w u j).1.getD k 0) j + (plN w u j).2 * 4294967296 ^ j = sW 4294967296 (fun k => w.getD k 0) j + sW 4294967296 (fun k => u.getD k 0) j
  | 0, _ => ⟨Nat.zero_le _, fun k => by rw [plN, getD_app0]; exact hw k, fun k _ => by rw [plN, getD_app0], by simp [plN, sW]⟩
  | j + 1, hj => by
    obtain ⟨h1, h2, h3, h4⟩ := plN_val hw hu j (by omega)
    have hlen := plN_len w u j
    have hx := h3 j (Nat.le_refl _)
    obtain ⟨g1, g2, g3⟩ := add32_val (hw j) (hu j) h1
    have hs : plN w u (j + 1) = ((plN w u j).1.set j (add32 (w.getD j 0) (u.getD j 0) (plN w u j).2), car32 (w.getD j 0) (u.getD j 0) (plN w u j).2) := by
      rw [plN, hx]
      cases hd : decide (j < u.length) with
      | true => rfl
      | false =>
        have h0 : u.getD j 0 = 0 := by
          rw [List.getD, List.getElem?_eq_none (by have := of_decide_eq_false hd; omega)]; rfl
        rw [h0]; rfl
    have hs1 : (plN w u (j + 1)).1 = (plN w u j).1.set j (add32 (w.getD j 0) (u.getD j 0) (plN w u j).2) := by rw [hs]
    have hs2 : (plN w u (j + 1)).2 = car32 (w.getD j 0) (u.getD j 0) (plN w u j).2 := by rw [hs]
    refine ⟨by rw [hs2]; exact g2, fun k => ?_, fun k hk => ?_, ?_⟩
    · rw [hs1, getD_set]
      split
      · exact g1
      · exact h2 k
    · rw [hs1, getD_set, if_neg (by omega)]
      exact h3 k (by omega)
    · have e1 : sW 4294967296 (fun k => (plN w u (j + 1)).1.getD k 0) j = sW 4294967296 (fun k => (plN w u j).1.getD k 0) j := sW_congr fun i hi => by
        rw [hs1, getD_set, if_neg (by omega)]
      have e2 : (plN w u (j + 1)).1.getD j 0 = add32 (w.getD j 0) (u.getD j 0) (plN w u j).2 := by
        rw [hs1, getD_set, if_pos ⟨rfl, by omega⟩]
      rw [sW, sW, sW, e1, e2, hs2, show (4294967296 : Nat) ^ (j + 1) = 4294967296 ^ j * 4294967296 from Nat.pow_succ _ _]
      generalize sW 4294967296 (fun k => (plN w u j).1.getD k 0) j = S at *
      generalize sW 4294967296 (fun k => w.getD k 0) j = R at *
      generalize sW 4294967296 (fun k => u.getD k 0) j = T at *
      generalize add32 (w.getD j 0) (u.getD j 0) (plN w u j).2 = s at *
      generalize car32 (w.getD j 0) (u.getD j 0) (plN w u j).2 = c at *
      generalize (plN w u j).2 = b at *
      generalize w.getD j 0 = p at *
      generalize u.getD j 0 = q at *
      generalize 4294967296 ^ j = m at *
      have e := congrArg (· * m) g3
      simp only [Nat.add_mul] at e
      have e2 : c * 4294967296 * m = c * (m * 4294967296) := by rw [Nat.mul_assoc, Nat.mul_comm 4294967296]
      rw [e2] at e
      omega

theorem sW_ext {B : Nat} {f : Nat → Nat} {n m : Nat} (h : ∀ i, n ≤ i → f i = 0) (hm : n ≤ m) : sW B f m = sW B f n := by
  obtain ⟨k, rfl⟩ : ∃ k, m = n + k := ⟨m - n, by omega⟩
  rw [sW_split, sW_zero (fun i _ => h (n + i) (by omega)), Nat.mul_zero, Nat.add_zero]

theorem pl_val {w u : List Nat} (hw : ∀ i, w.getD i 0 < 4294967296) (hu : ∀ i, u.getD i 0 < 4294967296) (hl : u.length ≤ w.length) :
    (plN w u (w.length + 1)).1 = dB 4294967296 (w.length + 1) (vB 4294967296 w + vB 4294967296 u) := by
  obtain ⟨h1, h2, _, h4⟩ := plN_val hw hu (w.length + 1) (Nat.le_refl _)
  have hlen := plN_len w u (w.length + 1)
  have z : ∀ (l : List Nat) i, l.length ≤ i → l.getD i 0 = 0 := fun l i hi => by rw [List.getD, List.getElem?_eq_none hi]; rfl
  have e1 : sW 4294967296 (fun k => (plN w u (w.length + 1)).1.getD k 0) (w.length + 1) = vB 4294967296 (plN w u (w.length + 1)).1 := by rw [vB_sW, hlen]
  have e2 : sW 4294967296 (fun k => w.getD k 0) (w.length + 1) = vB 4294967296 w := by rw [sW_ext (z w) (by omega), vB_sW]
  have e3 : sW 4294967296 (fun k => u.getD k 0) (w.length + 1) = vB 4294967296 u := by rw [sW_ext (z u) (by omega), vB_sW]
  rw [e1, e2, e3] at h4
  have hW : vB 4294967296 w < 4294967296 ^ w.length := vB_lt fun k _ => hw k
  have hU : vB 4294967296 u < 4294967296 ^ w.length := Nat.lt_of_lt_of_le (vB_lt fun k _ => hu k) (Nat.pow_le_pow_right (by decide) hl)
  rw [dB_of hlen fun k _ => h2 k]
  have : vB 4294967296 (plN w u (w.length + 1)).1 = vB 4294967296 w + vB 4294967296 u := by
    rw [show (4294967296 : Nat) ^ (w.length + 1) = 4294967296 ^ w.length * 4294967296 from Nat.pow_succ _ _] at h4
    generalize vB 4294967296 (plN w u (w.length + 1)).1 = V at *
    generalize (plN w u (w.length + 1)).2 = c at *
    generalize 4294967296 ^ w.length = m at *
    have hc : c = 0 ∨ c = 1 := by omega
    rcases hc with rfl | rfl
    · omega
    · omega
  rw [this]

theorem red_val {b : List Nat} (hb : ∀ i, b.getD i 0 < 256) : redC b = dB 256 32 (vB 256 b % ell) := by
  have hw : ∀ i, (wdN b b.length).getD i 0 < 4294967296 := fun i => by rw [wd_val hb]; exact dB_bd (by decide) _ _ _
  unfold redC
  rw [modW_val hw, wd_vB hb, by_val]

theorem scan_val {k : List Nat} (hl : k.length = 32) (hk : ∀ i, k.getD i 0 < 256) : scanC k = decide (vB 256 k < ell) := by
  have hw : ∀ i, (wdN k k.length).getD i 0 < 4294967296 := fun i => by rw [wd_val hk]; exact dB_bd (by decide) _ _ _
  have ho : ∀ i, ord.getD i 0 < 4294967296 := allB_get (by decide) (by decide +kernel)
  have hlo : ord.length = 8 := rfl
  have := lsN_iff hw ho (by rw [wdN_len, hl, hlo])
  rw [wd_vB hk, ord_val] at this
  unfold scanC
  exact decide_eq_decide.2 this

theorem mad_val {a b c : List Nat} (la : a.length = 32) (lb : b.length = 32) (lc : c.length = 32) (ha : ∀ i, a.getD i 0 < 256) (hb : ∀ i, b.getD i 0 < 256) (hc : ∀ i, c.getD i 0 < 256) :
    madC a b c = dB 256 32 ((vB 256 a * vB 256 b + vB 256 c) % ell) := by
  have wa : ∀ i, (wdN a a.length).getD i 0 < 4294967296 := fun i => by rw [wd_val ha]; exact dB_bd (by decide) _ _ _
  have wb : ∀ i, (wdN b b.length).getD i 0 < 4294967296 := fun i => by rw [wd_val hb]; exact dB_bd (by decide) _ _ _
  have wc : ∀ i, (wdN c c.length).getD i 0 < 4294967296 := fun i => by rw [wd_val hc]; exact dB_bd (by decide) _ _ _
  have hA := wd_vB ha
  have hB := wd_vB hb
  have hC := wd_vB hc
  have lA : (wdN a a.length).length = 8 := by rw [wdN_len, la]
  have lB : (wdN b b.length).length = 8 := by rw [wdN_len, lb]
  have lC : (wdN c c.length).length = 8 := by rw [wdN_len, lc]
  unfold madC
  generalize wdN a a.length = A at *
  generalize wdN b b.length = B at *
  generalize wdN c c.length = C at *
  have ht := tm_val wa wb
  have wt : ∀ i, (tmN opsTi A B A.length).getD i 0 < 4294967296 := fun i => by rw [ht]; exact dB_bd (by decide) _ _ _
  have lt := tmN_len A B A.length
  have vt : vB 4294967296 (tmN opsTi A B A.length) = vB 256 a * vB 256 b := by
    rw [ht, vB_dB, hA, hB, Nat.mod_eq_of_lt]
    rw [Nat.pow_add, ← hA, ← hB]
    exact Nat.mul_lt_mul'' (vB_lt fun i _ => wa i) (vB_lt fun i _ => wb i)
  generalize tmN opsTi A B A.length = T at *
  have hp := pl_val wt wc (by omega)
  have wp : ∀ i, (plN T C (T.length + 1)).1.getD i 0 < 4294967296 := fun i => by rw [hp]; exact dB_bd (by decide) _ _ _
  have hlt : vB 256 a * vB 256 b + vB 256 c < 4294967296 ^ (T.length + 1) := by
    have h1 : vB 4294967296 T < 4294967296 ^ T.length := vB_lt fun i _ => wt i
    have h2 : vB 4294967296 C < 4294967296 ^ T.length := Nat.lt_of_lt_of_le (vB_lt fun i _ => wc i) (Nat.pow_le_pow_right (by decide) (by omega))
    rw [vt] at h1
    rw [hC] at h2
    rw [show (4294967296 : Nat) ^ (T.length + 1) = 4294967296 ^ T.length * 4294967296 from Nat.pow_succ _ _]
    generalize 4294967296 ^ T.length = m at *
    omega
  rw [modW_val wp, by_val, hp, vB_dB, vt, hC, Nat.mod_eq_of_lt hlt]

end Go.Proofs.YtdhnkkogbbhnmaaGreat

namespace Go.Proofs.YtdhnkkogbbhnmaaGreat
open Go
open Fq
theorem RP_ng {p : L4} {P : Pt d1} (h : RP p P) : RP (ngL ops p) (negP P) := by
  obtain ⟨x, y, z, t, e1, e2, e3, e4, hz, hx, hy, ht⟩ := h
  unfold ngL
  rw [ops_neg]
  refine RP_mk (negE e1) e2 e3 (negE e4) ⟨hz, ?_, hy, ?_⟩
  · rw [c_neg, hx]
    show -(-(iF * P.x * c z)) = -(iF * (-P.x) * c z)
    grind -lia
  · rw [c_neg, ht]
    show -(-(iF * P.x * P.y * c z)) = -(iF * (-P.x) * P.y * c z)
    grind -lia

theorem RP_sum {p q : L4} {P Q : Pt d1} (hp : RP p P) (hq : RP q Q) : RP (sumL opsP p q) (add ns_d1 P Q) := by
  unfold sumL
  rw [opsP_fac]
  have h1 := RP_pl RP_zero hp
  rw [zero_addP] at h1
  exact RP_pl h1 hq

theorem cross {a b z w : Fq} (hz : z ≠ 0) (hw : w ≠ 0) (h : a * z * w = b * w * z) : a = b := by
  refine Fq.cancel hz (Fq.cancel hw ?_)
  grind -lia

theorem eq_P {p q : L4} {P Q : Pt d1} (hp : RP p P) (hq : RP q Q) : eqL ops p q = true ↔ P = Q := by
  obtain ⟨x, y, z, t, e1, e2, e3, e4, hz, hx, hy, ht⟩ := hp
  obtain ⟨x', y', z', t', f1, f2, f3, f4, hz', hx', hy', ht'⟩ := hq
  unfold eqL
  rw [ops_eq, ops_mul, eqEc (mulE e1 f3) (mulE f1 e3), eqEc (mulE e2 f3) (mulE f2 e3), c_mul, c_mul, c_mul, c_mul, Bool.and_eq_true, decide_eq_true_eq, decide_eq_true_eq, hx, hy, hx', hy']
  have hi := i_i
  constructor
  · rintro ⟨h1, h2⟩
    refine Pt.ext ?_ (cross hz hz' h2)
    have h3 : iF * iF * P.x * c z * c z' = iF * iF * Q.x * c z' * c z := by grind -lia
    rw [hi] at h3
    refine cross hz hz' ?_
    grind -lia
  · rintro rfl
    exact ⟨by grind -lia, by grind -lia⟩

structure Q4 where
  x : Nat
  y : Nat
  z : Nat
  t : Nat

def RQ (p : Q4) (P : Pt d1) : Prop := Rp P (c p.x) (c p.y) (c p.z) (c p.t)

def mnP (a b : Nat) : Nat := a + (P255 - b % P255)

theorem c_mnP (a b : Nat) : c (mnP a b) = c a - c b := by
  unfold mnP
  rw [c_psub (mod_lt' b), c_mod]

def twQ (p : Q4) : Q4 :=
  (fun a b cc s => (fun h g => (fun e f => ⟨e * f % P255, g * h % P255, f * g % P255, e * h % P255⟩) (mnP h (s * s) % P255) ((cc + g) % P255)) ((a + b) % P255) (mnP a b % P255))
    (p.x * p.x % P255) (p.y * p.y % P255) (2 * p.z * p.z % P255) ((p.x + p.y) % P255)

def plQ (d : Nat) (p q : Q4) : Q4 :=
  (fun a b cc e => (fun g h k l => ⟨g * h % P255, k * l % P255, h * k % P255, g * l % P255⟩) (mnP b a % P255) (mnP e cc % P255) ((e + cc) % P255) ((b + a) % P255))
    (mnP p.y p.x * mnP q.y q.x % P255) ((p.y + p.x) * (q.y + q.x) % P255) (2 * d * p.t * q.t % P255) (2 * p.z * q.z % P255)

theorem c_2 : c 2 = (2 : Fq) := (nat_d 2).symm

theorem RQ_tw {p : Q4} {P : Pt d1} (hp : RQ p P) : RQ (twQ p) (add ns_d1 P P) := by
  obtain ⟨hz, hx, hy, ht⟩ := hp
  have hid := tw_id (z := c p.z) i_i P.on rfl (add_x ns_d1 P P) (add_y ns_d1 P P)
  simp only [one_mul, ← hx, ← hy] at hid
  obtain ⟨i1, i2, i3, i4⟩ := hid
  unfold RQ twQ
  simp only [c_mod, c_mul, c_add, c_mnP, c_2]
  refine ⟨?_, i2, i3, i4⟩
  refine fun h0 => ?_
  have h0' := i1.symm.trans h0
  have h1 : c p.z * c p.z * (c p.z * c p.z) * ((1 - d1*P.x*P.x*P.y*P.y) * (1 + d1*P.x*P.x*P.y*P.y)) ≠ 0 := mul_ne (mul_ne (mul_ne hz hz) (mul_ne hz hz)) (mul_ne (den_m ns_d1 P.on P.on) (den_p ns_d1 P.on P.on))
  refine h1 ?_
  rw [← neg_neg (c p.z * c p.z * (c p.z * c p.z) * ((1 - d1*P.x*P.x*P.y*P.y) * (1 + d1*P.x*P.x*P.y*P.y))), h0']
  exact neg_uniq (add_zero 0)

theorem RQ_pl {p q : Q4} {P Q : Pt d1} (hp : RQ p P) (hq : RQ q Q) : RQ (plQ (uV facK) p q) (add ns_d1 P Q) := by
  obtain ⟨hz, hx, hy, ht⟩ := hp
  obtain ⟨hz', hx', hy', ht'⟩ := hq
  have hf := fac_d
  generalize uV facK = fa at *
  have hid := pl_id (z := c p.z) (z' := c q.z) i_i rfl (add_x ns_d1 P Q) (add_y ns_d1 P Q)
  simp only [one_mul, ← hx, ← hy, ← ht, ← hx', ← hy', ← ht', ← hf] at hid
  obtain ⟨i1, i2, i3, i4⟩ := hid
  unfold RQ plQ
  simp only [c_mod, c_mul, c_add, c_mnP, c_2]
  refine ⟨?_, i2, i3, i4⟩
  refine fun h0 => ?_
  have h0' := i1.symm.trans h0
  exact mul_ne (mul_ne four_ne (mul_ne (mul_ne hz hz') (mul_ne hz hz'))) (mul_ne (den_m ns_d1 P.on Q.on) (den_p ns_d1 P.on Q.on)) h0'

def mqN (d : Nat) (p : Q4) (V : Nat) : Nat → Q4
  | 0 => ⟨0, 1, 1, 0⟩
  | i + 1 => (fun q => cond (decide (V / 2 ^ (255 - i) % 2 = 1)) (plQ d q p) q) (twQ (mqN d p V i))

theorem RQ_zero : RQ ⟨0, 1, 1, 0⟩ (zeroP d1) := by
  have e0 : c 0 = (0 : Fq) := rfl
  unfold RQ Rp
  simp only [c_1, e0]
  refine ⟨one_ne, ?_, ?_, ?_⟩
  · show (0 : Fq) = -(iF * 0 * 1)
    grind -lia
  · show (1 : Fq) = 1 * 1
    grind -lia
  · show (0 : Fq) = -(iF * 0 * 1 * 1)
    grind -lia

theorem RQ_mp {p : Q4} {P : Pt d1} (hp : RQ p P) {V : Nat} (hV : V < 2 ^ 256) : ∀ i, i ≤ 256 → RQ (mqN (uV facK) p V i) (smul ns_d1 (V / 2 ^ (256 - i)) P)
  | 0, _ => by
    rw [Nat.div_eq_of_lt hV]
    exact RQ_zero
  | i + 1, hi => by
    have ih := RQ_mp hp hV i (by omega)
    have hb := half_bit V (255 - i)
    rw [show 255 - i + 1 = 256 - i by omega] at hb
    rw [show 256 - (i + 1) = 255 - i by omega, hb]
    have e2 := RQ_tw ih
    rw [← smul_add, ← Nat.two_mul] at e2
    unfold mqN
    by_cases h : V / 2 ^ (255 - i) % 2 = 1
    · simp only
      rw [decide_eq_true h, h]
      exact RQ_pl e2 hp
    · simp only
      rw [decide_eq_false h, show V / 2 ^ (255 - i) % 2 = 0 by omega, Nat.add_zero]
      exact e2

def bX : Nat := 15112221349535400772501151409588531511454012693041857206046113283949847762202

def bY : Nat := 46316835694926478169428394003475163141307993866256225615783033603165251855960

def dN : Nat := 37095705934669439343138083508754565189542113879843219016388785533085940283555

theorem bas_num : uV basX = bX ∧ uV basY = bY ∧ uV facK = dN := by decide +kernel

theorem order_num : (mqN dN ⟨bX, bY, 1, bX * bY % P255⟩ ell 256).x % P255 = 0 ∧ (mqN dN ⟨bX, bY, 1, bX * bY % P255⟩ ell 256).z % P255 ≠ 0 ∧
    (mqN dN ⟨bX, bY, 1, bX * bY % P255⟩ ell 256).y % P255 = (mqN dN ⟨bX, bY, 1, bX * bY % P255⟩ ell 256).z % P255 := by decide +kernel

theorem RQ_bas : RQ ⟨bX, bY, 1, bX * bY % P255⟩ basP := by
  obtain ⟨h1, h2, _⟩ := bas_num
  unfold RQ
  simp only [c_mod]
  exact Rp_aff (by rw [bas_px, h1]) (by rw [bas_py, h2])

theorem i_ne : iF ≠ 0 := fun h => by
  have hi := i_i
  rw [h] at hi
  have e : (1 : Fq) = 0 := by grind -lia
  exact one_ne e

theorem order : smul ns_d1 ell basP = zeroP d1 := by
  have h := RQ_mp RQ_bas (V := ell) (by decide) 256 (Nat.le_refl _)
  rw [Nat.sub_self, Nat.pow_zero, Nat.div_one, bas_num.2.2] at h
  obtain ⟨n1, n2, n3⟩ := order_num
  generalize mqN dN ⟨bX, bY, 1, bX * bY % P255⟩ ell 256 = q at *
  generalize smul ns_d1 ell basP = S at *
  obtain ⟨hz, hx, hy, _⟩ := h
  have hx0 : c q.x = 0 := c_zero.2 n1
  have hyz : c q.y = c q.z := c_eq.2 n3
  refine Pt.ext ?_ ?_
  · show S.x = 0
    rw [hx0] at hx
    have e : (iF * c q.z) * S.x = 0 := by grind -lia
    exact eq_zero e (mul_ne i_ne hz)
  · show S.y = 1
    rw [hyz] at hy
    refine Fq.cancel hz ?_
    grind -lia

end Go.Proofs.YtdhnkkogbbhnmaaGreat

namespace Go.Proofs.YtdhnkkogbbhnmaaGreat
open Go
open Fq
theorem smul_gcd {P : Pt d1} : ∀ {a b : Nat}, smul ns_d1 a P = zeroP d1 → smul ns_d1 b P = zeroP d1 → smul ns_d1 (Nat.gcd a b) P = zeroP d1 := by
  intro a
  induction a using Nat.strongRecOn with
  | ind a ih =>
    intro b ha hb
    by_cases h0 : a = 0
    · rw [h0, Nat.gcd_zero_left]; exact hb
    · rw [Nat.gcd_rec]
      refine ih (b % a) (Nat.mod_lt _ (by omega)) ?_ ha
      have e : b = b / a * a + b % a := by rw [Nat.mul_comm]; exact (Nat.div_add_mod b a).symm
      rw [e, smul_add, smul_mul, ha, smul_zero, zero_addP] at hb
      rw [← hb]

theorem bas_ne : basP ≠ zeroP d1 := fun h => by
  have hy := bas_y
  rw [h] at hy
  have e : (zeroP d1).y = 1 := rfl
  rw [e] at hy
  have : (1 : Fq) = 0 := by grind -lia
  exact one_ne this

theorem ell_ne {n : Nat} (h : smul ns_d1 n basP = zeroP d1) : ell ∣ n := by
  have h1 := smul_gcd order h
  rcases ell_prime.2 _ (Nat.gcd_dvd_left ell n) with e | e
  · rw [e, smul_one] at h1
    exact absurd h1 bas_ne
  · rw [← e]
    exact Nat.gcd_dvd_right ell n

theorem smul_ell (n : Nat) (P : Pt d1) (h : smul ns_d1 ell P = zeroP d1) : smul ns_d1 (n % ell) P = smul ns_d1 n P := by
  have e : n = n / ell * ell + n % ell := by rw [Nat.mul_comm]; exact (Nat.div_add_mod n ell).symm
  have e2 : smul ns_d1 n P = smul ns_d1 (n / ell * ell + n % ell) P := congrArg (fun m => smul ns_d1 m P) e
  rw [e2, smul_add, smul_mul, h, smul_zero, zero_addP]

theorem clamp_val {k : List Nat} (h : g32 k = true) : ∃ b, vB 256 (clF k) = 8 * b ∧ 2 ^ 251 ≤ b ∧ b < 2 ^ 252 := by
  have h8 := nK_8 h
  have hlt := nK_lt h
  have hl := g32_len h
  have h31 : (clF k).getD 31 0 = k.getD 31 0 &&& 127 ||| 64 := by rw [clF_get hl, if_pos rfl]
  have hge : 64 ≤ (clF k).getD 31 0 := by
    rw [h31]
    have : ∀ x, x < 256 → 64 ≤ (x &&& 127 ||| 64) := by decide +kernel
    exact this _ (g32_b h 31)
  have hv : vB 256 (clF k) = sW 256 (fun i => (clF k).getD i 0) 31 + (clF k).getD 31 0 * 256 ^ 31 := by
    have e : sW 256 (fun i => (clF k).getD i 0) (31 + 1) = sW 256 (fun i => (clF k).getD i 0) 31 + (clF k).getD 31 0 * 256 ^ 31 := rfl
    rw [vB_sW, clF_len, hl]
    exact e
  have hm : 64 * 256 ^ 31 ≤ (clF k).getD 31 0 * 256 ^ 31 := Nat.mul_le_mul_right _ hge
  unfold nK at h8 hlt
  refine ⟨vB 256 (clF k) / 8, by omega, ?_, ?_⟩
  · have : 64 * 256 ^ 31 = 8 * 2 ^ 251 := by decide
    omega
  · have : P2 = 8 * 2 ^ 252 := by decide
    omega

theorem no_mul {L b m : Nat} (hc : Nat.gcd 64 L = 1) (h : 8 * (8 * b) = L * m) (h1 : 0 < b) (h2 : b < L) : False := by
  have h3 : 64 ∣ L * m := ⟨b, by rw [← h, ← Nat.mul_assoc]⟩
  obtain ⟨q, rfl⟩ := Nat.Coprime.dvd_of_dvd_mul_left hc h3
  have h4 : b = L * q := by
    have : 64 * b = 64 * (L * q) := by rw [Nat.mul_left_comm, ← h, ← Nat.mul_assoc]
    omega
  cases q with
  | zero => omega
  | succ q =>
    rw [Nat.mul_succ] at h4
    omega

theorem clamp_big {k : List Nat} (h : g32 k = true) : smul ns_d1 8 (smul ns_d1 (vB 256 (clF k)) basP) ≠ zeroP d1 := fun h0 => by
  obtain ⟨b, e, h1, h2⟩ := clamp_val h
  rw [← smul_mul, e] at h0
  obtain ⟨m, hm⟩ := ell_ne h0
  exact no_mul (by decide +kernel) hm (Nat.lt_of_lt_of_le (by decide) h1) (Nat.lt_trans h2 (by decide +kernel))

theorem tiny_P {p : L4} {P : Pt d1} (h : RP p P) (hne : smul ns_d1 8 P ≠ zeroP d1) : tnL opsP p = false := by
  have h2 := RP_tw (RP_tw (RP_tw h))
  have e : add ns_d1 (add ns_d1 (add ns_d1 P P) (add ns_d1 P P)) (add ns_d1 (add ns_d1 P P) (add ns_d1 P P)) = smul ns_d1 8 P := by
    have e2 : add ns_d1 P P = smul ns_d1 2 P := by
      show _ = add ns_d1 (add ns_d1 (zeroP d1) P) P
      rw [zero_addP]
    rw [e2, ← smul_add, ← smul_add]
  rw [e] at h2
  unfold tnL
  rw [opsP_ops]
  cases hz : eqL ops (opsP.tw (opsP.tw (opsP.tw p))) zer4
  · rfl
  · exact absurd ((eq_P h2 RP_zero).1 hz) hne

end Go.Proofs.YtdhnkkogbbhnmaaGreat

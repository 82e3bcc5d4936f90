/-
  Part 4 of what the last text stands on: Poly1305: the code's loop over the parts.
-/
import Derived.Test.YtmkhbgklclhmgaaB3

set_option linter.unusedSimpArgs false
set_option linter.unusedVariables false

namespace Go.Proofs.Ytmkhbgklclhmgaa
open Go

/-- What is left when all whole blocks are taken. -/
def dropQ (y : List Nat) : List Nat := y.drop (16 * (y.length / 16))

def rsN (pss : List (List Nat)) : Nat → List Nat
  | 0 => []
  | i + 1 => dropQ (rsN pss i ++ pss.getD i [])

def yN (pss : List (List Nat)) (i : Nat) : List Nat := rsN pss i ++ pss.getD i []

def asN (r a : List Nat) (pss : List (List Nat)) : Nat → List Nat
  | 0 => a
  | i + 1 => takesC r (asN r a pss i) (yN pss i) ((yN pss i).length / 16)

def ok41 (pss : List (List Nat)) : Bool := pss.all fun p => decide (p.length ≤ 2199023255552)

theorem ok41_get {pss : List (List Nat)} (h : ok41 pss = true) (j : Nat) : (pss.getD j []).length ≤ 2199023255552 := by
  rw [List.getD]
  cases hj : pss[j]? with
  | none => simp
  | some p =>
    have := List.all_eq_true.1 h p (List.mem_of_getElem? hj)
    simpa using this

theorem rsN_len (pss : List (List Nat)) (i : Nat) : (rsN pss i).length < 16 := by
  cases i with
  | zero => simp [rsN]
  | succ i => simp only [rsN, dropQ, List.length_drop]; omega

theorem asN_len {r a : List Nat} {pss : List (List Nat)} (h : a.length = 5) : ∀ i, (asN r a pss i).length = 5
  | 0 => h
  | i + 1 => takesC_len (asN_len h i) _

def slW (b l : Nat) : AV := .s (.sl .whole b 0 l 1)
def slS (b l : Nat) : AV := .s (.sl .suf b (16 * (l / 16)) (l - 16 * (l / 16)) 1)

def slQ (b l : Nat) : AV := cond (decide (l / 16 = 0)) (slW b l) (slS b l)

def S4 : LSem := ⟨[38, 39, 40, 11, 12], [11], fun args hin => match args, hin with
  | [.s (.xsl (.bss pss)), .s (.nat .i64 n), .s (.nat .i64 0), .s .nil, .s (.fn 18 [] [(0, 0), (1, 0)])], [[.ints .u64 5 a], [.ints .u64 5 r]] =>
    some (Tr.needs [decide (n = pss.length), decide (a.length = 5), decide (r.length = 5), decide (n < 9223372036854775808), ok41 pss]
      (.br (decide (n = 0)) (.leaf (.normal, [.s .nil], [some [.ints .u64 5 a], some [.ints .u64 5 r]]))
        (.br (decide ((yN pss (n - 1)).length / 16 = 0))
          (.leaf (.normal, [slW 2 (yN pss (n - 1)).length], [some [.ints .u64 5 (asN r a pss n)], some [.ints .u64 5 r], some [.ints .u8 (yN pss (n - 1)).length (yN pss (n - 1))]]))
          (.leaf (.normal, [slS 2 (yN pss (n - 1)).length], [some [.ints .u64 5 (asN r a pss n)], some [.ints .u64 5 r], some [.ints .u8 (yN pss (n - 1)).length (yN pss (n - 1))]])))))
  | _, _ => none⟩

set_option maxRecDepth 100000 in
theorem rr4n (pss : List (List Nat)) (n j : Nat) (a r : List Nat) : runR Try.prog [(18, F36)] [] .nat 7 [(6, S6)] Try.f9 4 S4 2 [.s (.xsl (.bss pss)), .s (.nat .i64 n), .s (.nat .i64 j), .s .nil, .s (.fn 18 [] [(0, 0), (1, 0)])] [some [.ints .u64 5 a], some [.ints .u64 5 r]] =
(cond (decide (j < n))
 (nd [decide (j < pss.length), decide (j < pss.length), decide ((pss.getD j []).length ≤ 4398046511104), decide ((pss.getD j []).length = (pss.getD j []).length), decide ((pss.getD j []).length = (pss.getD j []).length), decide (a.length = 5), decide (r.length = 5), decide ((pss.getD j []).length < 9223372036854775808)]
 (cond (decide ((pss.getD j []).length / 16 = 0))
 (nd [decide (j + 1 < 9223372036854775808)]
 (some (Ex.normal, [AV.s (SV.xsl (XC.bss pss)), AV.s (SV.nat IntKind.i64 n), AV.s (SV.nat IntKind.i64 (j + 1)), AV.s (SV.sl LK.whole (2) 0 (pss.getD j []).length 1), AV.s (SV.fn 18 [] [(0, 0), (1, 0)])], [some [Ch.ints IntKind.u64 5 a], some [Ch.ints IntKind.u64 5 r], some [Ch.ints IntKind.u8 (pss.getD j []).length (pss.getD j [])]])))
 (nd [decide (j + 1 < 9223372036854775808)]
 (some (Ex.normal, [AV.s (SV.xsl (XC.bss pss)), AV.s (SV.nat IntKind.i64 n), AV.s (SV.nat IntKind.i64 (j + 1)), AV.s (SV.sl LK.suf (2) (16 * ((pss.getD j []).length / 16)) ((pss.getD j []).length - 16 * ((pss.getD j []).length / 16)) 1), AV.s (SV.fn 18 [] [(0, 0), (1, 0)])], [some [Ch.ints IntKind.u64 5 (takesC r a (pss.getD j []) ((pss.getD j []).length / 16))], some [Ch.ints IntKind.u64 5 r], some [Ch.ints IntKind.u8 (pss.getD j []).length (pss.getD j [])]])))))
 (some (Ex.exit 4, [AV.s SV.nil], [some [Ch.ints IntKind.u64 5 a], some [Ch.ints IntKind.u64 5 r]]))) := by kernel_rfl

set_option maxRecDepth 100000 in
theorem rr4w (pss : List (List Nat)) (n j l : Nat) (a r xs : List Nat) : runR Try.prog [(18, F36)] [] .nat 7 [(6, S6)] Try.f9 4 S4 2 [.s (.xsl (.bss pss)), .s (.nat .i64 n), .s (.nat .i64 j), .s (.sl .whole 2 0 l 1), .s (.fn 18 [] [(0, 0), (1, 0)])] [some [.ints .u64 5 a], some [.ints .u64 5 r], some [.ints .u8 l xs]] =
(cond (decide (j < n))
 (nd [decide (j < pss.length), decide (j < pss.length), decide (l = l), decide (l + (pss.getD j []).length ≤ 4398046511104), decide (l + (pss.getD j []).length = l + (pss.getD j []).length), decide ((xs ++ pss.getD j []).length = l + (pss.getD j []).length), decide (a.length = 5), decide (r.length = 5), decide (l + (pss.getD j []).length < 9223372036854775808)]
 (cond (decide ((l + (pss.getD j []).length) / 16 = 0))
 (nd [decide (j + 1 < 9223372036854775808)]
 (some (Ex.normal, [AV.s (SV.xsl (XC.bss pss)), AV.s (SV.nat IntKind.i64 n), AV.s (SV.nat IntKind.i64 (j + 1)), AV.s (SV.sl LK.whole (2) 0 (l + (pss.getD j []).length) 1), AV.s (SV.fn 18 [] [(0, 0), (1, 0)])], [some [Ch.ints IntKind.u64 5 a], some [Ch.ints IntKind.u64 5 r], some [Ch.ints IntKind.u8 (l + (pss.getD j []).length) (xs ++ pss.getD j [])]])))
 (nd [decide (j + 1 < 9223372036854775808)]
 (some (Ex.normal, [AV.s (SV.xsl (XC.bss pss)), AV.s (SV.nat IntKind.i64 n), AV.s (SV.nat IntKind.i64 (j + 1)), AV.s (SV.sl LK.suf (2) (16 * ((l + (pss.getD j []).length) / 16)) (l + (pss.getD j []).length - 16 * ((l + (pss.getD j []).length) / 16)) 1), AV.s (SV.fn 18 [] [(0, 0), (1, 0)])], [some [Ch.ints IntKind.u64 5 (takesC r a (xs ++ pss.getD j []) ((l + (pss.getD j []).length) / 16))], some [Ch.ints IntKind.u64 5 r], some [Ch.ints IntKind.u8 (l + (pss.getD j []).length) (xs ++ pss.getD j [])]])))))
 (some (Ex.exit 4, [AV.s (SV.sl LK.whole (2) 0 l 1)], [some [Ch.ints IntKind.u64 5 a], some [Ch.ints IntKind.u64 5 r], some [Ch.ints IntKind.u8 l xs]]))) := by kernel_rfl

set_option maxRecDepth 100000 in
theorem rr4s (pss : List (List Nat)) (n j l off len : Nat) (a r xs : List Nat) : runR Try.prog [(18, F36)] [] .nat 7 [(6, S6)] Try.f9 4 S4 2 [.s (.xsl (.bss pss)), .s (.nat .i64 n), .s (.nat .i64 j), .s (.sl .suf 2 off len 1), .s (.fn 18 [] [(0, 0), (1, 0)])] [some [.ints .u64 5 a], some [.ints .u64 5 r], some [.ints .u8 l xs]] =
(cond (decide (j < n))
 (nd [decide (j < pss.length), decide (j < pss.length), decide (off + len = l), decide (len + (pss.getD j []).length ≤ 4398046511104), decide (len + (pss.getD j []).length = len + (pss.getD j []).length), decide ((List.drop off xs ++ pss.getD j []).length = len + (pss.getD j []).length), decide (a.length = 5), decide (r.length = 5), decide (len + (pss.getD j []).length < 9223372036854775808)]
 (cond (decide ((len + (pss.getD j []).length) / 16 = 0))
 (nd [decide (j + 1 < 9223372036854775808)]
 (some (Ex.normal, [AV.s (SV.xsl (XC.bss pss)), AV.s (SV.nat IntKind.i64 n), AV.s (SV.nat IntKind.i64 (j + 1)), AV.s (SV.sl LK.whole (2) 0 (len + (pss.getD j []).length) 1), AV.s (SV.fn 18 [] [(0, 0), (1, 0)])], [some [Ch.ints IntKind.u64 5 a], some [Ch.ints IntKind.u64 5 r], some [Ch.ints IntKind.u8 (len + (pss.getD j []).length) (List.drop off xs ++ pss.getD j [])]])))
 (nd [decide (j + 1 < 9223372036854775808)]
 (some (Ex.normal, [AV.s (SV.xsl (XC.bss pss)), AV.s (SV.nat IntKind.i64 n), AV.s (SV.nat IntKind.i64 (j + 1)), AV.s (SV.sl LK.suf (2) (16 * ((len + (pss.getD j []).length) / 16)) (len + (pss.getD j []).length - 16 * ((len + (pss.getD j []).length) / 16)) 1), AV.s (SV.fn 18 [] [(0, 0), (1, 0)])], [some [Ch.ints IntKind.u64 5 (takesC r a (List.drop off xs ++ pss.getD j []) ((len + (pss.getD j []).length) / 16))], some [Ch.ints IntKind.u64 5 r], some [Ch.ints IntKind.u8 (len + (pss.getD j []).length) (List.drop off xs ++ pss.getD j [])]])))))
 (some (Ex.exit 4, [AV.s (SV.sl LK.suf (2) off len 1)], [some [Ch.ints IntKind.u64 5 a], some [Ch.ints IntKind.u64 5 r], some [Ch.ints IntKind.u8 l xs]]))) := by kernel_rfl

def clo4 : AV := .s (.fn 18 [] [(0, 0), (1, 0)])

def A4 (pss : List (List Nat)) (r a : List Nat) : Nat → List AV × List (Option Blk)
  | 0 => ([.s (.xsl (.bss pss)), .s (.nat .i64 pss.length), .s (.nat .i64 0), .s .nil, clo4], [some [.ints .u64 5 a], some [.ints .u64 5 r]])
  | i + 1 => ([.s (.xsl (.bss pss)), .s (.nat .i64 pss.length), .s (.nat .i64 (i + 1)), slQ 2 (yN pss i).length, clo4], [some [.ints .u64 5 (asN r a pss (i + 1))], some [.ints .u64 5 r], some [.ints .u8 (yN pss i).length (yN pss i)]])

theorem yN_len (pss : List (List Nat)) (i : Nat) : (yN pss i).length = (rsN pss i).length + (pss.getD i []).length := by simp [yN]

theorem yN_small {pss : List (List Nat)} {i : Nat} (h : (yN pss i).length / 16 = 0) : rsN pss (i + 1) = yN pss i := by
  show dropQ (yN pss i) = _
  rw [dropQ, h]
  simp

theorem asN_small {r a : List Nat} {pss : List (List Nat)} {i : Nat} (h : (yN pss i).length / 16 = 0) : asN r a pss (i + 1) = asN r a pss i := by
  rw [asN, h]
  rfl

theorem stepA4 {pss : List (List Nat)} {r a : List Nat} (hn : pss.length < 9223372036854775808) (ha : a.length = 5) (hr : r.length = 5) (hk : ok41 pss = true) (i : Nat) (hi : i < pss.length) :
    runR Try.prog [(18, F36)] [] .nat 7 [(6, S6)] Try.f9 4 S4 2 (A4 pss r a i).1 (A4 pss r a i).2 = some (.normal, A4 pss r a (i + 1)) := by
  have h6 := ok41_get hk i
  have h7 := rsN_len pss i
  have h8 := yN_len pss i
  have h9 := asN_len (r := r) (pss := pss) ha i
  cases i with
  | zero =>
    simp only [A4, clo4]
    rw [rr4n]
    have e : yN pss 0 = pss.getD 0 [] := rfl
    refine cond_t (decide_eq_true hi) (nd_of ?_ ?_)
    · simp only [List.mem_cons, List.not_mem_nil, or_false, forall_eq_or_imp, forall_eq, decide_eq_true_eq, true_and, and_true, List.length_append, List.length_drop]; omega
    · by_cases hq : (pss.getD 0 []).length / 16 = 0
      · refine cond_t (decide_eq_true hq) (nd_of ?_ ?_)
        · simp only [List.mem_cons, List.not_mem_nil, or_false, forall_eq, decide_eq_true_eq]; omega
        · simp only [asN_small (e ▸ hq), e, slQ, decide_eq_true hq, cond_true]
          rfl
      · refine cond_f (decide_eq_false hq) (nd_of ?_ ?_)
        · simp only [List.mem_cons, List.not_mem_nil, or_false, forall_eq, decide_eq_true_eq]; omega
        · simp only [asN, e, slQ, decide_eq_false hq, cond_false]
          rfl
  | succ i =>
    have g1 := yN_len pss i
    have g2 := rsN_len pss i
    have g3 := ok41_get hk i
    simp only [A4, clo4, slQ]
    by_cases hp : (yN pss i).length / 16 = 0
    · rw [decide_eq_true hp, cond_true, slW, rr4w]
      have e : yN pss i ++ pss.getD (i + 1) [] = yN pss (i + 1) := by rw [← yN_small hp]; rfl
      have el : (yN pss i).length + (pss.getD (i + 1) []).length = (yN pss (i + 1)).length := by rw [← e]; simp
      rw [e, el]
      refine cond_t (decide_eq_true hi) (nd_of ?_ ?_)
      · simp only [List.mem_cons, List.not_mem_nil, or_false, forall_eq_or_imp, forall_eq, decide_eq_true_eq, true_and, and_true, List.length_append, List.length_drop]; omega
      · by_cases hq : (yN pss (i + 1)).length / 16 = 0
        · refine cond_t (decide_eq_true hq) (nd_of ?_ ?_)
          · simp only [List.mem_cons, List.not_mem_nil, or_false, forall_eq, decide_eq_true_eq]; omega
          · rw [asN_small hq, decide_eq_true hq, cond_true]
            rfl
        · refine cond_f (decide_eq_false hq) (nd_of ?_ ?_)
          · simp only [List.mem_cons, List.not_mem_nil, or_false, forall_eq, decide_eq_true_eq]; omega
          · rw [decide_eq_false hq, cond_false]
            rfl
    · rw [decide_eq_false hp, cond_false, slS, rr4s]
      have e : List.drop (16 * ((yN pss i).length / 16)) (yN pss i) ++ pss.getD (i + 1) [] = yN pss (i + 1) := rfl
      have el : (yN pss i).length - 16 * ((yN pss i).length / 16) + (pss.getD (i + 1) []).length = (yN pss (i + 1)).length := by rw [← e]; simp
      rw [e, el]
      refine cond_t (decide_eq_true hi) (nd_of ?_ ?_)
      · simp only [List.mem_cons, List.not_mem_nil, or_false, forall_eq_or_imp, forall_eq, decide_eq_true_eq, true_and, and_true, List.length_append, List.length_drop]; omega
      · by_cases hq : (yN pss (i + 1)).length / 16 = 0
        · refine cond_t (decide_eq_true hq) (nd_of ?_ ?_)
          · simp only [List.mem_cons, List.not_mem_nil, or_false, forall_eq, decide_eq_true_eq]; omega
          · rw [asN_small hq, decide_eq_true hq, cond_true]
            rfl
        · refine cond_f (decide_eq_false hq) (nd_of ?_ ?_)
          · simp only [List.mem_cons, List.not_mem_nil, or_false, forall_eq, decide_eq_true_eq]; omega
          · rw [decide_eq_false hq, cond_false]
            rfl

theorem loops6 : LoopsOk Try.prog ⟨Try.f9.ntmps, 7, [(6, S6)]⟩ (lb 4 Try.f9) := by
  refine loopsOk_of ?_
  have e : loopsIn [(6, S6)] (lb 4 Try.f9) = [(6, .loop (lb 6 Try.f9), S6)] := by kernel_rfl
  simp only [e]
  intro x hx
  simp only [List.mem_cons, List.not_mem_nil, or_false] at hx
  subst hx
  exact lok6

theorem lok4 : LOk Try.prog Try.f9.ntmps (.block 4 (.loop (lb 4 Try.f9))) S4 := by
  refine lokR (fs := [(18, F36)]) (xs := []) (m := .nat) (fuel := 7) (sums := [(6, S6)]) (.cons ok36 .nil) mixedP loops6 ?_
  intro args hin t e vs hout h hg
  unfold S4 at h
  simp only at h
  split at h
  · rename_i pss n a r
    simp only [Option.some.injEq] at h
    subst h
    obtain ⟨hc, hgt⟩ := Tr.needs_get hg
    clear hg
    have e1 : n = pss.length := of_decide_eq_true (hc _ (by simp))
    have e3 : a.length = 5 := of_decide_eq_true (hc (decide (a.length = 5)) (by simp))
    have e4 : r.length = 5 := of_decide_eq_true (hc (decide (r.length = 5)) (by simp))
    have e5 : n < 9223372036854775808 := of_decide_eq_true (hc (decide (n < 9223372036854775808)) (by simp))
    have e6 : ok41 pss = true := hc _ (by simp)
    clear hc
    subst e1
    refine ⟨pss.length, A4 pss r a, .exit 4, rfl, fun i hi => stepA4 e5 e3 e4 e6 i hi, ?_, ?_⟩
    · show _ = some (Ex.exit 4, vs, hout)
      simp only [Tr.get] at hgt
      cases hl : pss.length with
      | zero =>
        rw [hl] at hgt
        cases hgt
        simp only [A4, clo4, hl, List.length_cons, List.length_nil]
        rw [rr4n]
        exact cond_f rfl rfl
      | succ i =>
        rw [hl] at hgt
        rw [decide_eq_false (by omega : ¬ i + 1 = 0), cond_false, Nat.add_sub_cancel] at hgt
        simp only [A4, clo4, hl, slQ, List.length_cons, List.length_nil]
        cases hq : decide ((yN pss i).length / 16 = 0) with
        | true =>
          rw [hq] at hgt
          cases hgt
          rw [cond_true, slW, rr4w]
          exact cond_f (decide_eq_false (Nat.lt_irrefl _)) rfl
        | false =>
          rw [hq] at hgt
          cases hgt
          rw [cond_false, slS, rr4s]
          exact cond_f (decide_eq_false (Nat.lt_irrefl _)) rfl
    · simp only [Tr.get] at hgt
      cases hz : decide (pss.length = 0) <;> rw [hz] at hgt
      · cases hq : decide ((yN pss (pss.length - 1)).length / 16 = 0) <;> rw [hq] at hgt <;> cases hgt <;> rfl
      · cases hgt; rfl
  · cases h

end Go.Proofs.Ytmkhbgklclhmgaa

namespace Go.Proofs.Ytmkhbgklclhmgaa
open Go

def clampM (key : List Nat) (i m : Nat) : List Nat := key.set i (key.getD i 0 &&& m)
def clampK (key : List Nat) : List Nat := clampM (clampM (clampM (clampM (clampM (clampM (clampM key 3 15) 7 15) 11 15) 15 15) 4 252) 8 252) 12 252

theorem fn25 : Fn Try.prog 9 Try.f9 := ⟨mixedP, Try.func9, by kernel_rfl, of_decide_eq_true (by kernel_rfl)⟩

theorem loops25 : LoopsOk Try.prog ⟨Try.f9.ntmps, 7, [(4, S4)]⟩ (bodyOf Try.f9) := by
  refine loopsOk_of ?_
  have e : loopsIn [(4, S4)] (bodyOf Try.f9) = [(4, .loop (lb 4 Try.f9), S4)] := by kernel_rfl
  simp only [e]
  intro x hx
  simp only [List.mem_cons, List.not_mem_nil, or_false] at hx
  subst hx
  exact lok4

set_option maxRecDepth 100000 in
theorem r25 (pss : List (List Nat)) (key : List Nat) : runL Try.prog [(17, F35), (18, F36), (20, F38)] [] .nat 7 [(4, S4)] Try.f9 [.agg [.ints .u8 32 key], .s (.xsl (.bss pss))] [] =
(nd [decide ((List.take 16 (clampK key)).length ≤ 17), decide (pss.length < 9223372036854775808), decide (pss.length = pss.length), decide ((numb (List.take 16 (clampK key))).length = 5), decide (pss.length < 9223372036854775808), ok41 pss]
 (cond (decide (pss.length = 0))
 (nd [(clampK key).all fun k => decide (k < 256)]
 (some (AV.agg [Ch.ints IntKind.u8 16 (finL [0, 0, 0, 0, 0] (clampK key))], [])))
 (cond (decide ((yN pss (pss.length - 1)).length / 16 = 0))
 (nd [decide ((yN pss (pss.length - 1)).length < 9223372036854775808)]
 (cond (decide (0 < (yN pss (pss.length - 1)).length))
 (nd [decide ((yN pss (pss.length - 1)).length = (yN pss (pss.length - 1)).length), decide ((yN pss (pss.length - 1)).length = (yN pss (pss.length - 1)).length), decide ((yN pss (pss.length - 1)).length ≤ 16), decide ((asN (numb (List.take 16 (clampK key))) [0, 0, 0, 0, 0] pss pss.length).length = 5), decide ((numb (List.take 16 (clampK key))).length = 5), (clampK key).all fun k => decide (k < 256)]
 (some (AV.agg [Ch.ints IntKind.u8 16 (finL (stepC (numb (List.take 16 (clampK key))) (asN (numb (List.take 16 (clampK key))) [0, 0, 0, 0, 0] pss pss.length) (yN pss (pss.length - 1))) (clampK key))], [])))
 (nd [decide ((asN (numb (List.take 16 (clampK key))) [0, 0, 0, 0, 0] pss pss.length).length = 5), (clampK key).all fun k => decide (k < 256)]
 (some (AV.agg [Ch.ints IntKind.u8 16 (finL (asN (numb (List.take 16 (clampK key))) [0, 0, 0, 0, 0] pss pss.length) (clampK key))], [])))))
 (nd [decide ((yN pss (pss.length - 1)).length - 16 * ((yN pss (pss.length - 1)).length / 16) < 9223372036854775808)]
 (cond (decide (0 < (yN pss (pss.length - 1)).length - 16 * ((yN pss (pss.length - 1)).length / 16)))
 (nd [decide (16 * ((yN pss (pss.length - 1)).length / 16) + ((yN pss (pss.length - 1)).length - 16 * ((yN pss (pss.length - 1)).length / 16)) = (yN pss (pss.length - 1)).length), decide ((List.drop (16 * ((yN pss (pss.length - 1)).length / 16)) (yN pss (pss.length - 1))).length = (yN pss (pss.length - 1)).length - 16 * ((yN pss (pss.length - 1)).length / 16)), decide ((yN pss (pss.length - 1)).length - 16 * ((yN pss (pss.length - 1)).length / 16) ≤ 16), decide ((asN (numb (List.take 16 (clampK key))) [0, 0, 0, 0, 0] pss pss.length).length = 5), decide ((numb (List.take 16 (clampK key))).length = 5), (clampK key).all fun k => decide (k < 256)]
 (some (AV.agg [Ch.ints IntKind.u8 16 (finL (stepC (numb (List.take 16 (clampK key))) (asN (numb (List.take 16 (clampK key))) [0, 0, 0, 0, 0] pss pss.length) (List.drop (16 * ((yN pss (pss.length - 1)).length / 16)) (yN pss (pss.length - 1)))) (clampK key))], [])))
 (nd [decide ((asN (numb (List.take 16 (clampK key))) [0, 0, 0, 0, 0] pss pss.length).length = 5), (clampK key).all fun k => decide (k < 256)]
 (some (AV.agg [Ch.ints IntKind.u8 16 (finL (asN (numb (List.take 16 (clampK key))) [0, 0, 0, 0, 0] pss pss.length) (clampK key))], [])))))))) := by kernel_rfl

def rK (key : List Nat) : List Nat := numb ((clampK key).take 16)

def lastC (r a y : List Nat) : List Nat := if 0 < y.length then stepC r a y else a

def tagC (key : List Nat) (pss : List (List Nat)) : List Nat :=
  finL (lastC (rK key) (asN (rK key) [0, 0, 0, 0, 0] pss pss.length) (rsN pss pss.length)) (clampK key)

def okKey (key : List Nat) : Bool := key.all fun k => decide (k < 256)

def F25 : FSem := ⟨true, fun args hin => match args, hin with
  | [.agg [.ints .u8 32 key], .s (.xsl (.bss pss))], [] => some (Tr.needs [decide (pss.length < 9223372036854775808), ok41 pss, okKey key] (.leaf (.agg [.ints .u8 16 (tagC key pss)], [])))
  | _, _ => none⟩

theorem numStep_len (x : List Nat) (j v : Nat) : (numStep x j v).length = x.length := by
  unfold numStep numStep2 numStep1
  split <;> simp

theorem numN_len (xs : List Nat) : ∀ j, (numN xs j).length = 5
  | 0 => rfl
  | j + 1 => by rw [numN, numStep_len, numN_len xs j]

theorem numb_len (xs : List Nat) : (numb xs).length = 5 := numN_len xs _

theorem okKey_set {key : List Nat} (h : okKey key = true) (i : Nat) {v : Nat} (hv : v < 256) : okKey (key.set i v) = true := by
  refine List.all_eq_true.2 fun x hx => ?_
  rcases List.mem_or_eq_of_mem_set hx with h' | h'
  · exact List.all_eq_true.1 h x h'
  · subst h'; exact decide_eq_true hv

theorem okKey_clampM {key : List Nat} (h : okKey key = true) (i m : Nat) : okKey (clampM key i m) = true :=
  okKey_set h i (Nat.lt_of_le_of_lt Nat.and_le_left (key_lt h i))

theorem okKey_clamp {key : List Nat} (h : okKey key = true) : okKey (clampK key) = true :=
  okKey_clampM (okKey_clampM (okKey_clampM (okKey_clampM (okKey_clampM (okKey_clampM (okKey_clampM h _ _) _ _) _ _) _ _) _ _) _ _) _ _

theorem ok25 : FOk Try.prog 9 F25 := by
  refine fokL (fs := [(17, F35), (18, F36), (20, F38)]) (xs := []) (m := .nat) (fuel := 7) (sums := [(4, S4)]) (.cons ok35 (.cons ok36 (.cons ok38 .nil))) fn25 loops25 ?_
  intro args hin t r h hg
  unfold F25 at h
  simp only at h
  split at h
  · rename_i key pss
    cases h
    obtain ⟨hc, hgt⟩ := Tr.needs_get hg
    cases hgt
    have h1 : pss.length < 9223372036854775808 := of_decide_eq_true (hc _ (by simp))
    have h2 : ok41 pss = true := hc _ (by simp)
    have h3 : okKey key = true := hc (okKey key) (by simp)
    clear hc hg
    have hK : ((clampK key).all fun k => decide (k < 256)) = true := okKey_clamp h3
    rw [r25]
    unfold tagC rK
    have hnl := numb_len (List.take 16 (clampK key))
    have hal := asN_len (r := numb (List.take 16 (clampK key))) (a := [0, 0, 0, 0, 0]) (pss := pss) rfl pss.length
    refine nd_of ?_ ?_
    · simp only [List.mem_cons, List.not_mem_nil, or_false, forall_eq_or_imp, forall_eq, decide_eq_true_eq, true_and, hnl, h2, List.length_take, and_true]; omega
    by_cases hz : pss.length = 0
    · refine cond_t (decide_eq_true hz) (nd_of ?_ ?_)
      · simp only [List.mem_cons, List.not_mem_nil, or_false, forall_eq, hK]
      · rw [hz]; rfl
    · refine cond_f (decide_eq_false hz) ?_
      obtain ⟨i, hi⟩ : ∃ i, pss.length = i + 1 := ⟨pss.length - 1, by omega⟩
      have hl : (yN pss i).length < 16 + 2199023255552 := by
        have := rsN_len pss i
        have := ok41_get h2 i
        rw [yN_len]; omega
      rw [hi] at hal
      rw [hi, Nat.add_sub_cancel]
      by_cases hq : (yN pss i).length / 16 = 0
      · refine cond_t (decide_eq_true hq) (nd_of ?_ ?_)
        · simp only [List.mem_cons, List.not_mem_nil, or_false, forall_eq, decide_eq_true_eq]; omega
        · rw [yN_small hq]
          by_cases hp : 0 < (yN pss i).length
          · refine cond_t (decide_eq_true hp) (nd_of ?_ ?_)
            · simp only [List.mem_cons, List.not_mem_nil, or_false, forall_eq_or_imp, forall_eq, decide_eq_true_eq, true_and, and_true, List.length_drop, hnl, hal, hK]; omega
            · rw [lastC, if_pos hp]
          · refine cond_f (decide_eq_false hp) (nd_of ?_ ?_)
            · simp only [List.mem_cons, List.not_mem_nil, or_false, forall_eq_or_imp, forall_eq, decide_eq_true_eq, hal, hK, and_self]
            · rw [lastC, if_neg hp]
      · have e : rsN pss (i + 1) = List.drop (16 * ((yN pss i).length / 16)) (yN pss i) := rfl
        have el : (rsN pss (i + 1)).length = (yN pss i).length - 16 * ((yN pss i).length / 16) := by rw [e, List.length_drop]
        refine cond_f (decide_eq_false hq) (nd_of ?_ ?_)
        · simp only [List.mem_cons, List.not_mem_nil, or_false, forall_eq, decide_eq_true_eq]; omega
        · rw [← e, ← el]
          by_cases hp : 0 < (rsN pss (i + 1)).length
          · refine cond_t (decide_eq_true hp) (nd_of ?_ ?_)
            · simp only [List.mem_cons, List.not_mem_nil, or_false, forall_eq_or_imp, forall_eq, decide_eq_true_eq, true_and, and_true, List.length_drop, hnl, hal, hK]; omega
            · rw [lastC, if_pos hp]
          · refine cond_f (decide_eq_false hp) (nd_of ?_ ?_)
            · simp only [List.mem_cons, List.not_mem_nil, or_false, forall_eq_or_imp, forall_eq, decide_eq_true_eq, hal, hK, and_self]
            · rw [lastC, if_neg hp]
  · cases h

end Go.Proofs.Ytmkhbgklclhmgaa

namespace Go.Proofs.Ytmkhbgklclhmgaa
open Go

theorem getD_lt {xs : List Nat} {b : Nat} (hb : 0 < b) (h : ∀ x ∈ xs, x < b) (i : Nat) : xs.getD i 0 < b := by
  rw [List.getD]
  cases hi : xs[i]? with
  | none => exact hb
  | some x => exact h x (List.mem_of_getElem? hi)

/-- The first i parts, and how long they are. -/
def catN (pss : List (List Nat)) : Nat → List Nat
  | 0 => []
  | i + 1 => catN pss i ++ pss.getD i []

def lenN (pss : List (List Nat)) : Nat → Nat
  | 0 => 0
  | i + 1 => lenN pss i + (pss.getD i []).length

/-- How many parts go in, of which the sum is at most m. -/
def badAt (m : Nat) : List (List Nat) → Nat → Nat
  | [], _ => 0
  | p :: ps, l => match decide (m - l < p.length) with
    | true => 0
    | false => badAt m ps (l + p.length) + 1

theorem catN_len (pss : List (List Nat)) : ∀ i, (catN pss i).length = lenN pss i
  | 0 => rfl
  | i + 1 => by simp [catN, lenN, catN_len pss i]

theorem lenN_shift (p : List Nat) (ps : List (List Nat)) : ∀ i, lenN (p :: ps) (i + 1) = p.length + lenN ps i
  | 0 => by simp [lenN]
  | i + 1 => by
    rw [lenN, lenN_shift p ps i, lenN]
    simp; omega

theorem badAt_spec (m : Nat) : ∀ (ps : List (List Nat)) (l : Nat), l ≤ m → badAt m ps l ≤ ps.length ∧ l + lenN ps (badAt m ps l) ≤ m ∧ (badAt m ps l < ps.length → m - (l + lenN ps (badAt m ps l)) < (ps.getD (badAt m ps l) []).length) ∧
    ∀ i, i < badAt m ps l → ¬ (m - (l + lenN ps i) < (ps.getD i []).length)
  | [], l, h => by simp [badAt, lenN, h]
  | p :: ps, l, h => by
    unfold badAt
    split
    · rename_i hd
      have hd : m - l < p.length := of_decide_eq_true hd
      refine ⟨Nat.zero_le _, by simpa [lenN] using h, fun _ => by simpa [lenN] using hd, fun i hi => by omega⟩
    · rename_i hd
      have hd : ¬ m - l < p.length := of_decide_eq_false hd
      obtain ⟨h1, h2, h3, h4⟩ := badAt_spec m ps (l + p.length) (by omega)
      refine ⟨by simp; omega, by rw [lenN_shift]; omega, fun hlt => ?_, fun i hi => ?_⟩
      · rw [lenN_shift]
        have := h3 (by simp at hlt; omega)
        rw [List.getD_cons_succ]
        omega
      · cases i with
        | zero => simpa [lenN] using hd
        | succ i =>
          rw [lenN_shift, List.getD_cons_succ]
          have := h4 i (by omega)
          omega

theorem lenN_mono (ps : List (List Nat)) {i j : Nat} (h : i ≤ j) : lenN ps i ≤ lenN ps j := by
  induction j with
  | zero => have : i = 0 := by omega
            subst this; exact Nat.le_refl _
  | succ j ih =>
    rcases Nat.lt_or_ge i (j + 1) with h' | h'
    · exact Nat.le_trans (ih (by omega)) (by rw [lenN]; omega)
    · have : i = j + 1 := by omega
      subst this; exact Nat.le_refl _

/-- All go in just if their sum is at most m. -/
theorem badAt_all (m : Nat) (ps : List (List Nat)) : badAt m ps 0 = ps.length ↔ lenN ps ps.length ≤ m := by
  obtain ⟨h1, h2, h3, h4⟩ := badAt_spec m ps 0 (Nat.zero_le _)
  constructor
  · intro e; rw [e] at h2; omega
  · intro e
    rcases Nat.lt_or_ge (badAt m ps 0) ps.length with h | h
    · exfalso
      have := h3 h
      have := lenN_mono ps (show badAt m ps 0 + 1 ≤ ps.length by omega)
      rw [lenN] at this
      omega
    · omega

end Go.Proofs.Ytmkhbgklclhmgaa

namespace Go.Proofs.Ytmkhbgklclhmgaa
open Go

theorem takesC_append {r a X p : List Nat} : ∀ {q : Nat}, 16 * q ≤ X.length → takesC r a (X ++ p) q = takesC r a X q
  | 0, _ => rfl
  | q + 1, h => by
    rw [takesC, takesC, takesC_append (by omega), List.drop_append_of_le_length (by omega), List.take_append_of_le_length (by simp; omega)]

theorem takesC_from {r a Z : List Nat} {q : Nat} : ∀ q', takesC r (takesC r a Z q) (Z.drop (16 * q)) q' = takesC r a Z (q + q')
  | 0 => rfl
  | q' + 1 => by
    rw [takesC, takesC_from q', ← Nat.add_assoc, takesC, List.drop_drop, Nat.mul_add]

theorem parts_eq {r a : List Nat} (pss : List (List Nat)) : ∀ i, asN r a pss i = takesC r a (catN pss i) ((catN pss i).length / 16) ∧ rsN pss i = dropQ (catN pss i)
  | 0 => ⟨by simp [asN, takesC, catN], by simp [rsN, dropQ, catN]⟩
  | i + 1 => by
    obtain ⟨h1, h2⟩ := parts_eq (r := r) (a := a) pss i
    have e : yN pss i = (catN pss (i + 1)).drop (16 * ((catN pss i).length / 16)) := by
      rw [yN, h2, dropQ, catN, List.drop_append_of_le_length (by omega)]
    have el : (catN pss (i + 1)).length / 16 = (catN pss i).length / 16 + (yN pss i).length / 16 := by
      rw [e, List.length_drop]
      have : (catN pss i).length ≤ (catN pss (i + 1)).length := by simp [catN]
      omega
    constructor
    · rw [asN, h1, el, ← takesC_from, ← e]
      congr 1
      rw [catN, takesC_append (by omega)]
    · show dropQ (yN pss i) = _
      rw [dropQ, dropQ, el, Nat.mul_add, ← List.drop_drop, ← e]

/-- All blocks, the last one too. -/
def nBlk (s : List Nat) : Nat := (s.length + 15) / 16

theorem last_eq {r a s : List Nat} : lastC r (takesC r a s (s.length / 16)) (dropQ s) = takesC r a s (nBlk s) := by
  unfold lastC dropQ nBlk
  by_cases h : s.length % 16 = 0
  · rw [if_neg (by simp; omega), show (s.length + 15) / 16 = s.length / 16 by omega]
  · rw [if_pos (by simp; omega), show (s.length + 15) / 16 = s.length / 16 + 1 by omega, takesC, List.take_of_length_le (by simp; omega)]

/-- The sum of bytes. -/
def tagS (key s : List Nat) : List Nat := finL (takesC (rK key) [0, 0, 0, 0, 0] s (nBlk s)) (clampK key)

theorem tagC_eq (key : List Nat) (pss : List (List Nat)) : tagC key pss = tagS key (catN pss pss.length) := by
  obtain ⟨h1, h2⟩ := parts_eq (r := rK key) (a := [0, 0, 0, 0, 0]) pss pss.length
  rw [tagC, h1, h2, last_eq, tagS]

theorem catN_one (s : List Nat) : catN [s] 1 = s := by simp [catN]

theorem tagC_one (key s : List Nat) : tagC key [s] = tagS key s := by
  rw [tagC_eq]
  show tagS key (catN [s] 1) = _
  rw [catN_one]

end Go.Proofs.Ytmkhbgklclhmgaa

namespace Go.Proofs.Ytmkhbgklclhmgaa
open Go

theorem lenN_mono' (pss : List (List Nat)) {i j : Nat} (h : i ≤ j) : lenN pss i ≤ lenN pss j := by
  induction h with
  | refl => exact Nat.le_refl _
  | step _ ih => rw [lenN]; omega
theorem okKey_of {key : List Nat} (h : ∀ x ∈ key, x < 256) : okKey key = true := List.all_eq_true.2 fun x hx => decide_eq_true (h x hx)

end Go.Proofs.Ytmkhbgklclhmgaa

namespace Go.Proofs.Ytmkhbgklclhmgaa
open Go

/-- Four bytes, the least first. -/
def wd (xs : List Nat) (o : Nat) : Nat :=
  ((xs.getD o 0 ||| xs.getD (o + 1) 0 * 2 ^ 8 % 4294967296) ||| xs.getD (o + 2) 0 * 2 ^ 16 % 4294967296) ||| xs.getD (o + 3) 0 * 2 ^ 24 % 4294967296

def okW (off len n : Nat) : Bool := Nat.ble 4 len && Nat.ble (off + 4) n

def F32 : FSem := ⟨false, fun args hin => match args, hin with
  | [.s (.sl _ 0 off len 1)], [[.ints .u8 n xs]] => match okW off len n with
    | true => some (.leaf (.s (.nat .u32 (wd xs off)), [some [.ints .u8 n xs]]))
    | false => none
  | _, _ => none⟩

theorem fn32 : Fn Try.prog 15 Try.f15 := ⟨mixed, Try.func15, by kernel_rfl, of_decide_eq_true (by kernel_rfl)⟩

def cs32 (off len n : Nat) : List Bool :=
  [decide (0 < len), decide (addOff off 0 < n), decide (1 < len), decide (addOff off 1 < n), decide (2 < len), decide (addOff off 2 < n), decide (3 < len), decide (addOff off 3 < n)]
def w32 (xs : List Nat) (off : Nat) : Nat :=
  ((xs.getD (addOff off 0) 0 ||| xs.getD (addOff off 1) 0 * 2 ^ 8 % 4294967296) ||| xs.getD (addOff off 2) 0 * 2 ^ 16 % 4294967296) ||| xs.getD (addOff off 3) 0 * 2 ^ 24 % 4294967296

set_option maxRecDepth 100000 in
theorem r32 (m : LK) (off len n : Nat) (xs : List Nat) : runB Try.prog [] [] .nat 1 Try.f15 [.s (.sl m 0 off len 1)] [[.ints .u8 n xs]] = nd (cs32 off len n) (some (.s (.nat .u32 (w32 xs off)), [some [.ints .u8 n xs]])) := by kernel_rfl

theorem ok32 : FOk Try.prog 15 F32 := by
  refine fokB (fs := []) (xs := []) (m := .nat) (fuel := 1) EnvOk.nil fn32 ?_
  intro args hin t r h hg
  unfold F32 at h
  simp only at h
  split at h
  · rename_i m off len n xs
    split at h
    · rename_i hq
      cases h; cases hg
      rw [r32, nd_true]
      · simp only [w32, wd, addOff_eq', Nat.add_zero]
      · simp only [okW, Bool.and_eq_true, Nat.ble_eq] at hq
        simp only [cs32, addOff_eq', List.mem_cons, List.not_mem_nil, or_false, forall_eq_or_imp, forall_eq, decide_eq_true_eq]
        omega
    · cases h
  · cases h

end Go.Proofs.Ytmkhbgklclhmgaa

namespace Go.Proofs.Ytmkhbgklclhmgaa
open Go

def dr (s : List Nat) : List Nat :=
  qr (qr (qr (qr (qr (qr (qr (qr s 0 4 8 12) 1 5 9 13) 2 6 10 14) 3 7 11 15) 0 5 10 15) 1 6 11 12) 2 7 8 13) 3 4 9 14

def rounds (s : List Nat) : Nat → List Nat
  | 0 => s
  | n + 1 => dr (rounds s n)

def upto (f : Nat → Nat) : Nat → Nat → List Nat
  | 0, _ => []
  | n + 1, i => f i :: upto f n (i + 1)

def st0 (key nonce : List Nat) (n : Nat) : List Nat :=
  [1634760805, 857760878, 2036477234, 1797285236, wd key 0, wd key 4, wd key 8, wd key 12, wd key 16, wd key 20, wd key 24, wd key 28, n, wd nonce 0, wd nonce 4, wd nonce 8]

def outB (x s : List Nat) : List Nat := upto (fun i => (x.getD (i / 4) 0 + s.getD (i / 4) 0) % 4294967296 / 2 ^ (8 * (i % 4)) % 256) 64 0

def blk (key nonce : List Nat) (n : Nat) : List Nat := outB (rounds (st0 key nonce n) 10) (st0 key nonce n)

def F20 : FSem := ⟨false, fun args hin => match args, hin with
  | [.agg [.ints .u8 32 key], .agg [.ints .u8 12 nonce], .s (.nat .u32 n)], [] => some (.leaf (.agg [.ints .u8 64 (blk key nonce n)], []))
  | _, _ => none⟩

theorem fn20 : Fn Try.prog 8 Try.f8 := ⟨mixed, Try.func8, by kernel_rfl, of_decide_eq_true (by kernel_rfl)⟩

set_option maxRecDepth 100000 in
theorem r20 (key nonce : List Nat) (n : Nat) : runB Try.prog [(15, F32), (16, F33)] [] .nat 70 Try.f8 [.agg [.ints .u8 32 key], .agg [.ints .u8 12 nonce], .s (.nat .u32 n)] [] = some (.agg [.ints .u8 64 (blk key nonce n)], []) := by kernel_rfl

theorem ok20 : FOk Try.prog 8 F20 := by
  refine fokB (fs := [(15, F32), (16, F33)]) (xs := []) (m := .nat) (fuel := 70) (.cons ok32 (.cons ok33 .nil)) fn20 ?_
  intro args hin t r h hg
  unfold F20 at h
  simp only at h
  split at h
  · cases h; cases hg
    exact r20 _ _ _
  · cases h

end Go.Proofs.Ytmkhbgklclhmgaa

namespace Go.Proofs.Ytmkhbgklclhmgaa
open Go

def okLens (pss : List (List Nat)) : Bool := pss.all fun p => decide (p.length < 9223372036854775808)

def slN (pss : List (List Nat)) (i : Nat) : AV := .s (.sl .whole 0 0 (lenN pss i) 1)
def hsN (pss : List (List Nat)) (i : Nat) : List (Option Blk) := [some [.ints .u8 (lenN pss i) (catN pss i)]]

def S0 : LSem := ⟨[15, 16, 17, 10], [10, 8, 9], fun args hin => match args, hin with
  | [.s (.xsl (.bss pss)), .s (.nat .i64 n), .s (.nat .i64 0), .s .nil], [] =>
    some (Tr.needs [decide (n = pss.length), decide (n < 9223372036854775808), okLens pss]
      (.br (decide (badAt 16777216 pss 0 = pss.length))
        (.br (decide (pss.length = 0)) (.leaf (.normal, [.s .nil, .any, .any], [])) (.leaf (.normal, [.s (.sl .whole 0 0 (lenN pss pss.length) 1), .any, .any], [some [.ints .u8 (lenN pss pss.length) (catN pss pss.length)]])))
        (.br (decide (badAt 16777216 pss 0 = 0)) (.leaf (.ret, [.s .nil, .s .nil, .s (.nat .i64 2)], []))
          (.leaf (.ret, [.s (.sl .whole 0 0 (lenN pss (badAt 16777216 pss 0)) 1), .s .nil, .s (.nat .i64 2)], [some [.ints .u8 (lenN pss (badAt 16777216 pss 0)) (catN pss (badAt 16777216 pss 0))]])))))
  | _, _ => none⟩

set_option maxRecDepth 100000 in
theorem rA0 (pss : List (List Nat)) (n : Nat) : runR Try.prog [] [] .nat 3 [] Try.f7 0 S0 0 [.s (.xsl (.bss pss)), .s (.nat .i64 n), .s (.nat .i64 0), .s .nil] [] =
    cond (decide (0 < n)) (nd [decide (0 < pss.length), decide (0 < pss.length), decide ((pss.getD 0 []).length < 9223372036854775808)]
      (cond (decide (16777216 - 0 < (pss.getD 0 []).length)) (some (.ret, [.s .nil, .s .nil, .s (.nat .i64 2)], []))
        (nd [decide ((pss.getD 0 []).length ≤ 4398046511104)] (some (.normal, [.s (.xsl (.bss pss)), .s (.nat .i64 n), .s (.nat .i64 (0 + 1)), .s (.sl .whole 0 0 (pss.getD 0 []).length 1)], [some [.ints .u8 (pss.getD 0 []).length (pss.getD 0 [])]])))))
      (some (.exit 0, [.s .nil, .any, .any], [])) := by kernel_rfl

set_option maxRecDepth 100000 in
theorem rA (pss : List (List Nat)) (n j l : Nat) (xs : List Nat) : runR Try.prog [] [] .nat 3 [] Try.f7 0 S0 0 [.s (.xsl (.bss pss)), .s (.nat .i64 n), .s (.nat .i64 j), .s (.sl .whole 0 0 l 1)] [some [.ints .u8 l xs]] =
    cond (decide (j < n)) (nd [decide (j < pss.length), decide (j < pss.length), decide ((pss.getD j []).length < 9223372036854775808), decide (l < 9223372036854775808), decide (l ≤ 16777216)]
      (cond (decide (16777216 - l < (pss.getD j []).length)) (some (.ret, [.s (.sl .whole 0 0 l 1), .s .nil, .s (.nat .i64 2)], [some [.ints .u8 l xs]]))
        (nd [decide (l = l), decide (l + (pss.getD j []).length ≤ 4398046511104), decide (j + 1 < 9223372036854775808)]
          (some (.normal, [.s (.xsl (.bss pss)), .s (.nat .i64 n), .s (.nat .i64 (j + 1)), .s (.sl .whole 0 0 (l + (pss.getD j []).length) 1)], [some [.ints .u8 (l + (pss.getD j []).length) (xs ++ pss.getD j [])]])))))
      (some (.exit 0, [.s (.sl .whole 0 0 l 1), .any, .any], [some [.ints .u8 l xs]])) := by kernel_rfl

theorem okLens_get {pss : List (List Nat)} (h : okLens pss = true) (j : Nat) : (pss.getD j []).length < 9223372036854775808 := by
  rw [List.getD]
  cases hj : pss[j]? with
  | none => simp
  | some p =>
    have := List.all_eq_true.1 h p (List.mem_of_getElem? hj)
    simpa using this

def A22 (pss : List (List Nat)) : Nat → List AV × List (Option Blk)
  | 0 => ([.s (.xsl (.bss pss)), .s (.nat .i64 pss.length), .s (.nat .i64 0), .s .nil], [])
  | i + 1 => ([.s (.xsl (.bss pss)), .s (.nat .i64 pss.length), .s (.nat .i64 (i + 1)), slN pss (i + 1)], hsN pss (i + 1))

theorem stepA {pss : List (List Nat)} (hl : pss.length < 9223372036854775808) (hk : okLens pss = true) (i : Nat) (hi : i < badAt 16777216 pss 0) :
    runR Try.prog [] [] .nat 3 [] Try.f7 0 S0 0 (A22 pss i).1 (A22 pss i).2 = some (.normal, A22 pss (i + 1)) := by
  obtain ⟨h1, h2, h3, h4⟩ := badAt_spec 16777216 pss 0 (Nat.zero_le _)
  have h5 := h4 i hi
  have h6 := okLens_get hk i
  have h7 := lenN_mono pss (show i + 1 ≤ badAt 16777216 pss 0 by omega)
  rw [lenN] at h7
  cases i with
  | zero =>
    simp only [A22]
    rw [rA0, decide_eq_true (by omega : 0 < pss.length), cond_true, nd_true, decide_eq_false (by simp only [lenN] at h5; omega), cond_false, nd_true]
    · simp only [slN, hsN, lenN, catN, Nat.zero_add, List.nil_append]
    · intro c hc
      simp only [List.mem_cons, List.not_mem_nil, or_false] at hc
      subst hc
      simp only [lenN] at h5
      exact decide_eq_true (by omega)
    · intro c hc
      simp only [List.mem_cons, List.not_mem_nil, or_false] at hc
      rcases hc with rfl | rfl | rfl <;> first | rfl | exact decide_eq_true (by omega)
  | succ i =>
    simp only [A22, slN, hsN]
    rw [rA, decide_eq_true (by omega : i + 1 < pss.length), cond_true, nd_true, decide_eq_false (by omega : ¬ (16777216 - lenN pss (i + 1) < (pss.getD (i + 1) []).length)), cond_false, nd_true]
    · rfl
    · intro c hc
      simp only [List.mem_cons, List.not_mem_nil, or_false] at hc
      rcases hc with rfl | rfl | rfl <;> first | rfl | exact decide_eq_true (by omega)
    · intro c hc
      simp only [List.mem_cons, List.not_mem_nil, or_false] at hc
      rcases hc with rfl | rfl | rfl | rfl | rfl <;> first | rfl | exact decide_eq_true (by omega)

theorem lok0 : LOk Try.prog Try.f7.ntmps (.block 0 (.loop (lb 0 Try.f7))) S0 := by
  refine lokR (fs := []) (xs := []) (m := .nat) (fuel := 3) (sums := []) EnvOk.nil mixed (loopsOk_none rfl _) ?_
  intro args hin t e vs hout h hg
  unfold S0 at h
  simp only at h
  split at h
  rotate_left
  · cases h
  rename_i pss n
  simp only [Option.some.injEq] at h
  subst h
  obtain ⟨hc, hgt⟩ := Tr.needs_get hg
  clear hg
  have e1 : n = pss.length := of_decide_eq_true (hc _ (by simp))
  subst e1
  have hl : pss.length < 9223372036854775808 := of_decide_eq_true (hc (decide (pss.length < 9223372036854775808)) (by simp))
  have hk : okLens pss = true := hc _ (by simp)
  obtain ⟨h1, h2, h3, h4⟩ := badAt_spec 16777216 pss 0 (Nat.zero_le _)
  refine ⟨badAt 16777216 pss 0, A22 pss, ?_⟩
  simp only [List.length_nil]
  simp only [Tr.get] at hgt
  have hstep : ∀ i, i < badAt 16777216 pss 0 → runR Try.prog [] [] .nat 3 [] Try.f7 0 S0 0 (A22 pss i).1 (A22 pss i).2 = some (.normal, A22 pss (i + 1)) := fun i hi => stepA hl hk i hi
  have hlast : ∀ j, badAt 16777216 pss 0 = j + 1 → runR Try.prog [] [] .nat 3 [] Try.f7 0 S0 0 (A22 pss (badAt 16777216 pss 0)).1 (A22 pss (badAt 16777216 pss 0)).2 =
      cond (decide (badAt 16777216 pss 0 < pss.length)) (some (.ret, [slN pss (badAt 16777216 pss 0), .s .nil, .s (.nat .i64 2)], hsN pss (badAt 16777216 pss 0))) (some (.exit 0, [slN pss (badAt 16777216 pss 0), .any, .any], hsN pss (badAt 16777216 pss 0))) := by
    intro j hj
    rw [hj] at h1 h2 h3 ⊢
    simp only [A22, slN, hsN]
    rw [rA]
    by_cases hlt : j + 1 < pss.length
    · have h6 := okLens_get hk (j + 1)
      have h7 := h3 hlt
      rw [decide_eq_true hlt, cond_true, cond_true, nd_true, decide_eq_true (by omega : 16777216 - lenN pss (j + 1) < (pss.getD (j + 1) []).length), cond_true]
      intro c hc
      simp only [List.mem_cons, List.not_mem_nil, or_false] at hc
      rcases hc with rfl | rfl | rfl | rfl | rfl <;> first | rfl | exact decide_eq_true (by omega)
    · rw [decide_eq_false hlt, cond_false, cond_false]
  cases hb : decide (badAt 16777216 pss 0 = pss.length) with
  | true =>
    have hb := of_decide_eq_true hb
    rw [decide_eq_true hb, cond_true] at hgt
    cases hz : decide (pss.length = 0) with
    | true =>
      have hz' := of_decide_eq_true hz
      rw [hz, cond_true] at hgt
      cases hgt
      refine ⟨.exit 0, rfl, hstep, ?_, rfl⟩
      rw [hb, hz']
      simp only [A22]
      rw [rA0, decide_eq_false (by omega), cond_false]
    | false =>
      have hz' := of_decide_eq_false hz
      rw [hz, cond_false] at hgt
      cases hgt
      refine ⟨.exit 0, rfl, hstep, ?_, rfl⟩
      rw [hlast (pss.length - 1) (by omega), decide_eq_false (by omega), cond_false, hb]
      rfl
  | false =>
    have hb := of_decide_eq_false hb
    rw [decide_eq_false hb, cond_false] at hgt
    cases hz : decide (badAt 16777216 pss 0 = 0) with
    | true =>
      have hz' := of_decide_eq_true hz
      rw [hz, cond_true] at hgt
      cases hgt
      refine ⟨.ret, rfl, hstep, ?_, rfl⟩
      have h7 := h3 (by omega)
      rw [hz'] at h7 ⊢
      have h6 := okLens_get hk 0
      simp only [A22]
      simp only [lenN] at h7
      rw [rA0, decide_eq_true (by omega : 0 < pss.length), cond_true, nd_true, decide_eq_true (by omega : 16777216 - 0 < (pss.getD 0 []).length), cond_true]
      intro c hc
      simp only [List.mem_cons, List.not_mem_nil, or_false] at hc
      rcases hc with rfl | rfl | rfl <;> first | rfl | exact decide_eq_true (by omega)
    | false =>
      have hz' := of_decide_eq_false hz
      rw [hz, cond_false] at hgt
      cases hgt
      refine ⟨.ret, rfl, hstep, ?_, rfl⟩
      rw [hlast (badAt 16777216 pss 0 - 1) (by omega), decide_eq_true (by omega), cond_true]
      rfl

end Go.Proofs.Ytmkhbgklclhmgaa

namespace Go.Proofs.Ytmkhbgklclhmgaa
open Go

/-- The block at hand and the bytes, j of them mixed. -/
def mcur (key nonce : List Nat) (c : Nat) (cur : List Nat) (j : Nat) : List Nat :=
  match decide (j % 64 = 0) with
  | true => blk key nonce ((c + j / 64 % 4294967296) % 4294967296)
  | false => cur

def mrun (key nonce : List Nat) (c : Nat) (cur xs : List Nat) : Nat → List Nat × List Nat
  | 0 => (cur, xs)
  | j + 1 => (mcur key nonce c (mrun key nonce c cur xs j).1 j, (mrun key nonce c cur xs j).2.set j ((mrun key nonce c cur xs j).2.getD j 0 ^^^ (mcur key nonce c (mrun key nonce c cur xs j).1 j).getD (j % 64) 0))

def S2 : LSem := ⟨[4, 5, 2, 13, 10, 32, 33], [10], fun args hin => match args, hin with
  | [.s (.ptr 0 0), .s (.ptr 1 0), .s (.nat .u32 c), .s (.ptr 2 0), .s (.sl .whole 3 0 l 1), .s (.nat .i64 n), .s (.nat .i64 0)], [[.ints .u8 32 key], [.ints .u8 12 nonce], [.ints .u8 64 cur], [.ints .u8 m xs]] =>
    some (Tr.needs [decide (n = l), decide (m = l), decide (l < 9223372036854775808)]
      (.leaf (.normal, [.s (.sl .whole 3 0 l 1)], [some [.ints .u8 32 key], some [.ints .u8 12 nonce], some [.ints .u8 64 (mrun key nonce c cur xs l).1], some [.ints .u8 l (mrun key nonce c cur xs l).2]])))
  | [.s (.ptr 0 0), .s (.ptr 1 0), .s (.nat .u32 _), .s (.ptr 2 0), .s .nil, .s (.nat .i64 0), .s (.nat .i64 0)], [[.ints .u8 32 key], [.ints .u8 12 nonce], [.ints .u8 64 cur]] =>
    some (.leaf (.normal, [.s .nil], [some [.ints .u8 32 key], some [.ints .u8 12 nonce], some [.ints .u8 64 cur]]))
  | _, _ => none⟩

set_option maxRecDepth 100000 in
theorem rB (key nonce cur xs : List Nat) (c n j l : Nat) : runR Try.prog [(8, F20)] [] .nat 3 [] Try.f7 2 S2 4 [.s (.ptr 0 0), .s (.ptr 1 0), .s (.nat .u32 c), .s (.ptr 2 0), .s (.sl .whole 3 0 l 1), .s (.nat .i64 n), .s (.nat .i64 j)] [some [.ints .u8 32 key], some [.ints .u8 12 nonce], some [.ints .u8 64 cur], some [.ints .u8 l xs]] =
    cond (decide (j < n)) (cond (decide (j % 64 = 0))
        (nd [decide (j < l), decide (j < l), decide (j % 64 < 64), decide (j % 64 < 64), decide (j < l), decide (j < l), decide (j + 1 < 9223372036854775808)]
          (some (.normal, [.s (.ptr 0 0), .s (.ptr 1 0), .s (.nat .u32 c), .s (.ptr 2 0), .s (.sl .whole 3 0 l 1), .s (.nat .i64 n), .s (.nat .i64 (j + 1))], [some [.ints .u8 32 key], some [.ints .u8 12 nonce], some [.ints .u8 64 (blk key nonce ((c + j / 64 % 4294967296) % 4294967296))],
            some [.ints .u8 l (xs.set j (xs.getD j 0 ^^^ (blk key nonce ((c + j / 64 % 4294967296) % 4294967296)).getD (j % 64) 0))]])))
        (nd [decide (j < l), decide (j < l), decide (j % 64 < 64), decide (j % 64 < 64), decide (j < l), decide (j < l), decide (j + 1 < 9223372036854775808)]
          (some (.normal, [.s (.ptr 0 0), .s (.ptr 1 0), .s (.nat .u32 c), .s (.ptr 2 0), .s (.sl .whole 3 0 l 1), .s (.nat .i64 n), .s (.nat .i64 (j + 1))], [some [.ints .u8 32 key], some [.ints .u8 12 nonce], some [.ints .u8 64 cur],
            some [.ints .u8 l (xs.set j (xs.getD j 0 ^^^ cur.getD (j % 64) 0))]]))))
      (some (.exit 2, [.s (.sl .whole 3 0 l 1)], [some [.ints .u8 32 key], some [.ints .u8 12 nonce], some [.ints .u8 64 cur], some [.ints .u8 l xs]])) := by kernel_rfl

set_option maxRecDepth 100000 in
theorem rB0 (key nonce cur : List Nat) (c : Nat) : runR Try.prog [(8, F20)] [] .nat 3 [] Try.f7 2 S2 3 [.s (.ptr 0 0), .s (.ptr 1 0), .s (.nat .u32 c), .s (.ptr 2 0), .s .nil, .s (.nat .i64 0), .s (.nat .i64 0)] [some [.ints .u8 32 key], some [.ints .u8 12 nonce], some [.ints .u8 64 cur]] =
    some (.exit 2, [.s .nil], [some [.ints .u8 32 key], some [.ints .u8 12 nonce], some [.ints .u8 64 cur]]) := by kernel_rfl

theorem nd7 {j l : Nat} (h : j < l) (hl : l < 9223372036854775808) {α : Type} (x : Option α) : nd [decide (j < l), decide (j < l), decide (j % 64 < 64), decide (j % 64 < 64), decide (j < l), decide (j < l), decide (j + 1 < 9223372036854775808)] x = x := by
  refine nd_true fun c hc => ?_
  simp only [List.mem_cons, List.not_mem_nil, or_false] at hc
  rcases hc with rfl | rfl | rfl | rfl | rfl | rfl | rfl <;> exact decide_eq_true (by omega)

def A22b (key nonce : List Nat) (c l : Nat) (cur xs : List Nat) (i : Nat) : List AV × List (Option Blk) :=
  ([.s (.ptr 0 0), .s (.ptr 1 0), .s (.nat .u32 c), .s (.ptr 2 0), .s (.sl .whole 3 0 l 1), .s (.nat .i64 l), .s (.nat .i64 i)],
    [some [.ints .u8 32 key], some [.ints .u8 12 nonce], some [.ints .u8 64 (mrun key nonce c cur xs i).1], some [.ints .u8 l (mrun key nonce c cur xs i).2]])

theorem lok2 : LOk Try.prog Try.f7.ntmps (.block 2 (.loop (lb 2 Try.f7))) S2 := by
  refine lokR (fs := [(8, F20)]) (xs := []) (m := .nat) (fuel := 3) (sums := []) (.cons ok20 .nil) mixed (loopsOk_none rfl _) ?_
  intro args hin t e vs hout h hg
  unfold S2 at h
  simp only at h
  split at h
  · rename_i c l n key nonce cur m xs
    simp only [Option.some.injEq] at h
    subst h
    obtain ⟨hc, hgt⟩ := Tr.needs_get hg
    clear hg
    have e1 : n = l := of_decide_eq_true (hc _ (by simp))
    have e2 : m = l := of_decide_eq_true (hc (decide (m = l)) (by simp))
    have hl : l < 9223372036854775808 := of_decide_eq_true (hc (decide (l < 9223372036854775808)) (by simp))
    clear hc
    subst e1; subst e2
    cases hgt
    refine ⟨m, A22b key nonce c m cur xs, .exit 2, rfl, fun i hi => ?_, ?_, rfl⟩
    · simp only [A22b, mrun, List.length_cons, List.length_nil]
      rw [rB, nd7 hi hl, nd7 hi hl, decide_eq_true hi, cond_true]
      unfold mcur
      cases decide (i % 64 = 0) <;> rfl
    · simp only [A22b, List.length_cons, List.length_nil]
      rw [rB, decide_eq_false (Nat.lt_irrefl _), cond_false]
  · rename_i c key nonce cur
    cases h
    cases hg
    exact ⟨0, fun _ => ([.s (.ptr 0 0), .s (.ptr 1 0), .s (.nat .u32 _), .s (.ptr 2 0), .s .nil, .s (.nat .i64 0), .s (.nat .i64 0)], [some [.ints .u8 32 key], some [.ints .u8 12 nonce], some [.ints .u8 64 cur]]), .exit 2, rfl, fun i hi => by omega, rB0 _ _ _ _, rfl⟩
  · cases h

end Go.Proofs.Ytmkhbgklclhmgaa

namespace Go.Proofs.Ytmkhbgklclhmgaa
open Go

def zeros64 : List Nat := [0, 0, 0, 0, 0, 0, 0, 0, 0, 0, 0, 0, 0, 0, 0, 0, 0, 0, 0, 0, 0, 0, 0, 0, 0, 0, 0, 0, 0, 0, 0, 0, 0, 0, 0, 0, 0, 0, 0, 0, 0, 0, 0, 0, 0, 0, 0, 0, 0, 0, 0, 0, 0, 0, 0, 0, 0, 0, 0, 0, 0, 0, 0, 0]

def mixC (key nonce : List Nat) (c : Nat) (xs : List Nat) (l : Nat) : List Nat := (mrun key nonce c zeros64 xs l).2

def F22 : FSem := ⟨true, fun args hin => match args, hin with
  | [.agg [.ints .u8 32 key], .agg [.ints .u8 12 nonce], .s (.nat .u32 c), .s (.xsl (.bss pss))], [] =>
    some (Tr.needs [decide (pss.length < 9223372036854775808), okLens pss]
      (.br (decide (lenN pss pss.length ≤ 16777216))
        (.br (decide (pss.length = 0)) (.leaf (.tup [.s .nil, .s (.nat .i64 0)], []))
          (.leaf (.tup [.s (.sl .whole 0 0 (lenN pss pss.length) 1), .s (.nat .i64 0)], [some [.ints .u8 (lenN pss pss.length) (mixC key nonce c (catN pss pss.length) (lenN pss pss.length))]])))
        (.leaf (.tup [.s .nil, .s (.nat .i64 2)], []))))
  | _, _ => none⟩

theorem fn22 : Fn Try.prog 7 Try.f7 := ⟨mixed, Try.func7, by kernel_rfl, of_decide_eq_true (by kernel_rfl)⟩

set_option maxRecDepth 100000 in
theorem r22 (key nonce : List Nat) (c : Nat) (pss : List (List Nat)) : runL Try.prog [(8, F20)] [] .nat 3 [(0, S0), (2, S2)] Try.f7 [.agg [.ints .u8 32 key], .agg [.ints .u8 12 nonce], .s (.nat .u32 c), .s (.xsl (.bss pss))] [] =
    nd [decide (pss.length < 9223372036854775808), decide (pss.length = pss.length), decide (pss.length < 9223372036854775808), okLens pss]
      (cond (decide (badAt 16777216 pss 0 = pss.length))
        (cond (decide (pss.length = 0)) (some (.tup [.s .nil, .s (.nat .i64 0)], []))
          (nd [decide (lenN pss pss.length < 9223372036854775808), decide (lenN pss pss.length = lenN pss pss.length), decide (lenN pss pss.length = lenN pss pss.length), decide (lenN pss pss.length < 9223372036854775808)]
            (some (.tup [.s (.sl .whole 0 0 (lenN pss pss.length) 1), .s (.nat .i64 0)], [some [.ints .u8 (lenN pss pss.length) (mixC key nonce c (catN pss pss.length) (lenN pss pss.length))]]))))
        (cond (decide (badAt 16777216 pss 0 = 0)) (some (.tup [.s .nil, .s (.nat .i64 2)], [])) (some (.tup [.s .nil, .s (.nat .i64 2)], [])))) := by kernel_rfl

theorem loops22 : LoopsOk Try.prog ⟨Try.f7.ntmps, 3, [(0, S0), (2, S2)]⟩ (bodyOf Try.f7) := by
  refine loopsOk_of ?_
  have e : loopsIn [(0, S0), (2, S2)] (bodyOf Try.f7) = [(0, .loop (lb 0 Try.f7), S0), (2, .loop (lb 2 Try.f7), S2)] := by kernel_rfl
  simp only [e]
  intro x hx
  simp only [List.mem_cons, List.not_mem_nil, or_false] at hx
  rcases hx with rfl | rfl
  · exact lok0
  · exact lok2

theorem ok22 : FOk Try.prog 7 F22 := by
  refine fokL (fs := [(8, F20)]) (xs := []) (m := .nat) (fuel := 3) (sums := [(0, S0), (2, S2)]) (.cons ok20 .nil) fn22 loops22 ?_
  intro args hin t r h hg
  unfold F22 at h
  simp only at h
  split at h
  rotate_left
  · cases h
  rename_i key nonce c pss
  simp only [Option.some.injEq] at h
  subst h
  obtain ⟨hc, hgt⟩ := Tr.needs_get hg
  clear hg
  have hl : pss.length < 9223372036854775808 := of_decide_eq_true (hc _ (by simp))
  have hk : okLens pss = true := hc _ (by simp)
  clear hc
  rw [r22, nd_true]
  · simp only [Tr.get] at hgt
    by_cases hs : lenN pss pss.length ≤ 16777216
    · rw [decide_eq_true ((badAt_all 16777216 pss).2 hs), cond_true]
      rw [decide_eq_true hs, cond_true] at hgt
      rw [nd_true]
      · exact hgt
      · intro d hd
        simp only [List.mem_cons, List.not_mem_nil, or_false] at hd
        rcases hd with rfl | rfl | rfl | rfl <;> first | exact decide_eq_true (by omega) | simp
    · rw [decide_eq_false (fun e => hs ((badAt_all 16777216 pss).1 e)), cond_false]
      rw [decide_eq_false hs, cond_false] at hgt
      cases decide (badAt 16777216 pss 0 = 0) <;> exact hgt
  · intro d hd
    simp only [List.mem_cons, List.not_mem_nil, or_false] at hd
    rcases hd with rfl | rfl | rfl | rfl
    · exact decide_eq_true hl
    · simp
    · exact decide_eq_true hl
    · exact hk

/-! What mixing does. -/
def mixAt (key nonce : List Nat) (c : Nat) (xs : List Nat) (i : Nat) : Nat := xs.getD i 0 ^^^ (blk key nonce ((c + i / 64 % 4294967296) % 4294967296)).getD (i % 64) 0

theorem mrun_spec (key nonce : List Nat) (c : Nat) (xs : List Nat) : ∀ j, (mrun key nonce c zeros64 xs j).2.length = xs.length ∧ (∀ i, (mrun key nonce c zeros64 xs j).2.getD i 0 = if i < j ∧ i < xs.length then mixAt key nonce c xs i else xs.getD i 0) ∧
    (0 < j → (mrun key nonce c zeros64 xs j).1 = blk key nonce ((c + (j - 1) / 64 % 4294967296) % 4294967296))
  | 0 => ⟨rfl, fun i => by simp [mrun], fun h => by omega⟩
  | j + 1 => by
    obtain ⟨h1, h2, h3⟩ := mrun_spec key nonce c xs j
    have hcur : mcur key nonce c (mrun key nonce c zeros64 xs j).1 j = blk key nonce ((c + j / 64 % 4294967296) % 4294967296) := by
      unfold mcur
      cases hd : decide (j % 64 = 0) with
      | true => rfl
      | false =>
        have hd := of_decide_eq_false hd
        simp only
        rw [h3 (by omega), show (j - 1) / 64 = j / 64 by omega]
    simp only [mrun, hcur]
    refine ⟨by simp [h1], fun i => ?_, fun _ => by simp⟩
    by_cases hi : i = j
    · subst hi
      by_cases hl : i < xs.length
      · rw [if_pos ⟨by omega, hl⟩, List.getD, List.getElem?_set_self (by omega), Option.getD_some, h2 i, if_neg (by omega)]
        rfl
      · rw [if_neg (fun h => hl h.2), List.getD, List.getElem?_eq_none (by simp; omega), List.getD, List.getElem?_eq_none (by omega)]
    · have e : ∀ v, ((mrun key nonce c zeros64 xs j).2.set j v).getD i 0 = (mrun key nonce c zeros64 xs j).2.getD i 0 := fun v => by
        rw [List.getD, List.getElem?_set_ne (fun h => hi h.symm), List.getD]
      rw [e, h2 i]
      by_cases h : i < j ∧ i < xs.length
      · rw [if_pos h, if_pos ⟨by omega, h.2⟩]
      · rw [if_neg h, if_neg (by omega)]

theorem mixC_len (key nonce : List Nat) (c : Nat) (xs : List Nat) (l : Nat) : (mixC key nonce c xs l).length = xs.length := (mrun_spec key nonce c xs l).1

theorem mixC_get (key nonce : List Nat) (c : Nat) (xs : List Nat) {l i : Nat} (h : i < l) (hx : i < xs.length) : (mixC key nonce c xs l).getD i 0 = mixAt key nonce c xs i := by
  rw [mixC, (mrun_spec key nonce c xs l).2.1 i, if_pos ⟨h, hx⟩]

end Go.Proofs.Ytmkhbgklclhmgaa

namespace Go.Proofs.Ytmkhbgklclhmgaa
open Go

structure OpsA where
  blk : List Nat → List Nat → Nat → List Nat
  mix : List Nat → List Nat → Nat → List Nat → Nat → List Nat
  tag : List Nat → List (List Nat) → List Nat
  ok41 : List (List Nat) → Bool
  okK : List Nat → Bool
  okL : List (List Nat) → Bool
  cat : List (List Nat) → Nat → List Nat
  len : List (List Nat) → Nat → Nat
  eq : List Nat → List Nat → Bool

def opsA : OpsA := ⟨blk, mixC, tagC, ok41, okKey, okLens, catN, lenN, fun xs ys => decide (xs = ys)⟩

theorem opsA_blk : opsA.blk = blk := by kernel_rfl
theorem opsA_mix : opsA.mix = mixC := by kernel_rfl
theorem opsA_tag : opsA.tag = tagC := by kernel_rfl
theorem opsA_ok41 : opsA.ok41 = ok41 := by kernel_rfl
theorem opsA_okK : opsA.okK = okKey := by kernel_rfl
theorem opsA_okL : opsA.okL = okLens := by kernel_rfl
theorem opsA_cat : opsA.cat = catN := by kernel_rfl
theorem opsA_len : opsA.len = lenN := by kernel_rfl
theorem opsA_eq : opsA.eq = (fun xs ys => decide (xs = ys)) := by kernel_rfl

def Z20 (o : OpsA) : FSem := ⟨false, fun args hin => match args, hin with
  | [.agg [.ints .u8 32 key], .agg [.ints .u8 12 nonce], .s (.nat .u32 n)], [] => some (.leaf (.agg [.ints .u8 64 (o.blk key nonce n)], []))
  | _, _ => none⟩
theorem aa20 : FOk Try.prog 8 (Z20 opsA) := by
  have e : Z20 opsA = F20 := by kernel_rfl
  rw [e]
  exact ok20

def Z25 (o : OpsA) : FSem := ⟨true, fun args hin => match args, hin with
  | [.agg [.ints .u8 32 key], .s (.xsl (.bss pss))], [] => some (Tr.needs [decide (pss.length < 9223372036854775808), o.ok41 pss, o.okK key] (.leaf (.agg [.ints .u8 16 (o.tag key pss)], [])))
  | _, _ => none⟩
theorem aa25 : FOk Try.prog 9 (Z25 opsA) := by
  have e : Z25 opsA = F25 := by kernel_rfl
  rw [e]
  exact ok25

def Z22 (o : OpsA) : FSem := ⟨true, fun args hin => match args, hin with
  | [.agg [.ints .u8 32 key], .agg [.ints .u8 12 nonce], .s (.nat .u32 c), .s (.xsl (.bss pss))], [] =>
    some (Tr.needs [decide (pss.length < 9223372036854775808), o.okL pss]
      (.br (decide (o.len pss pss.length ≤ 16777216))
        (.br (decide (pss.length = 0)) (.leaf (.tup [.s .nil, .s (.nat .i64 0)], []))
          (.leaf (.tup [.s (.sl .whole 0 0 (o.len pss pss.length) 1), .s (.nat .i64 0)], [some [.ints .u8 (o.len pss pss.length) (o.mix key nonce c (o.cat pss pss.length) (o.len pss pss.length))]])))
        (.leaf (.tup [.s .nil, .s (.nat .i64 2)], []))))
  | _, _ => none⟩

/-! Noughts up to a multiple of sixteen. -/
theorem fn47 : Fn Try.prog 25 Try.f25 := ⟨mixed, Try.func25, by kernel_rfl, of_decide_eq_true (by kernel_rfl)⟩
theorem fn48 : Fn Try.prog 26 Try.f26 := ⟨mixed, Try.func26, by kernel_rfl, of_decide_eq_true (by kernel_rfl)⟩
theorem fn40 : Fn Try.prog 12 Try.f12 := ⟨mixed, Try.func12, by kernel_rfl, of_decide_eq_true (by kernel_rfl)⟩
theorem fn43 : Fn Try.prog 14 Try.f14 := ⟨mixed, Try.func14, by kernel_rfl, of_decide_eq_true (by kernel_rfl)⟩

def filN (n : Nat) : Nat := (16 - n % 16) % 16

def F47 : FSem := ⟨false, fun args hin => match args, hin with
  | [.s (.nat .i64 n)], [] => some (.leaf (.s (.sl .whole 0 0 (filN n) 1), [some [.ints .u8 (filN n) (List.replicate (filN n) 0)]]))
  | _, _ => none⟩

set_option maxRecDepth 100000 in
theorem r47 (n : Nat) : runB Try.prog [] [] .nat 7 Try.f25 [.s (.nat .i64 n)] [] =
(nd [decide (n % 16 ≤ 16), decide (filN n ≤ filN n), decide (filN n ≤ 4398046511104)]
 (some (AV.s (SV.sl LK.whole 0 0 (filN n) 1), [some [Ch.ints IntKind.u8 (filN n) (List.replicate (filN n) 0)]]))) := by kernel_rfl

theorem ok47 : FOk Try.prog 25 F47 := by
  refine fokB (fs := []) (xs := []) (m := .nat) (fuel := 7) EnvOk.nil fn47 ?_
  intro args hin t r h hg
  unfold F47 at h
  simp only at h
  split at h
  · rename_i n
    cases h
    cases hg
    rw [r47]
    refine nd_of ?_ rfl
    have : filN n < 16 := Nat.mod_lt _ (by decide)
    simp only [List.mem_cons, List.not_mem_nil, or_false, forall_eq_or_imp, forall_eq, decide_eq_true_eq]
    omega
  · cases h

def cnt8 (n : Nat) : List Nat := [n % 256, n / 256 % 256, n / 65536 % 256, n / 16777216 % 256, 0, 0, 0, 0]

def F48 : FSem := ⟨false, fun args hin => match args, hin with
  | [.s (.nat .i64 n)], [] => some (.leaf (.s (.sl .whole 0 0 8 1), [some [.ints .u8 8 (cnt8 n)]]))
  | _, _ => none⟩

set_option maxRecDepth 100000 in
theorem r48 (n : Nat) : runB Try.prog [] [] .nat 7 Try.f26 [.s (.nat .i64 n)] [] =
 (some (AV.s (SV.sl LK.whole 0 0 8 1), [some [Ch.ints IntKind.u8 8 [n / 2 ^ 0 % 256, n / 2 ^ 8 % 256, n / 2 ^ 16 % 256, n / 2 ^ 24 % 256, 0, 0, 0, 0]]])) := by kernel_rfl

theorem ok48 : FOk Try.prog 26 F48 := by
  refine fokB (fs := []) (xs := []) (m := .nat) (fuel := 7) EnvOk.nil fn48 ?_
  intro args hin t r h hg
  unfold F48 at h
  simp only at h
  split at h
  · rename_i n
    cases h
    cases hg
    rw [r48]
    unfold cnt8
    rw [Nat.pow_zero, Nat.div_one, show (2 : Nat) ^ 8 = 256 from rfl, show (2 : Nat) ^ 16 = 65536 from rfl, show (2 : Nat) ^ 24 = 16777216 from rfl]
  · cases h

/-! Is it too long? -/
def S40 : LSem := ⟨[6, 7, 8, 3, 2], [2], fun args hin => match args, hin with
  | [.s (.xsl (.bss pss)), .s (.nat .i64 n), .s (.nat .i64 0), .s (.nat .i64 0), .s (.bool false)], [] =>
    some (Tr.needs [decide (n = pss.length), decide (n < 9223372036854775808), okLens pss]
      (.br (decide (badAt 1048576 pss 0 = pss.length)) (.leaf (.normal, [.s (.bool false)], [])) (.leaf (.ret, [.s (.bool true)], []))))
  | _, _ => none⟩

set_option maxRecDepth 100000 in
theorem r40l (pss : List (List Nat)) (n j m : Nat) : runR Try.prog [] [] .nat 7 [] Try.f12 0 S40 0 [.s (.xsl (.bss pss)), .s (.nat .i64 n), .s (.nat .i64 j), .s (.nat .i64 m), .s (.bool false)] [] =
(cond (decide (j < n))
 (nd [decide (j < pss.length), decide (j < pss.length), decide ((pss.getD j []).length < 9223372036854775808), decide (m ≤ 1048576)]
 (cond (decide (1048576 - m < (pss.getD j []).length))
 (some (Ex.ret, [AV.s (SV.bool true)], []))
 (nd [decide ((pss.getD j []).length < 9223372036854775808), decide (m + (pss.getD j []).length < 9223372036854775808), decide (j + 1 < 9223372036854775808)]
 (some (Ex.normal, [AV.s (SV.xsl (XC.bss pss)), AV.s (SV.nat IntKind.i64 n), AV.s (SV.nat IntKind.i64 (j + 1)), AV.s (SV.nat IntKind.i64 (m + (pss.getD j []).length)), AV.s (SV.bool false)], [])))))
 (some (Ex.exit 0, [AV.s (SV.bool false)], []))) := by kernel_rfl

theorem lok40 : LOk Try.prog Try.f12.ntmps (.block 0 (.loop (lb 0 Try.f12))) S40 := by
  refine lokR (fs := []) (xs := []) (m := .nat) (fuel := 7) (sums := []) EnvOk.nil mixed (loopsOk_none rfl _) ?_
  intro args hin t e vs hout h hg
  unfold S40 at h
  simp only at h
  split at h
  rotate_left
  · cases h
  rename_i pss n
  simp only [Option.some.injEq] at h
  subst h
  obtain ⟨hc, hgt⟩ := Tr.needs_get hg
  clear hg
  have e1 : n = pss.length := of_decide_eq_true (hc _ (by simp))
  subst e1
  have hl : pss.length < 9223372036854775808 := of_decide_eq_true (hc (decide (pss.length < 9223372036854775808)) (by simp))
  have hk : okLens pss = true := hc _ (by simp)
  clear hc
  obtain ⟨h1, h2, h3, h4⟩ := badAt_spec 1048576 pss 0 (Nat.zero_le _)
  simp only [Tr.get] at hgt
  have hstep : ∀ i, i < badAt 1048576 pss 0 → runR Try.prog [] [] .nat 7 [] Try.f12 0 S40 0 [.s (.xsl (.bss pss)), .s (.nat .i64 pss.length), .s (.nat .i64 i), .s (.nat .i64 (lenN pss i)), .s (.bool false)] [] =
      some (.normal, [.s (.xsl (.bss pss)), .s (.nat .i64 pss.length), .s (.nat .i64 (i + 1)), .s (.nat .i64 (lenN pss (i + 1))), .s (.bool false)], []) := fun i hi => by
    have h5 := h4 i hi
    have h6 := okLens_get hk i
    have h7 := lenN_mono pss (show i + 1 ≤ badAt 1048576 pss 0 by omega)
    rw [lenN] at h7
    rw [r40l]
    refine cond_t (decide_eq_true (by omega)) (nd_of ?_ (cond_f (decide_eq_false (by omega)) (nd_of ?_ rfl)))
    · simp only [List.mem_cons, List.not_mem_nil, or_false, forall_eq_or_imp, forall_eq, decide_eq_true_eq]; omega
    · simp only [List.mem_cons, List.not_mem_nil, or_false, forall_eq_or_imp, forall_eq, decide_eq_true_eq]; omega
  cases hb : decide (badAt 1048576 pss 0 = pss.length) with
  | true =>
    have hb' := of_decide_eq_true hb
    rw [hb, cond_true] at hgt
    cases hgt
    refine ⟨badAt 1048576 pss 0, fun i => ([.s (.xsl (.bss pss)), .s (.nat .i64 pss.length), .s (.nat .i64 i), .s (.nat .i64 (lenN pss i)), .s (.bool false)], []), .exit 0, rfl, hstep, ?_, rfl⟩
    simp only [List.length_nil]
    rw [r40l]
    exact cond_f (decide_eq_false (by omega)) rfl
  | false =>
    have hb' := of_decide_eq_false hb
    rw [hb, cond_false] at hgt
    cases hgt
    refine ⟨badAt 1048576 pss 0, fun i => ([.s (.xsl (.bss pss)), .s (.nat .i64 pss.length), .s (.nat .i64 i), .s (.nat .i64 (lenN pss i)), .s (.bool false)], []), .ret, rfl, hstep, ?_, rfl⟩
    have h7 := h3 (by omega)
    have h6 := okLens_get hk (badAt 1048576 pss 0)
    simp only [List.length_nil]
    rw [r40l]
    refine cond_t (decide_eq_true (by omega)) (nd_of ?_ (cond_t (decide_eq_true (by omega)) rfl))
    simp only [List.mem_cons, List.not_mem_nil, or_false, forall_eq_or_imp, forall_eq, decide_eq_true_eq]; omega

def lonB (pss : List (List Nat)) : Bool := decide (1048576 < lenN pss pss.length)

def F40 : FSem := ⟨true, fun args hin => match args, hin with
  | [.s (.xsl (.bss pss))], [] => some (Tr.needs [decide (pss.length < 9223372036854775808), okLens pss] (.leaf (.s (.bool (lonB pss)), [])))
  | _, _ => none⟩

theorem loops40 : LoopsOk Try.prog ⟨Try.f12.ntmps, 7, [(0, S40)]⟩ (bodyOf Try.f12) := by
  refine loopsOk_of ?_
  have e : loopsIn [(0, S40)] (bodyOf Try.f12) = [(0, .loop (lb 0 Try.f12), S40)] := by kernel_rfl
  simp only [e]
  intro x hx
  simp only [List.mem_cons, List.not_mem_nil, or_false] at hx
  rcases hx with rfl
  · exact lok40

set_option maxRecDepth 100000 in
theorem r40 (pss : List (List Nat)) : runL Try.prog [] [] .nat 7 [(0, S40)] Try.f12 [.s (.xsl (.bss pss))] [] =
    nd [decide (pss.length < 9223372036854775808), decide (pss.length = pss.length), decide (pss.length < 9223372036854775808), okLens pss]
     (cond (decide (badAt 1048576 pss 0 = pss.length)) (some (.s (.bool false), [])) (some (.s (.bool true), []))) := by kernel_rfl

theorem ok40 : FOk Try.prog 12 F40 := by
  refine fokL (fs := []) (xs := []) (m := .nat) (fuel := 7) (sums := [(0, S40)]) EnvOk.nil fn40 loops40 ?_
  intro args hin t r h hg
  unfold F40 at h
  simp only at h
  split at h
  · rename_i pss
    simp only [Option.some.injEq] at h
    subst h
    obtain ⟨hc, hgt⟩ := Tr.needs_get hg
    cases hgt
    have hl : pss.length < 9223372036854775808 := of_decide_eq_true (hc _ (by simp))
    have hk : okLens pss = true := hc (okLens pss) (by simp)
    rw [r40]
    refine nd_of ?_ ?_
    · simp only [List.mem_cons, List.not_mem_nil, or_false, forall_eq_or_imp, forall_eq, decide_eq_true_eq]
      exact ⟨hl, trivial, hl, hk⟩
    · unfold lonB
      by_cases hs : lenN pss pss.length ≤ 1048576
      · rw [decide_eq_true ((badAt_all 1048576 pss).2 hs), decide_eq_false (by omega)]
        rfl
      · rw [decide_eq_false (fun e => hs ((badAt_all 1048576 pss).1 e)), decide_eq_true (by omega)]
        rfl
  · cases h

/-! Are they the same? -/
def xorN (xs ys : List Nat) : Nat → Nat
  | 0 => 0
  | j + 1 => xorN xs ys j ||| xs.getD j 0 ^^^ ys.getD j 0

def S43 : LSem := ⟨[0, 1, 5, 13, 14], [5], fun args hin => match args, hin with
  | [.s (.xsl (.ints .u8 xs)), .s (.xsl (.ints .u8 ys)), .s (.nat .u8 0), .s (.nat .i64 n), .s (.nat .i64 0)], [] =>
    some (Tr.needs [decide (n = xs.length), decide (n < 9223372036854775808), decide (xs.length = ys.length)] (.leaf (.normal, [.s (.nat .u8 (xorN xs ys xs.length))], [])))
  | _, _ => none⟩

set_option maxRecDepth 100000 in
theorem r43l (xs ys : List Nat) (n j m : Nat) : runR Try.prog [] [] .nat 7 [] Try.f14 0 S43 0 [.s (.xsl (.ints .u8 xs)), .s (.xsl (.ints .u8 ys)), .s (.nat .u8 m), .s (.nat .i64 n), .s (.nat .i64 j)] [] =
(cond (decide (j < n))
 (nd [decide (j < xs.length), decide (j < xs.length), decide (j < ys.length), decide (j < ys.length), decide (j + 1 < 9223372036854775808)]
 (some (Ex.normal, [AV.s (SV.xsl (XC.ints IntKind.u8 xs)), AV.s (SV.xsl (XC.ints IntKind.u8 ys)), AV.s (SV.nat IntKind.u8 (m ||| xs.getD j 0 ^^^ ys.getD j 0)), AV.s (SV.nat IntKind.i64 n), AV.s (SV.nat IntKind.i64 (j + 1))], [])))
 (some (Ex.exit 0, [AV.s (SV.nat IntKind.u8 m)], []))) := by kernel_rfl

theorem lok43 : LOk Try.prog Try.f14.ntmps (.block 0 (.loop (lb 0 Try.f14))) S43 := by
  refine lokR (fs := []) (xs := []) (m := .nat) (fuel := 7) (sums := []) EnvOk.nil mixed (loopsOk_none rfl _) ?_
  intro args hin t e vs hout h hg
  unfold S43 at h
  simp only at h
  split at h
  · rename_i xs ys n
    simp only [Option.some.injEq] at h
    subst h
    obtain ⟨hc, hgt⟩ := Tr.needs_get hg
    cases hgt
    have e1 : n = xs.length := of_decide_eq_true (hc _ (by simp))
    have e2 : n < 9223372036854775808 := of_decide_eq_true (hc (decide (n < 9223372036854775808)) (by simp))
    have e3 : xs.length = ys.length := of_decide_eq_true (hc (decide (xs.length = ys.length)) (by simp))
    clear hc hg
    subst e1
    refine ⟨xs.length, fun i => ([.s (.xsl (.ints .u8 xs)), .s (.xsl (.ints .u8 ys)), .s (.nat .u8 (xorN xs ys i)), .s (.nat .i64 xs.length), .s (.nat .i64 i)], []), .exit 0, rfl, fun i hi => ?_, ?_, rfl⟩
    · simp only [List.length_nil]
      rw [r43l]
      refine cond_t (decide_eq_true hi) (nd_of ?_ rfl)
      simp only [List.mem_cons, List.not_mem_nil, or_false, forall_eq_or_imp, forall_eq, decide_eq_true_eq]; omega
    · simp only [List.length_nil]
      rw [r43l]
      exact cond_f (decide_eq_false (by omega)) rfl
  · cases h

theorem or_zero {a b : Nat} : a ||| b = 0 ↔ a = 0 ∧ b = 0 := by
  constructor
  · intro h
    exact ⟨Nat.eq_zero_of_le_zero (h ▸ Nat.left_le_or), Nat.eq_zero_of_le_zero (h ▸ Nat.right_le_or)⟩
  · rintro ⟨rfl, rfl⟩
    rfl

theorem xor_zero_iff {a b : Nat} : a ^^^ b = 0 ↔ a = b := by
  constructor
  · intro h
    have : (a ^^^ b) ^^^ b = a := by rw [Nat.xor_assoc, Nat.xor_self, Nat.xor_zero]
    rw [← this, h, Nat.zero_xor]
  · rintro rfl
    exact Nat.xor_self a

theorem xorN_zero (xs ys : List Nat) : ∀ n, xorN xs ys n = 0 ↔ ∀ i, i < n → xs.getD i 0 = ys.getD i 0
  | 0 => ⟨fun _ i hi => by omega, fun _ => rfl⟩
  | n + 1 => by
    rw [xorN, or_zero, xorN_zero xs ys n, xor_zero_iff]
    constructor
    · rintro ⟨h1, h2⟩ i hi
      by_cases e : i = n
      · subst e; exact h2
      · exact h1 i (by omega)
    · intro h
      exact ⟨fun i hi => h i (by omega), h n (by omega)⟩

theorem list_getD {k l : List Nat} (hl : k.length = l.length) : (∀ i, i < k.length → k.getD i 0 = l.getD i 0) ↔ k = l := by
  constructor
  · intro h
    apply List.ext_getElem?
    intro i
    by_cases hi : i < k.length
    · have := h i hi
      rw [List.getD, List.getD, List.getElem?_eq_getElem hi, List.getElem?_eq_getElem (by omega)] at this
      rw [List.getElem?_eq_getElem hi, List.getElem?_eq_getElem (by omega)]
      exact congrArg some this
    · rw [List.getElem?_eq_none (by omega), List.getElem?_eq_none (by omega)]
  · rintro rfl i _
    rfl

def F43 : FSem := ⟨true, fun args hin => match args, hin with
  | [.s (.xsl (.ints .u8 xs)), .s (.xsl (.ints .u8 ys))], [] => some (Tr.needs [decide (xs.length < 9223372036854775808), decide (ys.length < 9223372036854775808)] (.leaf (.s (.bool (decide (xs = ys))), [])))
  | _, _ => none⟩

theorem loops43 : LoopsOk Try.prog ⟨Try.f14.ntmps, 7, [(0, S43)]⟩ (bodyOf Try.f14) := by
  refine loopsOk_of ?_
  have e : loopsIn [(0, S43)] (bodyOf Try.f14) = [(0, .loop (lb 0 Try.f14), S43)] := by kernel_rfl
  simp only [e]
  intro x hx
  simp only [List.mem_cons, List.not_mem_nil, or_false] at hx
  rcases hx with rfl
  · exact lok43

set_option maxRecDepth 100000 in
theorem r43 (xs ys : List Nat) : runL Try.prog [] [] .nat 7 [(0, S43)] Try.f14 [.s (.xsl (.ints .u8 xs)), .s (.xsl (.ints .u8 ys))] [] =
    nd [decide (xs.length < 9223372036854775808), decide (ys.length < 9223372036854775808)]
     (cond (!decide (xs.length = ys.length)) (some (.s (.bool false), []))
      (nd [decide (xs.length < 9223372036854775808), decide (xs.length = xs.length), decide (xs.length < 9223372036854775808), decide (xs.length = ys.length)]
       (some (.s (.bool (decide (xorN xs ys xs.length = 0))), [])))) := by kernel_rfl

theorem ok43 : FOk Try.prog 14 F43 := by
  refine fokL (fs := []) (xs := []) (m := .nat) (fuel := 7) (sums := [(0, S43)]) EnvOk.nil fn43 loops43 ?_
  intro args hin t r h hg
  unfold F43 at h
  simp only at h
  split at h
  · rename_i xs ys
    simp only [Option.some.injEq] at h
    subst h
    obtain ⟨hc, hgt⟩ := Tr.needs_get hg
    cases hgt
    have h1 : xs.length < 9223372036854775808 := of_decide_eq_true (hc _ (by simp))
    have h2 : ys.length < 9223372036854775808 := of_decide_eq_true (hc (decide (ys.length < 9223372036854775808)) (by simp))
    rw [r43]
    refine nd_of ?_ ?_
    · simp only [List.mem_cons, List.not_mem_nil, or_false, forall_eq_or_imp, forall_eq, decide_eq_true_eq]
      exact ⟨h1, h2⟩
    · by_cases hl : xs.length = ys.length
      · refine cond_f (by rw [decide_eq_true hl]; rfl) (nd_of ?_ ?_)
        · simp only [List.mem_cons, List.not_mem_nil, or_false, forall_eq_or_imp, forall_eq, decide_eq_true_eq]
          exact ⟨h1, trivial, h1, hl⟩
        · rw [decide_eq_decide.2 ((xorN_zero xs ys xs.length).trans (list_getD hl))]
      · refine cond_t (by rw [decide_eq_false hl]; rfl) ?_
        rw [decide_eq_false (fun e => hl (by rw [e]))]
  · cases h

end Go.Proofs.Ytmkhbgklclhmgaa

namespace Go.Proofs.Ytmkhbgklclhmgaa
open Go

theorem fn41 : Fn Try.prog 13 Try.f13 := ⟨mixed, Try.func13, by kernel_rfl, of_decide_eq_true (by kernel_rfl)⟩

def S41 : LSem := ⟨[17, 18, 19, 8], [8], fun args hin => match args, hin with
  | [.s (.xsl (.bss pss)), .s (.nat .i64 n), .s (.nat .i64 0), .s .nil], [] =>
    some (Tr.needs [decide (n = pss.length), decide (n < 9223372036854775808), decide (lenN pss pss.length ≤ 4398046511104)]
      (.br (decide (pss.length = 0)) (.leaf (.normal, [.s .nil], [])) (.leaf (.normal, [.s (.sl .whole 0 0 (lenN pss pss.length) 1)], [some [.ints .u8 (lenN pss pss.length) (catN pss pss.length)]]))))
  | _, _ => none⟩

set_option maxRecDepth 100000 in
theorem r41a (pss : List (List Nat)) (n : Nat) : runR Try.prog [] [] .nat 7 [] Try.f13 0 S41 0 [.s (.xsl (.bss pss)), .s (.nat .i64 n), .s (.nat .i64 0), .s .nil] [] =
    cond (decide (0 < n)) (nd [decide (0 < pss.length), decide (0 < pss.length), decide ((pss.getD 0 []).length ≤ 4398046511104)]
      (some (.normal, [.s (.xsl (.bss pss)), .s (.nat .i64 n), .s (.nat .i64 (0 + 1)), .s (.sl .whole 0 0 (pss.getD 0 []).length 1)], [some [.ints .u8 (pss.getD 0 []).length (pss.getD 0 [])]])))
      (some (.exit 0, [.s .nil], [])) := by kernel_rfl

set_option maxRecDepth 100000 in
theorem r41b (pss : List (List Nat)) (n j l : Nat) (xs : List Nat) : runR Try.prog [] [] .nat 7 [] Try.f13 0 S41 0 [.s (.xsl (.bss pss)), .s (.nat .i64 n), .s (.nat .i64 j), .s (.sl .whole 0 0 l 1)] [some [.ints .u8 l xs]] =
    cond (decide (j < n)) (nd [decide (j < pss.length), decide (j < pss.length), decide (l = l), decide (l + (pss.getD j []).length ≤ 4398046511104), decide (j + 1 < 9223372036854775808)]
      (some (.normal, [.s (.xsl (.bss pss)), .s (.nat .i64 n), .s (.nat .i64 (j + 1)), .s (.sl .whole 0 0 (l + (pss.getD j []).length) 1)], [some [.ints .u8 (l + (pss.getD j []).length) (xs ++ pss.getD j [])]])))
      (some (.exit 0, [.s (.sl .whole 0 0 l 1)], [some [.ints .u8 l xs]])) := by kernel_rfl

def A41 (pss : List (List Nat)) : Nat → List AV × List (Option Blk)
  | 0 => ([.s (.xsl (.bss pss)), .s (.nat .i64 pss.length), .s (.nat .i64 0), .s .nil], [])
  | i + 1 => ([.s (.xsl (.bss pss)), .s (.nat .i64 pss.length), .s (.nat .i64 (i + 1)), .s (.sl .whole 0 0 (lenN pss (i + 1)) 1)], [some [.ints .u8 (lenN pss (i + 1)) (catN pss (i + 1))]])

theorem lok41 : LOk Try.prog Try.f13.ntmps (.block 0 (.loop (lb 0 Try.f13))) S41 := by
  refine lokR (fs := []) (xs := []) (m := .nat) (fuel := 7) (sums := []) EnvOk.nil mixed (loopsOk_none rfl _) ?_
  intro args hin t e vs hout h hg
  unfold S41 at h
  simp only at h
  split at h
  rotate_left
  · cases h
  rename_i pss n
  simp only [Option.some.injEq] at h
  subst h
  obtain ⟨hc, hgt⟩ := Tr.needs_get hg
  clear hg
  have e1 : n = pss.length := of_decide_eq_true (hc _ (by simp))
  subst e1
  have hl : pss.length < 9223372036854775808 := of_decide_eq_true (hc (decide (pss.length < 9223372036854775808)) (by simp))
  have hk : lenN pss pss.length ≤ 4398046511104 := of_decide_eq_true (hc (decide (lenN pss pss.length ≤ 4398046511104)) (by simp))
  clear hc
  simp only [Tr.get] at hgt
  have hstep : ∀ i, i < pss.length → runR Try.prog [] [] .nat 7 [] Try.f13 0 S41 0 (A41 pss i).1 (A41 pss i).2 = some (.normal, A41 pss (i + 1)) := fun i hi => by
    have hm := lenN_mono' pss (show i + 1 ≤ pss.length by omega)
    rw [lenN] at hm
    cases i with
    | zero =>
      simp only [A41]
      rw [r41a]
      refine cond_t (decide_eq_true hi) (nd_of ?_ ?_)
      · simp only [lenN] at hm
        simp only [List.mem_cons, List.not_mem_nil, or_false, forall_eq_or_imp, forall_eq, decide_eq_true_eq]
        exact ⟨hi, hi, by omega⟩
      · simp only [lenN, catN, Nat.zero_add, List.nil_append]
    | succ i =>
      simp only [A41]
      rw [r41b]
      refine cond_t (decide_eq_true hi) (nd_of ?_ rfl)
      simp only [List.mem_cons, List.not_mem_nil, or_false, forall_eq_or_imp, forall_eq, decide_eq_true_eq]
      exact ⟨hi, hi, trivial, by omega, by omega⟩
  cases hz : decide (pss.length = 0) with
  | true =>
    have hz' := of_decide_eq_true hz
    rw [hz, cond_true] at hgt
    cases hgt
    refine ⟨pss.length, A41 pss, .exit 0, rfl, hstep, ?_, rfl⟩
    rw [hz']
    simp only [A41, List.length_nil]
    rw [r41a]
    exact cond_f (decide_eq_false (by omega)) rfl
  | false =>
    have hz' := of_decide_eq_false hz
    rw [hz, cond_false] at hgt
    cases hgt
    refine ⟨pss.length, A41 pss, .exit 0, rfl, hstep, ?_, rfl⟩
    obtain ⟨m, hm⟩ : ∃ m, pss.length = m + 1 := ⟨pss.length - 1, by omega⟩
    have e : ∀ q, q = m + 1 → A41 pss q = ([.s (.xsl (.bss pss)), .s (.nat .i64 pss.length), .s (.nat .i64 q), .s (.sl .whole 0 0 (lenN pss q) 1)], [some [.ints .u8 (lenN pss q) (catN pss q)]]) := by
      rintro q rfl
      rfl
    have := e _ hm
    simp only [List.length_nil]
    rw [this]
    show runR Try.prog [] [] .nat 7 [] Try.f13 0 S41 0 _ _ = _
    rw [r41b]
    exact cond_f (decide_eq_false (by omega)) rfl

theorem loops41 : LoopsOk Try.prog ⟨Try.f13.ntmps, 7, [(0, S41)]⟩ (bodyOf Try.f13) := by
  refine loopsOk_of ?_
  have e : loopsIn [(0, S41)] (bodyOf Try.f13) = [(0, .loop (lb 0 Try.f13), S41)] := by kernel_rfl
  simp only [e]
  intro x hx
  simp only [List.mem_cons, List.not_mem_nil, or_false] at hx
  rcases hx with rfl
  · exact lok41


def S41o (o : OpsA) : LSem := ⟨[17, 18, 19, 8], [8], fun args hin => match args, hin with
  | [.s (.xsl (.bss pss)), .s (.nat .i64 n), .s (.nat .i64 0), .s .nil], [] =>
    some (Tr.needs [decide (n = pss.length), decide (n < 9223372036854775808), decide (o.len pss pss.length ≤ 4398046511104)]
      (.br (decide (pss.length = 0)) (.leaf (.normal, [.s .nil], [])) (.leaf (.normal, [.s (.sl .whole 0 0 (o.len pss pss.length) 1)], [some [.ints .u8 (o.len pss pss.length) (o.cat pss pss.length)]]))))
  | _, _ => none⟩
theorem s41o_eq : S41o opsA = S41 := by kernel_rfl

set_option maxRecDepth 100000 in
theorem r41 (o : OpsA) (key nonce xs : List Nat) (pss : List (List Nat)) : runL Try.prog [(8, Z20 o), (9, Z25 o), (25, F47), (26, F48)] [] .nat 7 [(0, S41o o)] Try.f13 [.agg [.ints .u8 32 key, .ints .u8 12 nonce], .s (.xsl (.ints .u8 xs)), .s (.xsl (.bss pss))] [] =
(nd [decide (pss.length < 9223372036854775808), decide (pss.length = pss.length), decide (pss.length < 9223372036854775808), decide (o.len pss pss.length ≤ 4398046511104)]
 (cond (decide (pss.length = 0))
 (nd [decide (xs.length < 9223372036854775808), decide (xs.length < 9223372036854775808), decide (filN xs.length = filN xs.length), o.ok41 [[], List.replicate (filN 0) 0, xs, List.replicate (filN xs.length) 0, cnt8 0, cnt8 xs.length], o.okK (List.take 32 (o.blk key nonce 0))]
 (some (AV.agg [Ch.ints IntKind.u8 16 (o.tag (List.take 32 (o.blk key nonce 0)) [[], List.replicate (filN 0) 0, xs, List.replicate (filN xs.length) 0, cnt8 0, cnt8 xs.length])], [])))
 (nd [decide (o.len pss pss.length < 9223372036854775808), decide (xs.length < 9223372036854775808), decide (xs.length < 9223372036854775808), decide (o.len pss pss.length = o.len pss pss.length), decide (filN (o.len pss pss.length) = filN (o.len pss pss.length)), decide (filN xs.length = filN xs.length), o.ok41 [o.cat pss pss.length, List.replicate (filN (o.len pss pss.length)) 0, xs, List.replicate (filN xs.length) 0, cnt8 (o.len pss pss.length), cnt8 xs.length], o.okK (List.take 32 (o.blk key nonce 0))]
 (some (AV.agg [Ch.ints IntKind.u8 16 (o.tag (List.take 32 (o.blk key nonce 0)) [o.cat pss pss.length, List.replicate (filN (o.len pss pss.length)) 0, xs, List.replicate (filN xs.length) 0, cnt8 (o.len pss pss.length), cnt8 xs.length])], []))))) := by kernel_rfl

/-- The parts of which the sum is. -/
def macP (xs bd : List Nat) : List (List Nat) := [bd, List.replicate (filN bd.length) 0, xs, List.replicate (filN xs.length) 0, cnt8 bd.length, cnt8 xs.length]
def macT (key nonce xs bd : List Nat) : List Nat := tagC (List.take 32 (blk key nonce 0)) (macP xs bd)

theorem upto_mem {f : Nat → Nat} {B : Nat} (hf : ∀ i, f i < B) : ∀ n i, ∀ x ∈ upto f n i, x < B
  | 0, _, x, hx => by cases hx
  | n + 1, i, x, hx => by
    rcases List.mem_cons.1 hx with rfl | h
    · exact hf i
    · exact upto_mem hf n (i + 1) x h

theorem upto_len (f : Nat → Nat) : ∀ n i, (upto f n i).length = n
  | 0, _ => rfl
  | n + 1, i => by rw [upto, List.length_cons, upto_len f n (i + 1)]

theorem outB_mem (x s : List Nat) : ∀ y ∈ outB x s, y < 256 := upto_mem (fun i => Nat.mod_lt _ (by decide)) 64 0
theorem outB_len (x s : List Nat) : (outB x s).length = 64 := upto_len _ 64 0
theorem blk_mem (key nonce : List Nat) (n : Nat) : ∀ x ∈ blk key nonce n, x < 256 := outB_mem _ _
theorem blk_len (key nonce : List Nat) (n : Nat) : (blk key nonce n).length = 64 := outB_len _ _

theorem once_ok (key nonce : List Nat) : okKey (List.take 32 (blk key nonce 0)) = true := okKey_of fun x hx => blk_mem key nonce 0 x (List.mem_of_mem_take hx)
theorem once_len (key nonce : List Nat) : (List.take 32 (blk key nonce 0)).length = 32 := by rw [List.length_take, blk_len]; rfl

theorem macP_ok {xs bd : List Nat} (h1 : xs.length ≤ 2199023255552) (h2 : bd.length ≤ 2199023255552) : ok41 (macP xs bd) = true := by
  have f : ∀ n, filN n ≤ 2199023255552 := fun n => Nat.le_trans (Nat.le_of_lt (Nat.mod_lt _ (by decide))) (by decide : 16 ≤ 2199023255552)
  simp only [ok41, macP, List.all_cons, List.all_nil, Bool.and_true, Bool.and_eq_true, decide_eq_true_eq, List.length_replicate]
  exact ⟨h2, f _, h1, f _, show 8 ≤ 2199023255552 by decide, show 8 ≤ 2199023255552 by decide⟩

def F41 : FSem := ⟨true, fun args hin => match args, hin with
  | [.agg [.ints .u8 32 key, .ints .u8 12 nonce], .s (.xsl (.ints .u8 xs)), .s (.xsl (.bss pss))], [] =>
    some (Tr.needs [decide (pss.length < 9223372036854775808), decide (lenN pss pss.length ≤ 2199023255552), decide (xs.length ≤ 2199023255552)] (.leaf (.agg [.ints .u8 16 (macT key nonce xs (catN pss pss.length))], [])))
  | _, _ => none⟩

theorem ok41f : FOk Try.prog 13 F41 := by
  have hlo := loops41
  rw [← s41o_eq] at hlo
  refine fokL (fs := [(8, Z20 opsA), (9, Z25 opsA), (25, F47), (26, F48)]) (xs := []) (m := .nat) (fuel := 7) (sums := [(0, S41o opsA)]) (.cons aa20 (.cons aa25 (.cons ok47 (.cons ok48 .nil)))) fn41 hlo ?_
  intro args hin t r h hg
  unfold F41 at h
  simp only at h
  split at h
  · rename_i key nonce xs pss
    simp only [Option.some.injEq] at h
    subst h
    obtain ⟨hc, hgt⟩ := Tr.needs_get hg
    cases hgt
    simp only [List.mem_cons, List.not_mem_nil, or_false, forall_eq_or_imp, forall_eq, decide_eq_true_eq] at hc
    obtain ⟨h1, h2, h3⟩ := hc
    have hcl := catN_len pss pss.length
    have hm := macP_ok (xs := xs) (bd := catN pss pss.length) h3 (by rw [hcl]; exact h2)
    have hk := once_ok key nonce
    rw [r41, opsA_len, opsA_cat, opsA_tag, opsA_ok41, opsA_okK, opsA_blk]
    unfold macT
    unfold macP at hm ⊢
    rw [hcl] at hm ⊢
    refine nd_of ?_ ?_
    · simp only [List.mem_cons, List.not_mem_nil, or_false, forall_eq_or_imp, forall_eq, decide_eq_true_eq]
      exact ⟨h1, trivial, h1, by omega⟩
    · by_cases hz : pss.length = 0
      · have e0 : catN pss pss.length = [] := by rw [hz]; rfl
        have e1 : lenN pss pss.length = 0 := by rw [hz]; rfl
        rw [e0, e1] at hm ⊢
        refine cond_t (decide_eq_true hz) (nd_of ?_ rfl)
        simp only [List.mem_cons, List.not_mem_nil, or_false, forall_eq_or_imp, forall_eq, decide_eq_true_eq]
        exact ⟨by omega, by omega, trivial, hm, hk⟩
      · refine cond_f (decide_eq_false hz) (nd_of ?_ rfl)
        simp only [List.mem_cons, List.not_mem_nil, or_false, forall_eq_or_imp, forall_eq, decide_eq_true_eq]
        exact ⟨by omega, by omega, by omega, trivial, trivial, trivial, hm, hk⟩
  · cases h

/-- With the sum left open. -/
structure OpsB extends OpsA where
  mac : List Nat → List Nat → List Nat → List Nat → List Nat
  lon : List (List Nat) → Bool
def opsB : OpsB := { toOpsA := opsA, mac := macT, lon := lonB }
theorem opsB_ops : opsB.toOpsA = opsA := by kernel_rfl
theorem opsB_mac : opsB.mac = macT := by kernel_rfl
theorem opsB_lon : opsB.lon = lonB := by kernel_rfl

def Z40 (o : OpsB) : FSem := ⟨true, fun args hin => match args, hin with
  | [.s (.xsl (.bss pss))], [] => some (Tr.needs [decide (pss.length < 9223372036854775808), o.okL pss] (.leaf (.s (.bool (o.lon pss)), [])))
  | _, _ => none⟩
theorem zz40 : FOk Try.prog 12 (Z40 opsB) := by
  have e : Z40 opsB = F40 := by kernel_rfl
  rw [e]
  exact ok40

def Z41 (o : OpsB) : FSem := ⟨true, fun args hin => match args, hin with
  | [.agg [.ints .u8 32 key, .ints .u8 12 nonce], .s (.xsl (.ints .u8 xs)), .s (.xsl (.bss pss))], [] =>
    some (Tr.needs [decide (pss.length < 9223372036854775808), decide (o.len pss pss.length ≤ 2199023255552), decide (xs.length ≤ 2199023255552)] (.leaf (.agg [.ints .u8 16 (o.mac key nonce xs (o.cat pss pss.length))], [])))
  | _, _ => none⟩
theorem zz41 : FOk Try.prog 13 (Z41 opsB) := by
  have e : Z41 opsB = F41 := by kernel_rfl
  rw [e]
  exact ok41f

theorem zz22 : FOk Try.prog 7 (Z22 opsA) := by
  have e : Z22 opsA = F22 := by kernel_rfl
  rw [e]
  exact ok22

def Z43 (o : OpsA) : FSem := ⟨true, fun args hin => match args, hin with
  | [.s (.xsl (.ints .u8 xs)), .s (.xsl (.ints .u8 ys))], [] => some (Tr.needs [decide (xs.length < 9223372036854775808), decide (ys.length < 9223372036854775808)] (.leaf (.s (.bool (o.eq xs ys)), [])))
  | _, _ => none⟩
theorem zz43 : FOk Try.prog 14 (Z43 opsA) := by
  have e : Z43 opsA = F43 := by kernel_rfl
  rw [e]
  exact ok43

def envB (o : OpsB) : List (Nat × FSem) := [(12, Z40 o), (13, Z41 o), (7, Z22 o.toOpsA), (14, Z43 o.toOpsA), (8, Z20 o.toOpsA)]
theorem envB_ok : EnvOk ⟨Try.prog, envB opsB, []⟩ := .cons zz40 (.cons zz41 (.cons zz22 (.cons zz43 (.cons aa20 .nil))))

theorem fn28 : Fn Try.prog 5 Try.f5 := ⟨mixed, Try.func5, by kernel_rfl, of_decide_eq_true (by kernel_rfl)⟩
theorem fn30 : Fn Try.prog 6 Try.f6 := ⟨mixed, Try.func6, by kernel_rfl, of_decide_eq_true (by kernel_rfl)⟩

end Go.Proofs.Ytmkhbgklclhmgaa

namespace Go.Proofs.Ytmkhbgklclhmgaa
open Go

set_option maxRecDepth 100000 in
theorem r28 (o : OpsB) (key nonce xs : List Nat) (pss : List (List Nat)) : runB Try.prog (envB o) [] .nat 7 Try.f5 [.agg [.ints .u8 32 key, .ints .u8 12 nonce], .s (.xsl (.ints .u8 xs)), .s (.xsl (.bss pss))] [] =
(nd [decide (xs.length < 9223372036854775808)]
 (cond (decide (1048576 < xs.length))
 (some (AV.tup [AV.s SV.nil, AV.s (SV.nat IntKind.i64 2)], []))
 (nd [decide (pss.length < 9223372036854775808), o.okL pss]
 (cond (o.lon pss)
 (some (AV.tup [AV.s SV.nil, AV.s (SV.nat IntKind.i64 2)], []))
 (nd [o.okL [xs]]
 (cond (decide (o.len [xs] 1 ≤ 16777216))
 (nd [decide (o.len [xs] 1 = o.len [xs] 1), decide (pss.length < 9223372036854775808), decide (o.len pss pss.length ≤ 2199023255552), decide ((o.mix key nonce 1 (o.cat [xs] 1) (o.len [xs] 1)).length ≤ 2199023255552), decide (o.len [xs] 1 = o.len [xs] 1), decide (o.len [xs] 1 + 16 ≤ 4398046511104)]
 (some (AV.tup [AV.s (SV.sl LK.whole 0 0 (o.len [xs] 1 + 16) 1), AV.s (SV.nat IntKind.i64 0)], [some [Ch.ints IntKind.u8 (o.len [xs] 1 + 16) (o.mix key nonce 1 (o.cat [xs] 1) (o.len [xs] 1) ++ o.mac key nonce (o.mix key nonce 1 (o.cat [xs] 1) (o.len [xs] 1)) (o.cat pss pss.length))]])))
 (some (AV.tup [AV.s SV.nil, AV.s (SV.nat IntKind.i64 2)], [])))))))) := by kernel_rfl

set_option maxRecDepth 100000 in
theorem r30 (o : OpsB) (key nonce xs : List Nat) (pss : List (List Nat)) : runB Try.prog (envB o) [] .nat 7 Try.f6 [.agg [.ints .u8 32 key, .ints .u8 12 nonce], .s (.xsl (.ints .u8 xs)), .s (.xsl (.bss pss))] [] =
(nd [decide (xs.length < 9223372036854775808), decide (16 ≤ xs.length)]
 (cond (decide (1048576 < xs.length - 16))
 (some (AV.tup [AV.s SV.nil, AV.s (SV.nat IntKind.i64 2)], []))
 (nd [decide (pss.length < 9223372036854775808), o.okL pss]
 (cond (o.lon pss)
 (some (AV.tup [AV.s SV.nil, AV.s (SV.nat IntKind.i64 2)], []))
 (nd [decide (xs.length - 16 ≤ xs.length), decide (pss.length < 9223372036854775808), decide (o.len pss pss.length ≤ 2199023255552), decide ((List.take (xs.length - 16) xs).length ≤ 2199023255552), decide (xs.length - 16 ≤ xs.length), decide ((o.mac key nonce (List.take (xs.length - 16) xs) (o.cat pss pss.length)).length < 9223372036854775808), decide ((List.drop (xs.length - 16) xs).length < 9223372036854775808)]
 (cond (!o.eq (o.mac key nonce (List.take (xs.length - 16) xs) (o.cat pss pss.length)) (List.drop (xs.length - 16) xs))
 (some (AV.tup [AV.s SV.nil, AV.s (SV.nat IntKind.i64 100)], []))
 (nd [decide (xs.length - 16 ≤ xs.length), o.okL [List.take (xs.length - 16) xs]]
 (cond (decide (o.len [List.take (xs.length - 16) xs] 1 ≤ 16777216))
 (some (AV.tup [AV.s (SV.sl LK.whole 0 0 (o.len [List.take (xs.length - 16) xs] 1) 1), AV.s (SV.nat IntKind.i64 0)], [some [Ch.ints IntKind.u8 (o.len [List.take (xs.length - 16) xs] 1) (o.mix key nonce 1 (o.cat [List.take (xs.length - 16) xs] 1) (o.len [List.take (xs.length - 16) xs] 1))]]))
 (some (AV.tup [AV.s SV.nil, AV.s (SV.nat IntKind.i64 2)], [])))))))))) := by kernel_rfl

set_option maxRecDepth 100000 in
theorem r30i (o : OpsB) (key nonce xs : List Nat) (pss : List (List Nat)) : runB Try.prog (envB o) [] .int 7 Try.f6 [.agg [.ints .u8 32 key, .ints .u8 12 nonce], .s (.xsl (.ints .u8 xs)), .s (.xsl (.bss pss))] [] =
(nd [decide (xs.length < 9223372036854775808)]
 (cond (decide (Int.ofNat 1048576 < Int.ofNat xs.length - Int.ofNat 16))
 (some (AV.tup [AV.s SV.nil, AV.s (SV.nat IntKind.i64 2)], []))
 (nd [decide (pss.length < 9223372036854775808), o.okL pss]
 (cond (o.lon pss)
 (some (AV.tup [AV.s SV.nil, AV.s (SV.nat IntKind.i64 2)], []))
 (cond (decide (Int.ofNat xs.length - Int.ofNat 16 < Int.ofNat 0))
 (some (AV.tup [AV.s SV.nil, AV.s (SV.nat IntKind.i64 111)], []))
 (nd [decide (Int.ofNat 0 ≤ Int.ofNat xs.length - Int.ofNat 16), decide ((Int.ofNat xs.length - Int.ofNat 16).toNat ≤ xs.length), decide (pss.length < 9223372036854775808), decide (o.len pss pss.length ≤ 2199023255552), decide ((List.take (Int.ofNat xs.length - Int.ofNat 16).toNat xs).length ≤ 2199023255552), decide (Int.ofNat 0 ≤ Int.ofNat xs.length - Int.ofNat 16), decide ((Int.ofNat xs.length - Int.ofNat 16).toNat ≤ xs.length), decide ((o.mac key nonce (List.take (Int.ofNat xs.length - Int.ofNat 16).toNat xs) (o.cat pss pss.length)).length < 9223372036854775808), decide ((List.drop (Int.ofNat xs.length - Int.ofNat 16).toNat xs).length < 9223372036854775808)]
 (cond (!o.eq (o.mac key nonce (List.take (Int.ofNat xs.length - Int.ofNat 16).toNat xs) (o.cat pss pss.length)) (List.drop (Int.ofNat xs.length - Int.ofNat 16).toNat xs))
 (some (AV.tup [AV.s SV.nil, AV.s (SV.nat IntKind.i64 100)], []))
 (nd [decide (Int.ofNat 0 ≤ Int.ofNat xs.length - Int.ofNat 16), decide ((Int.ofNat xs.length - Int.ofNat 16).toNat ≤ xs.length), o.okL [List.take (Int.ofNat xs.length - Int.ofNat 16).toNat xs]]
 (cond (decide (o.len [List.take (Int.ofNat xs.length - Int.ofNat 16).toNat xs] 1 ≤ 16777216))
 (some (AV.tup [AV.s (SV.sl LK.whole 0 0 (o.len [List.take (Int.ofNat xs.length - Int.ofNat 16).toNat xs] 1) 1), AV.s (SV.nat IntKind.i64 0)], [some [Ch.ints IntKind.u8 (o.len [List.take (Int.ofNat xs.length - Int.ofNat 16).toNat xs] 1) (o.mix key nonce 1 (o.cat [List.take (Int.ofNat xs.length - Int.ofNat 16).toNat xs] 1) (o.len [List.take (Int.ofNat xs.length - Int.ofNat 16).toNat xs] 1))]]))
 (some (AV.tup [AV.s SV.nil, AV.s (SV.nat IntKind.i64 2)], []))))))))))) := by kernel_rfl

def mxT (key nonce xs : List Nat) : List Nat := mixC key nonce 1 xs xs.length
def slT (key nonce xs bd : List Nat) : List Nat := mxT key nonce xs ++ macT key nonce (mxT key nonce xs) bd

theorem mxT_len (key nonce xs : List Nat) : (mxT key nonce xs).length = xs.length := mixC_len _ _ _ _ _

theorem catN_1 (xs : List Nat) : catN [xs] 1 = xs := by simp [catN]
theorem lenN_1 (xs : List Nat) : lenN [xs] 1 = xs.length := by simp [lenN]

def F28 : FSem := ⟨true, fun args hin => match args, hin with
  | [.agg [.ints .u8 32 key, .ints .u8 12 nonce], .s (.xsl (.ints .u8 xs)), .s (.xsl (.bss pss))], [] =>
    some (Tr.needs [decide (xs.length < 9223372036854775808), decide (pss.length < 9223372036854775808), okLens pss]
      (.br (decide (1048576 < xs.length) || lonB pss) (.leaf (.tup [.s .nil, .s (.nat .i64 2)], []))
        (.leaf (.tup [.s (.sl .whole 0 0 (xs.length + 16) 1), .s (.nat .i64 0)], [some [.ints .u8 (xs.length + 16) (slT key nonce xs (catN pss pss.length))]]))))
  | _, _ => none⟩

theorem or_f {a b : Bool} (h : (a || b) = false) : a = false ∧ b = false := by
  cases a <;> cases b <;> simp_all

theorem lonB_f {pss : List (List Nat)} (h : lonB pss = false) : lenN pss pss.length ≤ 1048576 := by
  have := of_decide_eq_false h
  omega

theorem okL_1 {xs : List Nat} (h : xs.length < 9223372036854775808) : okLens [xs] = true := by
  simp only [okLens, List.all_cons, List.all_nil, Bool.and_true]
  exact decide_eq_true h

theorem ok28 : FOk Try.prog 5 F28 := by
  refine fokB (fs := envB opsB) (xs := []) (m := .nat) (fuel := 7) envB_ok fn28 ?_
  intro args hin t r h hg
  unfold F28 at h
  simp only at h
  split at h
  · rename_i key nonce xs pss
    simp only [Option.some.injEq] at h
    subst h
    obtain ⟨hc, hgt⟩ := Tr.needs_get hg
    simp only [List.mem_cons, List.not_mem_nil, or_false, forall_eq_or_imp, forall_eq, decide_eq_true_eq] at hc
    obtain ⟨h1, h2, h3⟩ := hc
    simp only [Tr.get] at hgt
    rw [r28, opsB_ops, opsB_mac, opsB_lon, opsA_okL, opsA_len, opsA_mix, opsA_cat, catN_1, lenN_1]
    have hx := okL_1 h1
    rw [show mixC key nonce 1 xs xs.length = mxT key nonce xs from rfl]
    have hml := mxT_len key nonce xs
    refine nd_of (by simpa using h1) ?_
    cases hb : (decide (1048576 < xs.length) || lonB pss) with
    | true =>
      rw [hb, cond_true] at hgt
      cases hgt
      by_cases hl : 1048576 < xs.length
      · exact cond_t (decide_eq_true hl) rfl
      · have hlon : lonB pss = true := by rwa [decide_eq_false hl, Bool.false_or] at hb
        refine cond_f (decide_eq_false hl) (nd_of ?_ (cond_t hlon rfl))
        simp only [List.mem_cons, List.not_mem_nil, or_false, forall_eq_or_imp, forall_eq, decide_eq_true_eq]
        exact ⟨h2, h3⟩
    | false =>
      rw [hb, cond_false] at hgt
      cases hgt
      obtain ⟨g1, g2⟩ := or_f hb
      have g1 := of_decide_eq_false g1
      have g3 := lonB_f g2
      refine cond_f (decide_eq_false g1) (nd_of ?_ (cond_f g2 (nd_of ?_ (cond_t (decide_eq_true (by omega)) (nd_of ?_ rfl)))))
      · simp only [List.mem_cons, List.not_mem_nil, or_false, forall_eq_or_imp, forall_eq, decide_eq_true_eq]
        exact ⟨h2, h3⟩
      · simpa using hx
      · simp only [List.mem_cons, List.not_mem_nil, or_false, forall_eq_or_imp, forall_eq, decide_eq_true_eq, hml]
        exact ⟨trivial, h2, by omega, by omega, trivial, by omega⟩
  · cases h

def opT (xs : List Nat) : List Nat := List.take (xs.length - 16) xs
def lsT (xs : List Nat) : List Nat := List.drop (xs.length - 16) xs

def F30 : FSem := ⟨true, fun args hin => match args, hin with
  | [.agg [.ints .u8 32 key, .ints .u8 12 nonce], .s (.xsl (.ints .u8 xs)), .s (.xsl (.bss pss))], [] =>
    some (Tr.needs [decide (xs.length < 9223372036854775808), decide (pss.length < 9223372036854775808), okLens pss]
      (.br (decide (1048592 < xs.length) || lonB pss) (.leaf (.tup [.s .nil, .s (.nat .i64 2)], []))
        (.br (decide (xs.length < 16)) (.leaf (.tup [.s .nil, .s (.nat .i64 111)], []))
          (.br (decide (macT key nonce (opT xs) (catN pss pss.length) = lsT xs))
            (.leaf (.tup [.s (.sl .whole 0 0 (xs.length - 16) 1), .s (.nat .i64 0)], [some [.ints .u8 (xs.length - 16) (mxT key nonce (opT xs))]]))
            (.leaf (.tup [.s .nil, .s (.nat .i64 100)], []))))))
  | _, _ => none⟩

theorem opT_len (xs : List Nat) : (opT xs).length = xs.length - 16 := by
  unfold opT
  rw [List.length_take]
  omega

theorem finL_len (x k : List Nat) : (finL x k).length = 16 := rfl
theorem macT_len (key nonce xs bd : List Nat) : (macT key nonce xs bd).length = 16 := finL_len _ _

theorem ok30 : FOk Try.prog 6 F30 := by
  refine ⟨⟨_, _, fn30.at_, fn30.body, fn30.name⟩, ?_⟩
  intro args hin t v hout h hg
  unfold F30 at h
  simp only at h
  split at h
  · rename_i key nonce xs pss
    simp only [Option.some.injEq] at h
    subst h
    obtain ⟨hc, hgt⟩ := Tr.needs_get hg
    simp only [List.mem_cons, List.not_mem_nil, or_false, forall_eq_or_imp, forall_eq, decide_eq_true_eq] at hc
    obtain ⟨h1, h2, h3⟩ := hc
    simp only [Tr.get] at hgt
    by_cases h16 : 16 ≤ xs.length
    · refine ctrB (fs := envB opsB) (xs := []) (m := .nat) (fuel := 7) envB_ok fn30 ?_
      rw [r30, opsB_ops, opsB_mac, opsB_lon, opsA_okL, opsA_len, opsA_mix, opsA_cat, opsA_eq, catN_1, lenN_1]
      rw [show List.take (xs.length - 16) xs = opT xs from rfl, show List.drop (xs.length - 16) xs = lsT xs from rfl, show mixC key nonce 1 (opT xs) (opT xs).length = mxT key nonce (opT xs) from rfl, opT_len, macT_len]
      have hls : (lsT xs).length = 16 := by
        unfold lsT
        rw [List.length_drop]
        omega
      rw [hls]
      have hx : okLens [opT xs] = true := okL_1 (by rw [opT_len]; omega)
      rw [hx]
      have hlt : ¬ xs.length < 16 := by omega
      refine nd_of (by simp only [List.mem_cons, List.not_mem_nil, or_false, forall_eq_or_imp, forall_eq, decide_eq_true_eq]; exact ⟨h1, h16⟩) ?_
      cases hb : (decide (1048592 < xs.length) || lonB pss) with
      | true =>
        rw [hb, cond_true] at hgt
        cases hgt
        by_cases hl : 1048576 < xs.length - 16
        · exact cond_t (decide_eq_true hl) rfl
        · have hlon : lonB pss = true := by rwa [decide_eq_false (by omega), Bool.false_or] at hb
          refine cond_f (decide_eq_false hl) (nd_of ?_ (cond_t hlon rfl))
          simp only [List.mem_cons, List.not_mem_nil, or_false, forall_eq_or_imp, forall_eq, decide_eq_true_eq]
          exact ⟨h2, h3⟩
      | false =>
        rw [hb, cond_false, decide_eq_false hlt, cond_false] at hgt
        obtain ⟨g1, g2⟩ := or_f hb
        have g1 := of_decide_eq_false g1
        have g3 := lonB_f g2
        refine cond_f (decide_eq_false (by omega)) (nd_of ?_ (cond_f g2 (nd_of ?_ ?_)))
        · simp only [List.mem_cons, List.not_mem_nil, or_false, forall_eq_or_imp, forall_eq, decide_eq_true_eq]
          exact ⟨h2, h3⟩
        · simp only [List.mem_cons, List.not_mem_nil, or_false, forall_eq_or_imp, forall_eq, decide_eq_true_eq]
          exact ⟨by omega, h2, by omega, by omega, by omega, by omega, by omega⟩
        · cases he : decide (macT key nonce (opT xs) (catN pss pss.length) = lsT xs) with
          | true =>
            rw [he, cond_true] at hgt
            cases hgt
            refine cond_f (by show (!decide (macT key nonce (opT xs) (catN pss pss.length) = lsT xs)) = false; rw [he]; rfl) (nd_of ?_ (cond_t (decide_eq_true (by omega)) rfl))
            simp only [List.mem_cons, List.not_mem_nil, or_false, forall_eq_or_imp, forall_eq, decide_eq_true_eq]
            exact ⟨by omega, trivial⟩
          | false =>
            rw [he, cond_false] at hgt
            cases hgt
            exact cond_t (by show (!decide (macT key nonce (opT xs) (catN pss pss.length) = lsT xs)) = true; rw [he]; rfl) rfl
    · refine ctrB (fs := envB opsB) (xs := []) (m := .int) (fuel := 7) envB_ok fn30 ?_
      rw [r30i, opsB_lon, opsB_ops, opsA_okL]
      rw [decide_eq_false (show ¬ 1048592 < xs.length by omega), Bool.false_or] at hgt
      refine nd_of (by simpa using h1) (cond_f (decide_eq_false (by simp only [Int.ofNat_eq_natCast]; omega)) (nd_of ?_ ?_))
      · simp only [List.mem_cons, List.not_mem_nil, or_false, forall_eq_or_imp, forall_eq, decide_eq_true_eq]
        exact ⟨h2, h3⟩
      · cases hl : lonB pss with
        | true =>
          rw [hl, cond_true] at hgt
          cases hgt
          exact cond_t rfl rfl
        | false =>
          rw [hl, cond_false, decide_eq_true (by omega), cond_true] at hgt
          cases hgt
          exact cond_f rfl (cond_t (decide_eq_true (by simp only [Int.ofNat_eq_natCast]; omega)) rfl)
  · cases h

end Go.Proofs.Ytmkhbgklclhmgaa

namespace Go.Proofs.Ytmkhbgklclhmgaa
open Go

def Q24h (o : OpsE) : FSem := ⟨true, fun args hin => match args, hin with
  | [.s (.xsl (.ints .u8 key)), .s (.xsl (.bss [p]))], [] => some (Tr.needs [decide (key.length ≤ 1099511627776), decide (p.length ≤ 1099511627776)] (.leaf (.agg [.ints .u8 32 (o.mc key p)], [])))
  | _, _ => none⟩
theorem oq11h : FOk Try.prog 11 (Q24h opsE) := by
  have e : Q24h opsE = R24h opsN := by kernel_rfl
  rw [e]
  exact or11h

theorem fn4h : Fn Try.prog 4 Try.f4 := ⟨mixed, Try.func4, by kernel_rfl, of_decide_eq_true (by kernel_rfl)⟩

def OpsE.ks (o : OpsE) (salt secret info : List Nat) : List Nat := o.ep (o.mc salt secret) info
def k1L (b : List Nat) : List Nat := List.take 32 (List.drop 0 b)
def k2L (b : List Nat) : List Nat := List.take 32 (List.drop 32 b)

set_option maxRecDepth 100000 in
theorem r4h (o : OpsE) (salt secret info : List Nat) : runB Try.prog [(11, Q24h o), (10, R10h o)] [] .nat 70 Try.f4 [.s (.xsl (.ints .u8 salt)), .s (.xsl (.ints .u8 secret)), .s (.str info), .s (.nat .i64 2)] [] =
    nd [decide (salt.length ≤ 1099511627776), decide (secret.length ≤ 1099511627776), decide (info.length = info.length), decide ((o.mc salt secret).length ≤ 1099511627776), decide (info.length ≤ 1099511627776)]
      (some (.tup [.s (.sl .whole 0 0 2 32), .s (.nat .i64 0)], [some [.ints .u8 32 (k1L (o.ks salt secret info)), .ints .u8 32 (k2L (o.ks salt secret info))]])) := by kernel_rfl

/-- All that the law calls, left open. -/
structure OpsL where
  k1 : List Nat → List Nat → List Nat → List Nat
  k2 : List Nat → List Nat → List Nat → List Nat
  sl : List Nat → List Nat → List Nat → List Nat → List Nat
  tel : List Nat → List Nat → List Nat → List Nat → Bool
  opn : List Nat → List Nat → List Nat → List Nat
  mix : List Nat → List Nat → Nat → List Nat → Nat → List Nat
  blk : List Nat → List Nat → Nat → List Nat
  tag : List Nat → List (List Nat) → List Nat
  lon : List (List Nat) → Bool
  ok41 : List (List Nat) → Bool
  okK : List Nat → Bool
  okL : List (List Nat) → Bool
  cat : List (List Nat) → Nat → List Nat
  len : List (List Nat) → Nat → Nat
  fl : Nat → Nat
  fi : List Nat → Nat → List Nat

def fillN (y : List Nat) : Nat → List Nat
  | 0 => y
  | i + 1 => fillN y i ++ [0]

def telT (key nonce s bd : List Nat) : Bool := decide (macT key nonce (opT s) bd = lsT s)
def opnT (key nonce s : List Nat) : List Nat := mxT key nonce (opT s)
def ksT (salt secret info : List Nat) : List Nat := epF (opsN.mc salt secret) info

def opsL : OpsL := ⟨fun a b c => k1L (ksT a b c), fun a b c => k2L (ksT a b c), slT, telT, opnT, mixC, blk, tagC, lonB, ok41, okKey, okLens, catN, lenN, filN, fillN⟩
theorem opsL_k1 : opsL.k1 = fun a b c => k1L (ksT a b c) := by kernel_rfl
theorem opsL_k2 : opsL.k2 = fun a b c => k2L (ksT a b c) := by kernel_rfl
theorem opsL_sl : opsL.sl = slT := by kernel_rfl
theorem opsL_tel : opsL.tel = telT := by kernel_rfl
theorem opsL_opn : opsL.opn = opnT := by kernel_rfl
theorem opsL_mix : opsL.mix = mixC := by kernel_rfl
theorem opsL_blk : opsL.blk = blk := by kernel_rfl
theorem opsL_tag : opsL.tag = tagC := by kernel_rfl
theorem opsL_lon : opsL.lon = lonB := by kernel_rfl
theorem opsL_ok41 : opsL.ok41 = ok41 := by kernel_rfl
theorem opsL_okK : opsL.okK = okKey := by kernel_rfl
theorem opsL_okL : opsL.okL = okLens := by kernel_rfl
theorem opsL_cat : opsL.cat = catN := by kernel_rfl
theorem opsL_len : opsL.len = lenN := by kernel_rfl
theorem opsL_fl : opsL.fl = filN := by kernel_rfl
theorem opsL_fi : opsL.fi = fillN := by kernel_rfl

def Y4 (o : OpsL) : FSem := ⟨true, fun args hin => match args, hin with
  | [.s (.xsl (.ints .u8 salt)), .s (.xsl (.ints .u8 secret)), .s (.str info), .s (.nat .i64 2)], [] =>
    some (Tr.needs [decide (salt.length ≤ 1099511627776), decide (secret.length ≤ 1099511627776), decide (info.length ≤ 1099511627776)]
      (.leaf (.tup [.s (.sl .whole 0 0 2 32), .s (.nat .i64 0)], [some [.ints .u8 32 (o.k1 salt secret info), .ints .u8 32 (o.k2 salt secret info)]])))
  | _, _ => none⟩

def Y5 (o : OpsL) : FSem := ⟨true, fun args hin => match args, hin with
  | [.agg [.ints .u8 32 key, .ints .u8 12 nonce], .s (.xsl (.ints .u8 xs)), .s (.xsl (.bss pss))], [] =>
    some (Tr.needs [decide (xs.length < 9223372036854775808), decide (pss.length < 9223372036854775808), o.okL pss]
      (.br (decide (1048576 < xs.length) || o.lon pss) (.leaf (.tup [.s .nil, .s (.nat .i64 2)], []))
        (.leaf (.tup [.s (.sl .whole 0 0 (xs.length + 16) 1), .s (.nat .i64 0)], [some [.ints .u8 (xs.length + 16) (o.sl key nonce xs (o.cat pss pss.length))]]))))
  | _, _ => none⟩
theorem y5 : FOk Try.prog 5 (Y5 opsL) := by
  have e : Y5 opsL = F28 := by kernel_rfl
  rw [e]
  exact ok28

def Y6 (o : OpsL) : FSem := ⟨true, fun args hin => match args, hin with
  | [.agg [.ints .u8 32 key, .ints .u8 12 nonce], .s (.xsl (.ints .u8 xs)), .s (.xsl (.bss pss))], [] =>
    some (Tr.needs [decide (xs.length < 9223372036854775808), decide (pss.length < 9223372036854775808), o.okL pss]
      (.br (decide (1048592 < xs.length) || o.lon pss) (.leaf (.tup [.s .nil, .s (.nat .i64 2)], []))
        (.br (decide (xs.length < 16)) (.leaf (.tup [.s .nil, .s (.nat .i64 111)], []))
          (.br (o.tel key nonce xs (o.cat pss pss.length))
            (.leaf (.tup [.s (.sl .whole 0 0 (xs.length - 16) 1), .s (.nat .i64 0)], [some [.ints .u8 (xs.length - 16) (o.opn key nonce xs)]]))
            (.leaf (.tup [.s .nil, .s (.nat .i64 100)], []))))))
  | _, _ => none⟩
theorem y6 : FOk Try.prog 6 (Y6 opsL) := by
  have e : Y6 opsL = F30 := by kernel_rfl
  rw [e]
  exact ok30

def Y7 (o : OpsL) : FSem := ⟨true, fun args hin => match args, hin with
  | [.agg [.ints .u8 32 key], .agg [.ints .u8 12 nonce], .s (.nat .u32 c), .s (.xsl (.bss pss))], [] =>
    some (Tr.needs [decide (pss.length < 9223372036854775808), o.okL pss]
      (.br (decide (o.len pss pss.length ≤ 16777216))
        (.br (decide (pss.length = 0)) (.leaf (.tup [.s .nil, .s (.nat .i64 0)], []))
          (.leaf (.tup [.s (.sl .whole 0 0 (o.len pss pss.length) 1), .s (.nat .i64 0)], [some [.ints .u8 (o.len pss pss.length) (o.mix key nonce c (o.cat pss pss.length) (o.len pss pss.length))]])))
        (.leaf (.tup [.s .nil, .s (.nat .i64 2)], []))))
  | _, _ => none⟩
theorem y7 : FOk Try.prog 7 (Y7 opsL) := by
  have e : Y7 opsL = F22 := by kernel_rfl
  rw [e]
  exact ok22

def Y8 (o : OpsL) : FSem := ⟨false, fun args hin => match args, hin with
  | [.agg [.ints .u8 32 key], .agg [.ints .u8 12 nonce], .s (.nat .u32 n)], [] => some (.leaf (.agg [.ints .u8 64 (o.blk key nonce n)], []))
  | _, _ => none⟩
theorem y8 : FOk Try.prog 8 (Y8 opsL) := by
  have e : Y8 opsL = F20 := by kernel_rfl
  rw [e]
  exact ok20

def Y9 (o : OpsL) : FSem := ⟨true, fun args hin => match args, hin with
  | [.agg [.ints .u8 32 key], .s (.xsl (.bss pss))], [] => some (Tr.needs [decide (pss.length < 9223372036854775808), o.ok41 pss, o.okK key] (.leaf (.agg [.ints .u8 16 (o.tag key pss)], [])))
  | _, _ => none⟩
theorem y9 : FOk Try.prog 9 (Y9 opsL) := by
  have e : Y9 opsL = F25 := by kernel_rfl
  rw [e]
  exact ok25

theorem y4 : FOk Try.prog 4 (Y4 opsL) := by
  refine fokB (fs := [(11, Q24h opsE), (10, R10h opsE)]) (xs := []) (m := .nat) (fuel := 70) (.cons oq11h (.cons or10h .nil)) fn4h ?_
  intro args hin t r h hg
  unfold Y4 at h
  rw [opsL_k1, opsL_k2] at h
  simp only at h
  split at h
  · rename_i salt secret info
    simp only [Option.some.injEq] at h
    subst h
    obtain ⟨hc, hgt⟩ := Tr.needs_get hg
    cases hgt
    simp only [List.mem_cons, List.not_mem_nil, or_false, forall_eq_or_imp, forall_eq, decide_eq_true_eq] at hc
    obtain ⟨h1, h2, h3⟩ := hc
    have hm := mc_len salt secret
    rw [r4h, OpsE.ks, opsE_mc, opsE_ep]
    refine nd_of ?_ rfl
    simp only [List.mem_cons, List.not_mem_nil, or_false, forall_eq_or_imp, forall_eq, decide_eq_true_eq]
    exact ⟨h1, h2, trivial, by omega, h3⟩
  · cases h

def envL (o : OpsL) : List (Nat × FSem) := [(4, Y4 o), (5, Y5 o), (6, Y6 o), (7, Y7 o), (8, Y8 o), (9, Y9 o)]
theorem envL_ok : EnvOk ⟨Try.prog, envL opsL, []⟩ := .cons y4 (.cons y5 (.cons y6 (.cons y7 (.cons y8 (.cons y9 .nil)))))

/-! Filling up with noughts. -/
def Sp2 (o : OpsL) : LSem := ⟨[20], [20], fun args hin => match args, hin with
  | [.s (.sl .whole 0 0 l 1)], [[.ints .u8 n y]] =>
    some (Tr.needs [decide (l = n), decide (n ≤ 1099511627776)] (.br (decide (o.fl n = 0))
      (.leaf (.normal, [.s (.sl .whole 0 0 (n + o.fl n) 1)], [some [.ints .u8 (n + o.fl n) (o.fi y (o.fl n))]]))
      (.leaf (.normal, [.s (.sl .whole 1 0 (n + o.fl n) 1)], [none, some [.ints .u8 (n + o.fl n) (o.fi y (o.fl n))]]))))
  | _, _ => none⟩

end Go.Proofs.Ytmkhbgklclhmgaa

namespace Go.Proofs.Ytmkhbgklclhmgaa
open Go

def bSalt : List Nat := [115, 97, 108, 116]
def bInfo : List Nat := [119, 104, 111, 108, 101]
def kA (o : OpsL) (secret : List Nat) : List Nat := o.k1 bSalt secret bInfo
def kB (o : OpsL) (secret : List Nat) : List Nat := o.k2 bSalt secret bInfo
def nA (o : OpsL) (secret : List Nat) : List Nat := List.take 12 (List.drop 0 (kB o secret))
def sA (o : OpsL) (secret text bound : List Nat) : List Nat := o.sl (kA o secret) (nA o secret) text (o.cat [bound] 1)
def mA (o : OpsL) (secret text : List Nat) : List Nat := o.mix (kA o secret) (nA o secret) 1 (o.cat [text] 1) (o.len [text] 1)
def bA (o : OpsL) (secret : List Nat) : List Nat := List.take 32 (List.drop 0 (o.blk (kA o secret) (nA o secret) 0))
def lA (o : OpsL) (text bound : List Nat) : Nat := bound.length + o.fl bound.length + o.len [text] 1
def lB (o : OpsL) (text bound : List Nat) : Nat := lA o text bound + o.fl (lA o text bound)
def c8 (n : Nat) : List Nat := [n % 256, n / 2 ^ 8 % 256, n / 2 ^ 16 % 256, n / 2 ^ 24 % 256, 0, 0, 0, 0]
def alA (o : OpsL) (secret text bound : List Nat) : List Nat := o.fi (o.fi bound (o.fl bound.length) ++ mA o secret text) (o.fl (lA o text bound)) ++ c8 bound.length ++ c8 (o.len [text] 1)

theorem fn3h : Fn Try.prog 3 Try.f3 := ⟨mixed, Try.func3, by kernel_rfl, of_decide_eq_true (by kernel_rfl)⟩

set_option maxRecDepth 100000 in
theorem rp0 (l n : Nat) (y : List Nat) : runR Try.prog [] [] .nat 20 [] Try.f3 2 (Sp2 opsL) 1 [.s (.sl .whole 0 0 l 1)] [some [.ints .u8 n y]] =
(nd [decide (l < 9223372036854775808)]
 (cond (!decide (l % 16 = 0))
 (nd [decide (l = n), decide (l + 1 ≤ 4398046511104)]
 (some (Ex.normal, [.s (.sl .whole 1 0 (l + 1) 1)], [none, some [.ints .u8 (l + 1) (y ++ [0])]])))
 (some (Ex.exit 2, [.s (.sl .whole 0 0 l 1)], [some [.ints .u8 n y]])))) := by kernel_rfl

set_option maxRecDepth 100000 in
theorem rp1 (l n : Nat) (y : List Nat) : runR Try.prog [] [] .nat 20 [] Try.f3 2 (Sp2 opsL) 1 [.s (.sl .whole 1 0 l 1)] [none, some [.ints .u8 n y]] =
(nd [decide (l < 9223372036854775808)]
 (cond (!decide (l % 16 = 0))
 (nd [decide (l = n), decide (l + 1 ≤ 4398046511104)]
 (some (Ex.normal, [.s (.sl .whole 1 0 (l + 1) 1)], [none, some [.ints .u8 (l + 1) (y ++ [0])]])))
 (some (Ex.exit 2, [.s (.sl .whole 1 0 l 1)], [none, some [.ints .u8 n y]])))) := by kernel_rfl

def AP2 (n : Nat) (y : List Nat) : Nat → List AV × List (Option Blk)
  | 0 => ([.s (.sl .whole 0 0 n 1)], [some [.ints .u8 n y]])
  | i + 1 => ([.s (.sl .whole 1 0 (n + i + 1) 1)], [none, some [.ints .u8 (n + i + 1) (fillN y (i + 1))]])

theorem lokp2 : LOk Try.prog Try.f3.ntmps (.block 2 (.loop (lb 2 Try.f3))) (Sp2 opsL) := by
  refine lokR (fs := []) (xs := []) (m := .nat) (fuel := 20) (sums := []) EnvOk.nil mixed (loopsOk_none rfl _) ?_
  intro args hin t e vs hout h hg
  unfold Sp2 at h
  rw [opsL_fl, opsL_fi] at h
  simp only at h
  split at h
  rotate_left
  · cases h
  rename_i l n y
  simp only [Option.some.injEq] at h
  subst h
  obtain ⟨hc, hgt⟩ := Tr.needs_get hg
  clear hg
  simp only [List.mem_cons, List.not_mem_nil, or_false, forall_eq_or_imp, forall_eq, decide_eq_true_eq] at hc
  obtain ⟨rfl, hc⟩ := hc
  simp only [Tr.get] at hgt
  have hfz : filN l = (16 - l % 16) % 16 := rfl
  have hl : filN l < 16 := Nat.mod_lt _ (by decide)
  have hstep : ∀ i, i < filN l → runR Try.prog [] [] .nat 20 [] Try.f3 2 (Sp2 opsL) 1 (AP2 l y i).1 (AP2 l y i).2 = some (.normal, AP2 l y (i + 1)) := fun i hi => by
    cases i with
    | zero =>
      simp only [AP2]
      rw [rp0]
      refine nd_of ?_ (cond_t (bnot_t (by omega)) (nd_of ?_ rfl))
      · simp only [List.mem_cons, List.not_mem_nil, or_false, forall_eq, decide_eq_true_eq]; omega
      · simp only [List.mem_cons, List.not_mem_nil, or_false, forall_eq_or_imp, forall_eq, decide_eq_true_eq]; exact ⟨trivial, by omega⟩
    | succ i =>
      simp only [AP2]
      rw [rp1]
      refine nd_of ?_ (cond_t (bnot_t (by omega)) (nd_of ?_ rfl))
      · simp only [List.mem_cons, List.not_mem_nil, or_false, forall_eq, decide_eq_true_eq]; omega
      · simp only [List.mem_cons, List.not_mem_nil, or_false, forall_eq_or_imp, forall_eq, decide_eq_true_eq]; exact ⟨trivial, by omega⟩
  cases hz : decide (filN l = 0) with
  | true =>
    have hz' := of_decide_eq_true hz
    rw [hz, cond_true, hz'] at hgt
    cases hgt
    refine ⟨filN l, AP2 l y, .exit 2, rfl, hstep, ?_, rfl⟩
    rw [hz']
    simp only [AP2, List.length_cons, List.length_nil]
    rw [rp0]
    refine nd_of ?_ (cond_f (bnot_f (by omega)) rfl)
    simp only [List.mem_cons, List.not_mem_nil, or_false, forall_eq, decide_eq_true_eq]; omega
  | false =>
    have hz' := of_decide_eq_false hz
    rw [hz, cond_false] at hgt
    cases hgt
    refine ⟨filN l, AP2 l y, .exit 2, rfl, hstep, ?_, rfl⟩
    obtain ⟨q, hq⟩ : ∃ q, filN l = q + 1 := ⟨filN l - 1, by omega⟩
    rw [hq]
    simp only [AP2, List.length_cons, List.length_nil]
    rw [rp1]
    refine nd_of ?_ (cond_f (bnot_f (by omega)) rfl)
    simp only [List.mem_cons, List.not_mem_nil, or_false, forall_eq, decide_eq_true_eq]; omega

theorem loops3h : LoopsOk Try.prog ⟨Try.f3.ntmps, 20, [(2, Sp2 opsL)]⟩ (bodyOf Try.f3) := by
  refine loopsOk_of ?_
  have e : loopsIn [(2, Sp2 opsL)] (bodyOf Try.f3) = [(2, .loop (lb 2 Try.f3), Sp2 opsL)] := by kernel_rfl
  simp only [e]
  intro x hx
  simp only [List.mem_cons, List.not_mem_nil, or_false] at hx
  rcases hx with rfl
  · exact lokp2

set_option maxRecDepth 100000 in
theorem r3h (o : OpsL) (secret text bound : List Nat) : runL Try.prog (envL o) [] .nat 20 [(2, Sp2 o)] Try.f3 [.s (.xsl (.ints .u8 secret)), .s (.xsl (.ints .u8 text)), .s (.xsl (.ints .u8 bound))] [] =
(nd [decide (secret.length < 9223372036854775808)] (cond (decide (300 < secret.length)) (some (AV.s (SV.bool true), [])) (nd [decide (text.length < 9223372036854775808)] (cond (decide (1000 < text.length)) (some (AV.s (SV.bool true), [])) (nd [decide (bound.length < 9223372036854775808)] (cond (decide (300 < bound.length)) (some (AV.s (SV.bool true), [])) (nd [decide (secret.length ≤ 1099511627776), decide (0 + secret.length ≤ 4398046511104), decide (0 + secret.length = 0 + secret.length), decide (secret.length ≤ 1099511627776)] (cond (!decide ((kA o secret)= (kA o secret))) (some (AV.s (SV.bool false), [])) (cond (!decide ((kB o secret)= (kB o secret))) (some (AV.s (SV.bool false), [])) (nd [decide (text.length < 9223372036854775808), o.okL [bound]] (cond (decide (1048576 < text.length) || o.lon [bound]) (nd [o.okL [bound]] (cond (o.lon [bound]) (nd [o.okL [text]] (cond (decide (o.len [text] 1 ≤ 16777216)) (some (AV.s (SV.bool false), [])) (some (AV.s (SV.bool false), [])))) (nd [o.okL [text]] (cond (decide (o.len [text] 1 ≤ 16777216)) (some (AV.s (SV.bool false), [])) (some (AV.s (SV.bool false), [])))))) (nd [decide (text.length + 16 = text.length + 16), decide ((sA o secret text bound).length < 9223372036854775808), o.okL [bound]] (cond (decide (1048592 < (sA o secret text bound).length) || o.lon [bound]) (nd [o.okL [text]] (cond (decide (o.len [text] 1 ≤ 16777216)) (some (AV.s (SV.bool false), [])) (some (AV.s (SV.bool false), [])))) (cond (decide ((sA o secret text bound).length < 16)) (nd [o.okL [text]] (cond (decide (o.len [text] 1 ≤ 16777216)) (some (AV.s (SV.bool false), [])) (some (AV.s (SV.bool false), [])))) (cond (o.tel (kA o secret) (nA o secret) (sA o secret text bound) (o.cat [bound] 1)) (nd [o.okL [text]] (cond (decide (o.len [text] 1 ≤ 16777216)) (nd [decide ((sA o secret text bound).length - 16 = (sA o secret text bound).length - 16)] (cond (!decide (o.opn (kA o secret) (nA o secret) (sA o secret text bound) = text)) (some (AV.s (SV.bool false), [])) (nd [decide (text.length + 16 < 9223372036854775808), decide (text.length + 16 - 16 ≤ text.length + 16), decide (text.length + 16 - 16 ≤ text.length + 16), decide (o.len [text] 1 = o.len [text] 1)] (cond (!decide (List.take (text.length + 16 - 16) (sA o secret text bound) = (mA o secret text))) (some (AV.s (SV.bool false), [])) (nd [decide (bound.length ≤ 4398046511104), decide (bound.length = bound.length), decide (bound.length ≤ 1099511627776)] (cond (decide (o.fl bound.length = 0)) (nd [decide (o.len [text] 1 = o.len [text] 1), decide (bound.length + o.fl bound.length = bound.length + o.fl bound.length), decide ((lA o text bound) ≤ 4398046511104), decide ((lA o text bound) = (lA o text bound)), decide ((lA o text bound) ≤ 1099511627776)] (cond (decide (o.fl ((lA o text bound)) = 0)) (nd [decide (bound.length < 9223372036854775808), decide (o.len [text] 1 < 9223372036854775808), decide ((lB o text bound) = (lB o text bound)), decide ((lB o text bound) + 8 ≤ 4398046511104), decide ((lB o text bound) + 8 = (lB o text bound) + 8), decide ((lB o text bound) + 8 + 8 ≤ 4398046511104), decide ((lB o text bound) + 8 + 8 = (lB o text bound) + 8 + 8), o.ok41 [(alA o secret text bound)], o.okK (bA o secret), decide (text.length + 16 < 9223372036854775808), decide (text.length + 16 - 16 ≤ text.length + 16), decide (text.length + 16 - 16 + (text.length + 16 - (text.length + 16 - 16)) = text.length + 16)] (some (AV.s (SV.bool (decide (List.drop (text.length + 16 - 16) (sA o secret text bound) = o.tag (bA o secret) [(alA o secret text bound)]))), []))) (nd [decide (bound.length < 9223372036854775808), decide (o.len [text] 1 < 9223372036854775808), decide ((lB o text bound) = (lB o text bound)), decide ((lB o text bound) + 8 ≤ 4398046511104), decide ((lB o text bound) + 8 = (lB o text bound) + 8), decide ((lB o text bound) + 8 + 8 ≤ 4398046511104), decide ((lB o text bound) + 8 + 8 = (lB o text bound) + 8 + 8), o.ok41 [(alA o secret text bound)], o.okK (bA o secret), decide (text.length + 16 < 9223372036854775808), decide (text.length + 16 - 16 ≤ text.length + 16), decide (text.length + 16 - 16 + (text.length + 16 - (text.length + 16 - 16)) = text.length + 16)] (some (AV.s (SV.bool (decide (List.drop (text.length + 16 - 16) (sA o secret text bound) = o.tag (bA o secret) [(alA o secret text bound)]))), []))))) (nd [decide (o.len [text] 1 = o.len [text] 1), decide (bound.length + o.fl bound.length = bound.length + o.fl bound.length), decide ((lA o text bound) ≤ 4398046511104), decide ((lA o text bound) = (lA o text bound)), decide ((lA o text bound) ≤ 1099511627776)] (cond (decide (o.fl ((lA o text bound)) = 0)) (nd [decide (bound.length < 9223372036854775808), decide (o.len [text] 1 < 9223372036854775808), decide ((lB o text bound) = (lB o text bound)), decide ((lB o text bound) + 8 ≤ 4398046511104), decide ((lB o text bound) + 8 = (lB o text bound) + 8), decide ((lB o text bound) + 8 + 8 ≤ 4398046511104), decide ((lB o text bound) + 8 + 8 = (lB o text bound) + 8 + 8), o.ok41 [(alA o secret text bound)], o.okK (bA o secret), decide (text.length + 16 < 9223372036854775808), decide (text.length + 16 - 16 ≤ text.length + 16), decide (text.length + 16 - 16 + (text.length + 16 - (text.length + 16 - 16)) = text.length + 16)] (some (AV.s (SV.bool (decide (List.drop (text.length + 16 - 16) (sA o secret text bound) = o.tag (bA o secret) [(alA o secret text bound)]))), []))) (nd [decide (bound.length < 9223372036854775808), decide (o.len [text] 1 < 9223372036854775808), decide ((lB o text bound) = (lB o text bound)), decide ((lB o text bound) + 8 ≤ 4398046511104), decide ((lB o text bound) + 8 = (lB o text bound) + 8), decide ((lB o text bound) + 8 + 8 ≤ 4398046511104), decide ((lB o text bound) + 8 + 8 = (lB o text bound) + 8 + 8), o.ok41 [(alA o secret text bound)], o.okK (bA o secret), decide (text.length + 16 < 9223372036854775808), decide (text.length + 16 - 16 ≤ text.length + 16), decide (text.length + 16 - 16 + (text.length + 16 - (text.length + 16 - 16)) = text.length + 16)] (some (AV.s (SV.bool (decide (List.drop (text.length + 16 - 16) (sA o secret text bound) = o.tag (bA o secret) [(alA o secret text bound)]))), []))))))))))) (some (AV.s (SV.bool false), [])))) (nd [o.okL [text]] (cond (decide (o.len [text] 1 ≤ 16777216)) (some (AV.s (SV.bool false), [])) (some (AV.s (SV.bool false), []))))))))))))))))))) := by kernel_rfl

end Go.Proofs.Ytmkhbgklclhmgaa

namespace Go.Proofs.Ytmkhbgklclhmgaa
open Go

theorem slT_len (key nonce xs bd : List Nat) : (slT key nonce xs bd).length = xs.length + 16 := by
  rw [slT, List.length_append, mxT_len, macT_len]

theorem opT_slT (key nonce xs bd : List Nat) : opT (slT key nonce xs bd) = mxT key nonce xs := by
  unfold opT
  rw [slT_len, Nat.add_sub_cancel, slT, ← mxT_len key nonce xs, List.take_left' rfl]

theorem lsT_slT (key nonce xs bd : List Nat) : lsT (slT key nonce xs bd) = macT key nonce (mxT key nonce xs) bd := by
  unfold lsT
  rw [slT_len, Nat.add_sub_cancel, slT, ← mxT_len key nonce xs, List.drop_left' rfl]

theorem mx_mx (key nonce xs : List Nat) : mxT key nonce (mxT key nonce xs) = xs := by
  apply List.ext_getElem?
  intro i
  have hl := mxT_len key nonce xs
  have hl2 := mxT_len key nonce (mxT key nonce xs)
  by_cases hi : i < xs.length
  · have h1 := mixC_get key nonce 1 (mxT key nonce xs) (l := (mxT key nonce xs).length) (i := i) (by omega) (by omega)
    have h2 := mixC_get key nonce 1 xs (l := xs.length) (i := i) hi hi
    have h1' : (mxT key nonce (mxT key nonce xs)).getD i 0 = mixAt key nonce 1 (mxT key nonce xs) i := h1
    have h2' : (mxT key nonce xs).getD i 0 = mixAt key nonce 1 xs i := h2
    have h3 : (mxT key nonce (mxT key nonce xs)).getD i 0 = xs.getD i 0 := by
      rw [h1', mixAt, h2', mixAt, Nat.xor_assoc, Nat.xor_self, Nat.xor_zero]
    rw [List.getD, List.getD, List.getElem?_eq_getElem (by omega), List.getElem?_eq_getElem hi] at h3
    rw [List.getElem?_eq_getElem (by omega), List.getElem?_eq_getElem hi]
    exact congrArg some h3
  · rw [List.getElem?_eq_none (by omega), List.getElem?_eq_none (by omega)]

theorem fillN_eq (y : List Nat) : ∀ n, fillN y n = y ++ List.replicate n 0
  | 0 => by simp [fillN]
  | n + 1 => by rw [fillN, fillN_eq y n, List.replicate_succ', List.append_assoc]

theorem c8_eq (n : Nat) : c8 n = cnt8 n := rfl

theorem filN_skip (a b : Nat) : filN (a + filN a + b) = filN b := by
  unfold filN
  omega

theorem catN_macP (xs bd : List Nat) : catN (macP xs bd) 6 = bd ++ List.replicate (filN bd.length) 0 ++ xs ++ List.replicate (filN xs.length) 0 ++ cnt8 bd.length ++ cnt8 xs.length := by
  simp only [catN, macP, List.nil_append]
  rfl

theorem sA_eq (secret text bound : List Nat) : sA opsL secret text bound = slT (kA opsL secret) (nA opsL secret) text bound := by
  unfold sA
  rw [opsL_sl, opsL_cat, catN_1]
theorem mA_eq (secret text : List Nat) : mA opsL secret text = mxT (kA opsL secret) (nA opsL secret) text := by
  unfold mA
  rw [opsL_mix, opsL_cat, opsL_len, catN_1, lenN_1]
  rfl
theorem bA_eq (secret : List Nat) : bA opsL secret = List.take 32 (blk (kA opsL secret) (nA opsL secret) 0) := by
  unfold bA
  rw [opsL_blk]
  rfl
theorem lA_eq (text bound : List Nat) : lA opsL text bound = bound.length + filN bound.length + text.length := by
  unfold lA
  rw [opsL_fl, opsL_len, lenN_1]
theorem alA_eq (secret text bound : List Nat) : alA opsL secret text bound = catN (macP (mxT (kA opsL secret) (nA opsL secret) text) bound) 6 := by
  unfold alA
  rw [opsL_fi, opsL_fl, lA_eq, mA_eq, filN_skip, fillN_eq, fillN_eq, c8_eq, c8_eq, opsL_len, lenN_1, catN_macP, mxT_len]

theorem fin_eq (secret text bound : List Nat) : List.drop (text.length + 16 - 16) (sA opsL secret text bound) = tagC (bA opsL secret) [alA opsL secret text bound] := by
  have h := lsT_slT (kA opsL secret) (nA opsL secret) text bound
  unfold lsT at h
  rw [slT_len] at h
  rw [sA_eq, h, macT, bA_eq, tagC_one, alA_eq, tagC_eq]
  rfl

theorem alA_len (secret text bound : List Nat) : (alA opsL secret text bound).length ≤ bound.length + text.length + 48 := by
  have h1 : filN bound.length < 16 := Nat.mod_lt _ (by decide)
  have h2 : filN text.length < 16 := Nat.mod_lt _ (by decide)
  rw [alA_eq, catN_macP, mxT_len]
  simp only [List.length_append, List.length_replicate, mxT_len, cnt8, List.length_cons, List.length_nil]
  omega

theorem ctr3h {secret text bound : List Nat} (h1 : secret.length < 9223372036854775808) (h2 : text.length < 9223372036854775808) (h3 : bound.length < 9223372036854775808) : Ctr Try.prog 3 [.s (.xsl (.ints .u8 secret)), .s (.xsl (.ints .u8 text)), .s (.xsl (.ints .u8 bound))] [] (.s (.bool true)) [] := by
  refine ctrL (fs := envL opsL) (xs := []) (m := .nat) (fuel := 20) (sums := [(2, Sp2 opsL)]) envL_ok fn3h loops3h ?_
  rw [r3h, opsL_okL, opsL_lon, opsL_len, opsL_cat, opsL_tel, opsL_opn, opsL_fl, opsL_ok41, opsL_okK, opsL_tag, lenN_1, catN_1]
  refine nd_of (by simpa using h1) ?_
  by_cases g1 : 300 < secret.length
  · exact cond_t (decide_eq_true g1) rfl
  refine cond_f (decide_eq_false g1) (nd_of (by simpa using h2) ?_)
  by_cases g2 : 1000 < text.length
  · exact cond_t (decide_eq_true g2) rfl
  refine cond_f (decide_eq_false g2) (nd_of (by simpa using h3) ?_)
  by_cases g3 : 300 < bound.length
  · exact cond_t (decide_eq_true g3) rfl
  have hlon : lonB [bound] = false := decide_eq_false (by rw [show [bound].length = 1 from rfl, lenN_1]; omega)
  have hokb : okLens [bound] = true := okL_1 h3
  have hokt : okLens [text] = true := okL_1 h2
  have hfz1 : filN bound.length < 16 := Nat.mod_lt _ (by decide)
  have hfz2 : filN (lA opsL text bound) < 16 := Nat.mod_lt _ (by decide)
  have hla := lA_eq text bound
  have hlb : lB opsL text bound = lA opsL text bound + filN (lA opsL text bound) := by unfold lB; rw [opsL_fl]
  have hsl : (sA opsL secret text bound).length = text.length + 16 := by rw [sA_eq, slT_len]
  have htel : telT (kA opsL secret) (nA opsL secret) (sA opsL secret text bound) bound = true := by
    unfold telT
    rw [sA_eq, opT_slT, lsT_slT]
    exact decide_eq_true rfl
  have hopn : opnT (kA opsL secret) (nA opsL secret) (sA opsL secret text bound) = text := by
    unfold opnT
    rw [sA_eq, opT_slT, mx_mx]
  have hmix : List.take (text.length + 16 - 16) (sA opsL secret text bound) = mA opsL secret text := by
    have := opT_slT (kA opsL secret) (nA opsL secret) text bound
    unfold opT at this
    rw [slT_len] at this
    rw [sA_eq, this, mA_eq]
  have hal := alA_len secret text bound
  have hok41 : ok41 [alA opsL secret text bound] = true := by
    simp only [ok41, List.all_cons, List.all_nil, Bool.and_true, decide_eq_true_eq]
    omega
  have hokk : okKey (bA opsL secret) = true := by
    rw [bA_eq]
    exact once_ok _ _
  have hfin := fin_eq secret text bound
  have hend : (some (AV.s (SV.bool (decide (List.drop (text.length + 16 - 16) (sA opsL secret text bound) = tagC (bA opsL secret) [alA opsL secret text bound]))), ([] : List (Option Blk)))) = some (AV.s (SV.bool true), []) := by
    rw [decide_eq_true hfin]
  refine cond_f (decide_eq_false g3) (nd_of ?_ (cond_f (bnot_f rfl) (cond_f (bnot_f rfl) (nd_of ?_ (cond_f ?_ (nd_of ?_ (cond_f ?_ (cond_f (decide_eq_false (by omega)) (cond_t htel (nd_of ?_ (cond_t (decide_eq_true (by omega)) (nd_of ?_ (cond_f (bnot_f hopn) (nd_of ?_ (cond_f (bnot_f hmix) (nd_of ?_ ?_))))))))))))))))
  · simp only [List.mem_cons, List.not_mem_nil, or_false, forall_eq_or_imp, forall_eq, decide_eq_true_eq, true_and]
    omega
  · simp only [List.mem_cons, List.not_mem_nil, or_false, forall_eq_or_imp, forall_eq, decide_eq_true_eq]
    exact ⟨h2, hokb⟩
  · rw [hlon, decide_eq_false (by omega)]
    rfl
  · simp only [List.mem_cons, List.not_mem_nil, or_false, forall_eq_or_imp, forall_eq, decide_eq_true_eq]
    exact ⟨trivial, by omega, hokb⟩
  · rw [hlon, decide_eq_false (by omega)]
    rfl
  · simp only [List.mem_cons, List.not_mem_nil, or_false, forall_eq]
    exact hokt
  · simp only [List.mem_cons, List.not_mem_nil, or_false, forall_eq, decide_eq_true_eq]
  · simp only [List.mem_cons, List.not_mem_nil, or_false, forall_eq_or_imp, forall_eq, decide_eq_true_eq]
    exact ⟨by omega, by omega, by omega, trivial⟩
  · simp only [List.mem_cons, List.not_mem_nil, or_false, forall_eq_or_imp, forall_eq, decide_eq_true_eq]
    exact ⟨by omega, trivial, by omega⟩
  · have needs1 : ∀ c ∈ [decide (text.length = text.length), decide (bound.length + filN bound.length = bound.length + filN bound.length), decide (lA opsL text bound ≤ 4398046511104), decide (lA opsL text bound = lA opsL text bound), decide (lA opsL text bound ≤ 1099511627776)], c = true := by
      simp only [List.mem_cons, List.not_mem_nil, or_false, forall_eq_or_imp, forall_eq, decide_eq_true_eq]
      exact ⟨trivial, trivial, by omega, trivial, by omega⟩
    have needs2 : ∀ c ∈ [decide (bound.length < 9223372036854775808), decide (text.length < 9223372036854775808), decide (lB opsL text bound = lB opsL text bound), decide (lB opsL text bound + 8 ≤ 4398046511104), decide (lB opsL text bound + 8 = lB opsL text bound + 8), decide (lB opsL text bound + 8 + 8 ≤ 4398046511104), decide (lB opsL text bound + 8 + 8 = lB opsL text bound + 8 + 8), ok41 [alA opsL secret text bound], okKey (bA opsL secret), decide (text.length + 16 < 9223372036854775808), decide (text.length + 16 - 16 ≤ text.length + 16), decide (text.length + 16 - 16 + (text.length + 16 - (text.length + 16 - 16)) = text.length + 16)], c = true := by
      simp only [List.mem_cons, List.not_mem_nil, or_false, forall_eq_or_imp, forall_eq, decide_eq_true_eq]
      exact ⟨h3, h2, trivial, by omega, trivial, by omega, trivial, hok41, hokk, by omega, by omega, by omega⟩
    cases decide (filN bound.length = 0)
    · refine cond_f rfl (nd_of needs1 ?_)
      cases decide (filN (lA opsL text bound) = 0)
      · exact cond_f rfl (nd_of needs2 hend)
      · exact cond_t rfl (nd_of needs2 hend)
    · refine cond_t rfl (nd_of needs1 ?_)
      cases decide (filN (lA opsL text bound) = 0)
      · exact cond_f rfl (nd_of needs2 hend)
      · exact cond_t rfl (nd_of needs2 hend)

end Go.Proofs.Ytmkhbgklclhmgaa

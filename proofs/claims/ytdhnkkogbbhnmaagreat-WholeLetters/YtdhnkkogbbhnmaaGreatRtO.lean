/-
  'WholeLetters' returns true, and what it was given reads as before: whatever the input.
-/
import Derived.Test.YtdhnkkogbbhnmaaGreatB8

set_option linter.unusedSimpArgs false
set_option linter.unusedVariables false

namespace Go.Proofs.YtdhnkkogbbhnmaaGreat
open Go Go.ChangeShapes Go.WideShapes Go.ChangeAt Go.RowKit

theorem fnLawW : Fn Tryz.prog 3 Tryz.f3 := ⟨mixedF, Tryz.func3, by kernel_rfl, of_decide_eq_true (by kernel_rfl)⟩

theorem ctrW {s g s' g' bs : List Nat} (hs : s.length = 32) (hg : g32 g = true) (hs' : s'.length = 32) (hg' : g32 g' = true) (hb : bs.length < 9223372036854775808) :
    Ctr Tryz.prog 3 [.agg [.ints .u8 32 s, .ints .u8 32 g], .agg [.ints .u8 32 s', .ints .u8 32 g'], .s (.xsl (.ints .u8 bs))] [] (.s (.bool true)) [] := by
  refine ctrL (fs := envLH opsLt) (xs := []) (m := .nat) (fuel := 40) (sums := [(0, Sou opsLt)]) envLH_ok fnLawW loopsOu ?_
  refine (rLaw opsLt s g s' g' bs).trans (nd_of ?_ ?_)
  · simp only [List.mem_cons, List.not_mem_nil, or_false, forall_eq_or_imp, forall_eq]
    exact ⟨decide_eq_true hs', decide_eq_true hb⟩
  · by_cases h : 10 < bs.length
    · exact cond_t (decide_eq_true h) rfl
    · exact cond_f (decide_eq_false h) (f3_true hs hg hs' hg' (by omega))

theorem own : ownKnob Tryz.prog.godebug = none := by kernel_rfl
theorem laidOut : laidOutB Tryz.prog = true := by kernel_rfl
theorem u4 : Tryz.prog.underlying 4 = some .bool := by kernel_rfl
theorem u5 : Tryz.prog.underlying 5 = some (.int .u8) := by kernel_rfl
theorem u23 : Tryz.prog.underlying 23 = some (.array 32 5) := by kernel_rfl
theorem u25 : Tryz.prog.underlying 25 = some (.struct #[{ name := "Sign", type := 23, offset := 0, embedded := false, tag := "", pkgPath := "", byteOffset := 0 }, { name := "Agree", type := 23, offset := 32, embedded := false, tag := "", pkgPath := "", byteOffset := 32 }]) := by kernel_rfl
theorem u26 : Tryz.prog.underlying 26 = some (.slice 5) := by kernel_rfl
theorem c5 : Tryz.prog.cellsOf 5 = 1 := by kernel_rfl
theorem c23 : Tryz.prog.cellsOf 23 = 32 := by kernel_rfl
theorem c25 : Tryz.prog.cellsOf 25 = 64 := by kernel_rfl

theorem g32_of {k : List Nat} (hl : k.length = 32) (h : ∀ x ∈ k, x < 256) : g32 k = true := by
  rw [g32, Bool.and_eq_true]
  exact ⟨decide_eq_true hl, allB_mem h⟩

theorem law_of {s : ChangeSpec} (h : s.vars = [] ∧ ∀ (H : Type) (d1 d2 d3 : DataW H), (s.fn H [d1, d2, d3]) = { results := [.lit (.bool true)], args := [d1, d2, d3] }) : Law s 3 := by
  refine ⟨h.1, fun H ds hl => ?_⟩
  match ds, hl with
  | [d1, d2, d3], _ => rw [h.2]; exact ⟨rfl, rfl, rfl⟩

theorem law3 : Law YtdhnkkogbbhnmaaGreat.Rows.wholeLettersSpec Tryz.f3.params.toList.length := by
  have e : Tryz.f3.params.toList.length = 3 := by kernel_rfl
  rw [e]
  exact law_of ⟨rfl, fun _ _ _ _ => rfl⟩

/-! A person: two keys, by value. -/
section
variable {H : Type} {enc : TypeId × Value → H} {P : Program} {W : World} {r : Reach} {b0 base : Nat} {spare : Nat → Bool} {held : Bool} {t : TypeId} {v : Value} {d : DataW H} {ps : List MemPlace}

theorem open_twoV {f0 f1 : Field} {e : TypeId} (ht : P.underlying t = some (.struct #[f0, f1])) (he : P.underlying e = some (.int .u8)) (hce : P.cellsOf e = 1)
    (h0 : P.underlying f0.type = some (.array 32 e)) (c0 : P.cellsOf f0.type = 32) (h1 : P.underlying f1.type = some (.array 32 e)) (c1 : P.cellsOf f1.type = 32) (o0 : f0.offset = 0) (o1 : f1.offset = 32) (ct : P.cellsOf t = 64)
    (hval : Value.okWide P W r b0 t v) (hd : DataW.Trod enc P W base spare held t v d ps) :
    ∃ xs ys : List Nat, xs.length = 32 ∧ (∀ x ∈ xs, x < 256) ∧ ys.length = 32 ∧ (∀ y ∈ ys, y < 256) ∧ v = .agg (xs.map (fun x : Nat => Value.int .u8 x) ++ ys.map (fun x : Nat => Value.int .u8 x)).toArray := by
  obtain ⟨fuel, hd⟩ := hd
  simp only [Value.okWide, ht] at hval
  obtain ⟨cs, rfl, _, _⟩ := hval
  obtain ⟨y0, y1, n, _, hl, g0, g1⟩ := trod_struct2 ht hd
  rw [o0, c0] at g0
  rw [o1, c1] at g1
  obtain ⟨xs, x1, x2, x3⟩ := open_arrC (k := .u8) rfl he hce h0 c0 g0
  obtain ⟨ys, z1, z2, z3⟩ := open_arrC (k := .u8) rfl he hce h1 c1 g1
  refine ⟨xs, ys, x1, x2, z1, z2, ?_⟩
  have hc : (Value.agg cs).cells.toList.length = 64 := by rw [hl, ct]
  congr 1
  apply Array.ext'
  have e : (Value.agg cs).cells.toList = cs.toList := by simp [Value.cells]
  rw [e] at x3 z3 hc
  rw [← x3, ← z3]
  simp only [List.drop_zero]
  rw [List.take_of_length_le (l := List.drop 32 cs.toList) (by rw [List.length_drop]; omega), List.take_append_drop]

theorem relTwo {cx : Cx} {β : Bm} {xs ys : List Nat} (h1 : xs.length = 32) (h2 : ∀ x ∈ xs, x < 256) (h3 : ys.length = 32) (h4 : ∀ y ∈ ys, y < 256) :
    RelV cx β (.agg [.ints .u8 32 xs, .ints .u8 32 ys]) (.agg (xs.map (fun x : Nat => Value.int .u8 x) ++ ys.map (fun x : Nat => Value.int .u8 x)).toArray) :=
  ⟨_, rfl, h1, h2, _, rfl, h3, h4, [], by simp, rfl⟩
end

set_option maxRecDepth 100000 in
theorem lifted3 (os : Os) (started : os.Started) (H : Type) (enc : TypeId × Value → H) :
    ReturnsInHanded {} Tryz.checked os 3 .any (YtdhnkkogbbhnmaaGreat.Rows.wholeLettersSpec.pre6 enc Tryz.prog Tryz.f3 YtdhnkkogbbhnmaaGreat.Rows.wholeLettersRow.domain false) (YtdhnkkogbbhnmaaGreat.Rows.wholeLettersSpec.post enc Tryz.prog Tryz.f3 false true false false) := by
  refine returnsInHanded_of_change (C := Tryz.checked) own started (by kernel_rfl) Tryz.func3
    (ChangeSpec.witness6 (enc := enc) (C := Tryz.checked) false ⟨#[], #[.agg (Array.replicate 64 (.int .u8 0)), .agg (Array.replicate 64 (.int .u8 0)), .slice none 0 0], []⟩ 8 (by kernel_rfl) (by kernel_rfl) (by kernel_rfl) (by kernel_rfl)) ?_
  intro W base args ds gs before hval0 hW hcnd _
  have hval : ∀ (j : Nat) t v, Tryz.f3.params[j]? = some t → args[j]? = some v → Value.okWide Tryz.prog W .any base t v := hval0
  have hW' := hW
  obtain ⟨p, q, hA0, hV, rfl, hfz, hnd⟩ := hW
  have hA : DataW.TrodAll enc Tryz.prog W 0 (fun _ => true) true Tryz.f3.params.toList args.toList ds p := hA0
  rw [Tryz.params3] at hA hval
  obtain ⟨v0, v1, v2, d0, d1, d2, p0, p1, p2, rfl, rfl, rfl, h0, h1, h2⟩ := trodAll_three hA
  obtain ⟨a0, n0, l0, b0, m0, q0, rfl⟩ := open_twoV u25 u5 c5 u23 c23 u23 c23 rfl rfl c25 (hval 0 25 v0 rfl rfl) h0
  obtain ⟨a1, n1, l1, b1, m1, q1, rfl⟩ := open_twoV u25 u5 c5 u23 c23 u23 c23 rfl rfl c25 (hval 1 25 v1 rfl rfl) h1
  obtain ⟨a2, l2, b2, x2⟩ := open_rowV rfl u5 c5 u26 (hval 2 26 v2 rfl rfl) h2
  exact law_calls (E := ⟨Tryz.prog, [], []⟩) laidOut law3 (by rw [Tryz.params3]; decide +kernel) rfl u4 hW' (relCons (relTwo l0 b0 m0 q0) (relCons (relTwo l1 b1 m1 q1) (relCons (relXs x2) relNil))) (ctrW l0 (g32_of m0 q0) l1 (g32_of m1 q1) (by omega))

theorem wholeLetters_holds : YtdhnkkogbbhnmaaGreat.Rows.WholeLettersSaid :=
  OpenClaim.holds_of_wide 3 Tryz.f3 rfl rfl rfl rfl rfl rfl rfl ⟨rfl, rfl, rfl, rfl, rfl⟩ rfl rfl rfl rfl rfl (by kernel_rfl) Tryz.func3 (by kernel_rfl)
    (of_decide_eq_true (by kernel_rfl)) (by unfold Func.isWrapper; first | (rw [if_pos (by decide +kernel)]; kernel_rfl) | (rw [if_neg (by decide +kernel)]; exact ⟨rfl, rfl⟩))
    (fun os started H enc _ => lifted3 os started H enc)

end Go.Proofs.YtdhnkkogbbhnmaaGreat

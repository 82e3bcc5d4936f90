/-
  From what is known of a law's function to the given statement: arguments opened, the end shut.
-/
import Derived.Test.YtgebgjhjegadpaaAbZ
import Derived.ProofKit
import Derived.OpenShut
namespace Go.Proofs.Ytgebgjhjegadpaa
open Go Go.ChangeShapes Go.WideShapes Go.RowKit

section
variable {H : Type} {enc : TypeId × Value → H} {P : Program} {W : World} {r : Reach} {b0 base : Nat} {spare : Nat → Bool} {held : Bool} {t e : TypeId} {k : IntKind} {v : Value} {d : DataW H} {ps : List MemPlace}

theorem wf_u (hk : isU k = true) {n : Int} (h : (Lit.int k n).wf = true) : 0 ≤ n ∧ n.toNat < lim k := by
  cases k <;> simp [isU] at hk <;> simp [Lit.wf, IntKind.min, IntKind.max, IntKind.signed, IntKind.bits, lim] at h ⊢ <;> omega

theorem open_uintV (ht : P.underlying t = some (.int k)) (hk : isU k = true) (hval : Value.okWide P W r b0 t v) (hd : DataW.Trod enc P W base spare held t v d ps) : ∃ x : Nat, x < lim k ∧ v = .int k x := by
  obtain ⟨n, rfl, _, _, hw⟩ := open_int ht hval hd
  obtain ⟨h1, h2⟩ := wf_u hk hw
  exact ⟨n.toNat, h2, by rw [Int.toNat_of_nonneg h1]⟩

theorem open_i64V (ht : P.underlying t = some (.int .i64)) (hval : Value.okWide P W r b0 t v) (hd : DataW.Trod enc P W base spare held t v d ps) : ∃ z : Int, -9223372036854775808 ≤ z ∧ z < 9223372036854775808 ∧ v = .int .i64 z := by
  obtain ⟨n, rfl, _, _, hw⟩ := open_int ht hval hd
  refine ⟨n, ?_, ?_, rfl⟩ <;> simp [Lit.wf, IntKind.min, IntKind.max, IntKind.signed, IntKind.bits] at hw <;> omega

theorem open_arrC {n : Nat} (hk : isU k = true) (he : P.underlying e = some (.int k)) (hce : P.cellsOf e = 1) (ht : P.underlying t = some (.array n e)) (hct : P.cellsOf t = n) {fuel : Nat} {cs : List Value} {x : DataW H × List MemPlace}
    (hd : DataW.trod enc P W base spare held fuel t cs = some x) : ∃ xs : List Nat, xs.length = n ∧ (∀ x ∈ xs, x < lim k) ∧ cs = xs.map (fun x : Nat => Value.int k x) := by
  obtain ⟨ys, m, _, _, hlen, hyl, hget⟩ := DataW.trod_array ht hd
  rw [hct] at hlen
  have key : ∀ i, i < n → ∃ z : Nat, z < lim k ∧ cs[i]? = some (.int k z) := by
    intro i hi
    have h1 := hget i hi
    rw [hce, Nat.mul_one] at h1
    have hy : ys[i]? = some (ys[i]'(by omega)) := List.getElem?_eq_getElem _
    rw [hy] at h1
    have hc : cs[i]? = some (cs[i]'(by omega)) := List.getElem?_eq_getElem _
    have hcs : (cs.drop i).take 1 = [cs[i]'(by omega)] := by
      rw [List.take_one, List.head?_drop, hc]; rfl
    rw [hcs] at h1
    obtain ⟨z, hz1, _, hz3⟩ := DataW.trod_int he h1
    obtain ⟨g1, g2⟩ := wf_u hk hz3
    refine ⟨z.toNat, g2, ?_⟩
    rw [hc, Int.toNat_of_nonneg g1]
    simp only [List.cons.injEq] at hz1
    rw [hz1.1]
  refine ⟨cs.map fun v => match v with
    | .int _ z => z.toNat
    | _ => 0, by simpa using hlen, fun x hx => ?_, ?_⟩
  · obtain ⟨v, hv, rfl⟩ := List.mem_map.1 hx
    obtain ⟨i, hi, rfl⟩ := List.getElem_of_mem hv
    obtain ⟨z, hz, hz2⟩ := key i (by omega)
    rw [List.getElem?_eq_getElem hi] at hz2
    rw [Option.some.inj hz2]
    simpa using hz
  · apply List.ext_getElem?
    intro i
    by_cases hi : i < cs.length
    · obtain ⟨z, hz, hz2⟩ := key i (by omega)
      simp only [List.map_map, List.getElem?_map, hz2, Option.map_some, Function.comp]
      simp
    · simp [List.getElem?_eq_none (Nat.le_of_not_lt hi)]

theorem open_arrV {n : Nat} (hk : isU k = true) (he : P.underlying e = some (.int k)) (hce : P.cellsOf e = 1) (ht : P.underlying t = some (.array n e)) (hct : P.cellsOf t = n) (hval : Value.okWide P W r b0 t v) (hd : DataW.Trod enc P W base spare held t v d ps) :
    ∃ xs : List Nat, xs.length = n ∧ (∀ x ∈ xs, x < lim k) ∧ v = .agg (xs.map (fun x : Nat => Value.int k x)).toArray := by
  obtain ⟨fuel, hd⟩ := hd
  simp only [Value.okWide, ht] at hval
  obtain ⟨cs, rfl, _, _⟩ := hval
  obtain ⟨xs, h1, h2, h3⟩ := open_arrC hk he hce ht hct hd
  refine ⟨xs, h1, h2, ?_⟩
  congr 1
  apply Array.ext'
  simpa [Value.cells] using h3

theorem relAgg {cx : Cx} {β : Bm} {n : Nat} {xs : List Nat} (h1 : xs.length = n) (h2 : ∀ x ∈ xs, x < lim k) : RelV cx β (.agg [.ints k n xs]) (.agg (xs.map (fun x : Nat => Value.int k x)).toArray) :=
  ⟨_, rfl, h1, h2, [], by simp, rfl⟩

theorem relNat {cx : Cx} {β : Bm} {x : Nat} (h : x < lim k) : RelV cx β (.s (.nat k x)) (.int k x) := ⟨rfl, h⟩

theorem relInt {cx : Cx} {β : Bm} {z : Int} (h1 : -9223372036854775808 ≤ z) (h2 : z < 9223372036854775808) : RelV cx β (.s (.int z)) (.int .i64 z) := ⟨rfl, h1, h2⟩

theorem relNil {cx : Cx} {β : Bm} : RelL cx β [] [] := ⟨rfl, fun j v cv e => by simp at e⟩

theorem relCons {cx : Cx} {β : Bm} {v : AV} {vs : List AV} {cv : Value} {l : List Value} (h : RelV cx β v cv) (hr : RelL cx β vs l) : RelL cx β (v :: vs) (cv :: l) :=
  ⟨by simp [hr.1], fun j u cu e1 e2 => by
    cases j with
    | zero =>
      simp only [List.getElem?_cons_zero, Option.some.injEq] at e1 e2
      subst e1; subst e2
      exact h
    | succ j => exact hr.2 j u cu (by simpa using e1) (by simpa using e2)⟩

/-- All that stands at the start, to be read. -/
def allX (W : World) : Nat → Prop := fun b => b < W.heap.size

theorem cell_lt {a : Addr} {u : Value} (h : W.cell? a = some u) : a.block < W.heap.size := by
  unfold World.cell? at h
  rcases Nat.lt_or_ge a.block W.heap.size with hl | hl
  · exact hl
  · simp [Array.getElem?_eq_none hl] at h

theorem relXs {cx : Cx} {β : Bm} {c : XC} {cv : Value} (h : RelX cx c cv) : RelV cx β (.s (.xsl c)) cv := h

/-- A slice of numbers, by value. -/
theorem open_rowV (hk : isU k = true) (he : P.underlying e = some (.int k)) (hce : P.cellsOf e = 1) (ht : P.underlying t = some (.slice e)) (hval : Value.okWide P W r b0 t v) (hd : DataW.Trod enc P W base spare held t v d ps) :
    ∃ xs : List Nat, xs.length ≤ 9223372036854775807 ∧ (∀ x ∈ xs, x < lim k) ∧ RelX (now W (allX W)) (.ints k xs) v := by
  obtain ⟨fuel, hd⟩ := hd
  have hok := hval
  simp only [Value.okWide, ht, Cell.okWide, Cell.ok] at hok
  have hcell : v.cells.toList = [v] := by
    cases v <;> simp_all [Value.cells]
  rw [hcell] at hd
  rcases open_ints ht he hce hd with ⟨h1, _⟩ | ⟨a, len, cap, zs, h1, _, h2, h3, h4, _, h6, h7⟩
  · simp only [List.cons.injEq, and_true] at h1
    subst h1
    exact ⟨[], by simp, by simp, .inl ⟨rfl, rfl⟩⟩
  · simp only [List.cons.injEq, and_true] at h1
    subst h1
    simp only [World.has] at hok
    obtain ⟨_, _, _, hspot, _⟩ := hok
    have hlen : len ≤ zs.length := by rw [h4]; split <;> omega
    obtain ⟨b, o, sp⟩ := a
    simp only at hspot
    subst hspot
    have hx : ∀ i, i < len → ∃ z : Nat, z < lim k ∧ zs[i]? = some (z : Int) ∧ W.cell? ⟨b, o + i, none⟩ = some (.int k z) := by
      intro i hi
      have hz : zs[i]? = some (zs[i]'(by omega)) := List.getElem?_eq_getElem _
      obtain ⟨g1, g2⟩ := wf_u hk (h7 _ (List.getElem_mem (by omega : i < zs.length)))
      refine ⟨(zs[i]'(by omega)).toNat, g2, by rw [hz, Int.toNat_of_nonneg g1], ?_⟩
      have := h6 i (by omega)
      rw [addr_add] at this
      rw [this, List.getD, hz, Option.getD_some, Int.toNat_of_nonneg g1]
    refine ⟨(zs.take len).map Int.toNat, by simp [maxLen] at h3 ⊢; omega, fun x hx' => ?_, .inr ⟨b, o, cap, by simp [XC.len]; omega, by simp [XC.len]; omega, fun i x e => ?_⟩⟩
    · obtain ⟨z, hz, rfl⟩ := List.mem_map.1 hx'
      exact (wf_u hk (h7 z (List.mem_of_mem_take hz))).2
    · rw [List.getElem?_map, Option.map_eq_some_iff] at e
      obtain ⟨z, hz, rfl⟩ := e
      have hi : i < len := by have := (List.getElem?_eq_some_iff.1 hz).1; simp at this; omega
      rw [List.getElem?_take_of_lt hi] at hz
      obtain ⟨z', g1, g2, g3⟩ := hx i hi
      rw [hz] at g2
      have : z = (z' : Int) := Option.some.inj g2
      subst this
      simp only [Int.toNat_natCast]
      exact ⟨cell_lt g3, g3, g1⟩

/-! The end. -/
theorem trodAll_stays (hl : laidOutB P = true) {W' : World} (hb : Below W.heap.size W W') {sp : Nat → Bool} : ∀ {ts : List TypeId} {vs : List Value} {ds : List (DataW H)} {ps : List MemPlace}, (∀ t ∈ ts, P.readableRec t = true ∧ t < P.types.size) →
    DataW.TrodAll enc P W 0 (fun _ => true) true ts vs ds ps → (∀ p ∈ ps, p.block < W.heap.size) → (∀ p ∈ ps, sp p.block = true) → DataW.TrodAll enc P W' 0 sp true ts vs ds ps
  | [], vs, ds, ps, _, h, _, _ => by
    obtain ⟨rfl, rfl, rfl⟩ := trodAll_nil h
    exact rfl
  | t :: ts, vs, ds, ps, hts, h, hlt, hsp => by
    obtain ⟨v, vs1, d, ds1, a, b, rfl, rfl, rfl, h1, h2⟩ := trodAll_cons h
    have ht := hts t List.mem_cons_self
    exact ⟨a, b, WideElems.Trod_stays hl ht.1 ht.2 h1 (fun x hx => hb.same (hlt x (List.mem_append_left _ hx))) (fun x hx => hsp x (List.mem_append_left _ hx)),
      trodAll_stays hl hb (fun t h => hts t (List.mem_cons_of_mem _ h)) h2 (fun p hp => hlt p (List.mem_append_right _ hp)) (fun p hp => hsp p (List.mem_append_right _ hp)), rfl⟩

theorem below_of {X : Nat → Prop} {β : Bm} {Hf : Nat → Option Blk} {D : Nat → Prop} {w' : World} (h : RelH (now W X) (fun _ => False) β Hf D w') : Below W.heap.size W w' :=
  ⟨h.os, h.tape, h.output, h.size, fun k hk => h.frame k hk (fun h => h)⟩

theorem relH_start (W : World) : RelH (now W (allX W)) (fun _ => False) (fun _ => none) (hinF []) (fun n => n < 0) W where
  size := Nat.le_refl _
  frame := fun _ _ _ => rfl
  xok := fun _ h => ⟨h, fun h => h⟩
  dom := fun _ _ h => by cases h
  held := fun _ _ _ h => by cases h
  wf := fun _ _ h => by simp [hinF] at h
  hd := fun _ _ h => by simp [hinF] at h
  inj := fun _ _ _ _ h => by cases h
  os := rfl
  tape := rfl
  output := rfl

/-- A law: it returns true, and what it was given reads as before. -/
def Law (s : ChangeSpec) (n : Nat) : Prop := s.vars = [] ∧ ∀ (H : Type) (ds : List (DataW H)), ds.length = n → (s.fn H ds).results = [.lit (.bool true)] ∧ (s.fn H ds).args = ds ∧ (s.fn H ds).vars = []

theorem trodAll_len {w : World} : ∀ {ts : List TypeId} {vs : List Value} {ds : List (DataW H)} {ps : List MemPlace}, DataW.TrodAll enc P w base spare held ts vs ds ps → ds.length = ts.length
  | [], vs, ds, ps, h => by obtain ⟨_, rfl, _⟩ := trodAll_nil h; rfl
  | t :: ts, vs, ds, ps, h => by
    obtain ⟨v, vs1, d, ds1, a, b, rfl, rfl, rfl, h1, h2⟩ := trodAll_cons h
    simp [trodAll_len h2]

theorem law_post {fn : Func} {s : ChangeSpec} {tb : TypeId} (hl : laidOutB P = true) (hs : Law s fn.params.toList.length) (hts : ∀ t ∈ fn.params.toList, P.readableRec t = true ∧ t < P.types.size) (hres : fn.resultTypes = #[tb]) (htb : P.underlying tb = some .bool)
    {W' : World} {args : Array Value} {ds gs : List (DataW H)} {before : List MemPlace} (hW : DataW.Whole enc P fn.params.toList s.vars false W args.toList ds gs before) (hb : Below W.heap.size W W') :
    s.post enc P fn false true false false W args (.bool true) W' := by
  have hlt := hW.lt
  have hW2 := hW
  obtain ⟨p, q, hA, hV, rfl, _, _⟩ := hW2
  rw [hs.1] at hV
  obtain ⟨rfl, rfl⟩ := trodVars_none hV
  obtain ⟨h1, h2, h3⟩ := hs.2 H ds (trodAll_len hA)
  refine ⟨ds, [], p ++ [], [], p, [], hW, ?_, ?_, ?_, hb.frame _, fun h => by cases h⟩
  · rw [List.append_nil, h1, hres]
    exact trodAll_mk1 (shut_bool htb true)
  · rw [List.append_nil, h2]
    exact trodAll_stays hl hb hts hA (fun x hx => hlt x (List.mem_append_left _ hx)) (fun x hx => by simpa using hlt x (List.mem_append_left _ hx))
  · rw [List.append_nil, h3, hs.1]
    rfl

theorem law_calls {E : Env} {f : Nat} {fn : Func} {s : ChangeSpec} {tb : TypeId} (hl : laidOutB E.P = true) (hs : Law s fn.params.toList.length) (hts : ∀ t ∈ fn.params.toList, E.P.readableRec t = true ∧ t < E.P.types.size) (hres : fn.resultTypes = #[tb]) (htb : E.P.underlying tb = some .bool)
    {args : Array Value} {ds gs : List (DataW H)} {before : List MemPlace} (hW : DataW.Whole enc E.P fn.params.toList s.vars false W args.toList ds gs before)
    {avs : List AV} {hout : List (Option Blk)} (hrel : RelL (now W (allX W)) (fun _ => none) avs args.toList) (hc : Ctr E.P f avs [] (.s (.bool true)) hout) :
    Calls E.P f args W fun e W' => ∃ v, e = .returned v ∧ s.post enc E.P fn false true false false W args v W' := by
  have := hc W (allX W) (fun _ => False) (fun _ => none) args.toList (relH_start W) hrel
  rw [Array.toArray_toList] at this
  refine this.mono ?_
  rintro e W' ⟨cv, β', rfl, _, h2, h3⟩
  have h2 : cv = .bool true := h2
  subst h2
  exact ⟨_, rfl, law_post hl hs hts hres htb hW (below_of h3)⟩

end
end Go.Proofs.Ytgebgjhjegadpaa

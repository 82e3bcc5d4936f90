/-
  The abstract machine: memory: new blocks, writes, reads.
-/
import Derived.Test.YtgebgjhjegadpaaAbB
import Derived.Laws.IdiomCopy
namespace Go.Proofs.Ytgebgjhjegadpaa
open Go

def wrF : List (Nat × Option Blk) → (Nat → Option Blk) → Nat → Option Blk
  | [], H => H
  | (n, c) :: r, H => wrF r (fun m => if m = n then c else H m)

def happ (o : Out) (H : Nat → Option Blk) : Nat → Option Blk := fun n => match lkF o.nw n with
  | some c => some c
  | none => wrF o.wr H n

def dapp (o : Out) (D : Nat → Prop) : Nat → Prop := fun n => D n ∨ (lkF o.nw n).isSome = true

def Post (cx : Cx) (Wr : Nat → Prop) (β : Bm) (H : Nat → Option Blk) (D : Nat → Prop) (out : Out) (cv : Value) (w' : World) : Prop :=
  ∃ β', Ext β β' ∧ RelV cx β' out.v cv ∧ RelH cx Wr β' (happ out H) (dapp out D) w'

section
variable {cx : Cx} {Wr : Nat → Prop} {β : Bm} {H : Nat → Option Blk} {D : Nat → Prop} {w : World}

theorem RelH.mono (h : RelH cx Wr β H D w) {H' : Nat → Option Blk} {D' : Nat → Prop} (hD : ∀ n, D n → D' n) (hH : ∀ n c, H' n = some c → H n = some c) : RelH cx Wr β H' D' w where
  size := h.size
  frame := h.frame
  xok := h.xok
  dom := fun n p e => ⟨hD n (h.dom n p e).1, (h.dom n p e).2⟩
  held := fun n p cs e hc => h.held n p cs e (hH n cs hc)
  wf := fun n cs hc => h.wf n cs (hH n cs hc)
  hd := fun n cs hc => hD n (h.hd n cs (hH n cs hc))
  inj := fun n m p q e1 e2 h1 h2 => h.inj n m p q e1 e2
    (by obtain ⟨c, hc⟩ := Option.isSome_iff_exists.1 h1; rw [hH n c hc]; rfl) (by obtain ⟨c, hc⟩ := Option.isSome_iff_exists.1 h2; rw [hH m c hc]; rfl)
  os := h.os
  tape := h.tape
  output := h.output

theorem post_val {v : AV} {cv : Value} (h : RelH cx Wr β H D w) (hv : RelV cx β v cv) : Post cx Wr β H D (Out.val v) cv w :=
  ⟨β, Ext.refl β, hv, h.mono (fun _ h => .inl h) (fun _ _ h => h)⟩

theorem RelH.drew (h : RelH cx Wr β H D w) : RelH cx Wr β H D w.drew where
  size := h.size
  frame := h.frame
  xok := h.xok
  dom := h.dom
  held := h.held
  wf := h.wf
  hd := h.hd
  inj := h.inj
  os := h.os
  tape := h.tape
  output := h.output

def Bm.put (β : Bm) (n : Nat) (p : Pl) : Bm := fun m => if m = n then some p else β m

theorem Bm.ext_put {n : Nat} {p : Pl} (h : β n = none) : Ext β (β.put n p) := fun m q e => by
  unfold Bm.put
  split
  · rename_i hm; subst hm; rw [h] at e; cases e
  · exact e

theorem RelH.none_of_fresh (h : RelH cx Wr β H D w) {n : Nat} (hn : ¬ D n) : β n = none := by
  cases e : β n with
  | none => rfl
  | some p => exact absurd (h.dom n p e).1 hn

theorem Held.alloc {p : Pl} {cs : Blk} {o : Obj} (h : Held cx β w p cs) : Held cx β (w.alloc o) p cs := by
  obtain ⟨c, T, fr, hc, r⟩ := h
  refine ⟨c, T, fr, ?_, r⟩
  rw [heap_alloc_old]
  · exact hc
  · rcases Nat.lt_or_ge p.blk w.heap.size with h | h
    · exact h
    · simp [Array.getElem?_eq_none h] at hc

theorem Held.ext {β' : Bm} {p : Pl} {cs : Blk} (he : Ext β β') (h : Held cx β w p cs) : Held cx β' w p cs := by
  obtain ⟨c, T, fr, hc, hs, hf, l, hl, r⟩ := h
  exact ⟨c, T, fr, hc, hs, hf, l, hl.ext he, r⟩

theorem RelH.alloc (h : RelH cx Wr β H D w) {n : Nat} (hn : ¬ D n) {c : Array Value} {T : TypeId} {cs : Blk} {l : List Value} (hl : RelC cx β cs l) (hlen : l.length ≤ c.size)
    (hc : ∀ (i : Nat) (v : Value), l[i]? = some v → c[i]? = some v) :
    RelH cx Wr (β.put n ⟨w.heap.size, 0, c.size⟩) (fun m => if m = n then some cs else H m) (fun m => D m ∨ m = n) (w.alloc (.cells c T)) := by
  have hnone := h.none_of_fresh hn
  have hext : Ext β (β.put n ⟨w.heap.size, 0, c.size⟩) := Bm.ext_put hnone
  refine ⟨?_, ?_, h.xok, ?_, ?_, fun m cs' hm => ?_, fun m cs' hm => ?_, ?_, h.os, h.tape, h.output⟩
  · simp; have := h.size; omega
  · intro b hb hW
    rw [heap_alloc_old _ _ _ (by have := h.size; omega)]
    exact h.frame b hb hW
  · intro m p e
    unfold Bm.put at e
    split at e
    · rename_i hm; cases e; exact ⟨.inr hm, by simp, .inl h.size⟩
    · obtain ⟨h1, h2, h3⟩ := h.dom m p e
      exact ⟨.inl h1, by simp; omega, h3⟩
  · intro m p cs' e hcs
    unfold Bm.put at e
    by_cases hm : m = n
    · simp only [hm, if_true, Option.some.injEq] at e hcs
      subst e; subst hcs
      refine ⟨c, T, (0, 0), heap_alloc_new _ _, by simp, by simp, l, hl.ext hext, hlen, fun i v hv => ?_⟩
      simpa using hc i v hv
    · simp only [hm, if_false] at e hcs
      exact (h.held m p cs' e hcs).alloc.ext hext
  · split at hm
    · cases hm; exact hl.wf
    · exact h.wf m cs' hm
  · split at hm
    · rename_i e; exact .inr e
    · exact .inl (h.hd m cs' hm)
  · intro m m' p q e1 e2 h1 h2 hpq
    unfold Bm.put at e1 e2
    by_cases hm : m = n
    · by_cases hm' : m' = n
      · rw [hm, hm']
      · simp only [hm, if_true, Option.some.injEq] at e1
        simp only [hm', if_false] at e2
        have := (h.dom _ _ e2).2.1
        subst e1; simp at hpq; omega
    · by_cases hm' : m' = n
      · simp only [hm', if_true, Option.some.injEq] at e2
        simp only [hm, if_false] at e1
        have := (h.dom _ _ e1).2.1
        subst e2; simp at hpq; omega
      · simp only [hm, hm', if_false] at e1 e2 h1 h2
        exact h.inj m m' p q e1 e2 h1 h2 hpq

/-- A live block is written. -/
theorem RelH.write (h : RelH cx Wr β H D w) {n : Nat} {p : Pl} (hp : β n = some p) {cs cs' : Blk} (hcs : H n = some cs) {w' : World} (hsz : w'.heap.size = w.heap.size)
    (hoth : ∀ k, k ≠ p.blk → w'.heap[k]? = w.heap[k]?) (hos : w'.os = w.os) (ht : w'.tape = w.tape) (ho : w'.output = w.output) (hheld : Held cx β w' p cs') :
    RelH cx Wr β (fun m => if m = n then some cs' else H m) D w' := by
  have hd := h.dom n p hp
  have hwf : WfB cs' := by
    obtain ⟨_, _, _, _, _, _, l, hl, _⟩ := hheld
    exact hl.wf
  refine ⟨by rw [hsz]; exact h.size, ?_, h.xok, ?_, ?_, fun m c hm => ?_, fun m c hm => ?_, ?_, hos.trans h.os, ht.trans h.tape, ho.trans h.output⟩
  · intro b hb hW
    rw [hoth b (fun e => by subst e; rcases hd.2.2 with h1 | h1; · omega
                            · exact hW h1)]
    exact h.frame b hb hW
  · intro m q e; rw [hsz]; exact h.dom m q e
  · intro m q c e hc
    by_cases hm : m = n
    · simp only [hm, if_true, Option.some.injEq] at hc
      subst hm; rw [hp] at e; cases e; subst hc; exact hheld
    · simp only [hm, if_false] at hc
      obtain ⟨c1, T, fr, h1, r⟩ := h.held m q c e hc
      refine ⟨c1, T, fr, ?_, r⟩
      rw [hoth]
      · exact h1
      · intro hq; exact hm (h.inj m n q p e hp (by rw [hc]; rfl) (by rw [hcs]; rfl) hq)
  · split at hm
    · cases hm; exact hwf
    · exact h.wf m c hm
  · split at hm
    · rename_i e; subst e; exact hd.1
    · exact h.hd m c hm
  · intro m m' q q' e1 e2 h1 h2 hq
    refine h.inj m m' q q' e1 e2 ?_ ?_ hq
    · by_cases hm : m = n
      · rw [hm, hcs]; rfl
      · simpa only [hm, if_false] using h1
    · by_cases hm : m' = n
      · rw [hm, hcs]; rfl
      · simpa only [hm, if_false] using h2

theorem cell_of_heap {w : World} {b o : Nat} {c : Array Value} {T : TypeId} {fr : Nat × Nat} (h : w.heap[b]? = some (.cells c T fr)) : w.cell? ⟨b, o, none⟩ = c[o]? := by simp [World.cell?, h]
theorem frozen_of_heap {w : World} {b o : Nat} {c : Array Value} {T : TypeId} {fr : Nat × Nat} (h : w.heap[b]? = some (.cells c T fr)) (hf : ¬ (fr.1 ≤ o ∧ o < fr.2)) : w.frozen? ⟨b, o, none⟩ = false := by
  obtain ⟨lo, hi⟩ := fr
  simp only [World.frozen?, h]
  simpa using hf

theorem addr_add (b o n : Nat) : (⟨b, o, none⟩ : Addr).add n = ⟨b, o + n, none⟩ := by unfold Addr.add; split <;> simp_all

theorem RelH.same (h : RelH cx Wr β H D w) {b : Nat} (hx : cx.X b) : w.heap[b]? = cx.w0.heap[b]? := h.frame b (h.xok b hx).1 (h.xok b hx).2

theorem RelH.cell (h : RelH cx Wr β H D w) {b o : Nat} (hx : cx.X b) : w.cell? ⟨b, o, none⟩ = cx.w0.cell? ⟨b, o, none⟩ := by
  simp [World.cell?, h.same hx]

/-! Reading rows. -/
theorem Held.cells {p : Pl} {cs : Blk} (h : Held cx β w p cs) : ∃ l, RelC cx β cs l ∧ ∀ i v, l[i]? = some v → w.cell? ⟨p.blk, p.base + i, none⟩ = some v := by
  obtain ⟨c, T, fr, hc, hs, hf, l, hl, hlen, hv⟩ := h
  exact ⟨l, hl, fun i v e => by rw [cell_of_heap hc]; exact hv i v e⟩

theorem run_cells {P : Program} {b o n : Nat} {l : List Value} (h : ∀ i v, l[i]? = some v → w.cell? ⟨b, o + i, none⟩ = some v) (hn : l.length = n) :
    (loadCells ⟨b, o, none⟩ n).run P w = .ok l.toArray w := by
  subst hn
  exact run_loadCells_list w _ l (fun j v hv => by rw [addr_add]; exact h j v hv)

theorem drop_take_get {α : Type} {l : List α} {a n i : Nat} {v : α} (h : ((l.drop a).take n)[i]? = some v) : l[a + i]? = some v := by
  rw [List.getElem?_take] at h
  split at h
  · simpa using h
  · cases h

/-! Types. -/
theorem tySize_info {P : Program} {t : TypeId} {sz : Nat} (h : tySize P t = some sz) : ∃ i, P.info? t = some i ∧ i.size = sz := by
  unfold tySize at h
  split at h
  · rename_i i hi; exact ⟨i, hi, by simpa using h⟩
  · cases h

theorem run_sizeOf' {P : Program} {t : TypeId} {sz : Nat} (h : tySize P t = some sz) (w : World) : (sizeOf t).run P w = .ok sz w := by
  obtain ⟨i, hi, rfl⟩ := tySize_info h
  simp [sizeOf, typeInfo, hi]

theorem run_isAgg' {P : Program} {t : TypeId} {b : Bool} (h : isAggT P t = some b) (w : World) : (isAgg t).run P w = .ok b w := by
  unfold isAggT at h
  split at h
  · rename_i fs hu; simp only [Option.some.injEq] at h; subst h; simp [isAgg, run_underlying hu]
  · rename_i n e hu; simp only [Option.some.injEq] at h; subst h; simp [isAgg, run_underlying hu]
  · rename_i d hu; simp only [Option.some.injEq] at h; subst h
    cases hd : P.underlying t with
    | none => simp_all
    | some d => cases d <;> simp_all [isAgg, run_underlying hd]
  · cases h

/-- Blocks that are not made of zero names. -/
theorem happ_new {n : Nat} {v : AV} {cs : Blk} : happ ⟨v, [], [(n, cs)]⟩ H = fun m => if m = n then some cs else H m := by
  funext m
  simp only [happ, lkF, wrF]
  by_cases hm : m = n
  · subst hm; simp
  · have : Nat.beq n m = false := by
      cases hb : Nat.beq n m with
      | false => rfl
      | true => exact absurd (Nat.eq_of_beq_eq_true hb).symm hm
    simp [this, hm]

theorem dapp_new {n : Nat} {v : AV} {cs : Blk} : dapp ⟨v, [], [(n, cs)]⟩ D = fun m => D m ∨ m = n := by
  funext m
  simp only [dapp, lkF]
  by_cases hm : m = n
  · subst hm; simp
  · have : Nat.beq n m = false := by
      cases hb : Nat.beq n m with
      | false => rfl
      | true => exact absurd (Nat.eq_of_beq_eq_true hb).symm hm
    simp [this, hm]

theorem happ_wr {n : Nat} {v : AV} {cs : Option Blk} : happ ⟨v, [(n, cs)], []⟩ H = fun m => if m = n then cs else H m := by
  funext m
  simp only [happ, lkF, wrF]

theorem dapp_wr {v : AV} {wr : List (Nat × Option Blk)} : dapp ⟨v, wr, []⟩ D = D := by
  funext m
  simp [dapp, lkF]

/-- A new block that is one variable or row. -/
theorem post_new {P : Program} {T : TypeId} {n : Nat} (h : RelH cx Wr β H D w) (hn : ¬ D n) {cs : Blk} {l : List Value} (hl : RelC cx β cs l) :
    (newRow T l.toArray).run P w = .ok ⟨w.heap.size, 0, none⟩ (w.alloc (.cells l.toArray T)) ∧
    Post cx Wr β H D ⟨.s (.ptr n 0), [], [(n, cs)]⟩ (.pointer (some ⟨w.heap.size, 0, none⟩)) (w.alloc (.cells l.toArray T)) := by
  refine ⟨by simp [newRow], β.put n ⟨w.heap.size, 0, l.toArray.size⟩, Bm.ext_put (h.none_of_fresh hn), ⟨⟨w.heap.size, 0, l.toArray.size⟩, by simp [Bm.put], by simp⟩, ?_⟩
  rw [happ_new, dapp_new]
  exact h.alloc hn hl (by simp) (fun i v hv => by simpa using hv)

/-! Constants. -/
theorem litSV_rel {v : Value} {s : SV} (h : litSV v = some s) (β : Bm) : RelS cx β s v := by
  unfold litSV at h
  split at h
  · cases h; rfl
  · split at h
    · cases h; rename_i hb; exact ⟨rfl, Nat.le_of_ble_eq_true hb⟩
    · cases h
  · split at h
    · rename_i hb
      cases h
      have := Nat.le_of_ble_eq_true hb
      exact ⟨rfl, by omega, by omega⟩
    · cases h
  · cases h; exact ⟨_, rfl, rfl⟩
  · cases h; rfl
  · cases h; rfl
  · cases h

theorem litAV_rel (v : Value) (β : Bm) : RelV cx β (litAV v) v := by
  unfold litAV
  split
  · rename_i s h; exact litSV_rel h β
  · trivial

theorem consI_rel {k : IntKind} {x : Nat} (hx : x < lim k) {cs : List Ch} {l : List Value} (h : RelC cx β cs l) : RelC cx β (consI k x cs) (.int k x :: l) := by
  unfold consI
  split
  · rename_i k' n xs r
    split
    · rename_i hk
      obtain rfl : k = k' := of_decide_eq_true hk
      obtain ⟨hn, hxs, l', rfl, hr⟩ := h
      exact ⟨by simp [hn], by simpa [hx] using hxs, l', by simp, hr⟩
    · exact ⟨rfl, by simpa using hx, l, by simp, h⟩
  · exact ⟨rfl, by simpa using hx, l, by simp, h⟩

theorem packV_rel : ∀ {l : List Value} {cs : List Ch}, packV l = some cs → ∀ β, RelC cx β cs l
  | [], cs, h, β => by simp [packV] at h; subst h; rfl
  | v :: vs, cs, h, β => by
    unfold packV at h
    split at h
    · rename_i k x r hs hr
      cases h
      obtain ⟨rfl, hx⟩ := litSV_rel (cx := cx) hs β
      exact consI_rel hx (packV_rel hr β)
    · rename_i s r _ hs hr
      cases h
      exact ⟨v, vs, rfl, litSV_rel hs β, packV_rel hr β⟩
    · cases h

theorem thin_rel : ∀ {cs : List Ch} {l : List Value}, RelC cx β cs l → RelC cx β (thin cs) l
  | [], _, h => h
  | .one v :: cs, _, ⟨cv, l', e, hv, hr⟩ => ⟨cv, l', e, hv, thin_rel hr⟩
  | .ints k n xs :: cs, l, ⟨hn, hx, l', e, hr⟩ => by
    unfold thin
    split
    · rename_i heq; cases heq
    · rename_i k' x r heq
      simp only [List.cons.injEq, Ch.ints.injEq] at heq
      obtain ⟨⟨rfl, rfl, rfl⟩, rfl⟩ := heq
      exact ⟨_, l', by simpa using e, ⟨rfl, hx x (by simp)⟩, thin_rel hr⟩
    · rename_i c r _ heq
      simp only [List.cons.injEq] at heq
      obtain ⟨rfl, rfl⟩ := heq
      exact ⟨hn, hx, l', e, thin_rel hr⟩

theorem zeroB_info {P : Program} {t : TypeId} {z : List Ch} (h : zeroB P t = some z) : ∃ i v, P.info? t = some i ∧ i.zero = some v ∧ ∀ (cx : Cx) β, RelC cx β z v.cells.toList := by
  unfold zeroB at h
  split at h
  · rename_i i hi
    split at h
    · rename_i v hv
      split at h
      · rename_i r hr; cases h; exact ⟨i, v, hi, hv, fun cx β => thin_rel (packV_rel hr β)⟩
      · cases h
    · cases h
  · cases h

theorem run_zeroValue' {P : Program} {t : TypeId} {i : TypeInfo} {v : Value} (hi : P.info? t = some i) (hv : i.zero = some v) (w : World) : (zeroValue t).run P w = .ok v w := by
  simp [zeroValue, typeInfo, hi, hv]

theorem AV.cells_rel {v : AV} {cs : List Ch} {cv : Value} (h : v.cells = some cs) (hv : RelV cx β v cv) : RelC cx β cs cv.cells.toList := by
  unfold AV.cells at h
  split at h
  · cases h
    have hv : RelS cx β _ cv := hv
    rw [oneCell_cells hv.oneCell]
    exact ⟨cv, [], rfl, hv, rfl⟩
  · cases h
    obtain ⟨l, rfl, hr⟩ := hv
    exact hr
  · cases h

end
end Go.Proofs.Ytgebgjhjegadpaa

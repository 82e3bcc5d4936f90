/-
  The abstract machine: its operations, one by one, against the model's: made rows, append, copy.
-/
import Derived.Test.YtgebgjhjegadpaaAbJ
namespace Go.Proofs.Ytgebgjhjegadpaa
open Go

section
variable {P : Program} {cx : Cx} {Wr : Nat → Prop} {β : Bm} {H : Nat → Option Blk} {D : Nat → Prop} {w : World}

theorem elemInt_spec {t : TypeId} {k : IntKind} (h : elemInt P t = some k) : ∃ e i, P.underlying t = some (.slice e) ∧ P.underlying e = some (.int k) ∧ P.info? e = some i ∧ i.size = 1 ∧ i.bytes ≤ 8 ∧ i.zero = some (.int k 0) := by
  unfold elemInt at h
  split at h
  · rename_i e hu
    split at h
    · rename_i k0 hk
      split at h
      · rename_i i hi
        split at h
        · rename_i k' hb hz
          split at h
          · rename_i hkk
            obtain rfl : k0 = k' := of_decide_eq_true hkk
            cases h
            simp only [Bool.and_eq_true, Nat.beq_eq] at hb
            exact ⟨e, i, hu, hk, hi, hb.1, Nat.le_of_ble_eq_true hb.2, hz⟩
          · cases h
        · cases h
      · cases h
    · cases h
  · cases h

/-- A name that stands for no block. -/
theorem RelH.unreal (h : RelH cx Wr β H D w) {n : Nat} (hn : ¬ D n) {cs : Blk} (hw : WfB cs) : RelH cx Wr β (fun m => if m = n then some cs else H m) (fun m => D m ∨ m = n) w := by
  have hnone := h.none_of_fresh hn
  refine ⟨h.size, h.frame, h.xok, fun m p e => ⟨.inl (h.dom m p e).1, (h.dom m p e).2⟩, fun m p c e hc => ?_, fun m c hc => ?_, fun m c hc => ?_, fun m m' p q e1 e2 h1 h2 => ?_, h.os, h.tape, h.output⟩
  · by_cases hm : m = n
    · subst hm; rw [hnone] at e; cases e
    · simp only [hm, if_false] at hc; exact h.held m p c e hc
  · split at hc
    · cases hc; exact hw
    · exact h.wf m c hc
  · split at hc
    · rename_i e; exact .inr e
    · exact .inl (h.hd m c hc)
  · have a : ∀ x, (∃ p, β x = some p) → x ≠ n := fun x ⟨p, hp⟩ e => by subst e; rw [hnone] at hp; cases hp
    have hm := a m ⟨p, e1⟩
    have hm' := a m' ⟨q, e2⟩
    simp only [hm, hm', if_false] at h1 h2
    exact h.inj m m' p q e1 e2 h1 h2

/-- A live name's block passes to a new name. -/
theorem RelH.pass (h : RelH cx Wr β H D w) {b n : Nat} (hn : ¬ D n) {q : Pl} (hq : β b = some q) (hb : (H b).isSome = true) {w' : World} (hsz : w'.heap.size = w.heap.size) (hoth : ∀ k, k ≠ q.blk → w'.heap[k]? = w.heap[k]?)
    (hos : w'.os = w.os) (ht : w'.tape = w.tape) (ho : w'.output = w.output) {p : Pl} (hp : p.blk = q.blk) {cs : Blk} (hheld : Held cx (β.put n p) w' p cs) :
    RelH cx Wr (β.put n p) (fun m => if m = n then some cs else if m = b then none else H m) (fun m => D m ∨ m = n) w' := by
  have hnone := h.none_of_fresh hn
  have hext : Ext β (β.put n p) := Bm.ext_put hnone
  have hd := h.dom b q hq
  have hne : b ≠ n := fun e => by subst e; exact hn hd.1
  have other : ∀ m p', m ≠ b → β m = some p' → (H m).isSome = true → p'.blk ≠ q.blk := fun m p' hm hp' hm' e => hm (h.inj m b p' q hp' hq hm' hb e)
  refine ⟨by rw [hsz]; exact h.size, ?_, h.xok, ?_, ?_, ?_, ?_, ?_, hos.trans h.os, ht.trans h.tape, ho.trans h.output⟩
  · intro k hk hW
    rw [hoth k (fun e => by subst e; rcases hd.2.2 with h1 | h1; · omega
                            · exact hW h1)]
    exact h.frame k hk hW
  · intro m p' e
    unfold Bm.put at e
    split at e
    · rename_i hm; cases e; refine ⟨.inr hm, ?_, ?_⟩
      · rw [hsz, hp]; exact hd.2.1
      · rw [hp]; exact hd.2.2
    · obtain ⟨h1, h2, h3⟩ := h.dom m p' e
      exact ⟨.inl h1, by rw [hsz]; exact h2, h3⟩
  · intro m p' c e hc
    unfold Bm.put at e
    by_cases hm : m = n
    · simp only [hm, if_true, Option.some.injEq] at e hc
      subst e; subst hc; exact hheld
    · simp only [hm, if_false] at e hc
      by_cases hmb : m = b
      · simp [hmb] at hc
      · simp only [hmb, if_false] at hc
        have hne' := other m p' hmb e (by rw [hc]; rfl)
        obtain ⟨c1, T, fr, h1, r⟩ := (h.held m p' c e hc).ext hext
        exact ⟨c1, T, fr, by rw [hoth _ hne']; exact h1, r⟩
  · intro m c hc
    split at hc
    · cases hc
      obtain ⟨_, _, _, _, _, _, l, hl, _⟩ := hheld
      exact hl.wf
    · split at hc
      · cases hc
      · exact h.wf m c hc
  · intro m c hc
    split at hc
    · rename_i e; exact .inr e
    · split at hc
      · cases hc
      · exact .inl (h.hd m c hc)
  · intro m m' p1 p2 e1 e2 h1 h2 hpq
    unfold Bm.put at e1 e2
    by_cases hm : m = n
    · by_cases hm' : m' = n
      · rw [hm, hm']
      · simp only [hm, if_true, Option.some.injEq] at e1
        simp only [hm', if_false] at e2 h2
        by_cases hmb : m' = b
        · simp [hmb] at h2
        · simp only [hmb, if_false] at h2
          exact absurd (by rw [← hpq, ← e1, hp]) (other m' p2 hmb e2 h2)
    · by_cases hm' : m' = n
      · simp only [hm', if_true, Option.some.injEq] at e2
        simp only [hm, if_false] at e1 h1
        by_cases hmb : m = b
        · simp [hmb] at h1
        · simp only [hmb, if_false] at h1
          exact absurd (by rw [hpq, ← e2, hp]) (other m p1 hmb e1 h1)
      · simp only [hm, hm', if_false] at e1 e2 h1 h2
        by_cases hmb : m = b
        · simp [hmb] at h1
        · by_cases hmb' : m' = b
          · simp [hmb'] at h2
          · simp only [hmb, hmb', if_false] at h1 h2
            exact h.inj m m' p1 p2 e1 e2 h1 h2 hpq

theorem happ_cat {n b : Nat} {v : AV} {cs : Blk} : happ ⟨v, [(b, none)], [(n, cs)]⟩ H = fun m => if m = n then some cs else if m = b then none else H m := by
  funext m
  simp only [happ, lkF, wrF]
  by_cases hm : m = n
  · subst hm; simp
  · have : Nat.beq n m = false := by
      cases hb : Nat.beq n m with
      | false => rfl
      | true => exact absurd (Nat.eq_of_beq_eq_true hb).symm hm
    simp [this, hm]

theorem dapp_cat {n : Nat} {v : AV} {cs : Blk} {wr : List (Nat × Option Blk)} : dapp ⟨v, wr, [(n, cs)]⟩ D = fun m => D m ∨ m = n := by
  funext m
  simp only [dapp, lkF]
  by_cases hm : m = n
  · subst hm; simp
  · have : Nat.beq n m = false := by
      cases hb : Nat.beq n m with
      | false => rfl
      | true => exact absurd (Nat.eq_of_beq_eq_true hb).symm hm
    simp [this, hm]

/-- Sources of append and copy. -/
theorem catSrc_run {k : IntKind} {v : SV} {r : List Bool} {c : XC} {rd : List Nat} {cv : Value} (hH : RelH cx Wr β H D w) (hv : RelS cx β v cv) (h : (catSrc k v).run H = some ((r, c), rd)) (hr : ∀ b ∈ r, b = true) {ys : List Nat} (hc : c = .ints k ys) :
    (Builtin.lenOf cv).run P w = .ok ys.length w ∧ (∀ n, n ≤ ys.length → (Builtin.firstCells 1 n cv).run P w = .ok ((ys.take n).map (fun x : Nat => Value.int k x)).toArray w) ∧ ∀ x ∈ ys, x < lim k := by
  subst hc
  unfold catSrc at h
  split at h
  · rename_i s
    split at h
    · have := pure_run h
      simp only [Prod.mk.injEq, XC.ints.injEq] at this
      obtain ⟨_, _, rfl⟩ := this
      obtain ⟨ba, rfl, rfl⟩ := hv
      refine ⟨by simp [Builtin.lenOf], fun n hn => ?_, fun x hx => ?_⟩
      · simp only [Builtin.firstCells, Sem.run_pure]
        congr 1
        apply Array.ext'
        rw [← List.map_take]
        simp [List.map_map]
        rfl
      · obtain ⟨y, _, rfl⟩ := List.mem_map.1 hx
        exact y.toNat_lt
    · exact (fail_run h).elim
  · have hx := relX_ints (readSl_rel (X := fun _ => True) hH (fun _ _ => trivial) hv h hr (fun _ _ _ _ => trivial))
    rcases hx with ⟨rfl, rfl⟩ | ⟨b, o, cap, rfl, hlc, hrd⟩
    · refine ⟨rfl, fun n hn => ?_, by simp⟩
      have : n = 0 := by simpa using hn
      subst this
      simp [Builtin.firstCells]
    · refine ⟨rfl, fun n hn => ?_, hrd.lim⟩
      simp only [Builtin.firstCells, Nat.mul_one]
      refine run_cells (fun i v e => ?_) (by simp; omega)
      rw [List.getElem?_map, Option.map_eq_some_iff] at e
      obtain ⟨x, hx, rfl⟩ := e
      rw [List.getElem?_take] at hx
      split at hx
      · exact (hrd i x hx).2.1
      · cases hx

end
end Go.Proofs.Ytgebgjhjegadpaa

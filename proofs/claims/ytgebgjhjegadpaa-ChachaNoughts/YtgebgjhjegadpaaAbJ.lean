/-
  The abstract machine: its operations, one by one, against the model's: readable slices, strings, made rows, append, copy.
-/
import Derived.Test.YtgebgjhjegadpaaAbI
namespace Go.Proofs.Ytgebgjhjegadpaa
open Go

section
variable {P : Program} {cx : Cx} {Wr : Nat → Prop} {β : Bm} {H : Nat → Option Blk} {D : Nat → Prop} {w : World}

theorem RelC.flat {k : IntKind} : ∀ {cs : List Ch} {xs : List Nat} {l : List Value}, flatI k cs = some xs → RelC cx β cs l → l = xs.map (fun x : Nat => Value.int k x) ∧ ∀ x ∈ xs, x < lim k := by
  intro cs
  induction cs with
  | nil => intro xs l h hl; simp only [flatI, Option.some.injEq] at h; subst h; exact ⟨hl, by simp⟩
  | cons c cs ih =>
    intro xs l h hl
    unfold flatI at h
    split at h
    · rename_i heq; cases heq
    · rename_i k' n ys heq
      simp only [List.cons.injEq] at heq
      obtain ⟨rfl, rfl⟩ := heq
      split at h
      · rename_i hk
        obtain rfl : k = k' := of_decide_eq_true hk
        cases h
        obtain ⟨_, h2, l', rfl, rfl⟩ := hl
        exact ⟨by simp, h2⟩
      · cases h
    · rename_i k' n ys r _ heq
      simp only [List.cons.injEq] at heq
      obtain ⟨rfl, rfl⟩ := heq
      split at h
      · rename_i r' hk hr
        obtain rfl : k = k' := of_decide_eq_true hk
        cases h
        obtain ⟨_, h2, l', rfl, hl'⟩ := hl
        obtain ⟨rfl, h4⟩ := ih hr hl'
        refine ⟨by simp, fun x hx => ?_⟩
        rcases List.mem_append.1 hx with h | h
        · exact h2 x h
        · exact h4 x h
      · cases h
    · rename_i k' x r heq
      simp only [List.cons.injEq] at heq
      obtain ⟨rfl, rfl⟩ := heq
      split at h
      · rename_i r' hk hr
        obtain rfl : k = k' := of_decide_eq_true hk
        cases h
        obtain ⟨cv, l', rfl, ⟨rfl, hx⟩, hl'⟩ := hl
        obtain ⟨rfl, h4⟩ := ih hr hl'
        refine ⟨by simp, fun y hy => ?_⟩
        rcases List.mem_cons.1 hy with rfl | h
        · exact hx
        · exact h4 y h
      · cases h
    · cases h

/-- The world of now, as what a callee may read. -/
abbrev now (w : World) (X : Nat → Prop) : Cx := ⟨w, X⟩

theorem RelXI.of_cells {X : Nat → Prop} {k : IntKind} {xs : List Nat} {b o cap n : Nat} (hb : X b) (hn : n = xs.length) (hcap : n ≤ cap) (hx : ∀ x ∈ xs, x < lim k)
    (hc : ∀ (i : Nat) (v : Value), (xs.map (fun x : Nat => Value.int k x))[i]? = some v → w.cell? ⟨b, o + i, none⟩ = some v) : RelXI (now w X) k xs (.slice (some ⟨b, o, none⟩) n cap) := by
  subst hn
  exact .inr ⟨b, o, cap, rfl, hcap, fun i x e => ⟨hb, hc i _ (by simp [e]), hx x (List.mem_of_getElem? e)⟩⟩

theorem RdI.now {X : Nat → Prop} {k : IntKind} {xs : List Nat} {b o : Nat} (hH : RelH cx Wr β H D w) (hX : ∀ b, cx.X b → X b) (h : RdI cx k xs b o) : RdI (now w X) k xs b o := by
  intro i x e
  obtain ⟨h1, h2, h3⟩ := h i x e
  exact ⟨hX _ h1, by rw [← h2]; exact hH.cell h1, h3⟩

theorem RelXI.now {X : Nat → Prop} {k : IntKind} {xs : List Nat} {cv : Value} (hH : RelH cx Wr β H D w) (hX : ∀ b, cx.X b → X b) (h : RelXI cx k xs cv) : RelXI (now w X) k xs cv := by
  rcases h with h | ⟨b, o, cap, h1, h2, h3⟩
  · exact .inl h
  · exact .inr ⟨b, o, cap, h1, h2, h3.now hH hX⟩

theorem RelX.now {X : Nat → Prop} {c : XC} {cv : Value} (hH : RelH cx Wr β H D w) (hX : ∀ b, cx.X b → X b) (h : RelX cx c cv) : RelX (now w X) c cv := by
  rcases h with h | ⟨b, o, cap, h1, h2, h3⟩
  · exact .inl h
  · refine .inr ⟨b, o, cap, h1, h2, ?_⟩
    cases c with
    | ints k xs => exact RdI.now hH hX h3
    | arrs k n xss => exact fun i xs e => ⟨(h3 i xs e).1, (h3 i xs e).2.now hH hX⟩
    | bss xss =>
      intro i xs e
      obtain ⟨h4, cv', h5, h6⟩ := h3 i xs e
      exact ⟨hX _ h4, cv', by rw [← h5]; exact hH.cell h4, h6.now hH hX⟩

theorem relX_ints {k : IntKind} {xs : List Nat} {cv : Value} (h : RelX cx (.ints k xs) cv) : RelXI cx k xs cv := by
  rcases h with ⟨h1, h2⟩ | h
  · exact .inl ⟨List.length_eq_zero_iff.1 h1, h2⟩
  · exact .inr h

theorem RelXI.relX {k : IntKind} {xs : List Nat} {cv : Value} (h : RelXI cx k xs cv) : RelX cx (.ints k xs) cv := by
  rcases h with ⟨h1, h2⟩ | h
  · exact .inl ⟨by simp only [XC.len, h1, List.length_nil], h2⟩
  · exact .inr h

/-- A part of a row of variables, as a slice. -/
theorem row_rel {X : Nat → Prop} {k : IntKind} {m : LK} {b off len sz : Nat} {cs : List Ch} {xs : List Nat} {cv : Value} (hH : RelH cx Wr β H D w) (hX : ∀ p, β b = some p → X p.blk) (hv : RelS cx β (.sl m b off len sz) cv) (hcs : H b = some cs)
    (h : len = 0 → xs = []) (hl : ∀ l, RelC cx β cs l → (l.drop off).take len = xs.map (fun x : Nat => Value.int k x) ∧ (∀ x ∈ xs, x < lim k) ∧ xs.length = len) : RelXI (now w X) k xs cv := by
  rcases hv with ⟨h0, rfl⟩ | ⟨q, cap, x, hq, rfl, hxa, hlc, hsz⟩
  · exact .inl ⟨h h0, rfl⟩
  · obtain ⟨l, hl1, hcell⟩ := (hH.held _ _ _ hq hcs).cells
    obtain ⟨h1, h2, h3⟩ := hl l hl1
    by_cases h0 : cap = 0
    · have hx0 : xs = [] := h (by omega)
      subst hx0
      exact .inr ⟨q.blk, x, cap, by rw [show len = 0 by omega]; rfl, by simp, fun i x e => by simp at e⟩
    · obtain rfl := hxa h0
      refine .of_cells (hX q hq) h3.symm hlc h2 (fun i v e => ?_)
      rw [← h1] at e
      rw [Nat.add_assoc]
      exact hcell _ _ (drop_take_get e)

theorem row_flat {X : Nat → Prop} {k : IntKind} {m : LK} {b off len sz : Nat} {cs r : List Ch} {xs : List Nat} {cv : Value} (hH : RelH cx Wr β H D w) (hX : ∀ p, β b = some p → X p.blk) (hv : RelS cx β (.sl m b off len sz) cv) (hcs : H b = some cs)
    (hr : subB off len cs = some r) (hf : flatI k r = some xs) : RelXI (now w X) k xs cv := by
  refine row_rel hH hX hv hcs (fun h0 => ?_) (fun l hl => ?_)
  · subst h0
    have : r = [] := by unfold subB at hr; simpa using hr.symm
    subst this
    simp only [flatI, Option.some.injEq] at hf
    exact hf.symm
  · obtain ⟨h1, h2⟩ := subB_cells hr hl
    obtain ⟨h3, h4⟩ := RelC.flat hf h1
    refine ⟨h3, h4, ?_⟩
    have h5 := congrArg List.length h3
    simp only [h2, List.length_map] at h5
    exact h5.symm

theorem row_whole {X : Nat → Prop} {k : IntKind} {m : LK} {b off len n sz : Nat} {xs : List Nat} {cv : Value} (hH : RelH cx Wr β H D w) (hX : ∀ p, β b = some p → X p.blk) (hv : RelS cx β (.sl m b off len sz) cv) (hcs : H b = some [.ints k n xs])
    (h : (Nat.beq off 0 && Nat.beq len n) = true) : RelXI (now w X) k xs cv := by
  simp only [Bool.and_eq_true, Nat.beq_eq] at h
  obtain ⟨rfl, rfl⟩ := h
  have hwf := hH.wf _ _ hcs k len xs (List.mem_singleton.2 rfl)
  refine row_rel hH hX hv hcs (fun h0 => List.length_eq_zero_iff.1 (by omega)) (fun l hl => ?_)
  obtain ⟨h1, h2, l', rfl, rfl⟩ := hl
  exact ⟨by simp [h1, List.take_of_length_le], h2, h1⟩

theorem row_cut {X : Nat → Prop} {k : IntKind} {m : LK} {b off len n sz : Nat} {xs : List Nat} {cv : Value} (hH : RelH cx Wr β H D w) (hX : ∀ p, β b = some p → X p.blk) (hv : RelS cx β (.sl m b off len sz) cv) (hcs : H b = some [.ints k n xs])
    (h : off + len ≤ n) : RelXI (now w X) k ((xs.drop off).take len) cv := by
  refine row_rel hH hX hv hcs (fun h0 => by simp [h0]) (fun l hl => ?_)
  obtain ⟨h1, h2, l', rfl, rfl⟩ := hl
  exact ⟨by simp [List.map_drop, List.map_take], fun x hx => h2 x (List.mem_of_mem_drop (List.mem_of_mem_take hx)), by simp; omega⟩


theorem row_len {cx' : Cx} {k : IntKind} {m : LK} {b off len sz : Nat} {xs : List Nat} {cv : Value} (h : RelXI cx' k xs cv) (hv : RelS cx β (.sl m b off len sz) cv) : xs.length = len := by
  rcases h with ⟨rfl, rfl⟩ | ⟨b', o, cap, rfl, _, _⟩
  · rcases hv with ⟨rfl, _⟩ | ⟨q, cap, x, hq, e, _⟩
    · rfl
    · cases e
  · rcases hv with ⟨_, e⟩ | ⟨q, cap, x, hq, e, _⟩
    · cases e
    · cases e; rfl

theorem rowOf_rel {X : Nat → Prop} {k : IntKind} {m m' : LK} {b off len sz : Nat} {cs : List Ch} {r : List Bool} {xs : List Nat} {cv : Value} (hH : RelH cx Wr β H D w) (hX : ∀ p, β b = some p → X p.blk) (hv : RelS cx β (.sl m' b off len sz) cv) (hcs : H b = some cs)
    (h : rowOf k m off len cs = some (r, xs)) (hr : ∀ b ∈ r, b = true) : RelXI (now w X) k xs cv ∧ xs.length = len := by
  unfold rowOf at h
  split at h
  · rename_i k' n ys
    have hwf := hH.wf _ _ hcs k' n ys (List.mem_singleton.2 rfl)
    split at h
    · rename_i hk
      obtain rfl : k = k' := of_decide_eq_true hk
      have cut : off + len ≤ n → RelXI (now w X) k ((ys.drop off).take len) cv ∧ ((ys.drop off).take len).length = len := fun hle => ⟨row_cut hH hX hv hcs hle, by simp; omega⟩
      split at h <;> simp only [Option.some.injEq, Prod.mk.injEq] at h <;> obtain ⟨rfl, rfl⟩ := h <;> simp only [List.mem_cons, List.not_mem_nil, or_false, forall_eq_or_imp, forall_eq, decide_eq_true_eq] at hr
      · obtain ⟨rfl, rfl⟩ := hr
        have := cut (by omega)
        rwa [List.drop_zero, List.take_of_length_le (by omega)] at this
      · obtain ⟨rfl, hle⟩ := hr
        have := cut (by omega)
        rwa [List.drop_zero] at this
      · have := cut (by omega)
        rwa [List.take_of_length_le (by simp; omega)] at this
      · exact cut hr
    · cases h
  · split at h
    · rename_i r' hs
      split at h
      · rename_i ys hf
        simp only [Option.some.injEq, Prod.mk.injEq] at h
        obtain ⟨_, rfl⟩ := h
        have h1 := row_flat (k := k) hH hX hv hcs hs hf
        exact ⟨h1, row_len h1 hv⟩
      · cases h
    · cases h

theorem bytesOf_rel {X : Nat → Prop} {v : SV} {r : List Bool} {xs : List Nat} {rd : List Nat} {cv : Value} (hH : RelH cx Wr β H D w) (hXc : ∀ b, cx.X b → X b) (hv : RelS cx β v cv) (h : (bytesOf v).run H = some ((r, xs), rd)) (hr : ∀ b ∈ r, b = true)
    (hX : ∀ n p, n ∈ rd → β n = some p → X p.blk) : RelXI (now w X) .u8 xs cv := by
  unfold bytesOf at h
  split at h
  · rename_i ys
    have := pure_run h
    simp only [Prod.mk.injEq] at this
    obtain ⟨_, rfl⟩ := this
    exact (relX_ints hv).now hH hXc
  · have := pure_run h
    simp only [Prod.mk.injEq] at this
    obtain ⟨_, rfl⟩ := this
    exact .inl ⟨rfl, hv⟩
  · rename_i m b off len
    obtain ⟨cs, l, hcs, hk, rfl⟩ := RM.run_look h
    unfold RM.ofO at hk
    split at hk
    · rename_i a hrow
      obtain rfl := pure_run hk
      exact (rowOf_rel hH (fun p hp => hX b p (List.mem_cons_self) hp) hv hcs hrow hr).1
    · exact (fail_run hk).elim
  · exact (fail_run h).elim

theorem rowsI_rel {k : IntKind} {n : Nat} : ∀ {cs : List Ch} {xss : List (List Nat)} {l : List Value}, rowsI k n cs = some xss → RelC cx β cs l →
    ∀ i xs, xss[i]? = some xs → xs.length = n ∧ (∀ x ∈ xs, x < lim k) ∧ ∀ (j x : Nat), xs[j]? = some x → l[i * n + j]? = some (.int k x) := by
  intro cs
  induction cs with
  | nil => intro xss l h hl i xs e; simp only [rowsI, Option.some.injEq] at h; subst h; simp at e
  | cons c cs ih =>
    intro xss l h hl i xs e
    unfold rowsI at h
    split at h
    · rename_i heq; cases heq
    · rename_i k' m ys r heq
      simp only [List.cons.injEq] at heq
      obtain ⟨rfl, rfl⟩ := heq
      split at h
      · rename_i r' hk hm hr
        obtain rfl : k = k' := of_decide_eq_true hk
        obtain rfl : m = n := Nat.eq_of_beq_eq_true hm
        cases h
        obtain ⟨h1, h2, l', rfl, hl'⟩ := hl
        cases i with
        | zero =>
          simp only [List.getElem?_cons_zero, Option.some.injEq] at e
          subst e
          refine ⟨h1, h2, fun j x hx => ?_⟩
          rw [Nat.zero_mul, Nat.zero_add, List.getElem?_append_left (by simp; have := (List.getElem?_eq_some_iff.1 hx).1; omega)]
          simp [hx]
        | succ i =>
          obtain ⟨h3, h4, h5⟩ := ih hr hl' i xs (by simpa using e)
          refine ⟨h3, h4, fun j x hx => ?_⟩
          rw [List.getElem?_append_right (by simp; rw [Nat.add_mul]; omega)]
          rw [show (i + 1) * m + j - (ys.map fun x : Nat => Value.int k x).length = i * m + j by simp [h1]; rw [Nat.add_mul]; omega]
          exact h5 j x hx
      · cases h
    · cases h

theorem rowsI_size {k : IntKind} {n : Nat} : ∀ {cs : List Ch} {xss : List (List Nat)}, rowsI k n cs = some xss → sizeB cs = xss.length * n := by
  intro cs
  induction cs with
  | nil => intro xss h; simp only [rowsI, Option.some.injEq] at h; subst h; simp [sizeB]
  | cons c cs ih =>
    intro xss h
    unfold rowsI at h
    split at h
    · rename_i heq; cases heq
    · rename_i k' m ys r heq
      simp only [List.cons.injEq] at heq
      obtain ⟨rfl, rfl⟩ := heq
      split at h
      · rename_i r' hk hm hr
        obtain rfl : m = n := Nat.eq_of_beq_eq_true hm
        cases h
        simp only [sizeB, Ch.size, ih hr, List.length_cons, Nat.add_mul]
        omega
      · cases h
    · cases h

theorem bytesAll_rel {X : Nat → Prop} (hH : RelH cx Wr β H D w) (hXc : ∀ b, cx.X b → X b) : ∀ {cs : List Ch} {r : List Bool} {xss : List (List Nat)} {rd : List Nat} {l : List Value}, (bytesAll cs).run H = some ((r, xss), rd) → (∀ b ∈ r, b = true) →
    (∀ n p, n ∈ rd → β n = some p → X p.blk) → RelC cx β cs l → l.length = xss.length ∧ ∀ (i : Nat) (xs : List Nat), xss[i]? = some xs → ∃ cv : Value, l[i]? = some cv ∧ RelXI (now w X) .u8 xs cv := by
  intro cs
  induction cs with
  | nil =>
    intro r xss rd l h hr hX hl
    have := pure_run h
    simp only [Prod.mk.injEq] at this
    obtain ⟨_, rfl⟩ := this
    rw [hl]
    exact ⟨rfl, fun i xs e => by simp at e⟩
  | cons c cs ih =>
    intro r xss rd l h hr hX hl
    cases c with
    | ints k n xs => exact (fail_run h).elim
    | one v =>
      obtain ⟨cv, l', rfl, hv, hl'⟩ := hl
      obtain ⟨x, l1, l2, h1, h2, rfl⟩ := RM.run_bind h
      obtain ⟨y, l3, l4, h3, h4, rfl⟩ := RM.run_bind h2
      have := pure_run h4
      simp only [Prod.mk.injEq] at this
      obtain ⟨rfl, rfl⟩ := this
      obtain ⟨hr1, hr2⟩ := all_app hr
      have a1 := bytesOf_rel hH hXc hv h1 hr1 (fun n p hn => hX n p (by simp [hn]))
      obtain ⟨a2, a3⟩ := ih h3 hr2 (fun n p hn => hX n p (by simp [hn])) hl'
      refine ⟨by simp [a2], fun i xs e => ?_⟩
      cases i with
      | zero =>
        simp only [List.getElem?_cons_zero, Option.some.injEq] at e
        subst e
        exact ⟨cv, rfl, a1⟩
      | succ i => simpa using a3 i xs (by simpa using e)

theorem readSl_rel {X : Nat → Prop} {ek : EK} {v : SV} {r : List Bool} {c : XC} {rd : List Nat} {cv : Value} (hH : RelH cx Wr β H D w) (hXc : ∀ b, cx.X b → X b) (hv : RelS cx β v cv) (h : (readSl ek v).run H = some ((r, c), rd)) (hr : ∀ b ∈ r, b = true)
    (hX : ∀ n p, n ∈ rd → β n = some p → X p.blk) : RelX (now w X) c cv := by
  unfold readSl at h
  split at h
  · rename_i c0
    have hc : RelX cx c0 cv := hv
    split at h
    · split at h
      · have := pure_run h
        simp only [Prod.mk.injEq] at this
        obtain ⟨_, rfl⟩ := this
        exact hc.now hH hXc
      · exact (fail_run h).elim
    · have := pure_run h
      simp only [Prod.mk.injEq] at this
      obtain ⟨_, rfl⟩ := this
      exact hc.now hH hXc
    · have := pure_run h
      simp only [Prod.mk.injEq] at this
      obtain ⟨_, rfl⟩ := this
      exact hc.now hH hXc
    · exact (fail_run h).elim
  · split at h <;>
    · have := pure_run h
      simp only [Prod.mk.injEq] at this
      obtain ⟨_, rfl⟩ := this
      exact .inl ⟨rfl, hv⟩
  · rename_i m b off len sz
    split at h
    · rename_i k
      obtain ⟨cs, l, hcs, hk, rfl⟩ := RM.run_look h
      unfold xcI at hk
      split at hk
      · rename_i r' xs hrow
        have := pure_run hk
        simp only [Prod.mk.injEq] at this
        obtain ⟨rfl, rfl⟩ := this
        exact (rowOf_rel hH (fun p hp => hX b p (List.mem_cons_self) hp) hv hcs hrow hr).1.relX
      · exact (fail_run hk).elim
    · rename_i k n
      split at h
      · rename_i hn
        simp only [Bool.and_eq_true, Nat.beq_eq] at hn
        obtain ⟨rfl, hn1⟩ := hn
        have hn1 := Nat.le_of_ble_eq_true hn1
        obtain ⟨cs, l, hcs, hk, rfl⟩ := RM.run_look h
        split at hk
        · rename_i r' hs
          unfold xcA at hk
          split at hk
          · rename_i xss hrows
            have := pure_run hk
            simp only [Prod.mk.injEq] at this
            obtain ⟨rfl, rfl⟩ := this
            have hsize := rowsI_size hrows
            rcases hv with ⟨rfl, rfl⟩ | ⟨q, cap, y, hq, rfl, hxa, hlc, hsz⟩
            · have : r' = [] := by unfold subB at hs; simpa using hs.symm
              subst this
              simp only [rowsI, Option.some.injEq] at hrows
              subst hrows
              exact .inl ⟨rfl, rfl⟩
            · obtain ⟨l, hl1, hcell⟩ := (hH.held _ _ _ hq hcs).cells
              obtain ⟨h3, h4⟩ := subB_cells hs hl1
              have h5 := rowsI_rel hrows h3
              have h6 := h3.length
              have hlen : xss.length = len := by
                rw [h4, hsize] at h6
                exact (Nat.eq_of_mul_eq_mul_right (by omega) h6).symm
              refine .inr ⟨q.blk, y, cap, by simp only [XC.len]; rw [hlen], by simp only [XC.len]; omega, fun i xs e => ?_⟩
              obtain ⟨h7, h8, h9⟩ := h5 i xs e
              have hi := (List.getElem?_eq_some_iff.1 e).1
              obtain rfl := hxa (by omega)
              refine ⟨h7, fun j x hx => ⟨hX b q (by simp) hq, ?_, h8 x (List.mem_of_getElem? hx)⟩⟩
              have := hcell _ _ (drop_take_get (h9 j x hx))
              rw [← this]
              congr 2
              omega
          · exact (fail_run hk).elim
        · exact (fail_run hk).elim
      · exact (fail_run h).elim
    · obtain ⟨cs, l, hcs, hk, rfl⟩ := RM.run_look h
      split at hk
      · rename_i r' hs
        obtain ⟨x, l1, l2, h1, h2, rfl⟩ := RM.run_bind hk
        have := pure_run h2
        simp only [Prod.mk.injEq] at this
        obtain ⟨rfl, rfl⟩ := this
        rcases hv with ⟨rfl, rfl⟩ | ⟨q, cap, y, hq, rfl, hxa, hlc, hsz⟩
        · have : r' = [] := by unfold subB at hs; simpa using hs.symm
          subst this
          have := pure_run h1
          subst this
          exact .inl ⟨rfl, rfl⟩
        · obtain ⟨l, hl1, hcell⟩ := (hH.held _ _ _ hq hcs).cells
          obtain ⟨h3, h4⟩ := subB_cells hs hl1
          obtain ⟨h5, h6⟩ := bytesAll_rel hH hXc h1 hr (fun n p hn => hX n p (by simp [hn])) h3
          refine .inr ⟨q.blk, y, cap, ?_, ?_, fun i xs e => ?_⟩
          · simp only [XC.len]; rw [← h5, h4]
          · simp only [XC.len]; omega
          · obtain ⟨cv, h7, h8⟩ := h6 i xs e
            have hi := (List.getElem?_eq_some_iff.1 e).1
            obtain rfl := hxa (by omega)
            refine ⟨hX b q (by simp) hq, cv, ?_, h8⟩
            rw [Nat.add_assoc]
            exact hcell _ _ (drop_take_get h7)
      · exact (fail_run hk).elim
  · exact (fail_run h).elim

end
end Go.Proofs.Ytgebgjhjegadpaa

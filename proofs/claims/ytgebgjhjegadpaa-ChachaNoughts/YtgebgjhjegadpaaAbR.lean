/-
  The abstract machine: calls.
-/
import Derived.Test.YtgebgjhjegadpaaAbQ
namespace Go.Proofs.Ytgebgjhjegadpaa
open Go

section
variable {P : Program} {cx cx' : Cx} {Wr : Nat → Prop} {β β' : Bm} {H : Nat → Option Blk} {D : Nat → Prop} {w : World}

/-- What 'cx' lets read, 'cx'' lets read alike. -/
def Imp (cx cx' : Cx) : Prop := ∀ b, cx.X b → cx'.X b ∧ ∀ o, cx'.w0.cell? ⟨b, o, none⟩ = cx.w0.cell? ⟨b, o, none⟩

theorem RdI.to {k : IntKind} {xs : List Nat} {b o : Nat} (hi : Imp cx cx') (h : RdI cx k xs b o) : RdI cx' k xs b o := by
  intro i x e
  obtain ⟨h1, h2, h3⟩ := h i x e
  exact ⟨(hi b h1).1, by rw [(hi b h1).2]; exact h2, h3⟩

theorem RelXI.to {k : IntKind} {xs : List Nat} {cv : Value} (hi : Imp cx cx') (h : RelXI cx k xs cv) : RelXI cx' k xs cv := by
  rcases h with h | ⟨b, o, cap, h1, h2, h3⟩
  · exact .inl h
  · exact .inr ⟨b, o, cap, h1, h2, h3.to hi⟩

theorem RdX.to {c : XC} {b o : Nat} (hi : Imp cx cx') (h : RdX cx c b o) : RdX cx' c b o := by
  cases c with
  | ints k xs => exact RdI.to hi h
  | arrs k n xss => exact fun i xs e => ⟨(h i xs e).1, (h i xs e).2.to hi⟩
  | bss xss =>
    intro i xs e
    obtain ⟨h4, cv', h5, h6⟩ := h i xs e
    exact ⟨(hi b h4).1, cv', by rw [(hi b h4).2]; exact h5, h6.to hi⟩

theorem RelX.to {c : XC} {cv : Value} (hi : Imp cx cx') (h : RelX cx c cv) : RelX cx' c cv := by
  rcases h with h | ⟨b, o, cap, h1, h2, h3⟩
  · exact .inl h
  · exact .inr ⟨b, o, cap, h1, h2, RdX.to hi h3⟩

theorem RelS.to {v : SV} {cv : Value} (hi : v.noX = true ∨ Imp cx cx') (h : RelS cx β v cv) : RelS cx' β v cv := by
  cases v with
  | xsl c =>
    rcases hi with hi | hi
    · cases hi
    · exact RelX.to hi h
  | xptr c i =>
    rcases hi with hi | hi
    · cases hi
    · obtain ⟨b, o, e, h1⟩ := h
      exact ⟨b, o, e, RdX.to hi h1⟩
  | _ => exact h

theorem RelC.to : ∀ {cs : List Ch} {l : List Value}, (noXB cs = true ∨ Imp cx cx') → RelC cx β cs l → RelC cx' β cs l
  | [], _, _, e => e
  | .ints _ _ _ :: _, _, hi, ⟨h1, h2, l', e, hr⟩ => ⟨h1, h2, l', e, RelC.to (hi.imp (fun h => by simpa [noXB] using h) id) hr⟩
  | .one _ :: _, _, hi, ⟨cv, l', e, hv, hr⟩ => ⟨cv, l', e, hv.to (hi.imp (fun h => by simp [noXB] at h; exact h.1) id), RelC.to (hi.imp (fun h => by simp [noXB] at h; exact h.2) id) hr⟩

theorem RelV1.to {v : AV} {cv : Value} (hi : v.noX = true ∨ Imp cx cx') (h : RelV1 cx β v cv) : RelV1 cx' β v cv := by
  cases v with
  | any => trivial
  | s v => exact RelS.to (hi.imp (fun h => by simpa [AV.noX] using h) id) h
  | agg cs => obtain ⟨l, e, hr⟩ := h; exact ⟨l, e, hr.to (hi.imp (fun h => by simpa [AV.noX] using h) id)⟩
  | tup vs => exact h.elim

theorem RelL1.to : ∀ {vs : List AV} {l : List Value}, (noXL vs = true ∨ Imp cx cx') → RelL1 cx β vs l → RelL1 cx' β vs l
  | [], _, _, e => e
  | _ :: _, _, hi, ⟨cv, l', e, hv, hr⟩ => ⟨cv, l', e, hv.to (hi.imp (fun h => by simp [noXL] at h; exact h.1) id), RelL1.to (hi.imp (fun h => by simp [noXL] at h; exact h.2) id) hr⟩

theorem RelV.to {v : AV} {cv : Value} (hi : v.noX = true ∨ Imp cx cx') (h : RelV cx β v cv) : RelV cx' β v cv := by
  cases v with
  | tup vs => obtain ⟨l, e, hr⟩ := h; exact ⟨l, e, hr.to (hi.imp (fun h => by simpa [AV.noX] using h) id)⟩
  | any => exact RelV.of1 (RelV1.to hi h)
  | s v => exact RelV.of1 (RelV1.to hi h)
  | agg cs => exact RelV.of1 (RelV1.to hi h)

theorem RelL.to {vs : List AV} {l : List Value} (hi : Imp cx cx') (h : RelL cx β vs l) : RelL cx' β vs l :=
  ⟨h.1, fun j v cv e1 e2 => (h.2 j v cv e1 e2).to (.inr hi)⟩

theorem RelH.imp (h : RelH cx Wr β H D w) {X : Nat → Prop} (hX : ∀ b, cx.X b → X b) : Imp cx (now w X) :=
  fun b hb => ⟨hX b hb, fun _ => h.cell hb⟩

theorem RelH.back (h : RelH cx Wr β H D w) : Imp (now w cx.X) cx :=
  fun _ hb => ⟨hb, fun _ => (h.cell hb).symm⟩

theorem RM.tr_run {α : Type} {H : Nat → Option Blk} : ∀ {m : RM α} {a : α} {l rd : List Nat}, m.tr.run H = some ((a, l), rd) → l = rd ∧ m.run H = some (a, rd)
  | .pure a, b, l, rd, h => by
    simp only [RM.tr, RM.run, Option.some.injEq, Prod.mk.injEq] at h
    obtain ⟨⟨rfl, rfl⟩, rfl⟩ := h
    exact ⟨rfl, rfl⟩
  | .fail, b, l, rd, h => by simp [RM.tr, RM.run] at h
  | .look n k, a, l, rd, h => by
    obtain ⟨b, l', hb, hk, rfl⟩ := RM.run_look h
    obtain ⟨⟨a1, l1⟩, r1, r2, h1, h2, rfl⟩ := RM.run_bind hk
    obtain ⟨rfl, h3⟩ := RM.tr_run h1
    simp only [RM.run, Option.some.injEq, Prod.mk.injEq] at h2
    obtain ⟨⟨rfl, rfl⟩, rfl⟩ := h2
    refine ⟨by simp, ?_⟩
    simp only [RM.run, hb, h3, List.append_nil]

theorem RelV1.s_of {v : SV} {cv : Value} (h : RelV cx β (.s v) cv) : RelS cx β v cv := h

theorem roOne_rel {X : Nat → Prop} {t : TypeId} {v v' : AV} {r : List Bool} {rd : List Nat} {cv : Value} (hH : RelH cx Wr β H D w) (hXc : ∀ b, cx.X b → X b) (hv : RelV cx β v cv) (h : (roOne P t v).run H = some ((r, v'), rd)) (hr : ∀ b ∈ r, b = true)
    (hX : ∀ n p, n ∈ rd → β n = some p → X p.blk) : RelV (now w X) β v' cv := by
  unfold roOne at h
  split at h
  · split at h
    · rename_i v ek hek
      obtain ⟨⟨r1, c1⟩, l1, l2, h1, h2, rfl⟩ := RM.run_bind h
      have := pure_run h2
      simp only [Prod.mk.injEq] at this
      obtain ⟨rfl, rfl⟩ := this
      exact readSl_rel hH hXc (RelV1.s_of hv) h1 hr (fun n p hn => hX n p (List.mem_append_left _ hn))
    · have := pure_run h
      simp only [Prod.mk.injEq] at this
      obtain ⟨rfl, rfl⟩ := this
      exact hv.to (.inr (hH.imp hXc))
  · have := pure_run h
    simp only [Prod.mk.injEq] at this
    obtain ⟨rfl, rfl⟩ := this
    exact hv.to (.inr (hH.imp hXc))

theorem roArgs_rel {X : Nat → Prop} (hH : RelH cx Wr β H D w) (hXc : ∀ b, cx.X b → X b) : ∀ {vs vs' : List AV} {ts : List TypeId} {r : List Bool} {rd : List Nat} {l : List Value}, RelL cx β vs l → (roArgs P ts vs).run H = some ((r, vs'), rd) → (∀ b ∈ r, b = true) →
    (∀ n p, n ∈ rd → β n = some p → X p.blk) → RelL (now w X) β vs' l
  | [], vs', ts, r, rd, l, hv, h, hr, hX => by
    unfold roArgs at h
    have := pure_run h
    simp only [Prod.mk.injEq] at this
    obtain ⟨rfl, rfl⟩ := this
    exact ⟨hv.1, fun j v cv e => by simp at e⟩
  | v :: vs, vs', ts, r, rd, l, hv, h, hr, hX => by
    unfold roArgs at h
    split at h
    · rename_i heq; cases heq
    · exact (fail_run h).elim
    · rename_i t ts u us heq
      simp only [List.cons.injEq] at heq
      obtain ⟨rfl, rfl⟩ := heq
      obtain ⟨⟨r1, v1⟩, l1, l2, h1, h2, rfl⟩ := RM.run_bind h
      obtain ⟨⟨r2, v2⟩, l3, l4, h3, h4, rfl⟩ := RM.run_bind h2
      have := pure_run h4
      simp only [Prod.mk.injEq] at this
      obtain ⟨rfl, rfl⟩ := this
      cases l with
      | nil => simp [RelL] at hv
      | cons cv l =>
        have a1 := roOne_rel hH hXc (hv.2 0 v cv rfl rfl) h1 (fun b hb => hr b (List.mem_append_left _ hb)) (fun n p hn => hX n p (List.mem_append_left _ hn))
        obtain ⟨a2, a3⟩ := roArgs_rel (l := l) hH hXc ⟨by have := hv.1; simpa using this, fun j u cu e1 e2 => hv.2 (j + 1) u cu (by simpa using e1) (by simpa using e2)⟩ h3
          (fun b hb => hr b (List.mem_append_right _ hb)) (fun n p hn => hX n p (List.mem_append_right _ (List.mem_append_left _ hn)))
        refine ⟨by simp [a2], fun j u cu e1 e2 => ?_⟩
        cases j with
        | zero =>
          simp only [List.getElem?_cons_zero, Option.some.injEq] at e1 e2
          subst e1; subst e2
          exact a1
        | succ j => exact a3 j u cu (by simpa using e1) (by simpa using e2)

theorem disjN_spec {ns : List Nat} : ∀ {ms : List Nat}, disjN ns ms = true → ∀ n, n ∈ ms → n ∉ ns
  | [], _, n, h => by cases h
  | m :: ms, h, n, hn => by
    unfold disjN at h
    split at h
    · cases h
    · rename_i hm
      rcases List.mem_cons.1 hn with rfl | hn
      · exact idxN_none hm
      · exact disjN_spec h n hn

/-! What is known of a function. -/
def houtF (bs : List (Option Blk)) : Nat → Option Blk := fun n => match bs[n]? with
  | some (some b) => some b
  | _ => none

theorem houtF_some {bs : List (Option Blk)} {n : Nat} {b : Blk} : houtF bs n = some b ↔ bs[n]? = some (some b) := by
  unfold houtF
  split <;> simp_all

def Ctr (P : Program) (f : Nat) (args : List AV) (hin : List Blk) (v : AV) (hout : List (Option Blk)) : Prop :=
  ∀ (w : World) (X Wr : Nat → Prop) (β : Bm) (cargs : List Value), RelH (now w X) Wr β (hinF hin) (fun n => n < hin.length) w → RelL (now w X) β args cargs →
    Calls P f cargs.toArray w fun e w' => ∃ cv β', e = .returned cv ∧ Ext β β' ∧ RelV (now w X) β' v cv ∧ RelH (now w X) Wr β' (houtF hout) (fun n => n < hout.length) w'

def FOk (P : Program) (f : Nat) (F : FSem) : Prop :=
  (∃ fn b, P.funcs[f]? = some fn ∧ fn.body = some b ∧ fn.name ≠ "runtime.NumGoroutine") ∧
  ∀ args hin t v hout, F.run args hin = some t → t.get = some (v, hout) → Ctr P f args hin v hout

def XOk (P : Program) (f : Nat) (F : List AV → Option (Tr AV)) : Prop :=
  ∀ args t v, F args = some t → t.get = some v → ∀ (cx : Cx) (β : Bm) (w : World) (cargs : List Value), RelL cx β args cargs →
    ∃ cv, (callFunc f cargs.toArray).run P w = .ok (.value cv) w ∧ RelV cx β v cv

structure EnvOk (E : Env) : Prop where
  fs : ∀ f F, lkF E.fs f = some F → FOk E.P f F
  xs : ∀ f F, lkF E.xs f = some F → XOk E.P f F

/-! Names of new blocks. -/
theorem freshN_length : ∀ (n nx : Nat), (freshN nx n).length = n
  | 0, _ => rfl
  | n + 1, nx => by simp [freshN, freshN_length n]

theorem freshN_get : ∀ (n nx i : Nat), i < n → (freshN nx n)[i]? = some (nx + i)
  | n + 1, nx, 0, _ => rfl
  | n + 1, nx, i + 1, h => by
    simp only [freshN, List.getElem?_cons_succ]
    rw [freshN_get n (nx + 1) i (by omega)]
    congr 1; omega

theorem freshN_mem (n nx x : Nat) : x ∈ freshN nx n ↔ nx ≤ x ∧ x < nx + n := by
  constructor
  · intro h
    obtain ⟨i, hi, e⟩ := List.getElem_of_mem h
    rw [freshN_length] at hi
    have := freshN_get n nx i hi
    rw [List.getElem?_eq_getElem (by rw [freshN_length]; exact hi), e] at this
    simp at this
    omega
  · intro ⟨h1, h2⟩
    have := freshN_get n nx (x - nx) (by omega)
    rw [show nx + (x - nx) = x by omega] at this
    exact List.mem_of_getElem? this

theorem freshN_nodup : ∀ (n nx : Nat), (freshN nx n).Nodup
  | 0, _ => List.nodup_nil
  | n + 1, nx => by
    rw [freshN, List.nodup_cons]
    refine ⟨fun h => ?_, freshN_nodup n (nx + 1)⟩
    have := (freshN_mem n (nx + 1) nx).1 h
    omega

theorem wrF_other : ∀ {wr : List (Nat × Option Blk)} {H : Nat → Option Blk} {n : Nat}, (∀ p ∈ wr, p.1 ≠ n) → wrF wr H n = H n
  | [], _, _, _ => rfl
  | (m, c) :: r, H, n, h => by
    rw [wrF, wrF_other (fun p hp => h p (List.mem_cons_of_mem _ hp))]
    have := h (m, c) (List.mem_cons_self)
    simp only at this
    rw [if_neg (fun e => this e.symm)]

theorem backW_get : ∀ {ns : List Nat} {bs : List (Option Blk)} {H : Nat → Option Blk} {i n : Nat}, ns.Nodup → ns[i]? = some n → ns.length = bs.length → wrF (backW ns bs) H n = houtF bs i
  | [], _, _, i, n, _, h, _ => by simp at h
  | m :: ns, [], _, i, n, _, _, h => by simp at h
  | m :: ns, b :: bs, H, 0, n, hnd, h, _ => by
    simp only [List.getElem?_cons_zero, Option.some.injEq] at h
    subst h
    rw [List.nodup_cons] at hnd
    show wrF (backW ns bs) (fun x => if x = m then b else H x) m = _
    rw [wrF_other]
    · simp only [if_true, houtF, List.getElem?_cons_zero]
      cases b <;> rfl
    · intro p hp e
      have := (List.of_mem_zip (a := p.1) (b := p.2) hp).1
      exact hnd.1 (e ▸ this)
  | m :: ns, b :: bs, H, i + 1, n, hnd, h, hl => by
    rw [List.nodup_cons] at hnd
    show wrF (backW ns bs) (fun x => if x = m then b else H x) n = _
    rw [backW_get hnd.2 (by simpa using h) (by simpa using hl)]
    simp [houtF]

theorem backW_other {ns : List Nat} {bs : List (Option Blk)} {H : Nat → Option Blk} {n : Nat} (h : n ∉ ns) : wrF (backW ns bs) H n = H n := by
  refine wrF_other fun p hp e => ?_
  have := (List.of_mem_zip (a := p.1) (b := p.2) hp).1
  exact h (e ▸ this)

theorem liveL_spec : ∀ {ns : List Nat} {bs : List (Option Blk)} {nw : List (Nat × Blk)}, liveL ns bs = some nw → ns.length = bs.length ∧ (∀ n, n ∉ ns → lkF nw n = none) ∧ (ns.Nodup → ∀ (i n : Nat), ns[i]? = some n → ∃ b, lkF nw n = some b ∧ bs[i]? = some (some b))
  | [], [], nw, h => by simp only [liveL, Option.some.injEq] at h; subst h; exact ⟨rfl, fun _ _ => rfl, fun _ i n e => by simp at e⟩
  | [], _ :: _, nw, h => by simp [liveL] at h
  | _ :: _, [], nw, h => by simp [liveL] at h
  | _ :: _, none :: _, nw, h => by simp [liveL] at h
  | m :: ns, some b :: bs, nw, h => by
    unfold liveL at h
    split at h
    · rename_i r hr
      simp only [Option.some.injEq] at h
      subst h
      obtain ⟨h1, h2, h3⟩ := liveL_spec hr
      have hne : ∀ {n : Nat}, n ≠ m → Nat.beq m n = false := fun {n} hn => by
        cases hb : Nat.beq m n with
        | false => rfl
        | true => exact absurd (Nat.eq_of_beq_eq_true hb).symm hn
      refine ⟨by simp [h1], fun n hn => ?_, fun hnd i n e => ?_⟩
      · simp only [List.mem_cons, not_or] at hn
        simp only [lkF, hne hn.1]
        exact h2 n hn.2
      · rw [List.nodup_cons] at hnd
        cases i with
        | zero =>
          simp only [List.getElem?_cons_zero, Option.some.injEq] at e
          subst e
          exact ⟨b, by simp [lkF], rfl⟩
        | succ i =>
          have e : ns[i]? = some n := by simpa using e
          have hn : n ≠ m := fun h => hnd.1 (h ▸ List.mem_of_getElem? e)
          obtain ⟨b', h4, h5⟩ := h3 hnd.2 i n e
          exact ⟨b', by simp only [lkF, hne hn]; exact h4, by simpa using h5⟩
    · cases h

theorem renOs_get {r : Nat → Option Nat} : ∀ {bs bs' : List (Option Blk)}, renOs r bs = some bs' → bs'.length = bs.length ∧ ∀ (i : Nat) (b' : Blk), bs'[i]? = some (some b') → ∃ b, bs[i]? = some (some b) ∧ renB r b = some b'
  | [], bs', h => by simp only [renOs, Option.some.injEq] at h; subst h; exact ⟨rfl, fun i b e => by simp at e⟩
  | some b :: bs, bs', h => by
    unfold renOs at h
    split at h
    · rename_i b1 rs hb hrs
      cases h
      obtain ⟨h1, h2⟩ := renOs_get hrs
      refine ⟨by simp [h1], fun i b' e => ?_⟩
      cases i with
      | zero =>
        simp only [List.getElem?_cons_zero, Option.some.injEq] at e
        subst e
        exact ⟨b, rfl, hb⟩
      | succ i => simpa using h2 i b' (by simpa using e)
    · cases h
  | none :: bs, bs', h => by
    unfold renOs at h
    split at h
    · rename_i rs hrs
      cases h
      obtain ⟨h1, h2⟩ := renOs_get hrs
      refine ⟨by simp [h1], fun i b' e => ?_⟩
      cases i with
      | zero => simp at e
      | succ i => simpa using h2 i b' (by simpa using e)
    · cases h

end
end Go.Proofs.Ytgebgjhjegadpaa

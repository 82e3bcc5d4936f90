/-
  The abstract machine: names turned into others; the blocks that values lead to.
-/
import Derived.Test.YtgebgjhjegadpaaAbP
namespace Go.Proofs.Ytgebgjhjegadpaa
open Go

section
variable {P : Program} {cx : Cx} {Wr : Nat → Prop} {β β' : Bm} {H : Nat → Option Blk} {D : Nat → Prop} {w : World}

def RenOk (r : Nat → Option Nat) (β β' : Bm) : Prop := ∀ n m, r n = some m → β' m = β n

theorem renP_rel {r : Nat → Option Nat} (hr : RenOk r β β') : ∀ {ps qs : List (Nat × Nat)} {l : List Value}, renP r ps = some qs → RelPs β ps l → RelPs β' qs l
  | [], qs, l, h, hl => by simp only [renP, Option.some.injEq] at h; subst h; exact hl
  | p :: ps, qs, l, h, ⟨cv, l', e, ⟨q, hq, hcv⟩, h2⟩ => by
    unfold renP at h
    split at h
    · rename_i b rs hb hrs
      cases h
      exact ⟨cv, l', e, ⟨q, by rw [hr _ _ hb]; exact hq, hcv⟩, renP_rel hr hrs h2⟩
    · cases h

theorem SV.ren_rel {r : Nat → Option Nat} (hr : RenOk r β β') {v v' : SV} {cv : Value} (h : v.ren r = some v') (hv : RelS cx β v cv) : RelS cx β' v' cv := by
  unfold SV.ren at h
  split at h
  · split at h
    · rename_i b hb
      cases h
      obtain ⟨q, hq, e⟩ := hv
      exact ⟨q, by rw [hr _ _ hb]; exact hq, e⟩
    · cases h
  · split at h
    · rename_i b hb
      cases h
      exact hv.imp id fun ⟨q, cap, x, hq, e⟩ => ⟨q, cap, x, by rw [hr _ _ hb]; exact hq, e⟩
    · cases h
  · split at h
    · rename_i a c ha hc
      cases h
      obtain ⟨l1, l2, e, h1, h2⟩ := hv
      exact ⟨l1, l2, e, renP_rel hr ha h1, renP_rel hr hc h2⟩
    · cases h
  · cases h
    cases v <;> first | exact hv | (rename_i hn1 hn2 hn3; first | exact absurd rfl (hn1 _ _) | exact absurd rfl (hn2 _ _ _ _ _) | exact absurd rfl (hn3 _ _ _))

theorem renB_rel {r : Nat → Option Nat} (hr : RenOk r β β') : ∀ {cs cs' : List Ch} {l : List Value}, renB r cs = some cs' → RelC cx β cs l → RelC cx β' cs' l
  | [], cs', l, h, hl => by simp only [renB, Option.some.injEq] at h; subst h; exact hl
  | c :: cs, cs', l, h, hl => by
    unfold renB at h
    split at h
    · rename_i c' rs hc hrs
      cases h
      cases c with
      | ints k n xs =>
        simp only [Ch.ren, Option.some.injEq] at hc
        subst hc
        obtain ⟨h1, h2, l', e, h3⟩ := hl
        exact ⟨h1, h2, l', e, renB_rel hr hrs h3⟩
      | one v =>
        simp only [Ch.ren] at hc
        split at hc
        · rename_i v' hv'
          cases hc
          obtain ⟨cv, l', e, h1, h2⟩ := hl
          exact ⟨cv, l', e, SV.ren_rel hr hv' h1, renB_rel hr hrs h2⟩
        · cases hc
    · cases h

theorem renB_wf {r : Nat → Option Nat} : ∀ {cs cs' : List Ch}, renB r cs = some cs' → WfB cs → WfB cs'
  | [], cs', h, hw => by simp only [renB, Option.some.injEq] at h; subst h; exact hw
  | c :: cs, cs', h, hw => by
    unfold renB at h
    split at h
    · rename_i c' rs hc hrs
      cases h
      intro k m xs hm
      rcases List.mem_cons.1 hm with e | e
      · subst e
        cases c with
        | ints k' n' xs' =>
          simp only [Ch.ren, Option.some.injEq] at hc
          exact hw k m xs (by rw [hc]; exact List.mem_cons_self)
        | one v =>
          simp only [Ch.ren] at hc
          split at hc
          · cases hc
          · cases hc
      · exact renB_wf hrs (fun k m xs h => hw k m xs (List.mem_cons_of_mem _ h)) k m xs e
    · cases h

theorem AV.ren1_rel {r : Nat → Option Nat} (hr : RenOk r β β') {v v' : AV} {cv : Value} (h : v.ren r = some v') (hv : RelV1 cx β v cv) : RelV1 cx β' v' cv := by
  cases v with
  | any => simp only [AV.ren, Option.some.injEq] at h; subst h; trivial
  | s v =>
    simp only [AV.ren] at h
    split at h
    · rename_i v1 h1; cases h; exact SV.ren_rel hr h1 hv
    · cases h
  | agg cs =>
    simp only [AV.ren] at h
    split at h
    · rename_i cs1 h1
      cases h
      obtain ⟨l, e, h2⟩ := hv
      exact ⟨l, e, renB_rel hr h1 h2⟩
    · cases h
  | tup vs => exact hv.elim

theorem renL1_rel {r : Nat → Option Nat} (hr : RenOk r β β') : ∀ {vs vs' : List AV} {l : List Value}, renL r vs = some vs' → RelL1 cx β vs l → RelL1 cx β' vs' l
  | [], vs', l, h, hl => by simp only [renL, Option.some.injEq] at h; subst h; exact hl
  | v :: vs, vs', l, h, ⟨cv, l', e, h1, h2⟩ => by
    unfold renL at h
    split at h
    · rename_i v1 rs hv hrs
      cases h
      exact ⟨cv, l', e, AV.ren1_rel hr hv h1, renL1_rel hr hrs h2⟩
    · cases h

theorem AV.ren_rel {r : Nat → Option Nat} (hr : RenOk r β β') {v v' : AV} {cv : Value} (h : v.ren r = some v') (hv : RelV cx β v cv) : RelV cx β' v' cv := by
  cases v with
  | tup vs =>
    simp only [AV.ren] at h
    split at h
    · rename_i vs1 h1
      cases h
      obtain ⟨l, e, h2⟩ := hv
      exact ⟨l, e, renL1_rel hr h1 h2⟩
    · cases h
  | any => exact RelV.of1 (AV.ren1_rel (v := .any) hr h hv)
  | s v => exact RelV.of1 (AV.ren1_rel (v := .s v) hr h hv)
  | agg cs => exact RelV.of1 (AV.ren1_rel (v := .agg cs) hr h hv)

/-- Values one by one. -/
def RelL (cx : Cx) (β : Bm) (vs : List AV) (l : List Value) : Prop := vs.length = l.length ∧ ∀ (j : Nat) (v : AV) (cv : Value), vs[j]? = some v → l[j]? = some cv → RelV cx β v cv

theorem renL_rel {r : Nat → Option Nat} (hr : RenOk r β β') : ∀ {vs vs' : List AV} {l : List Value}, renL r vs = some vs' → RelL cx β vs l → RelL cx β' vs' l
  | [], vs', l, h, hl => by simp only [renL, Option.some.injEq] at h; subst h; exact ⟨hl.1, fun j v cv e => by simp at e⟩
  | v :: vs, vs', l, h, ⟨h1, h2⟩ => by
    unfold renL at h
    split at h
    · rename_i v1 rs hv hrs
      cases h
      cases l with
      | nil => simp at h1
      | cons cv l =>
        obtain ⟨a1, a2⟩ := renL_rel (l := l) hr hrs ⟨by simpa using h1, fun j v cv e1 e2 => h2 (j + 1) v cv (by simpa using e1) (by simpa using e2)⟩
        refine ⟨by simp [a1], fun j u cu e1 e2 => ?_⟩
        cases j with
        | zero =>
          simp only [List.getElem?_cons_zero, Option.some.injEq] at e1 e2
          subst e1; subst e2
          exact AV.ren_rel hr hv (h2 0 _ _ rfl rfl)
        | succ j => exact a2 j u cu (by simpa using e1) (by simpa using e2)
    · cases h

theorem renBs_get {r : Nat → Option Nat} : ∀ {bs bs' : List Blk}, renBs r bs = some bs' → bs'.length = bs.length ∧ ∀ (i : Nat) (b' : Blk), bs'[i]? = some b' → ∃ b, bs[i]? = some b ∧ renB r b = some b'
  | [], bs', h => by simp only [renBs, Option.some.injEq] at h; subst h; exact ⟨rfl, fun i b e => by simp at e⟩
  | b :: bs, bs', h => by
    unfold renBs at h
    split at h
    · rename_i b1 rs hb hrs
      cases h
      obtain ⟨h1, h2⟩ := renBs_get hrs
      refine ⟨by simp [h1], fun i b' e => ?_⟩
      cases i with
      | zero =>
        simp only [List.getElem?_cons_zero, Option.some.injEq] at e
        subst e
        exact ⟨b, rfl, hb⟩
      | succ i => simpa using h2 i b' (by simpa using e)
    · cases h

/-! The names that values lead to. -/
theorem idxN_spec : ∀ {ns : List Nat} {b i : Nat}, idxN ns b = some i → ns[i]? = some b
  | [], b, i, h => by simp [idxN] at h
  | n :: ns, b, i, h => by
    unfold idxN at h
    split at h
    · rename_i hb; cases h; rw [Nat.eq_of_beq_eq_true hb]; rfl
    · split at h
      · rename_i j hj; cases h; simpa using idxN_spec hj
      · cases h

theorem idxN_none : ∀ {ns : List Nat} {b : Nat}, idxN ns b = none → b ∉ ns
  | [], b, _ => by simp
  | n :: ns, b, h => by
    unfold idxN at h
    split at h
    · cases h
    · rename_i hb
      split at h
      · cases h
      · rename_i hj
        have := idxN_none hj
        simp only [List.mem_cons, not_or]
        refine ⟨fun e => ?_, this⟩
        subst e; simp at hb

theorem insN_spec (ns : List Nat) (n : Nat) : (∃ s, insN ns n = ns ++ s) ∧ (ns.Nodup → (insN ns n).Nodup) := by
  unfold insN
  split
  · exact ⟨⟨[], by simp⟩, id⟩
  · rename_i h
    have := idxN_none h
    refine ⟨⟨[n], rfl⟩, fun hn => ?_⟩
    rw [List.nodup_append]
    exact ⟨hn, by simp, fun a ha b hb => by simp at hb; subst hb; exact fun e => this (e ▸ ha)⟩

theorem insL_spec : ∀ (ms ns : List Nat), (∃ s, insL ns ms = ns ++ s) ∧ (ns.Nodup → (insL ns ms).Nodup)
  | [], ns => ⟨⟨[], by simp [insL]⟩, id⟩
  | m :: ms, ns => by
    obtain ⟨⟨s1, h1⟩, h2⟩ := insN_spec ns m
    obtain ⟨⟨s2, h3⟩, h4⟩ := insL_spec ms (insN ns m)
    refine ⟨⟨s1 ++ s2, ?_⟩, fun h => ?_⟩
    · rw [insL, h3, h1, List.append_assoc]
    · rw [insL]; exact h4 (h2 h)

theorem closeN_spec : ∀ {f i : Nat} {ns ns' : List Nat} {bs : List Blk} {rd : List Nat}, (closeN f i ns).run H = some ((ns', bs), rd) → i ≤ ns.length →
    (∃ s, ns' = ns ++ s) ∧ (ns.Nodup → ns'.Nodup) ∧ i + bs.length = ns'.length ∧ ∀ (j n : Nat), ns'[i + j]? = some n → ∃ b, H n = some b ∧ bs[j]? = some b := by
  intro f
  induction f with
  | zero => intro i ns ns' bs rd h; exact (fail_run h).elim
  | succ f ih =>
    intro i ns ns' bs rd h hi
    unfold closeN at h
    split at h
    · rename_i hn
      have := pure_run h
      simp only [Prod.mk.injEq] at this
      obtain ⟨e1, e2⟩ := this
      subst e2
      have hlen : ns.length ≤ i := List.getElem?_eq_none_iff.1 hn
      refine ⟨⟨[], by simp [e1]⟩, fun h => e1 ▸ h, by rw [e1]; simp; omega, fun j n e => ?_⟩
      rw [e1, List.getElem?_eq_none (by omega)] at e
      cases e
    · rename_i n hn
      obtain ⟨b, l, hb, hk, rfl⟩ := RM.run_look h
      obtain ⟨⟨ns2, bs2⟩, l1, l2, h1, h2, rfl⟩ := RM.run_bind hk
      have := pure_run h2
      simp only [Prod.mk.injEq] at this
      obtain ⟨rfl, rfl⟩ := this
      obtain ⟨⟨s, hs⟩, hnd⟩ := insL_spec (refsB b) ns
      have hlt := (List.getElem?_eq_some_iff.1 hn).1
      obtain ⟨⟨s2, h3⟩, h4, h5, h6⟩ := ih h1 (by rw [hs]; simp; omega)
      refine ⟨⟨s ++ s2, by rw [h3, hs, List.append_assoc]⟩, fun h => h4 (hnd h), by simp; omega, fun j m e => ?_⟩
      cases j with
      | zero =>
        rw [h3, hs, List.append_assoc, Nat.add_zero, List.getElem?_append_left hlt, hn] at e
        cases e
        exact ⟨b, hb, rfl⟩
      | succ j => simpa using h6 j m (by rw [← e]; congr 1; omega)

theorem canon_spec {ns0 ns : List Nat} {vs vs' : List AV} {bs' : List Blk} {rd : List Nat} (h : (canon ns0 vs).run H = some ((ns, vs', bs'), rd)) :
    (∃ s, ns = ns0 ++ s) ∧ (ns0.Nodup → ns.Nodup) ∧ renL (idxN ns) vs = some vs' ∧ ∃ bs, bs.length = ns.length ∧ renBs (idxN ns) bs = some bs' ∧ ∀ (j n : Nat), ns[j]? = some n → ∃ b, H n = some b ∧ bs[j]? = some b := by
  obtain ⟨⟨ns2, bs2⟩, l1, l2, h1, h2, rfl⟩ := RM.run_bind h
  split at h2
  · rename_i vs1 bs1 hv hb
    have := pure_run h2
    simp only [Prod.mk.injEq] at this
    obtain ⟨rfl, rfl, rfl⟩ := this
    obtain ⟨⟨s, hs⟩, hnd⟩ := insL_spec (refsL vs) ns0
    obtain ⟨⟨s2, h3⟩, h4, h5, h6⟩ := closeN_spec h1 (Nat.zero_le _)
    refine ⟨⟨s ++ s2, by rw [h3, hs, List.append_assoc]⟩, fun h => h4 (hnd h), hv, bs2, by omega, hb, fun j n e => h6 j n (by simpa using e)⟩
  · exact (fail_run h2).elim

def hinF (bs : List Blk) : Nat → Option Blk := fun n => bs[n]?

def subM (ns : List Nat) (β : Bm) : Bm := fun i => match ns[i]? with
  | some n => β n
  | none => none

theorem subM_ren (ns : List Nat) (β : Bm) : RenOk (idxN ns) β (subM ns β) := fun n m h => by
  simp only [subM, idxN_spec h]

theorem Held.ren {r : Nat → Option Nat} (hr : RenOk r β β') {p : Pl} {cs cs' : Blk} (h : renB r cs = some cs') (hh : Held cx β w p cs) : Held cx β' w p cs' := by
  obtain ⟨c, T, fr, h1, h2, h3, l, h4, h5⟩ := hh
  exact ⟨c, T, fr, h1, h2, h3, l, renB_rel hr h h4, h5⟩

/-- Some live names alone, under the names 0, 1, .. -/
theorem RelH.canon (hH : RelH cx Wr β H D w) {ns : List Nat} {bs bs' : List Blk} (hnd : ns.Nodup) (hlen : bs.length = ns.length) (hr : renBs (idxN ns) bs = some bs') (hbs : ∀ (j n : Nat), ns[j]? = some n → ∃ b, H n = some b ∧ bs[j]? = some b) :
    RelH cx Wr (subM ns β) (hinF bs') (fun i => i < ns.length) w := by
  obtain ⟨h1, h2⟩ := renBs_get hr
  have hsub : ∀ {i : Nat} {p : Pl}, subM ns β i = some p → ∃ n, ns[i]? = some n ∧ β n = some p := by
    intro i p e
    unfold subM at e
    split at e
    · rename_i n hn; exact ⟨n, hn, e⟩
    · cases e
  refine ⟨hH.size, hH.frame, hH.xok, fun i p e => ?_, fun i p cs e hc => ?_, fun i cs hc => ?_, fun i cs hc => ?_, fun i j p q e1 e2 _ _ hpq => ?_, hH.os, hH.tape, hH.output⟩
  · obtain ⟨n, hn, hp⟩ := hsub e
    exact ⟨(List.getElem?_eq_some_iff.1 hn).1, (hH.dom n p hp).2⟩
  · obtain ⟨n, hn, hp⟩ := hsub e
    obtain ⟨b, hb, hrb⟩ := h2 i cs hc
    obtain ⟨b2, hb2, hb3⟩ := hbs i n hn
    rw [hb] at hb3
    cases hb3
    exact (hH.held n p b hp hb2).ren (subM_ren ns β) hrb
  · obtain ⟨b, hb, hrb⟩ := h2 i cs hc
    have hi := (List.getElem?_eq_some_iff.1 hb).1
    obtain ⟨b2, hb2, hb3⟩ := hbs i (ns[i]'(by omega)) (by simp)
    rw [hb] at hb3
    cases hb3
    exact renB_wf hrb (hH.wf _ _ hb2)
  · have := (List.getElem?_eq_some_iff.1 hc).1
    omega
  · obtain ⟨n, hn, hp⟩ := hsub e1
    obtain ⟨m, hm, hq⟩ := hsub e2
    obtain ⟨b, hb, _⟩ := hbs i n hn
    obtain ⟨c, hc, _⟩ := hbs j m hm
    have : n = m := hH.inj n m p q hp hq (by rw [hb]; rfl) (by rw [hc]; rfl) hpq
    subst this
    obtain ⟨a1, a2⟩ := List.getElem?_eq_some_iff.1 hn
    obtain ⟨a3, a4⟩ := List.getElem?_eq_some_iff.1 hm
    exact (List.getElem_inj hnd).1 (a2.trans a4.symm)

end
end Go.Proofs.Ytgebgjhjegadpaa

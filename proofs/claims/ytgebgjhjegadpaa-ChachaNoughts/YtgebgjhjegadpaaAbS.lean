/-
  The abstract machine: what a call leaves.
-/
import Derived.Test.YtgebgjhjegadpaaAbR
namespace Go.Proofs.Ytgebgjhjegadpaa
open Go

section
variable {P : Program} {cx cx' : Cx} {Wr : Nat → Prop} {β β' : Bm} {H : Nat → Option Blk} {D : Nat → Prop} {w : World}

/-- What a callee may write. -/
def Wc (ns : List Nat) (β : Bm) : Nat → Prop := fun b => ∃ i p, subM ns β i = some p ∧ p.blk = b

theorem subM_get {ns : List Nat} {β : Bm} {i : Nat} {p : Pl} (e : subM ns β i = some p) : ∃ n, ns[i]? = some n ∧ β n = some p := by
  unfold subM at e
  split at e
  · rename_i n hn; exact ⟨n, hn, e⟩
  · cases e

theorem Wc_of {ns : List Nat} {β : Bm} {b : Nat} (h : Wc ns β b) : ∃ n p, n ∈ ns ∧ β n = some p ∧ p.blk = b := by
  obtain ⟨i, p, h1, h2⟩ := h
  obtain ⟨n, h3, h4⟩ := subM_get h1
  exact ⟨n, p, List.mem_of_getElem? h3, h4, h2⟩

/-- The names of the caller and those of the callee. -/
def mixM (all : List Nat) (β β1 : Bm) : Bm := fun n => match idxN all n with
  | some i => β1 i
  | none => β n

theorem idxN_of : ∀ {ns : List Nat} {i n : Nat}, ns.Nodup → ns[i]? = some n → idxN ns n = some i
  | [], i, n, _, h => by simp at h
  | m :: ns, 0, n, _, h => by
    simp only [List.getElem?_cons_zero, Option.some.injEq] at h
    subst h
    simp [idxN]
  | m :: ns, i + 1, n, hnd, h => by
    rw [List.nodup_cons] at hnd
    have hne : Nat.beq m n = false := by
      cases hb : Nat.beq m n with
      | false => rfl
      | true =>
        rw [Nat.eq_of_beq_eq_true hb] at hnd
        exact absurd (List.mem_of_getElem? (by simpa using h)) hnd.1
    simp only [idxN, hne, idxN_of hnd.2 (by simpa using h)]

theorem idxN_none_of {ns : List Nat} {n : Nat} (h : n ∉ ns) : idxN ns n = none := by
  cases e : idxN ns n with
  | none => rfl
  | some i => exact absurd (List.mem_of_getElem? (idxN_spec e)) h

theorem call_post (hH : RelH cx Wr β H D w) {ns : List Nat} (hnd : ns.Nodup) (hns : ∀ n ∈ ns, ∃ b, H n = some b) {X : Nat → Prop} {ro : Bool} (hXW : ∀ b, cx.X b → X b) (hro : ro = false → X = cx.X)
    {β1 : Bm} {w1 : World} {hout : List (Option Blk)} {v : AV} {cv : Value} {nx : Nat} {out : Out} (hE : Ext (subM ns β) β1) (hv : RelV (now w X) β1 v cv) (hr : RelH (now w X) (Wc ns β) β1 (houtF hout) (fun n => n < hout.length) w1)
    (ho : callOut ro ns nx (v, hout) = some out) (hf : Fresh D out) : Post cx Wr β H D out cv w1 := by
  unfold callOut at ho
  split at ho
  · rename_i hle
    rw [Bool.and_eq_true] at hle
    obtain ⟨hle, hnox⟩ := hle
    have hle := Nat.le_of_ble_eq_true hle
    split at ho
    rotate_left
    · cases ho
    rename_i v1 bs1 hv1 hb1
    split at ho
    · rename_i nw hnw
      simp only [Option.some.injEq] at ho
      subst ho
      simp only at hle hnox hv1 hb1 hf hnw
      have hfl := freshN_length (hout.length - ns.length) nx
      have hDns : ∀ n, n ∈ ns → D n := fun n hn => by obtain ⟨b, hb⟩ := hns n hn; exact hH.hd n b hb
      obtain ⟨hbl, hbg⟩ := renOs_get hb1
      obtain ⟨_, hnw0, hnw1⟩ := liveL_spec hnw
      have hnw1 := hnw1 (freshN_nodup _ _)
      -- the new names are not known yet
      have hnew : ∀ n, n ∈ freshN nx (hout.length - ns.length) → ¬ D n ∧ (lkF nw n).isSome = true := by
        intro n hn
        obtain ⟨i, hi, e⟩ := List.getElem_of_mem hn
        obtain ⟨b, hb, _⟩ := hnw1 i n (by rw [List.getElem?_eq_getElem hi, e])
        have hs : (lkF nw n).isSome = true := by rw [hb]; rfl
        exact ⟨hf n hs, hs⟩
      have hall : (ns ++ freshN nx (hout.length - ns.length)).Nodup := by
        rw [List.nodup_append]
        exact ⟨hnd, freshN_nodup _ _, fun a ha b hb e => by subst e; exact (hnew a hb).1 (hDns a ha)⟩
      have hallen : (ns ++ freshN nx (hout.length - ns.length)).length = hout.length := by simp [hfl]; omega
      generalize hA : ns ++ freshN nx (hout.length - ns.length) = all at *
      have hren : RenOk (nthN all) β1 (mixM all β β1) := by
        intro i m h
        simp only [mixM, idxN_of hall h]
      have himp : (v.noX && noXBs hout) = true ∨ Imp (now w X) cx := by
        cases ro with
        | false => right; have := hro rfl; subst this; exact hH.back
        | true => left; simpa using hnox
      have hext : Ext β (mixM all β β1) := by
        intro n p e
        unfold mixM
        cases hi : idxN all n with
        | none => exact e
        | some i =>
          simp only
          have h1 := idxN_spec hi
          rw [← hA] at h1
          by_cases hlt : i < ns.length
          · rw [List.getElem?_append_left hlt] at h1
            exact hE i p (by simp only [subM, h1]; exact e)
          · rw [List.getElem?_append_right (by omega)] at h1
            exact absurd (hH.dom n p e).1 (hnew n (List.mem_of_getElem? h1)).1
      -- a block of the callee that was there before
      have hold : ∀ {b : Nat}, b < w.heap.size → (w.heap.size ≤ b ∨ Wc ns β b) → ∃ n p, n ∈ ns ∧ β n = some p ∧ p.blk = b := by
        intro b hb h
        rcases h with h | h
        · omega
        · exact Wc_of h
      have hsep : ∀ {m : Nat} {q : Pl} {c : Blk}, m ∉ ns → β m = some q → H m = some c → ¬ Wc ns β q.blk := by
        intro m q c hm hq hc h
        obtain ⟨n, p, h1, h2, h3⟩ := Wc_of h
        obtain ⟨b, hb⟩ := hns n h1
        have := hH.inj n m p q h2 hq (by rw [hb]; rfl) (by rw [hc]; rfl) h3
        exact hm (this ▸ h1)
      have hheap : ∀ {b : Nat}, b < w.heap.size → ¬ Wc ns β b → w1.heap[b]? = w.heap[b]? := fun hb hn => hr.frame _ hb hn
      have hsz : w.heap.size ≤ w1.heap.size := hr.size
      -- what the lookups give
      have hget : ∀ {i n : Nat}, all[i]? = some n → happ ⟨v1, backW ns (bs1.take ns.length), nw⟩ H n = houtF bs1 i := by
        intro i n h
        rw [← hA] at h
        unfold happ
        by_cases hlt : i < ns.length
        · rw [List.getElem?_append_left hlt] at h
          have hn : n ∉ freshN nx (hout.length - ns.length) := fun hn => (hnew n hn).1 (hDns n (List.mem_of_getElem? h))
          simp only [hnw0 n hn]
          rw [backW_get hnd h (by simp; omega)]
          unfold houtF
          rw [List.getElem?_take_of_lt hlt]
        · rw [List.getElem?_append_right (by omega)] at h
          obtain ⟨b, h1, h2⟩ := hnw1 _ _ h
          rw [List.getElem?_drop, show ns.length + (i - ns.length) = i by omega] at h2
          simp only [h1]
          exact (houtF_some.2 h2).symm
      have hoth : ∀ {n : Nat}, n ∉ all → happ ⟨v1, backW ns (bs1.take ns.length), nw⟩ H n = H n := by
        intro n h
        rw [← hA, List.mem_append, not_or] at h
        unfold happ
        simp only [hnw0 n h.2, backW_other h.1]
      have hmix : ∀ {i n : Nat}, all[i]? = some n → mixM all β β1 n = β1 i := fun h => by simp only [mixM, idxN_of hall h]
      have hmixo : ∀ {n : Nat}, n ∉ all → mixM all β β1 n = β n := fun h => by simp only [mixM, idxN_none_of h]
      have hcase : ∀ n, (∃ i, all[i]? = some n) ∨ n ∉ all := fun n => by
        by_cases h : n ∈ all
        · obtain ⟨i, hi, e⟩ := List.getElem_of_mem h
          exact .inl ⟨i, by rw [List.getElem?_eq_getElem hi, e]⟩
        · exact .inr h
      have hnotns : ∀ {n : Nat}, n ∉ all → n ∉ ns := fun h => by rw [← hA, List.mem_append, not_or] at h; exact h.1
      refine ⟨mixM all β β1, hext, ?_, ?_⟩
      · exact AV.ren_rel hren hv1 (hv.to (himp.imp (fun h => by rw [Bool.and_eq_true] at h; exact h.1) id))
      · refine ⟨Nat.le_trans hH.size hsz, fun b hb hW => ?_, hH.xok, fun n p e => ?_, fun n p cs e hc => ?_, fun n cs hc => ?_, fun n cs hc => ?_, fun n m p q e1 e2 h1 h2 hpq => ?_, hr.os.trans hH.os, hr.tape.trans hH.tape, hr.output.trans hH.output⟩
        · rw [hheap (by have := hH.size; omega), hH.frame b hb hW]
          intro h
          obtain ⟨n, p, _, h2, h3⟩ := Wc_of h
          rcases (hH.dom n p h2).2.2 with h4 | h4
          · omega
          · exact hW (h3 ▸ h4)
        · rcases hcase n with ⟨i, hi⟩ | hn
          · rw [hmix hi] at e
            obtain ⟨h1, h2, h3⟩ := hr.dom i p e
            refine ⟨?_, h2, ?_⟩
            · rw [← hA] at hi
              rcases List.mem_append.1 (List.mem_of_getElem? hi) with h | h
              · exact .inl (hDns n h)
              · exact .inr (hnew n h).2
            · rcases h3 with h3 | h3
              · exact .inl (Nat.le_trans hH.size h3)
              · obtain ⟨n', p', _, h4, h5⟩ := Wc_of h3
                rw [← h5]
                exact (hH.dom n' p' h4).2.2
          · rw [hmixo hn] at e
            obtain ⟨h1, h2, h3⟩ := hH.dom n p e
            exact ⟨.inl h1, by omega, h3⟩
        · rcases hcase n with ⟨i, hi⟩ | hn
          · rw [hmix hi] at e
            rw [hget hi] at hc
            obtain ⟨b, hb, hrb⟩ := hbg i cs (houtF_some.1 hc)
            obtain ⟨c, T, fr, g1, g2, g3, l, g4, g5⟩ := hr.held i p b e (houtF_some.2 hb)
            refine ⟨c, T, fr, g1, g2, g3, l, renB_rel hren hrb (g4.to (himp.imp (fun h => ?_) id)), g5⟩
            rw [Bool.and_eq_true] at h
            have : ∀ {bs : List (Option Blk)} {i : Nat} {b : Blk}, noXBs bs = true → bs[i]? = some (some b) → noXB b = true := by
              intro bs
              induction bs with
              | nil => intro i b _ h; simp at h
              | cons b0 bs ih =>
                intro i b h0 h
                cases i with
                | zero =>
                  simp only [List.getElem?_cons_zero, Option.some.injEq] at h
                  subst h
                  simp only [noXBs, Bool.and_eq_true] at h0
                  exact h0.1
                | succ i =>
                  refine ih ?_ (by simpa using h)
                  cases b0 <;> simp [noXBs] at h0
                  · exact h0
                  · exact h0.2
            exact this h.2 hb
          · rw [hmixo hn] at e
            rw [hoth hn] at hc
            obtain ⟨c, T, fr, g1, r⟩ := (hH.held n p cs e hc).ext hext
            exact ⟨c, T, fr, by rw [hheap (hH.dom n p e).2.1 (hsep (hnotns hn) e hc)]; exact g1, r⟩
        · rcases hcase n with ⟨i, hi⟩ | hn
          · rw [hget hi] at hc
            obtain ⟨b, hb, hrb⟩ := hbg i cs (houtF_some.1 hc)
            exact renB_wf hrb (hr.wf i b (houtF_some.2 hb))
          · rw [hoth hn] at hc
            exact hH.wf n cs hc
        · rcases hcase n with ⟨i, hi⟩ | hn
          · rw [← hA] at hi
            rcases List.mem_append.1 (List.mem_of_getElem? hi) with h | h
            · exact .inl (hDns n h)
            · exact .inr (hnew n h).2
          · rw [hoth hn] at hc
            exact .inl (hH.hd n cs hc)
        · have hlive : ∀ {i n : Nat}, all[i]? = some n → (happ ⟨v1, backW ns (bs1.take ns.length), nw⟩ H n).isSome = true → (houtF hout i).isSome = true := by
            intro i n h hs
            obtain ⟨c, hc⟩ := Option.isSome_iff_exists.1 hs
            rw [hget h] at hc
            obtain ⟨b, hb, _⟩ := hbg i c (houtF_some.1 hc)
            rw [houtF_some.2 hb]; rfl
          have hcross : ∀ {i m : Nat} {p q : Pl}, β1 i = some p → m ∉ all → β m = some q → (H m).isSome = true → p.blk = q.blk → False := by
            intro i m p q g1 g2 g3 g4 g5
            obtain ⟨c, hc⟩ := Option.isSome_iff_exists.1 g4
            have hq := (hH.dom m q g3).2.1
            rcases (hr.dom i p g1).2.2 with h | h
            · have h : w.heap.size ≤ p.blk := h
              omega
            · exact hsep (hnotns g2) g3 hc (g5 ▸ h)
          rcases hcase n with ⟨i, hi⟩ | hn
          · rw [hmix hi] at e1
            rcases hcase m with ⟨j, hj⟩ | hm
            · rw [hmix hj] at e2
              have := hr.inj i j p q e1 e2 (hlive hi h1) (hlive hj h2) hpq
              subst this
              rw [hi] at hj
              exact Option.some.inj hj
            · rw [hmixo hm] at e2
              rw [hoth hm] at h2
              exact (hcross e1 hm e2 h2 hpq).elim
          · rw [hmixo hn] at e1
            rw [hoth hn] at h1
            rcases hcase m with ⟨j, hj⟩ | hm
            · rw [hmix hj] at e2
              exact (hcross e2 hn e1 h1 hpq.symm).elim
            · rw [hmixo hm] at e2
              rw [hoth hm] at h2
              exact hH.inj n m p q e1 e2 h1 h2 hpq
    · cases ho
  · cases ho

theorem callK_sound {E : Env} (hH : RelH cx Wr β H D w) {f nx : Nat} {F : FSem} (hF : FOk E.P f F) {conds : List Bool} {ron rd rd1 : List Nat} {args : List AV} {cargs : List Value} {c : List Nat × List AV × List Blk} {tr : Tr Out} {out : Out}
    (hcan : (canon [] args).run H = some (c, rd1)) (h : (callK F nx conds ron c).run H = some (tr, rd)) (hg : tr.get = some out) (hf : Fresh D out)
    (hX : ∀ X : Nat → Prop, (∀ b, cx.X b → X b) → (∀ n p, n ∈ ron → β n = some p → X p.blk) → (∀ b ∈ conds, b = true) → RelL (now w X) β args cargs) (hro : F.ro = false → ron = []) (hron : ∀ n ∈ ron, (H n).isSome = true) :
    CallOk cx Wr E.P β H D w f cargs out := by
  obtain ⟨ns, vs', bs'⟩ := c
  obtain ⟨_, hnd, hvs, bs, hbl, hbs, hbg⟩ := canon_spec hcan
  have hnd := hnd List.nodup_nil
  unfold callK at h
  split at h
  · rename_i hdis
    split at h
    · rename_i t ht
      obtain rfl := pure_run h
      obtain ⟨hconds, hg⟩ := Tr.needs_get hg
      obtain ⟨⟨v, hout⟩, hg1, hg2⟩ := Tr.map_get hg
      obtain ⟨hfn, hctr⟩ := hF
      have hc := hctr _ _ _ _ _ ht hg1
      have hns : ∀ n ∈ ns, ∃ b, H n = some b := fun n hn => by
        obtain ⟨i, hi, e⟩ := List.getElem_of_mem hn
        obtain ⟨b, hb, _⟩ := hbg i n (by rw [List.getElem?_eq_getElem hi, e])
        exact ⟨b, hb⟩
      refine .inl ⟨hfn, ?_⟩
      -- what the callee may read
      have hXno : ∀ b, cx.X b → b < w.heap.size ∧ ¬ Wc ns β b := fun b hb => by
        obtain ⟨h1, h2⟩ := hH.xok b hb
        refine ⟨by have := hH.size; omega, fun hW => ?_⟩
        obtain ⟨n, p, _, h3, h4⟩ := Wc_of hW
        rcases (hH.dom n p h3).2.2 with h5 | h5
        · omega
        · exact h2 (h4 ▸ h5)
      obtain ⟨X, hXW, hXron, hXs, hXro⟩ : ∃ X : Nat → Prop, (∀ b, cx.X b → X b) ∧ (∀ n p, n ∈ ron → β n = some p → X p.blk) ∧ (∀ b, X b → b < w.heap.size ∧ ¬ Wc ns β b) ∧ (F.ro = false → X = cx.X) := by
        cases hr : F.ro with
        | false =>
          refine ⟨cx.X, fun _ h => h, fun n p hn => ?_, hXno, fun _ => rfl⟩
          rw [hro hr] at hn; cases hn
        | true =>
          refine ⟨fun b => b < w.heap.size ∧ ¬ Wc ns β b, hXno, fun n p hn hp => ⟨(hH.dom n p hp).2.1, fun hW => ?_⟩, fun _ h => h, fun h => by cases h⟩
          obtain ⟨m, q, h1, h2, h3⟩ := Wc_of hW
          obtain ⟨b, hb⟩ := hns m h1
          have := hH.inj n m p q hp h2 (hron n hn) (by rw [hb]; rfl) h3.symm
          exact disjN_spec hdis n hn (this ▸ h1)
      have hin := hH.canon hnd hbl hbs hbg
      obtain ⟨hbl', hbg'⟩ := renBs_get hbs
      have hin' : RelH (now w X) (Wc ns β) (subM ns β) (hinF bs') (fun n => n < bs'.length) w := by
        refine ⟨Nat.le_refl _, fun _ _ _ => rfl, hXs, fun n p e => ?_, fun n p cs e hc => ?_, hin.wf, fun n cs e => (List.getElem?_eq_some_iff.1 e).1, hin.inj, rfl, rfl, rfl⟩
        · obtain ⟨h1, h2, h3⟩ := hin.dom n p e
          exact ⟨by rw [hbl', hbl]; exact h1, h2, .inr ⟨n, p, e, rfl⟩⟩
        · obtain ⟨c, T, fr, g1, g2, g3, l, g4, g5⟩ := hin.held n p cs e hc
          exact ⟨c, T, fr, g1, g2, g3, l, g4.to (.inr (hH.imp hXW)), g5⟩
      refine (hc w X (Wc ns β) (subM ns β) cargs hin' (renL_rel (subM_ren ns β) hvs (hX X hXW hXron hconds))).mono ?_
      rintro e w' ⟨cv, β1, rfl, h1, h2, h3⟩
      exact ⟨cv, rfl, call_post hH hnd hns hXW hXro h1 h2 h3 hg2 hf⟩
    · exact (fail_run h).elim
  · exact (fail_run h).elim

theorem RM.run_reads {α : Type} {H : Nat → Option Blk} : ∀ {m : RM α} {a : α} {rd : List Nat}, m.run H = some (a, rd) → ∀ n ∈ rd, (H n).isSome = true
  | .pure _, a, rd, h, n, hn => by
    simp only [RM.run, Option.some.injEq, Prod.mk.injEq] at h
    rw [← h.2] at hn; cases hn
  | .fail, a, rd, h, _, _ => by simp [RM.run] at h
  | .look m k, a, rd, h, n, hn => by
    obtain ⟨b, l, hb, hk, rfl⟩ := RM.run_look h
    rcases List.mem_cons.1 hn with rfl | hn
    · rw [hb]; rfl
    · exact RM.run_reads hk n hn

theorem callSem_sound {E : Env} (hE : EnvOk E) (hH : RelH cx Wr β H D w) {f nx : Nat} {ts : List TypeId} {args : List AV} {cargs : List Value} {tr : Tr Out} {rd : List Nat} {out : Out} (h : (callSem E f ts nx args).run H = some (tr, rd)) (hg : tr.get = some out)
    (hf : Fresh D out) (hl : RelL cx β args cargs) : CallOk cx Wr E.P β H D w f cargs out := by
  unfold callSem at h
  split at h
  · rename_i F hF
    have hFok := hE.fs f F hF
    split at h
    · rename_i hro
      obtain ⟨⟨⟨conds, args'⟩, ron⟩, l1, l2, h1, h2, rfl⟩ := RM.run_bind h
      obtain ⟨rfl, h3⟩ := RM.tr_run h1
      obtain ⟨c, l3, l4, h4, h5, rfl⟩ := RM.run_bind h2
      refine callK_sound hH hFok h4 h5 hg hf (fun X hX1 hX2 hX3 => ?_) (fun h => by rw [hro] at h; cases h) (RM.run_reads h3)
      exact roArgs_rel hH hX1 hl h3 hX3 hX2
    · rename_i hro
      obtain ⟨c, l3, l4, h4, h5, rfl⟩ := RM.run_bind h
      refine callK_sound hH hFok h4 h5 hg hf (fun X hX1 hX2 hX3 => ?_) (fun _ => rfl) (fun n hn => by cases hn)
      exact hl.to (hH.imp hX1)
  · split at h
    · rename_i F hF
      split at h
      · rename_i t ht
        obtain rfl := pure_run h
        obtain ⟨v, hv1, hv2⟩ := Tr.map_get hg
        split at hv2
        · rename_i hrefs
          simp only [Option.some.injEq] at hv2
          subst hv2
          obtain ⟨cv, h1, h2⟩ := hE.xs f F hF args t v ht hv1 cx β w cargs hl
          exact .inr ⟨cv, h1, post_val hH h2⟩
        · cases hv2
      · exact (fail_run h).elim
    · exact (fail_run h).elim

end
end Go.Proofs.Ytgebgjhjegadpaa

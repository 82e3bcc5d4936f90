/-
  The abstract machine: code, sound.
-/
import Derived.Test.YtgebgjhjegadpaaAbX
import Derived.LoopN
namespace Go.Proofs.Ytgebgjhjegadpaa
open Go

def exOf : Ex → Exit
  | .normal => .normal
  | .exit id => .exit id
  | .ret => .ret

/-- What is known of a loop as a whole. -/
def LOk (P : Program) (N : Nat) (c : Code) (L : LSem) : Prop :=
  ∀ args hin t e vs hout, L.run args hin = some t → t.get = some (e, vs, hout) →
    ∀ (w : World) (X Wr : Nat → Prop) (β : Bm) (a : Act) (Q : Exit → Act → World → Prop), RelH (now w X) Wr β (hinF hin) (fun n => n < hin.length) w → RelL (now w X) β args (L.tin.map fun t => a.tmps.getD t undef) → a.defers = [] → a.tmps.size = N →
      (∀ β' a' w', Ext β β' → RelH (now w X) Wr β' (houtF hout) (fun n => n < hout.length) w' → RelL (now w X) β' vs (L.tout.map fun t => a'.tmps.getD t undef) → a'.defers = [] → a'.tmps.size = N →
        (∀ t, hasBit (wrCode c) t = false → a'.tmps.getD t undef = a.tmps.getD t undef) → Q (exOf e) a' w') → c.wp P Q a w

def LoopsOk (P : Program) (L : Lps) : Code → Prop
  | .seq a b => LoopsOk P L a ∧ LoopsOk P L b
  | .cond _ a b => LoopsOk P L a ∧ LoopsOk P L b
  | .block id body => match lkF L.sums id with
    | some S => LOk P L.N (.block id body) S
    | none => LoopsOk P L body
  | .loop body => LoopsOk P L body
  | _ => True

theorem valsT_map {cx : Cx} {β : Bm} {T : List (Nat × AV)} {f : Nat → Value} (h : ∀ t, RelV cx β (lkT T t) (f t)) : ∀ (ts : List Nat), RelL cx β (valsT T ts) (ts.map f)
  | [] => ⟨rfl, fun j v cv e => by simp [valsT] at e⟩
  | t :: ts => by
    obtain ⟨h1, h2⟩ := valsT_map h ts
    refine ⟨by simp [valsT, h1], fun j v cv e1 e2 => ?_⟩
    cases j with
    | zero =>
      simp only [valsT, List.map_cons, List.getElem?_cons_zero, Option.some.injEq] at e1 e2
      subst e1; subst e2
      exact h t
    | succ j => exact h2 j v cv (by simpa [valsT] using e1) (by simpa using e2)

theorem putTs_rel {cx : Cx} {β : Bm} {f : Nat → Value} : ∀ {ts : List Nat} {vs : List AV} {T : List (Nat × AV)}, (∀ t, RelV cx β (lkT T t) (f t)) → RelL cx β vs (ts.map f) → ∀ t, RelV cx β (lkT (putTs ts vs T) t) (f t)
  | [], vs, T, h, _, t => by cases vs <;> exact h t
  | u :: ts, [], T, h, _, t => h t
  | u :: ts, v :: vs, T, h, ⟨h1, h2⟩, t => by
    refine putTs_rel (ts := ts) (vs := vs) (fun t => ?_) ⟨by simpa using h1, fun j v cv e1 e2 => h2 (j + 1) v cv (by simpa using e1) (by simpa using e2)⟩ t
    rw [lkT_up]
    split
    · rename_i e; subst e; exact h2 0 v (f u) rfl rfl
    · exact h t

theorem forgetT_get (dk : Nat → Bool) : ∀ (T : List (Nat × AV)) (t : Nat), lkT (forgetT dk T) t = if dk t then .any else lkT T t
  | [], t => by simp [forgetT, lkT]
  | (u, v) :: T, t => by
    unfold forgetT
    split
    · rename_i hu
      rw [forgetT_get dk T t]
      by_cases h : u = t
      · subst h; simp [hu]
      · simp [lkT, beq_false h]
    · rename_i hu
      by_cases h : u = t
      · subst h; simp [lkT, hu]
      · simp only [lkT, beq_false h]; exact forgetT_get dk T t

theorem maskOk_spec {dk : Nat → Bool} : ∀ {n m : Nat}, maskOk dk n m = true → ∀ t, t < n → hasBit m t = true → dk t = true
  | 0, m, _, t, h, _ => by omega
  | n + 1, m, h, t, ht, hb => by
    unfold maskOk at h
    split at h
    · rename_i hn
      by_cases e : t = n
      · subst e; simpa [hb] using hn
      · exact maskOk_spec h t (by omega) hb
    · cases h

theorem RelL1.of {cx : Cx} {β : Bm} : ∀ {vs : List AV} {l : List Value}, noTup vs = true → RelL cx β vs l → RelL1 cx β vs l
  | [], l, _, h => by
    have := h.1
    simp at this
    exact List.length_eq_zero_iff.1 this.symm
  | v :: vs, [], _, h => by have := h.1; simp at this
  | v :: vs, cv :: l, hn, h => by
    have h0 := h.2 0 v cv rfl rfl
    have hr : RelL cx β vs l := ⟨by simpa using h.1, fun j u cu e1 e2 => h.2 (j + 1) u cu (by simpa using e1) (by simpa using e2)⟩
    cases v with
    | tup _ => cases hn
    | any => exact ⟨cv, l, rfl, h0, RelL1.of hn hr⟩
    | s _ => exact ⟨cv, l, rfl, h0, RelL1.of hn hr⟩
    | agg _ => exact ⟨cv, l, rfl, h0, RelL1.of hn hr⟩

theorem RelL.of1 {cx : Cx} {β : Bm} : ∀ {vs : List AV} {l : List Value}, RelL1 cx β vs l → RelL cx β vs l
  | [], l, h => by have h : l = [] := h; subst h; exact ⟨rfl, fun j v cv e => by simp at e⟩
  | v :: vs, l, ⟨cv, l', e, h1, h2⟩ => by
    subst e
    obtain ⟨a1, a2⟩ := RelL.of1 h2
    refine ⟨by simp [a1], fun j u cu e1 e2 => ?_⟩
    cases j with
    | zero =>
      simp only [List.getElem?_cons_zero, Option.some.injEq] at e1 e2
      subst e1; subst e2
      exact RelV.of1 h1
    | succ j => exact a2 j u cu (by simpa using e1) (by simpa using e2)

section
variable {X : Kit} {C : C0} {a : Act} {w : World}

theorem evSum_sound {R : Type} {N id : Nat} {body : Code} {L : LSem} {s : St} {K : Ex → St → Option R} {res : R} {Q : Exit → Act → World → Prop} (hX : KitOk X C) (hN : N = C.N) (hL : LOk X.E.P N (.block id body) L) (h : evSum X N (wrCode body) L s K = some res) (hI : RelSt C s a w)
    (hQ : ∀ e s' a' w', K e s' = some res → RelSt C s' a' w' → Q (exOf e) a' w') : (Code.block id body).wp X.E.P Q a w := by
  subst hN
  unfold evSum at h
  split at h
  rotate_left
  · cases h
  rename_i hmask
  rw [Bool.and_eq_true] at hmask
  obtain ⟨hmask, hbig⟩ := hmask
  have hbig : wrCode body < 2 ^ C.N := Nat.le_of_ble_eq_true hbig
  split at h
  rotate_left
  · cases h
  rename_i c rd hcan
  obtain ⟨ns, vs', bs'⟩ := c
  split at h
  rotate_left
  · cases h
  rename_i tr htr
  obtain ⟨⟨e, s'⟩, hg, hk⟩ := cps_get h
  obtain ⟨⟨e1, vs, hout⟩, hg1, hg2⟩ := Tr.map_get hg
  have hrun := hL _ _ _ _ _ _ htr hg1
  obtain ⟨β, h0, hH, hT, h3, h4, h5⟩ := hI
  obtain ⟨_, hnd, hvs, bs, hbl, hbs, hbg⟩ := canon_spec hcan
  have hnd := hnd List.nodup_nil
  have hns : ∀ n ∈ ns, ∃ b, lkF s.H n = some b := fun n hn => by
    obtain ⟨i, hi, e⟩ := List.getElem_of_mem hn
    obtain ⟨b, hb, _⟩ := hbg i n (by rw [List.getElem?_eq_getElem hi, e])
    exact ⟨b, hb⟩
  have hXno : ∀ b, C.cx.X b → b < w.heap.size ∧ ¬ Wc ns β b := fun b hb => by
    obtain ⟨h1, h2⟩ := hH.xok b hb
    refine ⟨by have := hH.size; omega, fun hW => ?_⟩
    obtain ⟨n, p, _, h3, h4⟩ := Wc_of hW
    rcases (hH.dom n p h3).2.2 with h5 | h5
    · omega
    · exact h2 (h4 ▸ h5)
  have hin := hH.canon hnd hbl hbs hbg
  obtain ⟨hbl', hbg'⟩ := renBs_get hbs
  have hin' : RelH (now w C.cx.X) (Wc ns β) (subM ns β) (hinF bs') (fun n => n < bs'.length) w := by
    refine ⟨Nat.le_refl _, fun _ _ _ => rfl, hXno, fun n p e => ?_, fun n p cs e hc => ?_, hin.wf, fun n cs e => (List.getElem?_eq_some_iff.1 e).1, hin.inj, rfl, rfl, rfl⟩
    · obtain ⟨h1, h2, h3⟩ := hin.dom n p e
      exact ⟨by rw [hbl', hbl]; exact h1, h2, .inr ⟨n, p, e, rfl⟩⟩
    · obtain ⟨c, T, fr, g1, g2, g3, l, g4, g5⟩ := hin.held n p cs e hc
      exact ⟨c, T, fr, g1, g2, g3, l, g4.to (.inr (hH.imp fun _ h => h)), g5⟩
  refine hrun w C.cx.X (Wc ns β) (subM ns β) a Q hin' (renL_rel (subM_ren ns β) hvs ((valsT_map hT L.tin).to (hH.imp fun _ h => h))) h3 h4 ?_
  intro β1 a' w' g1 g2 g3 g4 g5 g6
  unfold afterLoop at hg2
  split at hg2
  rotate_left
  · cases hg2
  rename_i o ho
  split at hg2
  rotate_left
  · cases hg2
  rename_i vs2 hov
  split at hg2
  rotate_left
  · cases hg2
  rename_i hlv hnew
  simp only [Option.some.injEq, Prod.mk.injEq] at hg2
  obtain ⟨rfl, rfl⟩ := hg2
  rw [Bool.and_eq_true] at hlv
  have hfr : Fresh (fun n => n < s.nx) o := fun n hn => by have := newOk_spec hnew hn; omega
  have hnt : RelV (now w C.cx.X) β1 (.tup vs) (.tuple (L.tout.map fun t => a'.tmps.getD t undef).toArray) := by
    -- the values that come back are no tuples: their renamed forms are none
    have hren : ∃ r, renL r vs = some vs2 := by
      unfold callOut at ho
      split at ho
      · split at ho
        · rename_i v1 bs1 hv1 hb1
          split at ho
          · simp only [Option.some.injEq] at ho
            subst ho
            simp only at hov
            subst hov
            simp only [AV.ren] at hv1
            split at hv1
            · rename_i r hr
              simp only [Option.some.injEq, AV.tup.injEq] at hv1
              subst hv1
              exact ⟨_, hr⟩
            · cases hv1
          · cases ho
        · cases ho
      · cases ho
    obtain ⟨r, hr⟩ := hren
    have : ∀ {vs vs2 : List AV}, renL r vs = some vs2 → noTup vs2 = true → noTup vs = true := by
      intro vs
      induction vs with
      | nil => intro _ _ _; rfl
      | cons v vs ih =>
        intro vs2 h hn
        unfold renL at h
        split at h
        · rename_i v1 r1 hv hr1
          cases h
          cases v with
          | tup us =>
            simp only [AV.ren] at hv
            split at hv
            · cases hv; cases hn
            · cases hv
          | any => simp only [AV.ren, Option.some.injEq] at hv; subst hv; exact ih hr1 hn
          | s u =>
            simp only [AV.ren] at hv
            split at hv
            · cases hv; exact ih hr1 hn
            · cases hv
          | agg u =>
            simp only [AV.ren] at hv
            split at hv
            · cases hv; exact ih hr1 hn
            · cases hv
        · cases h
    exact ⟨_, rfl, RelL1.of (this hr hlv.2) g3⟩
  obtain ⟨β2, k1, k2, k3⟩ := call_post hH hnd hns (ro := false) (fun _ h => h) (fun _ => rfl) g1 hnt g2 ho hfr
  rw [hov] at k2
  obtain ⟨l, hl, k2⟩ := k2
  have hl : l = L.tout.map fun t => a'.tmps.getD t undef := by
    have := Value.tuple.inj hl
    exact (List.toArray_inj this).symm
  subst hl
  refine hQ _ _ a' w' hk ⟨β2, h0.trans k1, ?_, fun t => ?_, g4, g5, fun t ht => ?_⟩
  · have e1 : lkF (o.nw ++ upHs o.wr s.H) = happ o (lkF s.H) := by
      funext n
      simp only [lkF_append, happ, lkF_upHs]
      cases lkF o.nw n <;> rfl
    rw [e1]
    refine k3.mono (fun n hn => ?_) (fun _ _ h => h)
    show n < s.nx + o.nw.length
    rcases hn with hn | hn
    · have hn : n < s.nx := hn
      omega
    · have := newOk_spec hnew hn; omega
  · refine putTs_rel (f := fun t => a'.tmps.getD t undef) (fun t => ?_) (RelL.of1 k2) t
    rw [forgetT_get]
    split
    · trivial
    · rename_i hb
      rw [g6 t (by simpa [wrCode] using hb)]
      exact (hT t).ext k1
  · rw [g6 t ?_]
    · exact h5 t ht
    · show hasBit (wrCode body) t = false
      cases hb : hasBit (wrCode body) t with
      | false => rfl
      | true =>
        have hlt : t < C.N := by
          rcases Nat.lt_or_ge t C.N with h | h
          · exact h
          · have : wrCode body < 2 ^ t := Nat.lt_of_lt_of_le hbig (Nat.pow_le_pow_right (by omega) h)
            unfold hasBit at hb
            rw [Nat.testBit_lt_two_pow this] at hb
            cases hb
        rw [(hX.dst t (maskOk_spec hmask t hlt hb)).1] at ht
        cases ht

theorem ev_sound {R : Type} {L : Lps} {res : R} (hX : KitOk X C) (hm : X.E.P.follows .mixedOrders = true) (hN : L.N = C.N) : ∀ (c : Code), LoopsOk X.E.P L c → ∀ {s : St} {K : Ex → St → Option R} {a : Act} {w : World} {Q : Exit → Act → World → Prop}, ev X L c s K = some res → RelSt C s a w →
    (∀ e s' a' w', K e s' = some res → RelSt C s' a' w' → Q (exOf e) a' w') → c.wp X.E.P Q a w := by
  intro c
  induction c with
  | skip => intro _ s K a w Q h hI hQ; exact wp_skip (hQ .normal s a w h hI)
  | region id ops draw =>
    intro _ s K a w Q h hI hQ
    exact evRegion_sound hX hm h hI fun s' a' w' h1 h2 => hQ .normal s' a' w' h1 h2
  | seq x y ihx ihy =>
    intro hL s K a w Q h hI hQ
    refine wp_seq (ihx hL.1 (K := _) h hI ?_)
    intro e s' a' w' h1 h2
    cases e with
    | normal => exact ihy hL.2 h1 h2 hQ
    | exit id => exact hQ _ s' a' w' h1 h2
    | ret => exact hQ _ s' a' w' h1 h2
  | cond o x y ihx ihy =>
    intro hL s K a w Q h hI hQ
    unfold ev at h
    split at h
    · rename_i t ht
      have hc : a.eval o = .bool t := by
        obtain ⟨β, _, _, hT, _⟩ := hI
        have := valF_rel hT o
        rw [← St.val_eq, ht] at this
        exact this
      refine wp_cond_split hc (fun e => ?_) (fun e => ?_)
      · subst e; exact ihx hL.1 h hI hQ
      · subst e; exact ihy hL.2 h hI hQ
    · cases h
  | block id body ih =>
    intro hL s K a w Q h hI hQ
    unfold ev at h
    unfold LoopsOk at hL
    split at h
    · rename_i S hS
      rw [hS] at hL
      exact evSum_sound hX hN hL h hI hQ
    · rename_i hS
      rw [hS] at hL
      refine wp_block (ih hL h hI ?_)
      intro e s' a' w' h1 h2
      cases e with
      | normal => exact hQ .normal s' a' w' h1 h2
      | ret => exact hQ .ret s' a' w' h1 h2
      | exit id' =>
        simp only [exOf, Exit.inBlock]
        by_cases e : id' = id
        · subst e
          rw [if_pos rfl]
          simp only [Nat.beq_refl] at h1
          exact hQ .normal s' a' w' h1 h2
        · rw [if_neg e]
          simp only [beq_false e] at h1
          exact hQ (.exit id') s' a' w' h1 h2
  | loop body ih =>
    intro hL s K a w Q h hI hQ
    have key : ∀ (n : Nat) (s : St) (a : Act) (w : World), iterL (ev X L body) n s K = some res → RelSt C s a w → Code.rounds X.E.P body Q n a w := by
      intro n
      induction n with
      | zero => intro s a w h _; cases h
      | succ n ihn =>
        intro s a w h hI
        refine ih hL (K := _) h hI ?_
        intro e s' a' w' h1 h2
        cases e with
        | normal => exact ihn s' a' w' h1 h2
        | exit id => exact hQ _ s' a' w' h1 h2
        | ret => exact hQ _ s' a' w' h1 h2
    exact wp_loop_rounds L.fuel (key L.fuel s a w h hI)
  | exit id => intro _ s K a w Q h hI hQ; exact wp_exit (hQ (.exit id) s a w h hI)
  | ret => intro _ s K a w Q h hI hQ; exact wp_ret (hQ .ret s a w h hI)
  | _ => intro _ s K a w Q h hI hQ; cases h

end
end Go.Proofs.Ytgebgjhjegadpaa

/-
  The abstract machine: functions and loops, sound.
-/
import Derived.Test.YtgebgjhjegadpaaAbY
namespace Go.Proofs.Ytgebgjhjegadpaa
open Go

section
variable {cx : Cx} {Wr : Nat → Prop} {β : Bm} {H : Nat → Option Blk} {D : Nat → Prop} {w : World} {P : Program}

theorem closeO_spec : ∀ {f i : Nat} {ns ns' : List Nat} {bs : List (Option Blk)}, closeO H f i ns = some (ns', bs) → i ≤ ns.length →
    (∃ s, ns' = ns ++ s) ∧ (ns.Nodup → ns'.Nodup) ∧ i + bs.length = ns'.length ∧ ∀ (j n : Nat), ns'[i + j]? = some n → bs[j]? = some (H n) := by
  intro f
  induction f with
  | zero => intro i ns ns' bs h; cases h
  | succ f ih =>
    intro i ns ns' bs h hi
    unfold closeO at h
    split at h
    · rename_i hn
      simp only [Option.some.injEq, Prod.mk.injEq] at h
      obtain ⟨e1, e2⟩ := h
      subst e2
      have hlen : ns.length ≤ i := List.getElem?_eq_none_iff.1 hn
      refine ⟨⟨[], by simp [e1]⟩, fun h => e1 ▸ h, by rw [← e1]; simp; omega, fun j n e => ?_⟩
      rw [← e1, List.getElem?_eq_none (by omega)] at e
      cases e
    · rename_i n hn
      have hlt := (List.getElem?_eq_some_iff.1 hn).1
      split at h
      · rename_i b hb
        split at h
        · rename_i r hr
          obtain ⟨ns2, bs2⟩ := r
          simp only [Option.some.injEq, Prod.mk.injEq] at h
          obtain ⟨e1, e2⟩ := h
          subst e1; subst e2
          obtain ⟨⟨s, hs⟩, hnd⟩ := insL_spec (refsB b) ns
          obtain ⟨⟨s2, h3⟩, h4, h5, h6⟩ := ih hr (by rw [hs]; simp; omega)
          refine ⟨⟨s ++ s2, by rw [h3, hs, List.append_assoc]⟩, fun h => h4 (hnd h), by simp; omega, fun j m e => ?_⟩
          cases j with
          | zero =>
            rw [h3, hs, List.append_assoc, Nat.add_zero, List.getElem?_append_left hlt, hn] at e
            cases e
            simp [hb]
          | succ j => simpa using h6 j m (by rw [← e]; congr 1; omega)
        · cases h
      · rename_i hb
        split at h
        · rename_i r hr
          obtain ⟨ns2, bs2⟩ := r
          simp only [Option.some.injEq, Prod.mk.injEq] at h
          obtain ⟨e1, e2⟩ := h
          subst e1; subst e2
          obtain ⟨⟨s2, h3⟩, h4, h5, h6⟩ := ih hr (by omega)
          refine ⟨⟨s2, h3⟩, h4, by simp; omega, fun j m e => ?_⟩
          cases j with
          | zero =>
            rw [h3, Nat.add_zero, List.getElem?_append_left hlt, hn] at e
            cases e
            simp [hb]
          | succ j => simpa using h6 j m (by rw [← e]; congr 1; omega)
        · cases h

theorem canonO_rel (hH : RelH cx Wr β H D w) {k : Nat} {vs vs' : List AV} {bs' : List (Option Blk)} {l : List Value} (h : canonO k vs H = some (vs', bs')) (hl : RelL cx β vs l) :
    ∃ β', (∀ i, i < k → β' i = β i) ∧ RelH cx Wr β' (houtF bs') (fun n => n < bs'.length) w ∧ RelL cx β' vs' l := by
  unfold canonO at h
  split at h
  rotate_left
  · cases h
  rename_i r hr
  obtain ⟨ns, bs⟩ := r
  split at h
  rotate_left
  · cases h
  rename_i vs1 bs1 hvs hbs
  simp only [Option.some.injEq, Prod.mk.injEq] at h
  obtain ⟨rfl, rfl⟩ := h
  simp only at hvs hbs
  obtain ⟨⟨s, hs⟩, hnd⟩ := insL_spec (refsL vs) (freshN 0 k)
  obtain ⟨⟨s2, h3⟩, h4, h5, h6⟩ := closeO_spec hr (Nat.zero_le _)
  have hnd := h4 (hnd (freshN_nodup _ _))
  obtain ⟨hbl, hbg⟩ := renOs_get hbs
  have hsub : ∀ {i : Nat} {p : Pl}, subM ns β i = some p → ∃ n, ns[i]? = some n ∧ β n = some p := fun e => subM_get e
  have hlive : ∀ {i : Nat} {c : Blk}, houtF bs1 i = some c → ∃ n b, ns[i]? = some n ∧ H n = some b ∧ renB (idxN ns) b = some c := by
    intro i c hc
    obtain ⟨b, hb, hrb⟩ := hbg i c (houtF_some.1 hc)
    have hi := (List.getElem?_eq_some_iff.1 hb).1
    have hn : ns[i]? = some (ns[i]'(by omega)) := List.getElem?_eq_getElem _
    have := h6 i _ (by rw [Nat.zero_add]; exact hn)
    rw [hb] at this
    exact ⟨_, b, hn, (Option.some.inj this).symm, hrb⟩
  refine ⟨subM ns β, fun i hi => ?_, ⟨hH.size, hH.frame, hH.xok, fun i p e => ?_, fun i p cs e hc => ?_, fun i cs hc => ?_, fun i cs hc => ?_, fun i j p q e1 e2 l1 l2 hpq => ?_, hH.os, hH.tape, hH.output⟩, renL_rel (subM_ren ns β) hvs hl⟩
  · have : ns[i]? = some i := by
      rw [h3, hs, List.append_assoc, List.getElem?_append_left (by rw [freshN_length]; exact hi), freshN_get _ _ _ hi]
      simp
    simp only [subM, this]
  · obtain ⟨n, hn, hp⟩ := hsub e
    have := (List.getElem?_eq_some_iff.1 hn).1
    exact ⟨by omega, (hH.dom n p hp).2⟩
  · obtain ⟨n, hn, hp⟩ := hsub e
    obtain ⟨n', b, hn', hb, hrb⟩ := hlive hc
    rw [hn] at hn'
    cases hn'
    exact (hH.held n p b hp hb).ren (subM_ren ns β) hrb
  · obtain ⟨n', b, hn', hb, hrb⟩ := hlive hc
    exact renB_wf hrb (hH.wf _ _ hb)
  · exact (List.getElem?_eq_some_iff.1 (houtF_some.1 hc)).1
  · obtain ⟨n, hn, hp⟩ := hsub e1
    obtain ⟨m, hm, hq⟩ := hsub e2
    obtain ⟨c1, l1⟩ := Option.isSome_iff_exists.1 l1
    obtain ⟨c2, l2⟩ := Option.isSome_iff_exists.1 l2
    obtain ⟨n', b, hn', hb, _⟩ := hlive l1
    obtain ⟨m', c, hm', hc, _⟩ := hlive l2
    rw [hn] at hn'; cases hn'
    rw [hm] at hm'; cases hm'
    have : n = m := hH.inj n m p q hp hq (by rw [hb]; rfl) (by rw [hc]; rfl) hpq
    subst this
    obtain ⟨a1, a2⟩ := List.getElem?_eq_some_iff.1 hn
    obtain ⟨a3, a4⟩ := List.getElem?_eq_some_iff.1 hm
    exact (List.getElem_inj hnd).1 (a2.trans a4.symm)

theorem zipT_get : ∀ (vs : List AV) (i t : Nat), lkT (zipT i vs) t = if i ≤ t then vs.getD (t - i) .any else .any
  | [], i, t => by simp [zipT, lkT]
  | v :: vs, i, t => by
    simp only [zipT, lkT]
    by_cases h : i = t
    · subst h; simp
    · simp only [beq_false h]
      rw [zipT_get vs (i + 1) t]
      by_cases h' : i ≤ t
      · rw [if_pos (by omega), if_pos h', show t - i = (t - (i + 1)) + 1 by omega]
        simp
      · rw [if_neg (by omega), if_neg h']

theorem zipH_get : ∀ (bs : List (Option Blk)) (i n : Nat), lkF (zipH i bs) n = if i ≤ n then houtF bs (n - i) else none
  | [], i, n => by simp [zipH, lkF, houtF]
  | some b :: bs, i, n => by
    simp only [zipH, lkF]
    by_cases h : i = n
    · subst h; simp [houtF]
    · simp only [beq_false h]
      rw [zipH_get bs (i + 1) n]
      by_cases h' : i ≤ n
      · rw [if_pos (by omega), if_pos h', show n - i = (n - (i + 1)) + 1 by omega]
        simp [houtF]
      · rw [if_neg (by omega), if_neg h']
  | none :: bs, i, n => by
    simp only [zipH]
    rw [zipH_get bs (i + 1) n]
    by_cases h : i = n
    · subst h; rw [if_neg (by omega), if_pos (Nat.le_refl _)]; simp [houtF]
    · by_cases h' : i ≤ n
      · rw [if_pos (by omega), if_pos h', show n - i = (n - (i + 1)) + 1 by omega]
        simp [houtF]
      · rw [if_neg (by omega), if_neg h']

theorem someL_map : ∀ (bs : List Blk), someL bs = bs.map some
  | [] => rfl
  | b :: bs => by simp [someL, someL_map bs]

theorem houtF_someL (bs : List Blk) : houtF (someL bs) = hinF bs := by
  funext n
  unfold houtF hinF
  rw [someL_map, List.getElem?_map]
  cases bs[n]? <;> rfl

theorem zipH_fun (bs : List (Option Blk)) : lkF (zipH 0 bs) = houtF bs := by
  funext n
  rw [zipH_get, if_pos (Nat.zero_le _), Nat.sub_zero]

/-! Results. -/
def resF (tm : Array Value) : ResultVar → Sem Value
  | .tmp t => pure (tm.getD t undef)
  | .cell a t => do loadVar t (← asAddr (tm.getD a undef))

theorem results_eq (fn : Func) (tm : Array Value) : results fn tm = (do
    let vs ← fn.results.mapM (resF tm)
    pure (if h : vs.size = 1 then vs[0] else .tuple vs)) := by
  rfl

theorem resOne_sound {E : Env} {s : St} {tm : Array Value} {r : ResultVar} {tr : Tr AV} {v : AV} (h : resOne E s r = some tr) (hg : tr.get = some v) (hH : RelH cx Wr β (lkF s.H) D w) (hT : ∀ t, RelV cx β (lkT s.T t) (tm.getD t undef)) :
    ∃ β' cv, Ext β β' ∧ RelH cx Wr β' (lkF s.H) D w ∧ RelV cx β' v cv ∧ (resF tm r).run E.P w = .ok cv w := by
  cases r with
  | tmp t =>
    simp only [resOne, Option.some.injEq] at h
    subst h
    simp only [Tr.get, Option.some.injEq] at hg
    subst hg
    exact ⟨β, _, Ext.refl β, hH, hT t, by simp [resF]⟩
  | cell a t =>
    simp only [resOne] at h
    cases hrun : (loadSem E.P t (lkT s.T a)).run (lkF s.H) with
    | none => rw [hrun] at h; cases h
    | some q =>
      obtain ⟨tr0, rd⟩ := q
      rw [hrun] at h
      simp only [Option.some.injEq] at h
      subst h
      obtain ⟨o, ho, hov⟩ := Tr.map_get hg
      split at hov
      · rename_i hw hn
        simp only [Option.some.injEq] at hov
        subst hov
        obtain ⟨cv, h1, β', h2, h3, h4⟩ := loadSem_run (P := E.P) hrun ho hH (hT a)
        have e1 : happ o (lkF s.H) = lkF s.H := by funext n; simp [happ, hn, hw, lkF, wrF]
        have e2 : dapp o D = D := by funext n; simp [dapp, hn, lkF]
        rw [e1, e2] at h4
        refine ⟨β', cv, h2, h4, h3, ?_⟩
        have hp : ∃ p, tm.getD a undef = .pointer (some p) := by
          have hv := hT a
          unfold loadSem at hrun
          split at hrun
          · rename_i b off he
            rw [he] at hv
            obtain ⟨q, _, hv⟩ := hv
            exact ⟨_, hv⟩
          · rename_i c i he
            rw [he] at hv
            obtain ⟨b, o', hv, _⟩ := hv
            exact ⟨_, hv⟩
          · exact (fail_run hrun).elim
        obtain ⟨p, hp⟩ := hp
        rw [hp] at h1
        simp only [resF, hp]
        simpa [Instr.loadAt, Instr.sureAddr, asAddr] using h1
      · cases hov

theorem resAll_sound {R : Type} {E : Env} {s : St} {tm : Array Value} {res : R} : ∀ {rs : List ResultVar} {acc : List AV} {K : List AV → Option R} {β : Bm}, resAll E s rs acc K = some res → RelH cx Wr β (lkF s.H) D w → (∀ t, RelV cx β (lkT s.T t) (tm.getD t undef)) →
    ∃ β' vs cvs, Ext β β' ∧ RelH cx Wr β' (lkF s.H) D w ∧ K (acc ++ vs) = some res ∧ RelL cx β' vs cvs ∧ (rs.mapM (resF tm)).run E.P w = .ok cvs w
  | [], acc, K, β, h, hH, hT => ⟨β, [], [], Ext.refl β, hH, by simpa [resAll] using h, ⟨rfl, fun j v cv e => by simp at e⟩, by simp⟩
  | r :: rs, acc, K, β, h, hH, hT => by
    simp only [resAll] at h
    cases htr : resOne E s r with
    | none => rw [htr] at h; cases h
    | some tr =>
      rw [htr] at h
      obtain ⟨v, hv, hk⟩ := cps_get h
      obtain ⟨β1, cv, h1, h2, h3, h4⟩ := resOne_sound htr hv hH hT
      obtain ⟨β2, vs, cvs, g1, g2, g3, g4, g5⟩ := resAll_sound hk h2 (fun t => (hT t).ext h1)
      refine ⟨β2, v :: vs, cv :: cvs, h1.trans g1, g2, by simpa using g3, ⟨by simp [g4.1], fun j u cu e1 e2 => ?_⟩, ?_⟩
      · cases j with
        | zero =>
          simp only [List.getElem?_cons_zero, Option.some.injEq] at e1 e2
          subst e1; subst e2
          exact h3.ext g1
        | succ j => exact g4.2 j u cu (by simpa using e1) (by simpa using e2)
      · simp [List.mapM_cons, h4, g5]

theorem tupV_rel {vs : List AV} {cvs : List Value} (hn : noTup vs = true) (h : RelL cx β vs cvs) : RelV cx β (tupV vs) (if h : cvs.toArray.size = 1 then cvs.toArray[0] else .tuple cvs.toArray) := by
  have hl := h.1
  rcases vs with _ | ⟨v, _ | ⟨u, vs⟩⟩
  · rw [dif_neg (by simp at hl ⊢; omega)]
    exact ⟨cvs, rfl, RelL1.of hn h⟩
  · rcases cvs with _ | ⟨c, _ | ⟨d, cvs⟩⟩
    · simp at hl
    · exact h.2 0 v c rfl rfl
    · simp at hl
  · rw [dif_neg (by simp at hl ⊢; omega)]
    exact ⟨cvs, rfl, RelL1.of hn h⟩

theorem RelL.one {v : AV} {cv : Value} (h : RelV cx β v cv) : RelL cx β [v] [cv] :=
  ⟨rfl, fun j u cu e1 e2 => by
    cases j with
    | zero =>
      simp only [List.getElem?_cons_zero, Option.some.injEq] at e1 e2
      subst e1; subst e2
      exact h
    | succ j => simp at e1⟩

theorem evBody_sound {X : Kit} {L : Lps} {fn : Func} {c : Code} {f : Nat} {args : List AV} {hin : List Blk} {v : AV} {hout : List (Option Blk)} (hE : EnvOk X.E) (hdk : X.dk = fun d => Nat.blt d fn.ntmps) (hN : L.N = fn.ntmps) (hm : X.E.P.follows .mixedOrders = true)
    (hL : LoopsOk X.E.P L c) (hf : X.E.P.funcs[f]? = some fn) (hb : fn.body = some c) (h : evBody X L fn c args hin = some (v, hout)) : Ctr X.E.P f args hin v hout := by
  intro w Xr Wr β cargs hH hA
  unfold evBody at h
  split at h
  rotate_left
  · cases h
  rename_i hle
  have hle : args.length ≤ fn.ntmps := by rw [← hN]; exact Nat.le_of_ble_eq_true hle
  have hX : KitOk X ⟨now w Xr, Wr, β, fn.ntmps, fun _ => true, fun _ => undef⟩ := ⟨hE, fun d hd => by rw [hdk] at hd; exact ⟨rfl, Nat.le_of_ble_eq_true hd⟩⟩
  have hlen := hA.1
  refine calls_of_wp hf hb (ev_sound hX hm hN c hL h (a := _) ?_ ?_)
  · refine ⟨β, Ext.refl β, ?_, fun t => ?_, rfl, by simp; omega, fun t ht => by cases ht⟩
    · simp only [zipH_fun, houtF_someL]; exact hH
    · simp only [zipT_get, Nat.zero_le, if_true, Nat.sub_zero]
      by_cases ht : t < args.length
      · have h1 : args[t]? = some args[t] := List.getElem?_eq_getElem ht
        have h2 : cargs[t]? = some (cargs[t]'(by omega)) := List.getElem?_eq_getElem _
        have := hA.2 t _ _ h1 h2
        rw [List.getD, h1, Option.getD_some]
        have e : (cargs.toArray ++ Array.replicate (fn.ntmps - cargs.toArray.size) undef).getD t undef = cargs[t]'(by omega) := by
          have : t < cargs.length := by omega
          simp [Array.getD_eq_getD_getElem?, Array.getElem?_append, this]
        rw [e]
        exact this
      · rw [List.getD, List.getElem?_eq_none (by omega), Option.getD_none]
        trivial
  · intro e s a' w' h1 h2
    have key : resAll X.E s fn.results.toList [] (fun vs => match noTup vs with
        | true => match canonO hin.length [tupV vs] (lkF s.H) with
          | some ([v], bs) => some (v, bs)
          | _ => none
        | false => none) = some (v, hout) ∧ (exOf e = .normal ∨ exOf e = .ret) := by
      cases e with
      | normal => exact ⟨h1, .inl rfl⟩
      | ret => exact ⟨h1, .inr rfl⟩
      | exit id => cases h1
    obtain ⟨h1, he⟩ := key
    obtain ⟨β1, g0, gH, gT, g3, _, _⟩ := h2
    obtain ⟨β2, vs, cvs, k1, k2, k3, k4, k5⟩ := resAll_sound (tm := a'.tmps) h1 gH gT
    rw [List.nil_append] at k3
    split at k3
    rotate_left
    · cases k3
    rename_i hnt
    split at k3
    rotate_left
    · cases k3
    rename_i v1 bs1 hcan
    simp only [Option.some.injEq, Prod.mk.injEq] at k3
    obtain ⟨rfl, rfl⟩ := k3
    obtain ⟨β3, q1, q2, q3⟩ := canonO_rel k2 hcan (RelL.one (tupV_rel hnt k4))
    have hres : (results fn a'.tmps).run X.E.P w' = .ok (if h : cvs.toArray.size = 1 then cvs.toArray[0] else .tuple cvs.toArray) w' := by
      rw [results_eq, Array.mapM_eq_mapM_toList]
      simp [k5]
    have hR : ∃ v, (results fn a'.tmps).run X.E.P w' = .ok v w' ∧ (∃ cv β', Ending.returned v = .returned cv ∧ Ext β β' ∧ RelV (now w Xr) β' v1 cv ∧ RelH (now w Xr) Wr β' (houtF bs1) (fun n => n < bs1.length) w') := by
      refine ⟨_, hres, _, β3, rfl, fun n p hn => ?_, q3.2 0 _ _ rfl rfl, q2⟩
      have hlt := (hH.dom n p hn).1
      rw [q1 n hlt]
      exact (g0.trans k1) n p hn
    rcases he with he | he <;> rw [he] <;> exact ⟨g3, hR⟩

/-- A function by what the evaluator says. -/
theorem fok {X : Kit} {L : Lps} {fn : Func} {c : Code} {f : Nat} {F : FSem} (hE : EnvOk X.E) (hdk : X.dk = fun d => Nat.blt d fn.ntmps) (hN : L.N = fn.ntmps) (hm : X.E.P.follows .mixedOrders = true)
    (hL : LoopsOk X.E.P L c) (hf : X.E.P.funcs[f]? = some fn) (hb : fn.body = some c) (hn : fn.name ≠ "runtime.NumGoroutine")
    (h : ∀ args hin t r, F.run args hin = some t → t.get = some r → evBody X L fn c args hin = some r) : FOk X.E.P f F :=
  ⟨⟨fn, c, hf, hb, hn⟩, fun args hin t v hout h1 h2 => evBody_sound hE hdk hN hm hL hf hb (h args hin t (v, hout) h1 h2)⟩

/-! Loops. -/
def exB (id : Nat) : Ex → Option Ex
  | .normal => none
  | .exit j => match Nat.beq j id with
    | true => some .normal
    | false => some (.exit j)
  | .ret => some .ret

theorem loop_ok {X : Kit} {Lp : Lps} {L : LSem} {id N : Nat} {body : Code} (hE : EnvOk X.E) (hdk : ∀ d, X.dk d = true → hasBit (wrCode body) d = true ∧ d < N) (hN : Lp.N = N) (hm : X.E.P.follows .mixedOrders = true) (hLo : LoopsOk X.E.P Lp body)
    (h : ∀ args hin t e vs hout, L.run args hin = some t → t.get = some (e, vs, hout) → ∃ (n : Nat) (A : Nat → List AV × List (Option Blk)) (e' : Ex), A 0 = (args, someL hin) ∧
      (∀ i, i < n → evRound X Lp L hin.length body (A i).1 (A i).2 = some (.normal, A (i + 1))) ∧ evRound X Lp L hin.length body (A n).1 (A n).2 = some (e', vs, hout) ∧ exB id e' = some e) :
    LOk X.E.P N (.block id (.loop body)) L := by
  intro args hin t e vs hout h1 h2 w Xr Wr β a Q hH hA hd hsz hQ
  obtain ⟨n, A, e', hA0, hstep, hlast, hex⟩ := h args hin t e vs hout h1 h2
  refine wp_block (wp_loop_rounds (n + 1) ?_)
  let C : C0 := ⟨now w Xr, Wr, β, N, hasBit (wrCode body), fun t => a.tmps.getD t undef⟩
  have hX : KitOk X C := ⟨hE, hdk⟩
  -- the state at the head of a round
  have hhead : ∀ (i : Nat) (a' : Act) (w' : World) (β' : Bm), Ext β β' → RelH (now w Xr) Wr β' (houtF (A i).2) (fun n => n < (A i).2.length) w' → RelL (now w Xr) β' (A i).1 (L.tin.map fun t => a'.tmps.getD t undef) → a'.defers = [] → a'.tmps.size = N →
      (∀ t, hasBit (wrCode body) t = false → a'.tmps.getD t undef = a.tmps.getD t undef) → RelSt C ⟨putTs L.tin (A i).1 [], zipH 0 (A i).2, (A i).2.length⟩ a' w' := by
    intro i a' w' β' k1 k2 k3 k4 k5 k6
    refine ⟨β', k1, ?_, fun t => ?_, k4, k5, k6⟩
    · simp only [zipH_fun]; exact k2
    · exact putTs_rel (f := fun t => a'.tmps.getD t undef) (fun t => by simp only [lkT]; trivial) k3 t
  have key : ∀ (m i : Nat) (a' : Act) (w' : World) (β' : Bm), i + m = n → Ext β β' → RelH (now w Xr) Wr β' (houtF (A i).2) (fun n => n < (A i).2.length) w' → RelL (now w Xr) β' (A i).1 (L.tin.map fun t => a'.tmps.getD t undef) → a'.defers = [] → a'.tmps.size = N →
      (∀ t, hasBit (wrCode body) t = false → a'.tmps.getD t undef = a.tmps.getD t undef) → Code.rounds X.E.P body (Exit.inBlock id Q) (m + 1) a' w' := by
    have hβ : ∀ n p, β n = some p → n < hin.length := fun n p hn => (hH.dom n p hn).1
    intro m
    induction m with
    | zero =>
      intro i a' w' β' hi k1 k2 k3 k4 k5 k6
      have hi : i = n := by omega
      subst hi
      refine ev_sound hX hm hN body hLo hlast (hhead i a' w' β' k1 k2 k3 k4 k5 k6) ?_
      intro e2 s a2 w2 g1 g2
      split at g1
      rotate_left
      · cases g1
      rename_i r hr
      simp only [Option.some.injEq, Prod.mk.injEq] at g1
      obtain ⟨rfl, rfl, rfl⟩ := g1
      obtain ⟨β2, b0, b1, b2, b3, b4, b5⟩ := g2
      cases e2 with
      | normal => cases hex
      | ret =>
        cases hex
        obtain ⟨β3, q1, q2, q3⟩ := canonO_rel b1 hr (valsT_map b2 L.tout)
        exact hQ β3 a2 w2 (fun n p hn => by rw [q1 n (hβ n p hn)]; exact b0 n p hn) q2 q3 b3 b4 b5
      | exit j =>
        obtain ⟨β3, q1, q2, q3⟩ := canonO_rel b1 hr (valsT_map b2 L.tout)
        have hQ2 := hQ β3 a2 w2 (fun n p hn => by rw [q1 n (hβ n p hn)]; exact b0 n p hn) q2 q3 b3 b4 b5
        unfold exB at hex
        show Exit.inBlock id Q (.exit j) a2 w2
        unfold Exit.inBlock
        by_cases hj : j = id
        · subst hj
          simp only [Nat.beq_refl, Option.some.injEq] at hex
          subst hex
          simp only [if_true]
          exact hQ2
        · simp only [beq_false hj, Option.some.injEq] at hex
          subst hex
          simp only [hj, if_false]
          exact hQ2
    | succ m ih =>
      intro i a' w' β' hi k1 k2 k3 k4 k5 k6
      refine ev_sound hX hm hN body hLo (hstep i (by omega)) (hhead i a' w' β' k1 k2 k3 k4 k5 k6) ?_
      intro e2 s a2 w2 g1 g2
      split at g1
      rotate_left
      · cases g1
      rename_i r hr
      simp only [Option.some.injEq, Prod.mk.injEq] at g1
      obtain ⟨rfl, hr2⟩ := g1
      obtain ⟨β2, b0, b1, b2, b3, b4, b5⟩ := g2
      obtain ⟨β3, q1, q2, q3⟩ := canonO_rel b1 hr (valsT_map b2 L.tin)
      have r1 : (A (i + 1)).1 = r.1 := by rw [← hr2]
      have r2 : (A (i + 1)).2 = r.2 := by rw [← hr2]
      exact ih (i + 1) a2 w2 β3 (by omega) (fun n p hn => by rw [q1 n (hβ n p hn)]; exact b0 n p hn) (by rw [r2]; exact q2) (by rw [r1]; exact q3) b3 b4 b5
  refine key n 0 a w β (by omega) (Ext.refl β) ?_ ?_ hd hsz (fun _ _ => rfl)
  · rw [hA0]; simp only [someL_map, List.length_map]; rw [← someL_map, houtF_someL]; exact hH
  · rw [hA0]; exact hA

end
end Go.Proofs.Ytgebgjhjegadpaa

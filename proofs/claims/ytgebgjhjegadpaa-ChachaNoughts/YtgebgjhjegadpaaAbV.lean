/-
  The abstract machine: regions, sound.
-/
import Derived.Test.YtgebgjhjegadpaaAbU
namespace Go.Proofs.Ytgebgjhjegadpaa
open Go

/-- What stays while a body runs. -/
structure C0 where
  cx : Cx
  Wr : Nat → Prop
  β0 : Bm
  N : Nat
  ok : Nat → Bool
  old : Nat → Value

def RelA (C : C0) (T : Nat → AV) (H : Nat → Option Blk) (D : Nat → Prop) (a : Act) (w : World) : Prop :=
  ∃ β, Ext C.β0 β ∧ RelH C.cx C.Wr β H D w ∧ (∀ t, RelV C.cx β (T t) (a.tmps.getD t undef)) ∧ a.defers = [] ∧ a.tmps.size = C.N ∧ ∀ t, C.ok t = false → a.tmps.getD t undef = C.old t

structure KitOk (X : Kit) (C : C0) : Prop where
  env : EnvOk X.E
  dst : ∀ d, X.dk d = true → C.ok d = true ∧ d < C.N

section
variable {X : Kit} {C : C0} {ops : Array Oper} {T : Nat → AV} {H : Nat → Option Blk} {D : Nat → Prop} {a : Act} {w : World}

theorem RelA.drew (h : RelA C T H D a w) : RelA C T H D a w.drew := by
  obtain ⟨β, h1, h2, h3⟩ := h
  exact ⟨β, h1, h2.drew, h3⟩

theorem RelA.weaken (h : RelA C T H D a w) {D' : Nat → Prop} (hD : ∀ n, D n → D' n) : RelA C T H D' a w := by
  obtain ⟨β, h1, h2, h3⟩ := h
  exact ⟨β, h1, h2.mono hD (fun _ _ h => h), h3⟩

theorem valF_rel {cx : Cx} {β : Bm} (h : ∀ t, RelV cx β (T t) (a.tmps.getD t undef)) (x : Operand) : RelV cx β (valF T x) (a.eval x) := by
  cases x with
  | tmp t => exact h t
  | const v => exact litAV_rel v β
  | global g => trivial
  | func f => trivial

theorem put_getD (a : Act) (d : Option Nat) (cv : Value) (t : Nat) : (a.put d cv).tmps.getD t undef = if d = some t ∧ t < a.tmps.size then cv else a.tmps.getD t undef := by
  unfold Act.put
  cases d with
  | none => simp
  | some d =>
    simp only [Option.some.injEq]
    by_cases h : d = t
    · subst h
      by_cases hlt : d < a.tmps.size
      · simp [hlt]
      · simp [hlt]
    · rw [if_neg (fun e => h e.1)]
      simp [Array.getElem?_setIfInBounds_ne h]

theorem RelA.put (hX : KitOk X C) {β : Bm} {d : Option Nat} (hd : dstOk X.dk d = true) {v : AV} {cv : Value} {H' : Nat → Option Blk} {D' : Nat → Prop} {w' : World} (h0 : Ext C.β0 β) (h1 : RelH C.cx C.Wr β H' D' w') (h2 : ∀ t, RelV C.cx β (T t) (a.tmps.getD t undef))
    (h3 : a.defers = []) (h4 : a.tmps.size = C.N) (h5 : ∀ t, C.ok t = false → a.tmps.getD t undef = C.old t) (hv : RelV C.cx β v cv) : RelA C (putF d v T) H' D' (a.put d cv) w' := by
  have hdd : ∀ t, d = some t → C.ok t = true ∧ t < C.N := fun t e => by subst e; exact hX.dst t hd
  refine ⟨β, h0, h1, fun t => ?_, ?_, ?_, fun t ht => ?_⟩
  · rw [put_getD]
    unfold putF
    by_cases e : d = some t
    · rw [if_pos e, if_pos ⟨e, by rw [h4]; exact (hdd t e).2⟩]; exact hv
    · rw [if_neg e, if_neg (fun h => e h.1)]; exact h2 t
  · unfold Act.put; cases d <;> exact h3
  · unfold Act.put; cases d
    · exact h4
    · simpa using h4
  · rw [put_getD, if_neg, h5 t ht]
    intro e
    rw [(hdd t e.1).1] at ht
    cases ht

/-- A tmp that an operation looks at. -/
def Looks (ops : Array Oper) (o : Oper) (t : Nat) : Prop := .tmp t ∈ o.op.operands ∨ guardDst ops o = some t

theorem guard_wanted {o : Oper} {b : Bool} (hg : GuardIs ops o T b) {cx : Cx} {β : Bm} (h : ∀ t, RelV cx β (T t) (a.tmps.getD t undef)) : Region.wanted o (yielded ops a.tmps) = b := by
  unfold GuardIs at hg
  unfold Region.wanted
  cases hgu : o.guard with
  | none => rw [hgu] at hg; exact hg.symm
  | some gw =>
    obtain ⟨g, want⟩ := gw
    rw [hgu] at hg
    obtain ⟨d, c, h1, h2, rfl⟩ := hg
    have hv := h d
    rw [h2] at hv
    have hv : a.tmps.getD d undef = .bool c := hv
    have hy : yielded ops a.tmps g = some c := by
      unfold guardDst at h1
      rw [hgu] at h1
      cases hog : ops[g]? with
      | none => simp [hog] at h1
      | some og =>
        simp only [hog] at h1
        have hsome : a.tmps[d]? = some (.bool c) := by
          cases he : a.tmps[d]? with
          | none => simp [Array.getD_eq_getD_getElem?, he, undef] at hv
          | some x => simp [Array.getD_eq_getD_getElem?, he] at hv; rw [hv]
        simp [yielded, hog, h1, hsome]
    simp only [hy]
    cases c <;> cases want <;> rfl

theorem step_at (hX : KitOk X C) {prs : List Pr} {S : Nat → Bool} {j : Nat} {o : Oper} {r : Did} {D0 : Nat → Prop} {nxj : Nat} {K : Act → World → Prop} {Q : Exit → Act → World → Prop}
    (ho : ops[j]? = some o) (hp : prs[j]? = some (o, r)) (hSj : S j = false)
    (hst : Step X ops o (selT (fun k => decide (k < j)) 0 prs T) (selH (fun k => decide (k < j)) 0 prs H) nxj r)
    (hT : ∀ t, Looks ops o t → selT S 0 prs T t = selT (fun k => decide (k < j)) 0 prs T t)
    (hH : ∀ n, n ∈ r.rd → selH S 0 prs H n = selH (fun k => decide (k < j)) 0 prs H n)
    (hfr : ∀ n, (lkF r.out.nw n).isSome = true → ¬ selD S prs D0 n)
    (haT : ∀ t, o.dst = some t → ∀ (k : Nat) (p : Pr), j < k → prs[k]? = some p → S k = true → p.1.dst ≠ some t)
    (haH : ∀ n, n ∈ r.tch → ∀ (k : Nat) (p : Pr), j < k → prs[k]? = some p → S k = true → n ∉ p.2.tch)
    (hI : RelA C (selT S 0 prs T) (selH S 0 prs H) (selD S prs D0) a w)
    (hK : ∀ (S' : Nat → Bool) a' w', (∀ k, S' k = (S k || k == j)) → RelA C (selT S' 0 prs T) (selH S' 0 prs H) (selD S' prs D0) a' w' → K a' w') :
    wpOp X.E.P ops Q j K a w := by
  obtain ⟨β, h0, h1, h2, h3, h4, h5⟩ := hI
  have hguard : ∀ b, GuardIs ops o (selT (fun k => decide (k < j)) 0 prs T) b → GuardIs ops o (selT S 0 prs T) b := by
    intro b hb
    unfold GuardIs at hb ⊢
    cases hg : o.guard with
    | none => rw [hg] at hb; exact hb
    | some gw =>
      obtain ⟨g, want⟩ := gw
      rw [hg] at hb
      obtain ⟨d, c, e1, e2, e3⟩ := hb
      exact ⟨d, c, e1, by rw [hT d (.inr e1)]; exact e2, e3⟩
  -- the state behind it
  have hafter : ∀ (S' : Nat → Bool), (∀ k, S' k = (S k || k == j)) → selT S' 0 prs T = putF o.dst r.out.v (selT S 0 prs T) ∧ selH S' 0 prs H = happ r.out (selH S 0 prs H) ∧ ∀ n, dapp r.out (selD S prs D0) n → selD S' prs D0 n := by
    intro S' hS'
    have hne : ∀ k, k ≠ j → S' k = S k := fun k hk => by rw [hS' k]; simp [hk]
    have hj : S' j = true := by rw [hS' j]; simp
    refine ⟨?_, ?_, fun n hn => ?_⟩
    · funext t
      rw [selT_get]
      unfold putF
      by_cases e : o.dst = some t
      · rw [if_pos e]
        refine selV_last (j := j) (by rw [List.getElem?_map, hp]; simp [updT, e]) (by rw [Nat.zero_add]; exact hj) fun k u hk hu => ?_
        rw [List.getElem?_map, Option.map_eq_some_iff] at hu
        obtain ⟨p, hpk, hu⟩ := hu
        rw [Nat.zero_add, hne k (by omega)]
        cases hSk : S k with
        | false => rfl
        | true =>
          have := haT t e k p hk hpk hSk
          simp [updT, this] at hu
      · rw [if_neg e, selT_get]
        refine selV_congr fun k u hu => ?_
        rw [List.getElem?_map, Option.map_eq_some_iff] at hu
        obtain ⟨p, hpk, hu⟩ := hu
        rw [Nat.zero_add]
        refine hne k fun ek => ?_
        subst ek
        rw [hp] at hpk
        cases hpk
        simp [updT, e] at hu
    · funext n
      rw [selH_get, happ_updH (o, r)]
      cases hu : updH n (o, r) with
      | some c =>
        refine selV_last (j := j) (by rw [List.getElem?_map, hp]; simp [hu]) (by rw [Nat.zero_add]; exact hj) fun k u hk huk => ?_
        rw [List.getElem?_map, Option.map_eq_some_iff] at huk
        obtain ⟨p, hpk, huk⟩ := huk
        rw [Nat.zero_add, hne k (by omega)]
        cases hSk : S k with
        | false => rfl
        | true => exact absurd (updH_touch (by rw [huk]; rfl)) (haH n (updH_touch (p := (o, r)) (by rw [hu]; rfl)) k p hk hpk hSk)
      | none =>
        rw [Option.getD_none, selH_get]
        refine selV_congr fun k u huk => ?_
        rw [List.getElem?_map, Option.map_eq_some_iff] at huk
        obtain ⟨p, hpk, huk⟩ := huk
        rw [Nat.zero_add]
        refine hne k fun ek => ?_
        subst ek
        rw [hp] at hpk
        cases hpk
        rw [hu] at huk
        cases huk
    · rcases hn with (h | ⟨k, p, e1, e2, e3⟩) | h
      · exact .inl h
      · exact .inr ⟨k, p, e1, by rw [hS' k, e2]; rfl, e3⟩
      · exact .inr ⟨j, (o, r), hp, hj, h⟩
  have hS' : ∀ k, (fun k => S k || k == j) k = (S k || k == j) := fun _ => rfl
  obtain ⟨e1, e2, e3⟩ := hafter _ hS'
  have hnext : ∀ cv w', Post C.cx C.Wr β (selH S 0 prs H) (selD S prs D0) r.out cv w' → K (a.put o.dst cv) w' := by
    intro cv w' ⟨β', g1, g2, g3⟩
    refine hK _ _ _ hS' ?_
    rw [e1, e2]
    exact RelA.put hX hst.1 (h0.trans g1) (g3.mono e3 (fun _ _ h => h)) (fun t => (h2 t).ext g1) h3 h4 h5 g2
  unfold wpOp
  simp only [ho]
  rcases hst.2 with ⟨hg, tr, hrun, hget, hnew⟩ | ⟨hg, hr⟩
  · rw [guard_wanted (hguard _ hg) h2]
    simp only [if_true]
    refine .inl ?_
    have hcongr : opSem X.E X.m (valF (selT (fun k => decide (k < j)) 0 prs T)) nxj o.op = opSem X.E X.m (valF (selT S 0 prs T)) nxj o.op := opSem_congr _ fun x hx => by
      cases x with
      | tmp t => exact (hT t (.inl hx)).symm
      | _ => rfl
    rw [hcongr] at hrun
    have hrun := RM.run_agree hrun hH
    refine op_sound (valF_rel h2) hrun hget h1 hfr ?_ hnext
    intro f ts args cargs tr' rd' g1 g2 g3 g4
    exact callSem_sound hX.env h1 g1 g2 hfr ⟨g3, g4⟩
  · rw [guard_wanted (hguard _ hg) h2]
    simp only [Bool.false_eq_true, if_false]
    subst hr
    exact hnext undef w (post_val h1 (v := .any) trivial)

end
end Go.Proofs.Ytgebgjhjegadpaa

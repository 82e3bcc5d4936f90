/-
  Part 3 of what the last text stands on: The abstract machine: regions, sound.
-/
import Derived.Test.YtmkhbgklclhmgaaB2
import Derived.LoopN
import Derived.ProofKit
import Derived.OpenShut
import Derived.Test.YtmkhbgklclhmgaaRows

set_option linter.unusedSimpArgs false
set_option linter.unusedVariables false

namespace Go.Proofs.Ytmkhbgklclhmgaa
open Go

/-- What stays while a body runs. -/
structure C0 where
  cx : Cx
  Wr : Nat → Prop
  β0 : Bm
  N : Nat
  ok : Nat → Bool
  old : Nat → Value

def RelA (C : C0) (T : Nat → AV) (H : Nat → Option Blk) (D : Nat → Prop) (a : Act) (w : World) : Prop :=
  ∃ β, Ext C.β0 β ∧ RelH C.cx C.Wr β H D w ∧ (∀ t, RelV C.cx β (T t) (a.tmps.getD t undef)) ∧ a.defers = [] ∧ a.tmps.size = C.N ∧ ∀ t, C.ok t = false → a.tmps.getD t undef = C.old t

structure KitOk (X : Kit) (C : C0) : Prop where
  env : EnvOk X.E
  dst : ∀ d, X.dk d = true → C.ok d = true ∧ d < C.N

section
variable {X : Kit} {C : C0} {ops : Array Oper} {T : Nat → AV} {H : Nat → Option Blk} {D : Nat → Prop} {a : Act} {w : World}

theorem RelA.drew (h : RelA C T H D a w) : RelA C T H D a w.drew := by
  obtain ⟨β, h1, h2, h3⟩ := h
  exact ⟨β, h1, h2.drew, h3⟩

theorem RelA.weaken (h : RelA C T H D a w) {D' : Nat → Prop} (hD : ∀ n, D n → D' n) : RelA C T H D' a w := by
  obtain ⟨β, h1, h2, h3⟩ := h
  exact ⟨β, h1, h2.mono hD (fun _ _ h => h), h3⟩

theorem valF_rel {cx : Cx} {β : Bm} (h : ∀ t, RelV cx β (T t) (a.tmps.getD t undef)) (x : Operand) : RelV cx β (valF T x) (a.eval x) := by
  cases x with
  | tmp t => exact h t
  | const v => exact litAV_rel v β
  | global g => trivial
  | func f => trivial

theorem put_getD (a : Act) (d : Option Nat) (cv : Value) (t : Nat) : (a.put d cv).tmps.getD t undef = if d = some t ∧ t < a.tmps.size then cv else a.tmps.getD t undef := by
  unfold Act.put
  cases d with
  | none => simp
  | some d =>
    simp only [Option.some.injEq]
    by_cases h : d = t
    · subst h
      by_cases hlt : d < a.tmps.size
      · simp [hlt]
      · simp [hlt]
    · rw [if_neg (fun e => h e.1)]
      simp [Array.getElem?_setIfInBounds_ne h]

theorem RelA.put (hX : KitOk X C) {β : Bm} {d : Option Nat} (hd : dstOk X.dk d = true) {v : AV} {cv : Value} {H' : Nat → Option Blk} {D' : Nat → Prop} {w' : World} (h0 : Ext C.β0 β) (h1 : RelH C.cx C.Wr β H' D' w') (h2 : ∀ t, RelV C.cx β (T t) (a.tmps.getD t undef))
    (h3 : a.defers = []) (h4 : a.tmps.size = C.N) (h5 : ∀ t, C.ok t = false → a.tmps.getD t undef = C.old t) (hv : RelV C.cx β v cv) : RelA C (putF d v T) H' D' (a.put d cv) w' := by
  have hdd : ∀ t, d = some t → C.ok t = true ∧ t < C.N := fun t e => by subst e; exact hX.dst t hd
  refine ⟨β, h0, h1, fun t => ?_, ?_, ?_, fun t ht => ?_⟩
  · rw [put_getD]
    unfold putF
    by_cases e : d = some t
    · rw [if_pos e, if_pos ⟨e, by rw [h4]; exact (hdd t e).2⟩]; exact hv
    · rw [if_neg e, if_neg (fun h => e h.1)]; exact h2 t
  · unfold Act.put; cases d <;> exact h3
  · unfold Act.put; cases d
    · exact h4
    · simpa using h4
  · rw [put_getD, if_neg, h5 t ht]
    intro e
    rw [(hdd t e.1).1] at ht
    cases ht

/-- A tmp that an operation looks at. -/
def Looks (ops : Array Oper) (o : Oper) (t : Nat) : Prop := .tmp t ∈ o.op.operands ∨ guardDst ops o = some t

theorem guard_wanted {o : Oper} {b : Bool} (hg : GuardIs ops o T b) {cx : Cx} {β : Bm} (h : ∀ t, RelV cx β (T t) (a.tmps.getD t undef)) : Region.wanted o (yielded ops a.tmps) = b := by
  unfold GuardIs at hg
  unfold Region.wanted
  cases hgu : o.guard with
  | none => rw [hgu] at hg; exact hg.symm
  | some gw =>
    obtain ⟨g, want⟩ := gw
    rw [hgu] at hg
    obtain ⟨d, h1, ⟨c, h2, rfl⟩ | ⟨h2, rfl⟩⟩ := hg
    rotate_left
    · have hv := h d
      rw [h2] at hv
      obtain ⟨l, hv, hl⟩ := hv
      have hl : l = [] := hl
      subst hl
      have hy : yielded ops a.tmps g = none := by
        unfold guardDst at h1
        rw [hgu] at h1
        cases hog : ops[g]? with
        | none => simp [hog] at h1
        | some og =>
          simp only [hog] at h1
          unfold yielded
          simp only [hog, Option.bind_some, h1]
          cases he : a.tmps[d]? with
          | none => rfl
          | some x =>
            have : x = .tuple #[] := by
              simp [Array.getD_eq_getD_getElem?, he] at hv
              exact hv
            subst this
            rfl
      simp only [hy]
      cases want <;> rfl
    have hv := h d
    rw [h2] at hv
    have hv : a.tmps.getD d undef = .bool c := hv
    have hy : yielded ops a.tmps g = some c := by
      unfold guardDst at h1
      rw [hgu] at h1
      cases hog : ops[g]? with
      | none => simp [hog] at h1
      | some og =>
        simp only [hog] at h1
        have hsome : a.tmps[d]? = some (.bool c) := by
          cases he : a.tmps[d]? with
          | none => simp [Array.getD_eq_getD_getElem?, he, undef] at hv
          | some x => simp [Array.getD_eq_getD_getElem?, he] at hv; rw [hv]
        simp [yielded, hog, h1, hsome]
    simp only [hy]
    cases c <;> cases want <;> rfl

theorem step_at (hX : KitOk X C) {prs : List Pr} {S : Nat → Bool} {j : Nat} {o : Oper} {r : Did} {D0 : Nat → Prop} {nxj : Nat} {K : Act → World → Prop} {Q : Exit → Act → World → Prop}
    (ho : ops[j]? = some o) (hp : prs[j]? = some (o, r)) (hSj : S j = false)
    (hst : Step X ops o (selT (fun k => decide (k < j)) 0 prs T) (selH (fun k => decide (k < j)) 0 prs H) nxj r)
    (hT : ∀ t, Looks ops o t → selT S 0 prs T t = selT (fun k => decide (k < j)) 0 prs T t)
    (hH : ∀ n, n ∈ r.rd → selH S 0 prs H n = selH (fun k => decide (k < j)) 0 prs H n)
    (hfr : ∀ n, (lkF r.out.nw n).isSome = true → ¬ selD S prs D0 n)
    (haT : ∀ t, o.dst = some t → ∀ (k : Nat) (p : Pr), j < k → prs[k]? = some p → S k = true → p.1.dst ≠ some t)
    (haH : ∀ n, n ∈ r.tch → ∀ (k : Nat) (p : Pr), j < k → prs[k]? = some p → S k = true → n ∉ p.2.tch)
    (hI : RelA C (selT S 0 prs T) (selH S 0 prs H) (selD S prs D0) a w)
    (hK : ∀ (S' : Nat → Bool) a' w', (∀ k, S' k = (S k || k == j)) → RelA C (selT S' 0 prs T) (selH S' 0 prs H) (selD S' prs D0) a' w' → K a' w') :
    wpOp X.E.P ops Q j K a w := by
  obtain ⟨β, h0, h1, h2, h3, h4, h5⟩ := hI
  have hguard : ∀ b, GuardIs ops o (selT (fun k => decide (k < j)) 0 prs T) b → GuardIs ops o (selT S 0 prs T) b := by
    intro b hb
    unfold GuardIs at hb ⊢
    cases hg : o.guard with
    | none => rw [hg] at hb; exact hb
    | some gw =>
      obtain ⟨g, want⟩ := gw
      rw [hg] at hb
      obtain ⟨d, e1, e2⟩ := hb
      exact ⟨d, e1, by rw [hT d (.inr e1)]; exact e2⟩
  -- the state behind it
  have hafter : ∀ (S' : Nat → Bool), (∀ k, S' k = (S k || k == j)) → selT S' 0 prs T = putF o.dst r.out.v (selT S 0 prs T) ∧ selH S' 0 prs H = happ r.out (selH S 0 prs H) ∧ ∀ n, dapp r.out (selD S prs D0) n → selD S' prs D0 n := by
    intro S' hS'
    have hne : ∀ k, k ≠ j → S' k = S k := fun k hk => by rw [hS' k]; simp [hk]
    have hj : S' j = true := by rw [hS' j]; simp
    refine ⟨?_, ?_, fun n hn => ?_⟩
    · funext t
      rw [selT_get]
      unfold putF
      by_cases e : o.dst = some t
      · rw [if_pos e]
        refine selV_last (j := j) (by rw [List.getElem?_map, hp]; simp [updT, e]) (by rw [Nat.zero_add]; exact hj) fun k u hk hu => ?_
        rw [List.getElem?_map, Option.map_eq_some_iff] at hu
        obtain ⟨p, hpk, hu⟩ := hu
        rw [Nat.zero_add, hne k (by omega)]
        cases hSk : S k with
        | false => rfl
        | true =>
          have := haT t e k p hk hpk hSk
          simp [updT, this] at hu
      · rw [if_neg e, selT_get]
        refine selV_congr fun k u hu => ?_
        rw [List.getElem?_map, Option.map_eq_some_iff] at hu
        obtain ⟨p, hpk, hu⟩ := hu
        rw [Nat.zero_add]
        refine hne k fun ek => ?_
        subst ek
        rw [hp] at hpk
        cases hpk
        simp [updT, e] at hu
    · funext n
      rw [selH_get, happ_updH (o, r)]
      cases hu : updH n (o, r) with
      | some c =>
        refine selV_last (j := j) (by rw [List.getElem?_map, hp]; simp [hu]) (by rw [Nat.zero_add]; exact hj) fun k u hk huk => ?_
        rw [List.getElem?_map, Option.map_eq_some_iff] at huk
        obtain ⟨p, hpk, huk⟩ := huk
        rw [Nat.zero_add, hne k (by omega)]
        cases hSk : S k with
        | false => rfl
        | true => exact absurd (updH_touch (by rw [huk]; rfl)) (haH n (updH_touch (p := (o, r)) (by rw [hu]; rfl)) k p hk hpk hSk)
      | none =>
        rw [Option.getD_none, selH_get]
        refine selV_congr fun k u huk => ?_
        rw [List.getElem?_map, Option.map_eq_some_iff] at huk
        obtain ⟨p, hpk, huk⟩ := huk
        rw [Nat.zero_add]
        refine hne k fun ek => ?_
        subst ek
        rw [hp] at hpk
        cases hpk
        rw [hu] at huk
        cases huk
    · rcases hn with (h | ⟨k, p, e1, e2, e3⟩) | h
      · exact .inl h
      · exact .inr ⟨k, p, e1, by rw [hS' k, e2]; rfl, e3⟩
      · exact .inr ⟨j, (o, r), hp, hj, h⟩
  have hS' : ∀ k, (fun k => S k || k == j) k = (S k || k == j) := fun _ => rfl
  obtain ⟨e1, e2, e3⟩ := hafter _ hS'
  have hnext : ∀ cv w', Post C.cx C.Wr β (selH S 0 prs H) (selD S prs D0) r.out cv w' → K (a.put o.dst cv) w' := by
    intro cv w' ⟨β', g1, g2, g3⟩
    refine hK _ _ _ hS' ?_
    rw [e1, e2]
    exact RelA.put hX hst.1 (h0.trans g1) (g3.mono e3 (fun _ _ h => h)) (fun t => (h2 t).ext g1) h3 h4 h5 g2
  unfold wpOp
  simp only [ho]
  rcases hst.2 with ⟨hg, tr, hrun, hget, hnew⟩ | ⟨hg, hr⟩
  · rw [guard_wanted (hguard _ hg) h2]
    simp only [if_true]
    refine .inl ?_
    have hcongr : opSem X.E X.m (valF (selT (fun k => decide (k < j)) 0 prs T)) nxj o.op = opSem X.E X.m (valF (selT S 0 prs T)) nxj o.op := opSem_congr _ fun x hx => by
      cases x with
      | tmp t => exact (hT t (.inl hx)).symm
      | _ => rfl
    rw [hcongr] at hrun
    have hrun := RM.run_agree hrun hH
    refine op_sound (valF_rel h2) hrun hget h1 hfr ?_ hnext
    intro f ts args cargs tr' rd' g1 g2 g3 g4
    exact callSem_sound hX.env h1 g1 g2 hfr ⟨g3, g4⟩
  · rw [guard_wanted (hguard _ hg) h2]
    simp only [Bool.false_eq_true, if_false]
    subst hr
    exact hnext undef w (post_val h1 (v := .tup []) ⟨[], rfl, rfl⟩)

end
end Go.Proofs.Ytmkhbgklclhmgaa

namespace Go.Proofs.Ytmkhbgklclhmgaa
open Go

section
variable {X : Kit} {C : C0} {ops : Array Oper} {T : Nat → AV} {H : Nat → Option Blk} {a : Act} {w : World}

theorem zip_get {os : List Oper} {rs : List Did} (hlen : rs.length = os.length) {j : Nat} {o : Oper} (ho : os[j]? = some o) : ∃ r, rs[j]? = some r ∧ (os.zip rs)[j]? = some (o, r) := by
  have hj := (List.getElem?_eq_some_iff.1 ho).1
  refine ⟨rs[j]'(by omega), List.getElem?_eq_getElem _, ?_⟩
  rw [List.getElem?_zip_eq_some]
  exact ⟨ho, List.getElem?_eq_getElem _⟩

theorem zip_get' {os : List Oper} {rs : List Did} {j : Nat} {p : Pr} (h : (os.zip rs)[j]? = some p) : os[j]? = some p.1 ∧ rs[j]? = some p.2 := by
  obtain ⟨o, r⟩ := p
  rw [List.getElem?_zip_eq_some] at h
  exact h

theorem fresh_at {os : List Oper} {rs : List Did} {nx j nxj : Nat} {o : Oper} {r : Did} {S : Nat → Bool} (hSj : S j = false) (hp : (os.zip rs)[j]? = some (o, r)) (hst : ∀ n, (lkF r.out.nw n).isSome = true → nxj ≤ n ∧ n < nxj + r.out.nw.length) (hnx : nx ≤ nxj)
    (h3 : ∀ (k : Nat) (p : Pr) (n : Nat), (os.zip rs)[k]? = some p → (lkF p.2.out.nw n).isSome = true → nx ≤ n ∧ (k < j → n < nxj) ∧ (j < k → nxj + r.out.nw.length ≤ n)) :
    ∀ n, (lkF r.out.nw n).isSome = true → ¬ selD S (os.zip rs) (fun n => n < nx) n := by
  intro n hn h
  have hr := hst n hn
  rcases h with h | ⟨k, p, e1, e2, e3⟩
  · omega
  · have := h3 k p n e1 e3
    rcases Nat.lt_trichotomy k j with h | h | h
    · have := this.2.1 h; omega
    · subst h; rw [hSj] at e2; cases e2
    · have := this.2.2 h; omega

theorem selD_end {os : List Oper} {rs : List Did} {nx : Nat} {S : Nat → Bool} (ht : TraceP X ops os rs T H nx) (n : Nat) (h : selD S (os.zip rs) (fun n => n < nx) n) : n < nx + ((os.zip rs).map (·.2.out.nw.length)).sum := by
  rcases h with h | ⟨k, p, e1, e2, e3⟩
  · omega
  · clear e2
    induction os generalizing rs T H nx k with
    | nil => simp at e1
    | cons o os ih =>
      cases rs with
      | nil => simp at e1
      | cons r rs =>
        obtain ⟨hs, ht⟩ := ht
        cases k with
        | zero =>
          simp only [List.zip_cons_cons, List.getElem?_cons_zero, Option.some.injEq] at e1
          subst e1
          have := (hs.names e3).2
          simp only [List.zip_cons_cons, List.map_cons, List.sum_cons]
          omega
        | succ k =>
          have := ih ht k (by simpa using e1)
          simp only [List.zip_cons_cons, List.map_cons, List.sum_cons]
          omega

theorem region_seq (hX : KitOk X C) {rs : List Did} {nx : Nat} {Q : Exit → Act → World → Prop} (hlen : rs.length = ops.toList.length) (ht : TraceP X ops ops.toList rs T H nx) (hI : RelA C T H (fun n => n < nx) a w)
    (hQ : ∀ a' w', RelA C (selT (fun _ => true) 0 (ops.toList.zip rs) T) (selH (fun _ => true) 0 (ops.toList.zip rs) H) (fun n => n < nx + ((ops.toList.zip rs).map (·.2.out.nw.length)).sum) a' w' → Q .normal a' w') :
    wpOps X.E.P ops Q (List.range ops.size) a w := by
  have key : ∀ (m j : Nat) (a : Act) (w : World), j + m = ops.size → RelA C (selT (fun k => decide (k < j)) 0 (ops.toList.zip rs) T) (selH (fun k => decide (k < j)) 0 (ops.toList.zip rs) H) (selD (fun k => decide (k < j)) (ops.toList.zip rs) (fun n => n < nx)) a w →
      wpOps X.E.P ops Q (List.range' j m) a w := by
    intro m
    induction m with
    | zero =>
      intro j a w hj hI
      simp only [List.range'_zero, wpOps]
      refine hQ a w ?_
      have e1 : selT (fun k => decide (k < j)) 0 (ops.toList.zip rs) T = selT (fun _ => true) 0 (ops.toList.zip rs) T := by
        funext t
        rw [selT_get, selT_get]
        refine selV_congr fun k u hu => ?_
        have := (List.getElem?_eq_some_iff.1 hu).1
        simp at this
        simp; omega
      have e2 : selH (fun k => decide (k < j)) 0 (ops.toList.zip rs) H = selH (fun _ => true) 0 (ops.toList.zip rs) H := by
        funext t
        rw [selH_get, selH_get]
        refine selV_congr fun k u hu => ?_
        have := (List.getElem?_eq_some_iff.1 hu).1
        simp at this
        simp; omega
      rw [e1, e2] at hI
      exact hI.weaken fun n hn => selD_end ht n hn
    | succ m ih =>
      intro j a w hj hI
      rw [List.range'_succ, wpOps_cons]
      have hlt : j < ops.size := by omega
      have ho : ops[j]? = some ops[j] := Array.getElem?_eq_getElem hlt
      obtain ⟨r, hr, hp⟩ := zip_get hlen (j := j) (o := ops[j]) (by rw [Array.getElem?_toList]; exact ho)
      obtain ⟨nxj, h1, h2, h3⟩ := TraceP_get (i := 0) ht hp
      rw [Nat.zero_add] at h1
      refine step_at hX ho hp (by simp) h1 (fun _ _ => rfl) (fun _ _ => rfl) (fresh_at (by simp) hp (fun n hn => h1.names hn) h2 h3) (fun t _ k p hk _ hS => ?_) (fun n _ k p hk _ hS => ?_) hI (fun S' a' w' hS' hI' => ?_)
      · simp at hS; omega
      · simp at hS; omega
      · have : S' = fun k => decide (k < j + 1) := by
          funext k
          rw [hS' k]
          by_cases h : k = j
          · subst h; simp
          · have : (k == j) = false := by simp [h]
            rw [this, Bool.or_false]
            by_cases h' : k < j
            · simp [h']; omega
            · simp [h']; omega
        subst this
        exact ih (j + 1) a' w' (by omega) hI'
  rw [List.range_eq_range']
  refine key ops.size 0 a w (by omega) ?_
  have e1 : selT (fun k => decide (k < 0)) 0 (ops.toList.zip rs) T = T := by
    funext t; rw [selT_get]; exact selV_none fun k u _ => by simp
  have e2 : selH (fun k => decide (k < 0)) 0 (ops.toList.zip rs) H = H := by
    funext t; rw [selH_get]; exact selV_none fun k u _ => by simp
  rw [e1, e2]
  exact hI.weaken fun n hn => .inl hn

/-! Which come before which. -/
theorem hasBit_lor (a b x : Nat) : hasBit (Nat.lor a b) x = (hasBit a x || hasBit b x) := Nat.testBit_or a b x
theorem hasBit_pow (t x : Nat) : hasBit (Nat.pow 2 t) x = decide (t = x) := Nat.testBit_two_pow
theorem hasBit_zero (x : Nat) : hasBit 0 x = false := Nat.zero_testBit x

theorem bindE_eq (e : Edge) : Region.binds .any e = bindE e := by
  unfold Region.binds bindE
  cases e.ground <;> rfl

theorem ancE_spec {j : Nat} {anc : List Nat} : ∀ {es : List Edge} {m : Nat}, ancE j anc es = some m → (∀ e ∈ es, bindE e = true → e.on < j) ∧
    ∀ x, hasBit m x = true → ∃ e ∈ es, bindE e = true ∧ (x = e.on ∨ ∃ m', anc[e.on]? = some m' ∧ hasBit m' x = true)
  | [], m, h => by
    simp only [ancE, Option.some.injEq] at h
    subst h
    exact ⟨by simp, fun x hx => by rw [hasBit_zero] at hx; cases hx⟩
  | e :: es, m, h => by
    unfold ancE at h
    split at h
    · rename_i hb
      obtain ⟨h1, h2⟩ := ancE_spec h
      refine ⟨fun e' he' hb' => ?_, fun x hx => ?_⟩
      · rcases List.mem_cons.1 he' with rfl | he'
        · rw [hb] at hb'; cases hb'
        · exact h1 e' he' hb'
      · obtain ⟨e', he', h3⟩ := h2 x hx
        exact ⟨e', List.mem_cons_of_mem _ he', h3⟩
    · rename_i hb
      split at h
      · rename_i m0 r hlt hm0 hr
        simp only [Option.some.injEq] at h
        subst h
        obtain ⟨h1, h2⟩ := ancE_spec hr
        refine ⟨fun e' he' hb' => ?_, fun x hx => ?_⟩
        · rcases List.mem_cons.1 he' with rfl | he'
          · exact Nat.le_of_ble_eq_true hlt
          · exact h1 e' he' hb'
        · rw [hasBit_lor, hasBit_lor, hasBit_pow] at hx
          simp only [Bool.or_eq_true, decide_eq_true_eq] at hx
          rcases hx with (hx | hx) | hx
          · exact ⟨e, List.mem_cons_self, hb, .inl hx.symm⟩
          · exact ⟨e, List.mem_cons_self, hb, .inr ⟨m0, hm0, hx⟩⟩
          · obtain ⟨e', he', h3⟩ := h2 x hx
            exact ⟨e', List.mem_cons_of_mem _ he', h3⟩
      · cases h

theorem ancs_spec : ∀ {os : List Oper} {acc ms : List Nat}, ancs os acc = some ms → (∃ l, ms = acc ++ l ∧ l.length = os.length) ∧
    ∀ (i : Nat) (o : Oper), os[i]? = some o → ∃ m, ms[acc.length + i]? = some m ∧ (∀ e ∈ o.after, bindE e = true → e.on < acc.length + i) ∧
      ∀ x, hasBit m x = true → ∃ e ∈ o.after, bindE e = true ∧ (x = e.on ∨ ∃ m', ms[e.on]? = some m' ∧ hasBit m' x = true)
  | [], acc, ms, h => by
    simp only [ancs, Option.some.injEq] at h
    subst h
    exact ⟨⟨[], by simp, rfl⟩, fun i o e => by simp at e⟩
  | o :: os, acc, ms, h => by
    unfold ancs at h
    split at h
    · rename_i m hm
      obtain ⟨⟨l, hl, hll⟩, h2⟩ := ancs_spec h
      obtain ⟨h3, h4⟩ := ancE_spec hm
      refine ⟨⟨m :: l, by rw [hl]; simp, by simp [hll]⟩, fun i o' e => ?_⟩
      cases i with
      | zero =>
        simp only [List.getElem?_cons_zero, Option.some.injEq] at e
        subst e
        refine ⟨m, by rw [hl]; simp, fun e he hb => h3 e (by simpa using he) hb, fun x hx => ?_⟩
        obtain ⟨e, he, hb, h5⟩ := h4 x hx
        refine ⟨e, by simpa using he, hb, h5.imp id fun ⟨m', h6, h7⟩ => ⟨m', ?_, h7⟩⟩
        have hlt := (List.getElem?_eq_some_iff.1 h6).1
        rw [hl, List.append_assoc, List.getElem?_append_left hlt]
        exact h6
      | succ i =>
        obtain ⟨m', h5, h6, h7⟩ := h2 i o' (by simpa using e)
        simp only [List.length_append, List.length_singleton] at h5 h6
        rw [show acc.length + 1 + i = acc.length + (i + 1) by omega] at h5 h6
        exact ⟨m', h5, h6, h7⟩
    · cases h

theorem stas_spec : ∀ {os : List Oper} {ms : List Nat} {st : List Sta}, stas ops os ms = some st → st.length = os.length ∧ ms.length = os.length ∧ ∀ (i : Nat) (o : Oper) (m : Nat), os[i]? = some o → ms[i]? = some m → st[i]? = some ⟨o.dst, lookMask ops o, m⟩
  | [], [], st, h => by simp only [stas, Option.some.injEq] at h; subst h; exact ⟨rfl, rfl, fun i o m e => by simp at e⟩
  | [], _ :: _, st, h => by simp [stas] at h
  | _ :: _, [], st, h => by simp [stas] at h
  | o :: os, m :: ms, st, h => by
    unfold stas at h
    split at h
    · rename_i r hr
      simp only [Option.some.injEq] at h
      subst h
      obtain ⟨h1, h2, h3⟩ := stas_spec hr
      refine ⟨by simp [h1], by simp [h2], fun i o' m' e1 e2 => ?_⟩
      cases i with
      | zero => simp only [List.getElem?_cons_zero, Option.some.injEq] at e1 e2 ⊢; subst e1; subst e2; rfl
      | succ i => simpa using h3 i o' m' (by simpa using e1) (by simpa using e2)
    · cases h

theorem tmpMask_spec : ∀ {l : List Operand} {t : Nat}, .tmp t ∈ l → hasBit (tmpMask l) t = true
  | [], t, h => by cases h
  | x :: l, t, h => by
    rcases List.mem_cons.1 h with e | h
    · subst e; simp only [tmpMask, hasBit_lor, hasBit_pow, decide_true, Bool.true_or]
    · have := tmpMask_spec h
      cases x <;> simp only [tmpMask, hasBit_lor, this, Bool.or_true]

theorem lookMask_spec {o : Oper} {t : Nat} (h : Looks ops o t) : hasBit (lookMask ops o) t = true := by
  unfold lookMask
  rcases h with h | h
  · have := tmpMask_spec (Array.mem_toList_iff.2 h)
    split
    · rw [hasBit_lor, this, Bool.or_true]
    · exact this
  · rw [h]; simp only [hasBit_lor, hasBit_pow, decide_true, Bool.true_or]

theorem staAgainst_spec {i : Nat} {x : Sta} : ∀ {ys : List Sta}, staAgainst i x ys = true → ∀ (q : Nat) (y : Sta), ys[q]? = some y → staPair i x y = true
  | [], _, q, y, e => by simp at e
  | z :: ys, h, q, y, e => by
    unfold staAgainst at h
    split at h
    · rename_i hz
      cases q with
      | zero => simp only [List.getElem?_cons_zero, Option.some.injEq] at e; subst e; exact hz
      | succ q => exact staAgainst_spec h q y (by simpa using e)
    · cases h

theorem staAll_spec : ∀ {xs : List Sta} {i : Nat}, staAll i xs = true → ∀ (p q : Nat) (x y : Sta), p < q → xs[p]? = some x → xs[q]? = some y → staPair (i + p) x y = true
  | [], i, _, p, q, x, y, _, e, _ => by simp at e
  | z :: xs, i, h, p, q, x, y, hpq, e1, e2 => by
    unfold staAll at h
    split at h
    · rename_i hz
      obtain ⟨q, rfl⟩ : ∃ q', q = q' + 1 := ⟨q - 1, by omega⟩
      cases p with
      | zero =>
        simp only [List.getElem?_cons_zero, Option.some.injEq] at e1
        subst e1
        exact staAgainst_spec hz q y (by simpa using e2)
      | succ p =>
        have := staAll_spec h p q x y (by omega) (by simpa using e1) (by simpa using e2)
        rw [show i + (p + 1) = i + 1 + p by omega]; exact this
    · cases h

theorem didFwd_spec {i : Nat} {ts : List Nat} : ∀ {ys : List Sta} {rs : List Did}, didFwd i ts ys rs = true → ∀ (q : Nat) (y : Sta) (r : Did), ys[q]? = some y → rs[q]? = some r → hasBit y.anc i = true ∨ (disjN ts r.rd = true ∧ disjN ts r.tch = true)
  | [], rs, _, q, y, r, e, _ => by simp at e
  | _ :: _, [], _, q, y, r, _, e => by simp at e
  | z :: ys, s :: rs, h, q, y, r, e1, e2 => by
    unfold didFwd at h
    split at h
    · rename_i hz
      cases q with
      | zero =>
        simp only [List.getElem?_cons_zero, Option.some.injEq] at e1 e2
        subst e1; subst e2
        simpa [Bool.or_eq_true, Bool.and_eq_true] using hz
      | succ q => exact didFwd_spec h q y r (by simpa using e1) (by simpa using e2)
    · cases h

theorem didBwd_spec {i : Nat} {rd : List Nat} : ∀ {ys : List Sta} {rs : List Did}, didBwd i rd ys rs = true → ∀ (q : Nat) (y : Sta) (r : Did), ys[q]? = some y → rs[q]? = some r → r.tch = [] ∨ hasBit y.anc i = true ∨ disjN r.tch rd = true
  | [], rs, _, q, y, r, e, _ => by simp at e
  | _ :: _, [], _, q, y, r, _, e => by simp at e
  | z :: ys, s :: rs, h, q, y, r, e1, e2 => by
    unfold didBwd at h
    split at h
    · rename_i hz
      cases q with
      | zero =>
        simp only [List.getElem?_cons_zero, Option.some.injEq] at e1 e2
        subst e1; subst e2
        simp only [Bool.or_eq_true] at hz
        refine hz.imp (fun h => ?_) id
        cases ht : s.tch with
        | nil => rfl
        | cons _ _ => rw [ht] at h; cases h
      | succ q => exact didBwd_spec h q y r (by simpa using e1) (by simpa using e2)
    · cases h

theorem didAll_spec : ∀ {ys : List Sta} {rs : List Did} {i : Nat}, didAll i ys rs = true → ∀ (p q : Nat) (x y : Did) (z : Sta), p < q → ys.length = rs.length → rs[p]? = some x → rs[q]? = some y → ys[q]? = some z →
    (x.tch = [] ∨ hasBit z.anc (i + p) = true ∨ (disjN x.tch y.rd = true ∧ disjN x.tch y.tch = true)) ∧ (y.tch = [] ∨ hasBit z.anc (i + p) = true ∨ disjN y.tch x.rd = true)
  | [], rs, i, _, p, q, x, y, z, _, _, _, _, e => by simp at e
  | _ :: _, [], i, _, p, q, x, y, z, _, _, e, _, _ => by simp at e
  | s :: ys, r :: rs, i, h, p, q, x, y, z, hpq, hl, e1, e2, e3 => by
    unfold didAll at h
    split at h
    · rename_i hz
      rw [Bool.and_eq_true, Bool.or_eq_true] at hz
      obtain ⟨q, rfl⟩ : ∃ q', q = q' + 1 := ⟨q - 1, by omega⟩
      have e2 : rs[q]? = some y := by simpa using e2
      have e3 : ys[q]? = some z := by simpa using e3
      cases p with
      | zero =>
        simp only [List.getElem?_cons_zero, Option.some.injEq] at e1
        subst e1
        refine ⟨?_, didBwd_spec hz.2 q z y e3 e2⟩
        rcases hz.1 with h1 | h1
        · left
          cases ht : r.tch with
          | nil => rfl
          | cons _ _ => rw [ht] at h1; cases h1
        · exact .inr (didFwd_spec h1 q z y e3 e2)
      | succ p =>
        have := didAll_spec h p q x y z (by omega) (by simpa using hl) (by simpa using e1) e2 e3
        rw [show i + (p + 1) = i + 1 + p by omega]; exact this
    · cases h

end
end Go.Proofs.Ytmkhbgklclhmgaa

namespace Go.Proofs.Ytmkhbgklclhmgaa
open Go

section
variable {X : Kit} {C : C0} {ops : Array Oper} {T : Nat → AV} {H : Nat → Option Blk} {a : Act} {w : World}

def lst (listed : Array Bool) : Nat → Bool := fun k => listed.getD k false

/-- Each listed operation's grounds are listed. -/
def Closed (ops : Array Oper) (S : Nat → Bool) : Prop := ∀ (k : Nat) (o : Oper), ops[k]? = some o → S k = true → ∀ e ∈ o.after, bindE e = true → S e.on = true

theorem anc_in {S : Nat → Bool} (hS : Closed ops S) {ms : List Nat} (hms : ∀ (i : Nat) (o : Oper), ops[i]? = some o → ∃ m, ms[i]? = some m ∧ (∀ e ∈ o.after, bindE e = true → e.on < i) ∧
    ∀ x, hasBit m x = true → ∃ e ∈ o.after, bindE e = true ∧ (x = e.on ∨ ∃ m', ms[e.on]? = some m' ∧ hasBit m' x = true)) :
    ∀ (j : Nat) (o : Oper) (m x : Nat), ops[j]? = some o → (∀ e ∈ o.after, bindE e = true → S e.on = true) → ms[j]? = some m → hasBit m x = true → S x = true := by
  intro j
  induction j using Nat.strongRecOn with
  | _ j ih =>
    intro o m x ho hd hm hx
    obtain ⟨m1, h1, h2, h3⟩ := hms j o ho
    rw [hm] at h1
    cases h1
    obtain ⟨e, he, hb, h4⟩ := h3 x hx
    have hlt := h2 e he hb
    have hSe := hd e he hb
    rcases h4 with rfl | ⟨m', h5, h6⟩
    · exact hSe
    · have hj := (Array.getElem?_eq_some_iff.1 ho).1
      have hoe : ops[e.on]? = some ops[e.on] := Array.getElem?_eq_getElem (by omega)
      exact ih e.on hlt _ m' x hoe (hS e.on _ hoe hSe) h5 h6

theorem region_any (hX : KitOk X C) {rs : List Did} {st : List Sta} {nx : Nat} {Q : Exit → Act → World → Prop} (hst : stasOf ops = some st) (hall : staAll 0 st = true) (hdid : didAll 0 st rs = true) (hlen : rs.length = ops.toList.length)
    (ht : TraceP X ops ops.toList rs T H nx) (hI : RelA C T H (fun n => n < nx) a w)
    (hQ : ∀ a' w', RelA C (selT (fun _ => true) 0 (ops.toList.zip rs) T) (selH (fun _ => true) 0 (ops.toList.zip rs) H) (fun n => n < nx + ((ops.toList.zip rs).map (·.2.out.nw.length)).sum) a' w' → Q .normal a' w') :
    wpAny X.E.P .any ops Q ops.size (Array.replicate ops.size false) a w := by
  -- the static side
  unfold stasOf at hst
  split at hst
  rotate_left
  · cases hst
  rename_i ms hms
  obtain ⟨⟨l, hl, _⟩, hanc⟩ := ancs_spec hms
  obtain ⟨hsl, _, hsg⟩ := stas_spec hst
  have hms' : ∀ (i : Nat) (o : Oper), ops[i]? = some o → ∃ m, ms[i]? = some m ∧ (∀ e ∈ o.after, bindE e = true → e.on < i) ∧
      ∀ x, hasBit m x = true → ∃ e ∈ o.after, bindE e = true ∧ (x = e.on ∨ ∃ m', ms[e.on]? = some m' ∧ hasBit m' x = true) := fun i o ho => by
    have := hanc i o (by rw [Array.getElem?_toList]; exact ho)
    simpa using this
  -- two operations, the one in front of the other: ordered, or apart
  have hpair : ∀ {i j : Nat} {oi oj : Oper} {ri rj : Did}, i < j → (ops.toList.zip rs)[i]? = some (oi, ri) → (ops.toList.zip rs)[j]? = some (oj, rj) →
      (∃ m, ms[j]? = some m ∧ hasBit m i = true) ∨
      ((∀ t, oi.dst = some t → ¬ Looks ops oj t) ∧ (∀ t, oi.dst = some t → oj.dst ≠ some t) ∧ (∀ t, oj.dst = some t → ¬ Looks ops oi t) ∧
        (∀ n, n ∈ ri.tch → n ∉ rj.rd) ∧ (∀ n, n ∈ ri.tch → n ∉ rj.tch) ∧ (∀ n, n ∈ rj.tch → n ∉ ri.rd)) := by
    intro i j oi oj ri rj hij hi hj
    obtain ⟨hoi, hri⟩ := zip_get' hi
    obtain ⟨hoj, hrj⟩ := zip_get' hj
    obtain ⟨mi, hmi, _⟩ := hanc i oi hoi
    obtain ⟨mj, hmj, _⟩ := hanc j oj hoj
    simp only [List.length_nil, Nat.zero_add] at hmi hmj
    have hsi := hsg i oi mi hoi hmi
    have hsj := hsg j oj mj hoj hmj
    have h1 := staAll_spec hall i j _ _ hij hsi hsj
    have h2 := didAll_spec hdid i j _ _ _ hij (by omega) hri hrj hsj
    simp only [Nat.zero_add, staPair, Bool.or_eq_true, Bool.and_eq_true] at h1 h2
    by_cases hb : hasBit mj i = true
    · exact .inl ⟨mj, hmj, hb⟩
    · right
      rcases h1 with h1 | ⟨⟨h1, h3⟩, h4⟩
      · exact absurd h1 hb
      · refine ⟨fun t e hl => ?_, fun t e e' => ?_, fun t e hl => ?_, fun n hn => ?_, fun n hn => ?_, fun n hn => ?_⟩
        · rw [e] at h1; simp only [dstNot, lookMask_spec hl] at h1; cases h1
        · rw [e, e'] at h3; simp [dstNe] at h3
        · rw [e] at h4; simp only [dstNot, lookMask_spec hl] at h4; cases h4
        · rcases h2.1 with h | h | h
          · rw [h] at hn; cases hn
          · exact absurd h hb
          · exact fun h' => disjN_spec h.1 n h' hn
        · rcases h2.1 with h | h | h
          · rw [h] at hn; cases hn
          · exact absurd h hb
          · exact fun h' => disjN_spec h.2 n h' hn
        · rcases h2.2 with h | h | h
          · rw [h] at hn; cases hn
          · exact absurd h hb
          · exact fun h' => disjN_spec h n h' hn
  have key : ∀ (fuel : Nat) (listed : Array Bool) (a : Act) (w : World) (un : List Nat), listed.size = ops.size → un.length ≤ fuel → (∀ k, k < ops.size → lst listed k = false → k ∈ un) → Closed ops (lst listed) →
      RelA C (selT (lst listed) 0 (ops.toList.zip rs) T) (selH (lst listed) 0 (ops.toList.zip rs) H) (selD (lst listed) (ops.toList.zip rs) (fun n => n < nx)) a w → wpAny X.E.P .any ops Q fuel listed a w := by
    -- once all are listed
    have hdone : ∀ (listed : Array Bool) (a : Act) (w : World), listed.size = ops.size → (∀ k, k < ops.size → lst listed k = true) →
        RelA C (selT (lst listed) 0 (ops.toList.zip rs) T) (selH (lst listed) 0 (ops.toList.zip rs) H) (selD (lst listed) (ops.toList.zip rs) (fun n => n < nx)) a w → Region.ready .any ops listed = [] ∧ Q .normal a w := by
      intro listed a w hsz hl hI
      refine ⟨?_, hQ a w ?_⟩
      · rw [List.eq_nil_iff_forall_not_mem]
        intro j hj
        obtain ⟨h0, o, ho, _⟩ := mem_ready.1 hj
        have hlt := (Array.getElem?_eq_some_iff.1 ho).1
        have := hl j hlt
        unfold lst at this
        rw [Array.getD_eq_getD_getElem?, Array.getElem?_eq_getElem (by omega)] at this h0
        simp only [Option.getD_some] at this h0
        rw [h0] at this
        cases this
      · have e1 : selT (lst listed) 0 (ops.toList.zip rs) T = selT (fun _ => true) 0 (ops.toList.zip rs) T := by
          funext t
          rw [selT_get, selT_get]
          refine selV_congr fun k u hu => ?_
          have := (List.getElem?_eq_some_iff.1 hu).1
          simp at this
          rw [Nat.zero_add]
          exact hl k (by omega)
        have e2 : selH (lst listed) 0 (ops.toList.zip rs) H = selH (fun _ => true) 0 (ops.toList.zip rs) H := by
          funext t
          rw [selH_get, selH_get]
          refine selV_congr fun k u hu => ?_
          have := (List.getElem?_eq_some_iff.1 hu).1
          simp at this
          rw [Nat.zero_add]
          exact hl k (by omega)
        rw [e1, e2] at hI
        exact hI.weaken fun n hn => selD_end ht n hn
    -- if none is ready, all are listed
    have hprog : ∀ (listed : Array Bool), listed.size = ops.size → Region.ready .any ops listed = [] → ∀ k, k < ops.size → lst listed k = true := by
      intro listed hsz hr k
      induction k using Nat.strongRecOn with
      | _ k ih =>
        intro hk
        cases hl : lst listed k with
        | true => rfl
        | false =>
          exfalso
          have ho : ops[k]? = some ops[k] := Array.getElem?_eq_getElem hk
          have : k ∈ Region.ready .any ops listed := by
            rw [mem_ready]
            refine ⟨?_, _, ho, fun e he hb => ?_⟩
            · unfold lst at hl
              rw [Array.getD_eq_getD_getElem?, Array.getElem?_eq_getElem (by omega)] at hl ⊢
              exact hl
            · rw [bindE_eq] at hb
              obtain ⟨m, _, h2, _⟩ := hms' k _ ho
              have := h2 e he hb
              exact ih e.on this (by omega)
          rw [hr] at this
          cases this
    intro fuel
    induction fuel with
    | zero =>
      intro listed a w un hsz hun hcov hcl hI
      have : un = [] := List.length_eq_zero_iff.1 (by omega)
      subst this
      exact hdone listed a w hsz (fun k hk => by cases h : lst listed k with
        | true => rfl
        | false => exact absurd (hcov k hk h) (by simp)) hI
    | succ fuel ih =>
      intro listed a w un hsz hun hcov hcl hI
      refine ⟨fun hr => (hdone listed a w hsz (hprog listed hsz hr) hI).2, fun j hj => ?_⟩
      obtain ⟨h0, o, ho, hedge⟩ := mem_ready.1 hj
      have hlt := (Array.getElem?_eq_some_iff.1 ho).1
      have hSj : lst listed j = false := by
        unfold lst
        rw [Array.getD_eq_getD_getElem?, Array.getElem?_eq_getElem (by omega)] at h0 ⊢
        exact h0
      have hedge' : ∀ e ∈ o.after, bindE e = true → lst listed e.on = true := fun e he hb => hedge e he (by rw [bindE_eq]; exact hb)
      obtain ⟨r, hr, hp⟩ := zip_get hlen (j := j) (o := o) (by rw [Array.getElem?_toList]; exact ho)
      obtain ⟨nxj, h1, h2, h3⟩ := TraceP_get (i := 0) ht hp
      rw [Nat.zero_add] at h1
      -- one in front of j that is not listed yet; one behind it that is: both apart from it
      have hfront : ∀ {k : Nat} {p : Pr}, k < j → lst listed k = false → (ops.toList.zip rs)[k]? = some p → (∀ t, p.1.dst = some t → ¬ Looks ops o t) ∧ (∀ n, n ∈ p.2.tch → n ∉ r.rd) := by
        intro k p hk hS hpk
        rcases hpair hk hpk hp with ⟨m, hm, hb⟩ | h
        · have := anc_in hcl hms' j o m k ho hedge' hm hb
          rw [hS] at this; cases this
        · exact ⟨h.1, h.2.2.2.1⟩
      have hback : ∀ {k : Nat} {p : Pr}, j < k → lst listed k = true → (ops.toList.zip rs)[k]? = some p → (∀ t, p.1.dst = some t → ¬ Looks ops o t) ∧ (∀ n, n ∈ p.2.tch → n ∉ r.rd) ∧ (∀ t, o.dst = some t → p.1.dst ≠ some t) ∧ (∀ n, n ∈ r.tch → n ∉ p.2.tch) := by
        intro k p hk hS hpk
        rcases hpair hk hp hpk with ⟨m, hm, hb⟩ | h
        · have hok : ops[k]? = some p.1 := by rw [← Array.getElem?_toList]; exact (zip_get' hpk).1
          have := anc_in hcl hms' k p.1 m j hok (hcl k p.1 hok hS) hm hb
          rw [hSj] at this; cases this
        · exact ⟨h.2.2.1, h.2.2.2.2.2, h.2.1, h.2.2.2.2.1⟩
      refine step_at hX ho hp hSj h1 (fun t htl => ?_) (fun n hn => ?_) (fresh_at hSj hp (fun n hn => h1.names hn) h2 h3) (fun t e k p hk hpk hS => (hback hk hS hpk).2.2.1 t e) (fun n hn k p hk hpk hS => (hback hk hS hpk).2.2.2 n hn) hI ?_
      · rw [selT_get, selT_get]
        refine selV_congr fun k u hu => ?_
        rw [List.getElem?_map, Option.map_eq_some_iff] at hu
        obtain ⟨p, hpk, hu⟩ := hu
        have hd : p.1.dst = some t := by
          unfold updT at hu
          split at hu
          · assumption
          · cases hu
        rw [Nat.zero_add]
        rcases Nat.lt_trichotomy k j with h | h | h
        · cases hS : lst listed k with
          | true => simp [h]
          | false => exact absurd htl ((hfront h hS hpk).1 t hd)
        · subst h; simp [hSj]
        · cases hS : lst listed k with
          | true => exact absurd htl ((hback h hS hpk).1 t hd)
          | false => simp; omega
      · rw [selH_get, selH_get]
        refine selV_congr fun k u hu => ?_
        rw [List.getElem?_map, Option.map_eq_some_iff] at hu
        obtain ⟨p, hpk, hu⟩ := hu
        have hd : n ∈ p.2.tch := updH_touch (by rw [hu]; rfl)
        rw [Nat.zero_add]
        rcases Nat.lt_trichotomy k j with h | h | h
        · cases hS : lst listed k with
          | true => simp [h]
          | false => exact absurd hn ((hfront h hS hpk).2 n hd)
        · subst h; simp [hSj]
        · cases hS : lst listed k with
          | true => exact absurd hn ((hback h hS hpk).2.1 n hd)
          | false => simp; omega
      · intro S' a' w' hS' hI'
        have hlset : lst (listed.setIfInBounds j true) = S' := by
          funext k
          rw [hS' k]
          unfold lst
          by_cases hkj : k = j
          · subst hkj
            have : k < listed.size := by omega
            simp [this]
          · have : (k == j) = false := by simp [hkj]
            rw [this, Bool.or_false]
            exact getD_set_ne false (fun e => hkj e.symm)
        rw [← hlset] at hI'
        refine ih _ a' w' (un.erase j) (by simp [hsz]) ?_ (fun k hk hS => ?_) (fun k ok hok hS e he hb => ?_) hI'
        · have := List.length_erase_of_mem (hcov j hlt hSj)
          omega
        · rw [hlset, hS' k] at hS
          simp only [Bool.or_eq_false_iff, beq_eq_false_iff_ne] at hS
          exact (List.mem_erase_of_ne hS.2).2 (hcov k hk hS.1)
        · rw [hlset] at hS ⊢
          rw [hS'] at hS ⊢
          rw [Bool.or_eq_true] at hS
          rcases hS with hS | hS
          · rw [hcl k ok hok hS e he hb]; rfl
          · have hkj : k = j := by simpa using hS
            subst hkj
            rw [ho] at hok
            cases hok
            rw [hedge' e he hb]; rfl
  refine key ops.size _ a w (List.range ops.size) (by simp) (by simp) (fun k hk _ => by simpa using hk) (fun k o ho hS => ?_) ?_
  · exfalso
    unfold lst at hS
    have hk := (Array.getElem?_eq_some_iff.1 ho).1
    simp [Array.getD_eq_getD_getElem?, hk] at hS
  · have hno : ∀ k, lst (Array.replicate ops.size false) k = false := fun k => by
      unfold lst
      by_cases hk : k < ops.size <;> simp [Array.getD_eq_getD_getElem?, hk]
    have e1 : selT (lst (Array.replicate ops.size false)) 0 (ops.toList.zip rs) T = T := by
      funext t; rw [selT_get]; exact selV_none fun k u _ => hno _
    have e2 : selH (lst (Array.replicate ops.size false)) 0 (ops.toList.zip rs) H = H := by
      funext t; rw [selH_get]; exact selV_none fun k u _ => hno _
    rw [e1, e2]
    exact hI.weaken fun n hn => .inl hn

/-- A state of the evaluator. -/
abbrev RelSt (C : C0) (s : St) (a : Act) (w : World) : Prop := RelA C (lkT s.T) (lkF s.H) (fun n => n < s.nx) a w

theorem evRegion_sound {R : Type} {id : Nat} {draw : Bool} {s : St} {K : St → Option R} {res : R} {Q : Exit → Act → World → Prop} (hX : KitOk X C) (hm : X.E.P.follows .mixedOrders = true) (h : evRegion X ops draw s K = some res) (hI : RelSt C s a w)
    (hQ : ∀ s' a' w', K s' = some res → RelSt C s' a' w' → Q .normal a' w') : (Code.region id ops draw).wp X.E.P Q a w := by
  unfold evRegion at h
  split at h
  · obtain ⟨rs, s', h1, h2, h3, h4⟩ := evOps_trace h
    refine wp_region (region_seq hX h2 h3 hI fun a' w' hI' => hQ s' a' w' h1 ?_)
    unfold RelSt
    rw [h4.T, h4.H, h4.nx]
    exact hI'
  · split at h
    · rename_i st hst
      split at h
      · rename_i hall
        obtain ⟨rs, s', h1, h2, h3, h4⟩ := evOps_trace h
        split at h1
        · rename_i hdid
          rw [List.append_nil, List.reverse_reverse] at hdid
          refine wp_region_any hm ?_
          refine region_any hX hst hall hdid h2 h3 (RelA.drew hI) fun a' w' hI' => hQ s' a' w' h1 ?_
          unfold RelSt
          rw [h4.T, h4.H, h4.nx]
          exact hI'
        · cases h1
      · cases h
    · cases h

end
end Go.Proofs.Ytmkhbgklclhmgaa

namespace Go.Proofs.Ytmkhbgklclhmgaa
open Go

def exOf : Ex → Exit
  | .normal => .normal
  | .exit id => .exit id
  | .ret => .ret

/-- What is known of a loop as a whole. -/
def LOk (P : Program) (N : Nat) (c : Code) (L : LSem) : Prop :=
  ∀ args hin t e vs hout, L.run args hin = some t → t.get = some (e, vs, hout) →
    ∀ (w : World) (X Wr : Nat → Prop) (β : Bm) (a : Act) (Q : Exit → Act → World → Prop), RelH (now w X) Wr β (hinF hin) (fun n => n < hin.length) w → RelL (now w X) β args (L.tin.map fun t => a.tmps.getD t undef) → a.defers = [] → a.tmps.size = N →
      (∀ β' a' w', Ext β β' → RelH (now w X) Wr β' (houtF hout) (fun n => n < hout.length) w' → RelL (now w X) β' vs (L.tout.map fun t => a'.tmps.getD t undef) → a'.defers = [] → a'.tmps.size = N →
        (∀ t, hasBit (wrCode c) t = false → a'.tmps.getD t undef = a.tmps.getD t undef) → Q (exOf e) a' w') → c.wp P Q a w

def LoopsOk (P : Program) (L : Lps) : Code → Prop
  | .seq a b => LoopsOk P L a ∧ LoopsOk P L b
  | .cond _ a b => LoopsOk P L a ∧ LoopsOk P L b
  | .block id body => match lkF L.sums id with
    | some S => LOk P L.N (.block id body) S
    | none => LoopsOk P L body
  | .loop body => LoopsOk P L body
  | _ => True

theorem valsT_map {cx : Cx} {β : Bm} {T : List (Nat × AV)} {f : Nat → Value} (h : ∀ t, RelV cx β (lkT T t) (f t)) : ∀ (ts : List Nat), RelL cx β (valsT T ts) (ts.map f)
  | [] => ⟨rfl, fun j v cv e => by simp [valsT] at e⟩
  | t :: ts => by
    obtain ⟨h1, h2⟩ := valsT_map h ts
    refine ⟨by simp [valsT, h1], fun j v cv e1 e2 => ?_⟩
    cases j with
    | zero =>
      simp only [valsT, List.map_cons, List.getElem?_cons_zero, Option.some.injEq] at e1 e2
      subst e1; subst e2
      exact h t
    | succ j => exact h2 j v cv (by simpa [valsT] using e1) (by simpa using e2)

theorem putTs_rel {cx : Cx} {β : Bm} {f : Nat → Value} : ∀ {ts : List Nat} {vs : List AV} {T : List (Nat × AV)}, (∀ t, RelV cx β (lkT T t) (f t)) → RelL cx β vs (ts.map f) → ∀ t, RelV cx β (lkT (putTs ts vs T) t) (f t)
  | [], vs, T, h, _, t => by cases vs <;> exact h t
  | u :: ts, [], T, h, _, t => h t
  | u :: ts, v :: vs, T, h, ⟨h1, h2⟩, t => by
    refine putTs_rel (ts := ts) (vs := vs) (fun t => ?_) ⟨by simpa using h1, fun j v cv e1 e2 => h2 (j + 1) v cv (by simpa using e1) (by simpa using e2)⟩ t
    rw [lkT_up]
    split
    · rename_i e; subst e; exact h2 0 v (f u) rfl rfl
    · exact h t

theorem forgetT_get (dk : Nat → Bool) : ∀ (T : List (Nat × AV)) (t : Nat), lkT (forgetT dk T) t = if dk t then .any else lkT T t
  | [], t => by simp [forgetT, lkT]
  | (u, v) :: T, t => by
    unfold forgetT
    split
    · rename_i hu
      rw [forgetT_get dk T t]
      by_cases h : u = t
      · subst h; simp [hu]
      · simp [lkT, beq_false h]
    · rename_i hu
      by_cases h : u = t
      · subst h; simp [lkT, hu]
      · simp only [lkT, beq_false h]; exact forgetT_get dk T t

theorem maskOk_spec {dk : Nat → Bool} : ∀ {n m : Nat}, maskOk dk n m = true → ∀ t, t < n → hasBit m t = true → dk t = true
  | 0, m, _, t, h, _ => by omega
  | n + 1, m, h, t, ht, hb => by
    unfold maskOk at h
    split at h
    · rename_i hn
      by_cases e : t = n
      · subst e; simpa [hb] using hn
      · exact maskOk_spec h t (by omega) hb
    · cases h

theorem RelL1.of {cx : Cx} {β : Bm} : ∀ {vs : List AV} {l : List Value}, noTup vs = true → RelL cx β vs l → RelL1 cx β vs l
  | [], l, _, h => by
    have := h.1
    simp at this
    exact List.length_eq_zero_iff.1 this.symm
  | v :: vs, [], _, h => by have := h.1; simp at this
  | v :: vs, cv :: l, hn, h => by
    have h0 := h.2 0 v cv rfl rfl
    have hr : RelL cx β vs l := ⟨by simpa using h.1, fun j u cu e1 e2 => h.2 (j + 1) u cu (by simpa using e1) (by simpa using e2)⟩
    cases v with
    | tup _ => cases hn
    | any => exact ⟨cv, l, rfl, h0, RelL1.of hn hr⟩
    | s _ => exact ⟨cv, l, rfl, h0, RelL1.of hn hr⟩
    | agg _ => exact ⟨cv, l, rfl, h0, RelL1.of hn hr⟩

theorem RelL.of1 {cx : Cx} {β : Bm} : ∀ {vs : List AV} {l : List Value}, RelL1 cx β vs l → RelL cx β vs l
  | [], l, h => by have h : l = [] := h; subst h; exact ⟨rfl, fun j v cv e => by simp at e⟩
  | v :: vs, l, ⟨cv, l', e, h1, h2⟩ => by
    subst e
    obtain ⟨a1, a2⟩ := RelL.of1 h2
    refine ⟨by simp [a1], fun j u cu e1 e2 => ?_⟩
    cases j with
    | zero =>
      simp only [List.getElem?_cons_zero, Option.some.injEq] at e1 e2
      subst e1; subst e2
      exact RelV.of1 h1
    | succ j => exact a2 j u cu (by simpa using e1) (by simpa using e2)

section
variable {X : Kit} {C : C0} {a : Act} {w : World}

theorem evSum_sound {R : Type} {N id : Nat} {body : Code} {L : LSem} {s : St} {K : Ex → St → Option R} {res : R} {Q : Exit → Act → World → Prop} (hX : KitOk X C) (hN : N = C.N) (hL : LOk X.E.P N (.block id body) L) (h : evSum X N (wrCode body) L s K = some res) (hI : RelSt C s a w)
    (hQ : ∀ e s' a' w', K e s' = some res → RelSt C s' a' w' → Q (exOf e) a' w') : (Code.block id body).wp X.E.P Q a w := by
  subst hN
  unfold evSum at h
  split at h
  rotate_left
  · cases h
  rename_i hmask
  rw [Bool.and_eq_true] at hmask
  obtain ⟨hmask, hbig⟩ := hmask
  have hbig : wrCode body < 2 ^ C.N := Nat.le_of_ble_eq_true hbig
  split at h
  rotate_left
  · cases h
  rename_i c rd hcan
  obtain ⟨ns, vs', bs'⟩ := c
  split at h
  rotate_left
  · cases h
  rename_i tr htr
  obtain ⟨⟨e, s'⟩, hg, hk⟩ := cps_get h
  obtain ⟨⟨e1, vs, hout⟩, hg1, hg2⟩ := Tr.map_get hg
  have hrun := hL _ _ _ _ _ _ htr hg1
  obtain ⟨β, h0, hH, hT, h3, h4, h5⟩ := hI
  obtain ⟨_, hnd, hvs, bs, hbl, hbs, hbg⟩ := canon_spec hcan
  have hnd := hnd List.nodup_nil
  have hns : ∀ n ∈ ns, ∃ b, lkF s.H n = some b := fun n hn => by
    obtain ⟨i, hi, e⟩ := List.getElem_of_mem hn
    obtain ⟨b, hb, _⟩ := hbg i n (by rw [List.getElem?_eq_getElem hi, e])
    exact ⟨b, hb⟩
  have hXno : ∀ b, C.cx.X b → b < w.heap.size ∧ ¬ Wc ns β b := fun b hb => by
    obtain ⟨h1, h2⟩ := hH.xok b hb
    refine ⟨by have := hH.size; omega, fun hW => ?_⟩
    obtain ⟨n, p, _, h3, h4⟩ := Wc_of hW
    rcases (hH.dom n p h3).2.2 with h5 | h5
    · omega
    · exact h2 (h4 ▸ h5)
  have hin := hH.canon hnd hbl hbs hbg
  obtain ⟨hbl', hbg'⟩ := renBs_get hbs
  have hin' : RelH (now w C.cx.X) (Wc ns β) (subM ns β) (hinF bs') (fun n => n < bs'.length) w := by
    refine ⟨Nat.le_refl _, fun _ _ _ => rfl, hXno, fun n p e => ?_, fun n p cs e hc => ?_, hin.wf, fun n cs e => (List.getElem?_eq_some_iff.1 e).1, hin.inj, rfl, rfl, rfl⟩
    · obtain ⟨h1, h2, h3⟩ := hin.dom n p e
      exact ⟨by rw [hbl', hbl]; exact h1, h2, .inr ⟨n, p, e, rfl⟩⟩
    · obtain ⟨c, T, fr, g1, g2, g3, l, g4, g5⟩ := hin.held n p cs e hc
      exact ⟨c, T, fr, g1, g2, g3, l, g4.to (.inr (hH.imp fun _ h => h)), g5⟩
  refine hrun w C.cx.X (Wc ns β) (subM ns β) a Q hin' (renL_rel (subM_ren ns β) hvs ((valsT_map hT L.tin).to (hH.imp fun _ h => h))) h3 h4 ?_
  intro β1 a' w' g1 g2 g3 g4 g5 g6
  unfold afterLoop at hg2
  split at hg2
  rotate_left
  · cases hg2
  rename_i o ho
  split at hg2
  rotate_left
  · cases hg2
  rename_i vs2 hov
  split at hg2
  rotate_left
  · cases hg2
  rename_i hlv hnew
  simp only [Option.some.injEq, Prod.mk.injEq] at hg2
  obtain ⟨rfl, rfl⟩ := hg2
  rw [Bool.and_eq_true] at hlv
  have hfr : Fresh (fun n => n < s.nx) o := fun n hn => by have := newOk_spec hnew hn; omega
  have hnt : RelV (now w C.cx.X) β1 (.tup vs) (.tuple (L.tout.map fun t => a'.tmps.getD t undef).toArray) := by
    -- the values that come back are no tuples: their renamed forms are none
    have hren : ∃ r, renL r vs = some vs2 := by
      unfold callOut at ho
      split at ho
      · split at ho
        · rename_i v1 bs1 hv1 hb1
          split at ho
          · simp only [Option.some.injEq] at ho
            subst ho
            simp only at hov
            subst hov
            simp only [AV.ren] at hv1
            split at hv1
            · rename_i r hr
              simp only [Option.some.injEq, AV.tup.injEq] at hv1
              subst hv1
              exact ⟨_, hr⟩
            · cases hv1
          · cases ho
        · cases ho
      · cases ho
    obtain ⟨r, hr⟩ := hren
    have : ∀ {vs vs2 : List AV}, renL r vs = some vs2 → noTup vs2 = true → noTup vs = true := by
      intro vs
      induction vs with
      | nil => intro _ _ _; rfl
      | cons v vs ih =>
        intro vs2 h hn
        unfold renL at h
        split at h
        · rename_i v1 r1 hv hr1
          cases h
          cases v with
          | tup us =>
            simp only [AV.ren] at hv
            split at hv
            · cases hv; cases hn
            · cases hv
          | any => simp only [AV.ren, Option.some.injEq] at hv; subst hv; exact ih hr1 hn
          | s u =>
            simp only [AV.ren] at hv
            split at hv
            · cases hv; exact ih hr1 hn
            · cases hv
          | agg u =>
            simp only [AV.ren] at hv
            split at hv
            · cases hv; exact ih hr1 hn
            · cases hv
        · cases h
    exact ⟨_, rfl, RelL1.of (this hr hlv.2) g3⟩
  obtain ⟨β2, k1, k2, k3⟩ := call_post hH hnd hns (ro := false) (fun _ h => h) (fun _ => rfl) g1 hnt g2 ho hfr
  rw [hov] at k2
  obtain ⟨l, hl, k2⟩ := k2
  have hl : l = L.tout.map fun t => a'.tmps.getD t undef := by
    have := Value.tuple.inj hl
    exact (List.toArray_inj this).symm
  subst hl
  refine hQ _ _ a' w' hk ⟨β2, h0.trans k1, ?_, fun t => ?_, g4, g5, fun t ht => ?_⟩
  · have e1 : lkF (o.nw ++ upHs o.wr s.H) = happ o (lkF s.H) := by
      funext n
      simp only [lkF_append, happ, lkF_upHs]
      cases lkF o.nw n <;> rfl
    rw [e1]
    refine k3.mono (fun n hn => ?_) (fun _ _ h => h)
    show n < s.nx + o.nw.length
    rcases hn with hn | hn
    · have hn : n < s.nx := hn
      omega
    · have := newOk_spec hnew hn; omega
  · refine putTs_rel (f := fun t => a'.tmps.getD t undef) (fun t => ?_) (RelL.of1 k2) t
    rw [forgetT_get]
    split
    · trivial
    · rename_i hb
      rw [g6 t (by simpa [wrCode] using hb)]
      exact (hT t).ext k1
  · rw [g6 t ?_]
    · exact h5 t ht
    · show hasBit (wrCode body) t = false
      cases hb : hasBit (wrCode body) t with
      | false => rfl
      | true =>
        have hlt : t < C.N := by
          rcases Nat.lt_or_ge t C.N with h | h
          · exact h
          · have : wrCode body < 2 ^ t := Nat.lt_of_lt_of_le hbig (Nat.pow_le_pow_right (by omega) h)
            unfold hasBit at hb
            rw [Nat.testBit_lt_two_pow this] at hb
            cases hb
        rw [(hX.dst t (maskOk_spec hmask t hlt hb)).1] at ht
        cases ht

theorem ev_sound {R : Type} {L : Lps} {res : R} (hX : KitOk X C) (hm : X.E.P.follows .mixedOrders = true) (hN : L.N = C.N) : ∀ (c : Code), LoopsOk X.E.P L c → ∀ {s : St} {K : Ex → St → Option R} {a : Act} {w : World} {Q : Exit → Act → World → Prop}, ev X L c s K = some res → RelSt C s a w →
    (∀ e s' a' w', K e s' = some res → RelSt C s' a' w' → Q (exOf e) a' w') → c.wp X.E.P Q a w := by
  intro c
  induction c with
  | skip => intro _ s K a w Q h hI hQ; exact wp_skip (hQ .normal s a w h hI)
  | region id ops draw =>
    intro _ s K a w Q h hI hQ
    exact evRegion_sound hX hm h hI fun s' a' w' h1 h2 => hQ .normal s' a' w' h1 h2
  | seq x y ihx ihy =>
    intro hL s K a w Q h hI hQ
    refine wp_seq (ihx hL.1 (K := _) h hI ?_)
    intro e s' a' w' h1 h2
    cases e with
    | normal => exact ihy hL.2 h1 h2 hQ
    | exit id => exact hQ _ s' a' w' h1 h2
    | ret => exact hQ _ s' a' w' h1 h2
  | cond o x y ihx ihy =>
    intro hL s K a w Q h hI hQ
    unfold ev at h
    split at h
    · rename_i t ht
      have hc : a.eval o = .bool t := by
        obtain ⟨β, _, _, hT, _⟩ := hI
        have := valF_rel hT o
        rw [← St.val_eq, ht] at this
        exact this
      refine wp_cond_split hc (fun e => ?_) (fun e => ?_)
      · subst e; exact ihx hL.1 h hI hQ
      · subst e; exact ihy hL.2 h hI hQ
    · cases h
  | block id body ih =>
    intro hL s K a w Q h hI hQ
    unfold ev at h
    unfold LoopsOk at hL
    split at h
    · rename_i S hS
      rw [hS] at hL
      exact evSum_sound hX hN hL h hI hQ
    · rename_i hS
      rw [hS] at hL
      refine wp_block (ih hL h hI ?_)
      intro e s' a' w' h1 h2
      cases e with
      | normal => exact hQ .normal s' a' w' h1 h2
      | ret => exact hQ .ret s' a' w' h1 h2
      | exit id' =>
        simp only [exOf, Exit.inBlock]
        by_cases e : id' = id
        · subst e
          rw [if_pos rfl]
          simp only [Nat.beq_refl] at h1
          exact hQ .normal s' a' w' h1 h2
        · rw [if_neg e]
          simp only [beq_false e] at h1
          exact hQ (.exit id') s' a' w' h1 h2
  | loop body ih =>
    intro hL s K a w Q h hI hQ
    have key : ∀ (n : Nat) (s : St) (a : Act) (w : World), iterL (ev X L body) n s K = some res → RelSt C s a w → Code.rounds X.E.P body Q n a w := by
      intro n
      induction n with
      | zero => intro s a w h _; cases h
      | succ n ihn =>
        intro s a w h hI
        refine ih hL (K := _) h hI ?_
        intro e s' a' w' h1 h2
        cases e with
        | normal => exact ihn s' a' w' h1 h2
        | exit id => exact hQ _ s' a' w' h1 h2
        | ret => exact hQ _ s' a' w' h1 h2
    exact wp_loop_rounds L.fuel (key L.fuel s a w h hI)
  | exit id => intro _ s K a w Q h hI hQ; exact wp_exit (hQ (.exit id) s a w h hI)
  | ret => intro _ s K a w Q h hI hQ; exact wp_ret (hQ .ret s a w h hI)
  | _ => intro _ s K a w Q h hI hQ; cases h

end
end Go.Proofs.Ytmkhbgklclhmgaa

namespace Go.Proofs.Ytmkhbgklclhmgaa
open Go

section
variable {cx : Cx} {Wr : Nat → Prop} {β : Bm} {H : Nat → Option Blk} {D : Nat → Prop} {w : World} {P : Program}

theorem closeO_spec : ∀ {f i : Nat} {ns ns' : List Nat} {bs : List (Option Blk)}, closeO H f i ns = some (ns', bs) → i ≤ ns.length →
    (∃ s, ns' = ns ++ s) ∧ (ns.Nodup → ns'.Nodup) ∧ i + bs.length = ns'.length ∧ ∀ (j n : Nat), ns'[i + j]? = some n → bs[j]? = some (H n) := by
  intro f
  induction f with
  | zero => intro i ns ns' bs h; cases h
  | succ f ih =>
    intro i ns ns' bs h hi
    unfold closeO at h
    split at h
    · rename_i hn
      simp only [Option.some.injEq, Prod.mk.injEq] at h
      obtain ⟨e1, e2⟩ := h
      subst e2
      have hlen : ns.length ≤ i := List.getElem?_eq_none_iff.1 hn
      refine ⟨⟨[], by simp [e1]⟩, fun h => e1 ▸ h, by rw [← e1]; simp; omega, fun j n e => ?_⟩
      rw [← e1, List.getElem?_eq_none (by omega)] at e
      cases e
    · rename_i n hn
      have hlt := (List.getElem?_eq_some_iff.1 hn).1
      split at h
      · rename_i b hb
        split at h
        · rename_i r hr
          obtain ⟨ns2, bs2⟩ := r
          simp only [Option.some.injEq, Prod.mk.injEq] at h
          obtain ⟨e1, e2⟩ := h
          subst e1; subst e2
          obtain ⟨⟨s, hs⟩, hnd⟩ := insL_spec (refsB b) ns
          obtain ⟨⟨s2, h3⟩, h4, h5, h6⟩ := ih hr (by rw [hs]; simp; omega)
          refine ⟨⟨s ++ s2, by rw [h3, hs, List.append_assoc]⟩, fun h => h4 (hnd h), by simp; omega, fun j m e => ?_⟩
          cases j with
          | zero =>
            rw [h3, hs, List.append_assoc, Nat.add_zero, List.getElem?_append_left hlt, hn] at e
            cases e
            simp [hb]
          | succ j => simpa using h6 j m (by rw [← e]; congr 1; omega)
        · cases h
      · rename_i hb
        split at h
        · rename_i r hr
          obtain ⟨ns2, bs2⟩ := r
          simp only [Option.some.injEq, Prod.mk.injEq] at h
          obtain ⟨e1, e2⟩ := h
          subst e1; subst e2
          obtain ⟨⟨s2, h3⟩, h4, h5, h6⟩ := ih hr (by omega)
          refine ⟨⟨s2, h3⟩, h4, by simp; omega, fun j m e => ?_⟩
          cases j with
          | zero =>
            rw [h3, Nat.add_zero, List.getElem?_append_left hlt, hn] at e
            cases e
            simp [hb]
          | succ j => simpa using h6 j m (by rw [← e]; congr 1; omega)
        · cases h

theorem canonO_rel (hH : RelH cx Wr β H D w) {k : Nat} {vs vs' : List AV} {bs' : List (Option Blk)} {l : List Value} (h : canonO k vs H = some (vs', bs')) (hl : RelL cx β vs l) :
    ∃ β', (∀ i, i < k → β' i = β i) ∧ RelH cx Wr β' (houtF bs') (fun n => n < bs'.length) w ∧ RelL cx β' vs' l := by
  unfold canonO at h
  split at h
  rotate_left
  · cases h
  rename_i r hr
  obtain ⟨ns, bs⟩ := r
  split at h
  rotate_left
  · cases h
  rename_i vs1 bs1 hvs hbs
  simp only [Option.some.injEq, Prod.mk.injEq] at h
  obtain ⟨rfl, rfl⟩ := h
  simp only at hvs hbs
  obtain ⟨⟨s, hs⟩, hnd⟩ := insL_spec (refsL vs) (freshN 0 k)
  obtain ⟨⟨s2, h3⟩, h4, h5, h6⟩ := closeO_spec hr (Nat.zero_le _)
  have hnd := h4 (hnd (freshN_nodup _ _))
  obtain ⟨hbl, hbg⟩ := renOs_get hbs
  have hsub : ∀ {i : Nat} {p : Pl}, subM ns β i = some p → ∃ n, ns[i]? = some n ∧ β n = some p := fun e => subM_get e
  have hlive : ∀ {i : Nat} {c : Blk}, houtF bs1 i = some c → ∃ n b, ns[i]? = some n ∧ H n = some b ∧ renB (idxN ns) b = some c := by
    intro i c hc
    obtain ⟨b, hb, hrb⟩ := hbg i c (houtF_some.1 hc)
    have hi := (List.getElem?_eq_some_iff.1 hb).1
    have hn : ns[i]? = some (ns[i]'(by omega)) := List.getElem?_eq_getElem _
    have := h6 i _ (by rw [Nat.zero_add]; exact hn)
    rw [hb] at this
    exact ⟨_, b, hn, (Option.some.inj this).symm, hrb⟩
  refine ⟨subM ns β, fun i hi => ?_, ⟨hH.size, hH.frame, hH.xok, fun i p e => ?_, fun i p cs e hc => ?_, fun i cs hc => ?_, fun i cs hc => ?_, fun i j p q e1 e2 l1 l2 hpq => ?_, hH.os, hH.tape, hH.output⟩, renL_rel (subM_ren ns β) hvs hl⟩
  · have : ns[i]? = some i := by
      rw [h3, hs, List.append_assoc, List.getElem?_append_left (by rw [freshN_length]; exact hi), freshN_get _ _ _ hi]
      simp
    simp only [subM, this]
  · obtain ⟨n, hn, hp⟩ := hsub e
    have := (List.getElem?_eq_some_iff.1 hn).1
    exact ⟨by omega, (hH.dom n p hp).2⟩
  · obtain ⟨n, hn, hp⟩ := hsub e
    obtain ⟨n', b, hn', hb, hrb⟩ := hlive hc
    rw [hn] at hn'
    cases hn'
    exact (hH.held n p b hp hb).ren (subM_ren ns β) hrb
  · obtain ⟨n', b, hn', hb, hrb⟩ := hlive hc
    exact renB_wf hrb (hH.wf _ _ hb)
  · exact (List.getElem?_eq_some_iff.1 (houtF_some.1 hc)).1
  · obtain ⟨n, hn, hp⟩ := hsub e1
    obtain ⟨m, hm, hq⟩ := hsub e2
    obtain ⟨c1, l1⟩ := Option.isSome_iff_exists.1 l1
    obtain ⟨c2, l2⟩ := Option.isSome_iff_exists.1 l2
    obtain ⟨n', b, hn', hb, _⟩ := hlive l1
    obtain ⟨m', c, hm', hc, _⟩ := hlive l2
    rw [hn] at hn'; cases hn'
    rw [hm] at hm'; cases hm'
    have : n = m := hH.inj n m p q hp hq (by rw [hb]; rfl) (by rw [hc]; rfl) hpq
    subst this
    obtain ⟨a1, a2⟩ := List.getElem?_eq_some_iff.1 hn
    obtain ⟨a3, a4⟩ := List.getElem?_eq_some_iff.1 hm
    exact (List.getElem_inj hnd).1 (a2.trans a4.symm)

theorem zipT_get : ∀ (vs : List AV) (i t : Nat), lkT (zipT i vs) t = if i ≤ t then vs.getD (t - i) .any else .any
  | [], i, t => by simp [zipT, lkT]
  | v :: vs, i, t => by
    simp only [zipT, lkT]
    by_cases h : i = t
    · subst h; simp
    · simp only [beq_false h]
      rw [zipT_get vs (i + 1) t]
      by_cases h' : i ≤ t
      · rw [if_pos (by omega), if_pos h', show t - i = (t - (i + 1)) + 1 by omega]
        simp
      · rw [if_neg (by omega), if_neg h']

theorem zipH_get : ∀ (bs : List (Option Blk)) (i n : Nat), lkF (zipH i bs) n = if i ≤ n then houtF bs (n - i) else none
  | [], i, n => by simp [zipH, lkF, houtF]
  | some b :: bs, i, n => by
    simp only [zipH, lkF]
    by_cases h : i = n
    · subst h; simp [houtF]
    · simp only [beq_false h]
      rw [zipH_get bs (i + 1) n]
      by_cases h' : i ≤ n
      · rw [if_pos (by omega), if_pos h', show n - i = (n - (i + 1)) + 1 by omega]
        simp [houtF]
      · rw [if_neg (by omega), if_neg h']
  | none :: bs, i, n => by
    simp only [zipH]
    rw [zipH_get bs (i + 1) n]
    by_cases h : i = n
    · subst h; rw [if_neg (by omega), if_pos (Nat.le_refl _)]; simp [houtF]
    · by_cases h' : i ≤ n
      · rw [if_pos (by omega), if_pos h', show n - i = (n - (i + 1)) + 1 by omega]
        simp [houtF]
      · rw [if_neg (by omega), if_neg h']

theorem someL_map : ∀ (bs : List Blk), someL bs = bs.map some
  | [] => rfl
  | b :: bs => by simp [someL, someL_map bs]

theorem houtF_someL (bs : List Blk) : houtF (someL bs) = hinF bs := by
  funext n
  unfold houtF hinF
  rw [someL_map, List.getElem?_map]
  cases bs[n]? <;> rfl

theorem zipH_fun (bs : List (Option Blk)) : lkF (zipH 0 bs) = houtF bs := by
  funext n
  rw [zipH_get, if_pos (Nat.zero_le _), Nat.sub_zero]

/-! Results. -/
def resF (tm : Array Value) : ResultVar → Sem Value
  | .tmp t => pure (tm.getD t undef)
  | .cell a t => do loadVar t (← asAddr (tm.getD a undef))

theorem results_eq (fn : Func) (tm : Array Value) : results fn tm = (do
    let vs ← fn.results.mapM (resF tm)
    pure (if h : vs.size = 1 then vs[0] else .tuple vs)) := by
  rfl

theorem resOne_sound {E : Env} {s : St} {tm : Array Value} {r : ResultVar} {tr : Tr AV} {v : AV} (h : resOne E s r = some tr) (hg : tr.get = some v) (hH : RelH cx Wr β (lkF s.H) D w) (hT : ∀ t, RelV cx β (lkT s.T t) (tm.getD t undef)) :
    ∃ β' cv, Ext β β' ∧ RelH cx Wr β' (lkF s.H) D w ∧ RelV cx β' v cv ∧ (resF tm r).run E.P w = .ok cv w := by
  cases r with
  | tmp t =>
    simp only [resOne, Option.some.injEq] at h
    subst h
    simp only [Tr.get, Option.some.injEq] at hg
    subst hg
    exact ⟨β, _, Ext.refl β, hH, hT t, by simp [resF]⟩
  | cell a t =>
    simp only [resOne] at h
    cases hrun : (loadSem E.P t (lkT s.T a)).run (lkF s.H) with
    | none => rw [hrun] at h; cases h
    | some q =>
      obtain ⟨tr0, rd⟩ := q
      rw [hrun] at h
      simp only [Option.some.injEq] at h
      subst h
      obtain ⟨o, ho, hov⟩ := Tr.map_get hg
      split at hov
      · rename_i hw hn
        simp only [Option.some.injEq] at hov
        subst hov
        obtain ⟨cv, h1, β', h2, h3, h4⟩ := loadSem_run (P := E.P) hrun ho hH (hT a)
        have e1 : happ o (lkF s.H) = lkF s.H := by funext n; simp [happ, hn, hw, lkF, wrF]
        have e2 : dapp o D = D := by funext n; simp [dapp, hn, lkF]
        rw [e1, e2] at h4
        refine ⟨β', cv, h2, h4, h3, ?_⟩
        have hp : ∃ p, tm.getD a undef = .pointer (some p) := by
          have hv := hT a
          unfold loadSem at hrun
          split at hrun
          · rename_i b off he
            rw [he] at hv
            obtain ⟨q, _, hv⟩ := hv
            exact ⟨_, hv⟩
          · rename_i c i he
            rw [he] at hv
            obtain ⟨b, o', hv, _⟩ := hv
            exact ⟨_, hv⟩
          · exact (fail_run hrun).elim
        obtain ⟨p, hp⟩ := hp
        rw [hp] at h1
        simp only [resF, hp]
        simpa [Instr.loadAt, Instr.sureAddr, asAddr] using h1
      · cases hov

theorem resAll_sound {R : Type} {E : Env} {s : St} {tm : Array Value} {res : R} : ∀ {rs : List ResultVar} {acc : List AV} {K : List AV → Option R} {β : Bm}, resAll E s rs acc K = some res → RelH cx Wr β (lkF s.H) D w → (∀ t, RelV cx β (lkT s.T t) (tm.getD t undef)) →
    ∃ β' vs cvs, Ext β β' ∧ RelH cx Wr β' (lkF s.H) D w ∧ K (acc ++ vs) = some res ∧ RelL cx β' vs cvs ∧ (rs.mapM (resF tm)).run E.P w = .ok cvs w
  | [], acc, K, β, h, hH, hT => ⟨β, [], [], Ext.refl β, hH, by simpa [resAll] using h, ⟨rfl, fun j v cv e => by simp at e⟩, by simp⟩
  | r :: rs, acc, K, β, h, hH, hT => by
    simp only [resAll] at h
    cases htr : resOne E s r with
    | none => rw [htr] at h; cases h
    | some tr =>
      rw [htr] at h
      obtain ⟨v, hv, hk⟩ := cps_get h
      obtain ⟨β1, cv, h1, h2, h3, h4⟩ := resOne_sound htr hv hH hT
      obtain ⟨β2, vs, cvs, g1, g2, g3, g4, g5⟩ := resAll_sound hk h2 (fun t => (hT t).ext h1)
      refine ⟨β2, v :: vs, cv :: cvs, h1.trans g1, g2, by simpa using g3, ⟨by simp [g4.1], fun j u cu e1 e2 => ?_⟩, ?_⟩
      · cases j with
        | zero =>
          simp only [List.getElem?_cons_zero, Option.some.injEq] at e1 e2
          subst e1; subst e2
          exact h3.ext g1
        | succ j => exact g4.2 j u cu (by simpa using e1) (by simpa using e2)
      · simp [List.mapM_cons, h4, g5]

theorem tupV_rel {vs : List AV} {cvs : List Value} (hn : noTup vs = true) (h : RelL cx β vs cvs) : RelV cx β (tupV vs) (if h : cvs.toArray.size = 1 then cvs.toArray[0] else .tuple cvs.toArray) := by
  have hl := h.1
  rcases vs with _ | ⟨v, _ | ⟨u, vs⟩⟩
  · rw [dif_neg (by simp at hl ⊢; omega)]
    exact ⟨cvs, rfl, RelL1.of hn h⟩
  · rcases cvs with _ | ⟨c, _ | ⟨d, cvs⟩⟩
    · simp at hl
    · exact h.2 0 v c rfl rfl
    · simp at hl
  · rw [dif_neg (by simp at hl ⊢; omega)]
    exact ⟨cvs, rfl, RelL1.of hn h⟩

theorem RelL.one {v : AV} {cv : Value} (h : RelV cx β v cv) : RelL cx β [v] [cv] :=
  ⟨rfl, fun j u cu e1 e2 => by
    cases j with
    | zero =>
      simp only [List.getElem?_cons_zero, Option.some.injEq] at e1 e2
      subst e1; subst e2
      exact h
    | succ j => simp at e1⟩

theorem evBody_sound {X : Kit} {L : Lps} {fn : Func} {c : Code} {f : Nat} {args : List AV} {hin : List Blk} {v : AV} {hout : List (Option Blk)} (hE : EnvOk X.E) (hdk : X.dk = fun d => Nat.blt d fn.ntmps) (hN : L.N = fn.ntmps) (hm : X.E.P.follows .mixedOrders = true)
    (hL : LoopsOk X.E.P L c) (hf : X.E.P.funcs[f]? = some fn) (hb : fn.body = some c) (h : evBody X L fn c args hin = some (v, hout)) : Ctr X.E.P f args hin v hout := by
  intro w Xr Wr β cargs hH hA
  unfold evBody at h
  split at h
  rotate_left
  · cases h
  rename_i hle
  have hle : args.length ≤ fn.ntmps := by rw [← hN]; exact Nat.le_of_ble_eq_true hle
  have hX : KitOk X ⟨now w Xr, Wr, β, fn.ntmps, fun _ => true, fun _ => undef⟩ := ⟨hE, fun d hd => by rw [hdk] at hd; exact ⟨rfl, Nat.le_of_ble_eq_true hd⟩⟩
  have hlen := hA.1
  refine calls_of_wp hf hb (ev_sound hX hm hN c hL h (a := _) ?_ ?_)
  · refine ⟨β, Ext.refl β, ?_, fun t => ?_, rfl, by simp; omega, fun t ht => by cases ht⟩
    · simp only [zipH_fun, houtF_someL]; exact hH
    · simp only [zipT_get, Nat.zero_le, if_true, Nat.sub_zero]
      by_cases ht : t < args.length
      · have h1 : args[t]? = some args[t] := List.getElem?_eq_getElem ht
        have h2 : cargs[t]? = some (cargs[t]'(by omega)) := List.getElem?_eq_getElem _
        have := hA.2 t _ _ h1 h2
        rw [List.getD, h1, Option.getD_some]
        have e : (cargs.toArray ++ Array.replicate (fn.ntmps - cargs.toArray.size) undef).getD t undef = cargs[t]'(by omega) := by
          have : t < cargs.length := by omega
          simp [Array.getD_eq_getD_getElem?, Array.getElem?_append, this]
        rw [e]
        exact this
      · rw [List.getD, List.getElem?_eq_none (by omega), Option.getD_none]
        trivial
  · intro e s a' w' h1 h2
    have key : resAll X.E s fn.results.toList [] (fun vs => match noTup vs with
        | true => match canonO hin.length [tupV vs] (lkF s.H) with
          | some ([v], bs) => some (v, bs)
          | _ => none
        | false => none) = some (v, hout) ∧ (exOf e = .normal ∨ exOf e = .ret) := by
      cases e with
      | normal => exact ⟨h1, .inl rfl⟩
      | ret => exact ⟨h1, .inr rfl⟩
      | exit id => cases h1
    obtain ⟨h1, he⟩ := key
    obtain ⟨β1, g0, gH, gT, g3, _, _⟩ := h2
    obtain ⟨β2, vs, cvs, k1, k2, k3, k4, k5⟩ := resAll_sound (tm := a'.tmps) h1 gH gT
    rw [List.nil_append] at k3
    split at k3
    rotate_left
    · cases k3
    rename_i hnt
    split at k3
    rotate_left
    · cases k3
    rename_i v1 bs1 hcan
    simp only [Option.some.injEq, Prod.mk.injEq] at k3
    obtain ⟨rfl, rfl⟩ := k3
    obtain ⟨β3, q1, q2, q3⟩ := canonO_rel k2 hcan (RelL.one (tupV_rel hnt k4))
    have hres : (results fn a'.tmps).run X.E.P w' = .ok (if h : cvs.toArray.size = 1 then cvs.toArray[0] else .tuple cvs.toArray) w' := by
      rw [results_eq, Array.mapM_eq_mapM_toList]
      simp [k5]
    have hR : ∃ v, (results fn a'.tmps).run X.E.P w' = .ok v w' ∧ (∃ cv β', Ending.returned v = .returned cv ∧ Ext β β' ∧ RelV (now w Xr) β' v1 cv ∧ RelH (now w Xr) Wr β' (houtF bs1) (fun n => n < bs1.length) w') := by
      refine ⟨_, hres, _, β3, rfl, fun n p hn => ?_, q3.2 0 _ _ rfl rfl, q2⟩
      have hlt := (hH.dom n p hn).1
      rw [q1 n hlt]
      exact (g0.trans k1) n p hn
    rcases he with he | he <;> rw [he] <;> exact ⟨g3, hR⟩

/-- A function by what the evaluator says. -/
theorem fok {X : Kit} {L : Lps} {fn : Func} {c : Code} {f : Nat} {F : FSem} (hE : EnvOk X.E) (hdk : X.dk = fun d => Nat.blt d fn.ntmps) (hN : L.N = fn.ntmps) (hm : X.E.P.follows .mixedOrders = true)
    (hL : LoopsOk X.E.P L c) (hf : X.E.P.funcs[f]? = some fn) (hb : fn.body = some c) (hn : fn.name ≠ "runtime.NumGoroutine")
    (h : ∀ args hin t r, F.run args hin = some t → t.get = some r → evBody X L fn c args hin = some r) : FOk X.E.P f F :=
  ⟨⟨fn, c, hf, hb, hn⟩, fun args hin t v hout h1 h2 => evBody_sound hE hdk hN hm hL hf hb (h args hin t (v, hout) h1 h2)⟩

/-! Loops. -/
def exB (id : Nat) : Ex → Option Ex
  | .normal => none
  | .exit j => match Nat.beq j id with
    | true => some .normal
    | false => some (.exit j)
  | .ret => some .ret

theorem loop_ok {X : Kit} {Lp : Lps} {L : LSem} {id N : Nat} {body : Code} (hE : EnvOk X.E) (hdk : ∀ d, X.dk d = true → hasBit (wrCode body) d = true ∧ d < N) (hN : Lp.N = N) (hm : X.E.P.follows .mixedOrders = true) (hLo : LoopsOk X.E.P Lp body)
    (h : ∀ args hin t e vs hout, L.run args hin = some t → t.get = some (e, vs, hout) → ∃ (n : Nat) (A : Nat → List AV × List (Option Blk)) (e' : Ex), A 0 = (args, someL hin) ∧
      (∀ i, i < n → evRound X Lp L hin.length body (A i).1 (A i).2 = some (.normal, A (i + 1))) ∧ evRound X Lp L hin.length body (A n).1 (A n).2 = some (e', vs, hout) ∧ exB id e' = some e) :
    LOk X.E.P N (.block id (.loop body)) L := by
  intro args hin t e vs hout h1 h2 w Xr Wr β a Q hH hA hd hsz hQ
  obtain ⟨n, A, e', hA0, hstep, hlast, hex⟩ := h args hin t e vs hout h1 h2
  refine wp_block (wp_loop_rounds (n + 1) ?_)
  let C : C0 := ⟨now w Xr, Wr, β, N, hasBit (wrCode body), fun t => a.tmps.getD t undef⟩
  have hX : KitOk X C := ⟨hE, hdk⟩
  -- the state at the head of a round
  have hhead : ∀ (i : Nat) (a' : Act) (w' : World) (β' : Bm), Ext β β' → RelH (now w Xr) Wr β' (houtF (A i).2) (fun n => n < (A i).2.length) w' → RelL (now w Xr) β' (A i).1 (L.tin.map fun t => a'.tmps.getD t undef) → a'.defers = [] → a'.tmps.size = N →
      (∀ t, hasBit (wrCode body) t = false → a'.tmps.getD t undef = a.tmps.getD t undef) → RelSt C ⟨putTs L.tin (A i).1 [], zipH 0 (A i).2, (A i).2.length⟩ a' w' := by
    intro i a' w' β' k1 k2 k3 k4 k5 k6
    refine ⟨β', k1, ?_, fun t => ?_, k4, k5, k6⟩
    · simp only [zipH_fun]; exact k2
    · exact putTs_rel (f := fun t => a'.tmps.getD t undef) (fun t => by simp only [lkT]; trivial) k3 t
  have key : ∀ (m i : Nat) (a' : Act) (w' : World) (β' : Bm), i + m = n → Ext β β' → RelH (now w Xr) Wr β' (houtF (A i).2) (fun n => n < (A i).2.length) w' → RelL (now w Xr) β' (A i).1 (L.tin.map fun t => a'.tmps.getD t undef) → a'.defers = [] → a'.tmps.size = N →
      (∀ t, hasBit (wrCode body) t = false → a'.tmps.getD t undef = a.tmps.getD t undef) → Code.rounds X.E.P body (Exit.inBlock id Q) (m + 1) a' w' := by
    have hβ : ∀ n p, β n = some p → n < hin.length := fun n p hn => (hH.dom n p hn).1
    intro m
    induction m with
    | zero =>
      intro i a' w' β' hi k1 k2 k3 k4 k5 k6
      have hi : i = n := by omega
      subst hi
      refine ev_sound hX hm hN body hLo hlast (hhead i a' w' β' k1 k2 k3 k4 k5 k6) ?_
      intro e2 s a2 w2 g1 g2
      split at g1
      rotate_left
      · cases g1
      rename_i r hr
      simp only [Option.some.injEq, Prod.mk.injEq] at g1
      obtain ⟨rfl, rfl, rfl⟩ := g1
      obtain ⟨β2, b0, b1, b2, b3, b4, b5⟩ := g2
      cases e2 with
      | normal => cases hex
      | ret =>
        cases hex
        obtain ⟨β3, q1, q2, q3⟩ := canonO_rel b1 hr (valsT_map b2 L.tout)
        exact hQ β3 a2 w2 (fun n p hn => by rw [q1 n (hβ n p hn)]; exact b0 n p hn) q2 q3 b3 b4 b5
      | exit j =>
        obtain ⟨β3, q1, q2, q3⟩ := canonO_rel b1 hr (valsT_map b2 L.tout)
        have hQ2 := hQ β3 a2 w2 (fun n p hn => by rw [q1 n (hβ n p hn)]; exact b0 n p hn) q2 q3 b3 b4 b5
        unfold exB at hex
        show Exit.inBlock id Q (.exit j) a2 w2
        unfold Exit.inBlock
        by_cases hj : j = id
        · subst hj
          simp only [Nat.beq_refl, Option.some.injEq] at hex
          subst hex
          simp only [if_true]
          exact hQ2
        · simp only [beq_false hj, Option.some.injEq] at hex
          subst hex
          simp only [hj, if_false]
          exact hQ2
    | succ m ih =>
      intro i a' w' β' hi k1 k2 k3 k4 k5 k6
      refine ev_sound hX hm hN body hLo (hstep i (by omega)) (hhead i a' w' β' k1 k2 k3 k4 k5 k6) ?_
      intro e2 s a2 w2 g1 g2
      split at g1
      rotate_left
      · cases g1
      rename_i r hr
      simp only [Option.some.injEq, Prod.mk.injEq] at g1
      obtain ⟨rfl, hr2⟩ := g1
      obtain ⟨β2, b0, b1, b2, b3, b4, b5⟩ := g2
      obtain ⟨β3, q1, q2, q3⟩ := canonO_rel b1 hr (valsT_map b2 L.tin)
      have r1 : (A (i + 1)).1 = r.1 := by rw [← hr2]
      have r2 : (A (i + 1)).2 = r.2 := by rw [← hr2]
      exact ih (i + 1) a2 w2 β3 (by omega) (fun n p hn => by rw [q1 n (hβ n p hn)]; exact b0 n p hn) (by rw [r2]; exact q2) (by rw [r1]; exact q3) b3 b4 b5
  refine key n 0 a w β (by omega) (Ext.refl β) ?_ ?_ hd hsz (fun _ _ => rfl)
  · rw [hA0]; simp only [someL_map, List.length_map]; rw [← someL_map, houtF_someL]; exact hH
  · rw [hA0]; exact hA

end
end Go.Proofs.Ytmkhbgklclhmgaa

namespace Go.Proofs.Ytmkhbgklclhmgaa
open Go Go.ChangeShapes Go.WideShapes Go.RowKit

section
variable {H : Type} {enc : TypeId × Value → H} {P : Program} {W : World} {r : Reach} {b0 base : Nat} {spare : Nat → Bool} {held : Bool} {t e : TypeId} {k : IntKind} {v : Value} {d : DataW H} {ps : List MemPlace}

theorem wf_u (hk : isU k = true) {n : Int} (h : (Lit.int k n).wf = true) : 0 ≤ n ∧ n.toNat < lim k := by
  cases k <;> simp [isU] at hk <;> simp [Lit.wf, IntKind.min, IntKind.max, IntKind.signed, IntKind.bits, lim] at h ⊢ <;> omega

theorem open_uintV (ht : P.underlying t = some (.int k)) (hk : isU k = true) (hval : Value.okWide P W r b0 t v) (hd : DataW.Trod enc P W base spare held t v d ps) : ∃ x : Nat, x < lim k ∧ v = .int k x := by
  obtain ⟨n, rfl, _, _, hw⟩ := open_int ht hval hd
  obtain ⟨h1, h2⟩ := wf_u hk hw
  exact ⟨n.toNat, h2, by rw [Int.toNat_of_nonneg h1]⟩

theorem open_i64V (ht : P.underlying t = some (.int .i64)) (hval : Value.okWide P W r b0 t v) (hd : DataW.Trod enc P W base spare held t v d ps) : ∃ z : Int, -9223372036854775808 ≤ z ∧ z < 9223372036854775808 ∧ v = .int .i64 z := by
  obtain ⟨n, rfl, _, _, hw⟩ := open_int ht hval hd
  refine ⟨n, ?_, ?_, rfl⟩ <;> simp [Lit.wf, IntKind.min, IntKind.max, IntKind.signed, IntKind.bits] at hw <;> omega

theorem open_arrC {n : Nat} (hk : isU k = true) (he : P.underlying e = some (.int k)) (hce : P.cellsOf e = 1) (ht : P.underlying t = some (.array n e)) (hct : P.cellsOf t = n) {fuel : Nat} {cs : List Value} {x : DataW H × List MemPlace}
    (hd : DataW.trod enc P W base spare held fuel t cs = some x) : ∃ xs : List Nat, xs.length = n ∧ (∀ x ∈ xs, x < lim k) ∧ cs = xs.map (fun x : Nat => Value.int k x) := by
  obtain ⟨ys, m, _, _, hlen, hyl, hget⟩ := DataW.trod_array ht hd
  rw [hct] at hlen
  have key : ∀ i, i < n → ∃ z : Nat, z < lim k ∧ cs[i]? = some (.int k z) := by
    intro i hi
    have h1 := hget i hi
    rw [hce, Nat.mul_one] at h1
    have hy : ys[i]? = some (ys[i]'(by omega)) := List.getElem?_eq_getElem _
    rw [hy] at h1
    have hc : cs[i]? = some (cs[i]'(by omega)) := List.getElem?_eq_getElem _
    have hcs : (cs.drop i).take 1 = [cs[i]'(by omega)] := by
      rw [List.take_one, List.head?_drop, hc]; rfl
    rw [hcs] at h1
    obtain ⟨z, hz1, _, hz3⟩ := DataW.trod_int he h1
    obtain ⟨g1, g2⟩ := wf_u hk hz3
    refine ⟨z.toNat, g2, ?_⟩
    rw [hc, Int.toNat_of_nonneg g1]
    simp only [List.cons.injEq] at hz1
    rw [hz1.1]
  refine ⟨cs.map fun v => match v with
    | .int _ z => z.toNat
    | _ => 0, by simpa using hlen, fun x hx => ?_, ?_⟩
  · obtain ⟨v, hv, rfl⟩ := List.mem_map.1 hx
    obtain ⟨i, hi, rfl⟩ := List.getElem_of_mem hv
    obtain ⟨z, hz, hz2⟩ := key i (by omega)
    rw [List.getElem?_eq_getElem hi] at hz2
    rw [Option.some.inj hz2]
    simpa using hz
  · apply List.ext_getElem?
    intro i
    by_cases hi : i < cs.length
    · obtain ⟨z, hz, hz2⟩ := key i (by omega)
      simp only [List.map_map, List.getElem?_map, hz2, Option.map_some, Function.comp]
      simp
    · simp [List.getElem?_eq_none (Nat.le_of_not_lt hi)]

theorem open_arrV {n : Nat} (hk : isU k = true) (he : P.underlying e = some (.int k)) (hce : P.cellsOf e = 1) (ht : P.underlying t = some (.array n e)) (hct : P.cellsOf t = n) (hval : Value.okWide P W r b0 t v) (hd : DataW.Trod enc P W base spare held t v d ps) :
    ∃ xs : List Nat, xs.length = n ∧ (∀ x ∈ xs, x < lim k) ∧ v = .agg (xs.map (fun x : Nat => Value.int k x)).toArray := by
  obtain ⟨fuel, hd⟩ := hd
  simp only [Value.okWide, ht] at hval
  obtain ⟨cs, rfl, _, _⟩ := hval
  obtain ⟨xs, h1, h2, h3⟩ := open_arrC hk he hce ht hct hd
  refine ⟨xs, h1, h2, ?_⟩
  congr 1
  apply Array.ext'
  simpa [Value.cells] using h3

theorem relAgg {cx : Cx} {β : Bm} {n : Nat} {xs : List Nat} (h1 : xs.length = n) (h2 : ∀ x ∈ xs, x < lim k) : RelV cx β (.agg [.ints k n xs]) (.agg (xs.map (fun x : Nat => Value.int k x)).toArray) :=
  ⟨_, rfl, h1, h2, [], by simp, rfl⟩

theorem relNat {cx : Cx} {β : Bm} {x : Nat} (h : x < lim k) : RelV cx β (.s (.nat k x)) (.int k x) := ⟨rfl, h⟩

theorem relInt {cx : Cx} {β : Bm} {z : Int} (h1 : -9223372036854775808 ≤ z) (h2 : z < 9223372036854775808) : RelV cx β (.s (.int z)) (.int .i64 z) := ⟨rfl, h1, h2⟩

theorem relNil {cx : Cx} {β : Bm} : RelL cx β [] [] := ⟨rfl, fun j v cv e => by simp at e⟩

theorem relCons {cx : Cx} {β : Bm} {v : AV} {vs : List AV} {cv : Value} {l : List Value} (h : RelV cx β v cv) (hr : RelL cx β vs l) : RelL cx β (v :: vs) (cv :: l) :=
  ⟨by simp [hr.1], fun j u cu e1 e2 => by
    cases j with
    | zero =>
      simp only [List.getElem?_cons_zero, Option.some.injEq] at e1 e2
      subst e1; subst e2
      exact h
    | succ j => exact hr.2 j u cu (by simpa using e1) (by simpa using e2)⟩

/-- All that stands at the start, to be read. -/
def allX (W : World) : Nat → Prop := fun b => b < W.heap.size

theorem cell_lt {a : Addr} {u : Value} (h : W.cell? a = some u) : a.block < W.heap.size := by
  unfold World.cell? at h
  rcases Nat.lt_or_ge a.block W.heap.size with hl | hl
  · exact hl
  · simp [Array.getElem?_eq_none hl] at h

theorem relXs {cx : Cx} {β : Bm} {c : XC} {cv : Value} (h : RelX cx c cv) : RelV cx β (.s (.xsl c)) cv := h

/-- A slice of numbers, by value. -/
theorem open_rowV (hk : isU k = true) (he : P.underlying e = some (.int k)) (hce : P.cellsOf e = 1) (ht : P.underlying t = some (.slice e)) (hval : Value.okWide P W r b0 t v) (hd : DataW.Trod enc P W base spare held t v d ps) :
    ∃ xs : List Nat, xs.length ≤ 9223372036854775807 ∧ (∀ x ∈ xs, x < lim k) ∧ RelX (now W (allX W)) (.ints k xs) v := by
  obtain ⟨fuel, hd⟩ := hd
  have hok := hval
  simp only [Value.okWide, ht, Cell.okWide, Cell.ok] at hok
  have hcell : v.cells.toList = [v] := by
    cases v <;> simp_all [Value.cells]
  rw [hcell] at hd
  rcases open_ints ht he hce hd with ⟨h1, _⟩ | ⟨a, len, cap, zs, h1, _, h2, h3, h4, _, h6, h7⟩
  · simp only [List.cons.injEq, and_true] at h1
    subst h1
    exact ⟨[], by simp, by simp, .inl ⟨rfl, _, _, rfl⟩⟩
  · simp only [List.cons.injEq, and_true] at h1
    subst h1
    simp only [World.has] at hok
    obtain ⟨_, _, _, hspot, _⟩ := hok
    have hlen : len ≤ zs.length := by rw [h4]; split <;> omega
    obtain ⟨b, o, sp⟩ := a
    simp only at hspot
    subst hspot
    have hx : ∀ i, i < len → ∃ z : Nat, z < lim k ∧ zs[i]? = some (z : Int) ∧ W.cell? ⟨b, o + i, none⟩ = some (.int k z) := by
      intro i hi
      have hz : zs[i]? = some (zs[i]'(by omega)) := List.getElem?_eq_getElem _
      obtain ⟨g1, g2⟩ := wf_u hk (h7 _ (List.getElem_mem (by omega : i < zs.length)))
      refine ⟨(zs[i]'(by omega)).toNat, g2, by rw [hz, Int.toNat_of_nonneg g1], ?_⟩
      have := h6 i (by omega)
      rw [addr_add] at this
      rw [this, List.getD, hz, Option.getD_some, Int.toNat_of_nonneg g1]
    refine ⟨(zs.take len).map Int.toNat, by simp [maxLen] at h3 ⊢; omega, fun x hx' => ?_, .inr ⟨b, o, cap, by simp [XC.len]; omega, by simp [XC.len]; omega, fun i x e => ?_⟩⟩
    · obtain ⟨z, hz, rfl⟩ := List.mem_map.1 hx'
      exact (wf_u hk (h7 z (List.mem_of_mem_take hz))).2
    · rw [List.getElem?_map, Option.map_eq_some_iff] at e
      obtain ⟨z, hz, rfl⟩ := e
      have hi : i < len := by have := (List.getElem?_eq_some_iff.1 hz).1; simp at this; omega
      rw [List.getElem?_take_of_lt hi] at hz
      obtain ⟨z', g1, g2, g3⟩ := hx i hi
      rw [hz] at g2
      have : z = (z' : Int) := Option.some.inj g2
      subst this
      simp only [Int.toNat_natCast]
      exact ⟨cell_lt g3, g3, g1⟩

/-! The end. -/
theorem trodAll_stays (hl : laidOutB P = true) {W' : World} (hb : Below W.heap.size W W') {sp : Nat → Bool} : ∀ {ts : List TypeId} {vs : List Value} {ds : List (DataW H)} {ps : List MemPlace}, (∀ t ∈ ts, P.readableRec t = true ∧ t < P.types.size) →
    DataW.TrodAll enc P W 0 (fun _ => true) true ts vs ds ps → (∀ p ∈ ps, p.block < W.heap.size) → (∀ p ∈ ps, sp p.block = true) → DataW.TrodAll enc P W' 0 sp true ts vs ds ps
  | [], vs, ds, ps, _, h, _, _ => by
    obtain ⟨rfl, rfl, rfl⟩ := trodAll_nil h
    exact rfl
  | t :: ts, vs, ds, ps, hts, h, hlt, hsp => by
    obtain ⟨v, vs1, d, ds1, a, b, rfl, rfl, rfl, h1, h2⟩ := trodAll_cons h
    have ht := hts t List.mem_cons_self
    exact ⟨a, b, WideElems.Trod_stays hl ht.1 ht.2 h1 (fun x hx => hb.same (hlt x (List.mem_append_left _ hx))) (fun x hx => hsp x (List.mem_append_left _ hx)),
      trodAll_stays hl hb (fun t h => hts t (List.mem_cons_of_mem _ h)) h2 (fun p hp => hlt p (List.mem_append_right _ hp)) (fun p hp => hsp p (List.mem_append_right _ hp)), rfl⟩

theorem below_of {X : Nat → Prop} {β : Bm} {Hf : Nat → Option Blk} {D : Nat → Prop} {w' : World} (h : RelH (now W X) (fun _ => False) β Hf D w') : Below W.heap.size W w' :=
  ⟨h.os, h.tape, h.output, h.size, fun k hk => h.frame k hk (fun h => h)⟩

theorem relH_start (W : World) : RelH (now W (allX W)) (fun _ => False) (fun _ => none) (hinF []) (fun n => n < 0) W where
  size := Nat.le_refl _
  frame := fun _ _ _ => rfl
  xok := fun _ h => ⟨h, fun h => h⟩
  dom := fun _ _ h => by cases h
  held := fun _ _ _ h => by cases h
  wf := fun _ _ h => by simp [hinF] at h
  hd := fun _ _ h => by simp [hinF] at h
  inj := fun _ _ _ _ h => by cases h
  os := rfl
  tape := rfl
  output := rfl

/-- A law: it returns true, and what it was given reads as before. -/
def Law (s : ChangeSpec) (n : Nat) : Prop := s.vars = [] ∧ ∀ (H : Type) (ds : List (DataW H)), ds.length = n → (s.fn H ds).results = [.lit (.bool true)] ∧ (s.fn H ds).args = ds ∧ (s.fn H ds).vars = []

theorem trodAll_len {w : World} : ∀ {ts : List TypeId} {vs : List Value} {ds : List (DataW H)} {ps : List MemPlace}, DataW.TrodAll enc P w base spare held ts vs ds ps → ds.length = ts.length
  | [], vs, ds, ps, h => by obtain ⟨_, rfl, _⟩ := trodAll_nil h; rfl
  | t :: ts, vs, ds, ps, h => by
    obtain ⟨v, vs1, d, ds1, a, b, rfl, rfl, rfl, h1, h2⟩ := trodAll_cons h
    simp [trodAll_len h2]

theorem law_post {fn : Func} {s : ChangeSpec} {tb : TypeId} (hl : laidOutB P = true) (hs : Law s fn.params.toList.length) (hts : ∀ t ∈ fn.params.toList, P.readableRec t = true ∧ t < P.types.size) (hres : fn.resultTypes = #[tb]) (htb : P.underlying tb = some .bool)
    {W' : World} {args : Array Value} {ds gs : List (DataW H)} {before : List MemPlace} (hW : DataW.Whole enc P fn.params.toList s.vars false W args.toList ds gs before) (hb : Below W.heap.size W W') :
    s.post enc P fn false true false false W args (.bool true) W' := by
  have hlt := hW.lt
  have hW2 := hW
  obtain ⟨p, q, hA, hV, rfl, _, _⟩ := hW2
  rw [hs.1] at hV
  obtain ⟨rfl, rfl⟩ := trodVars_none hV
  obtain ⟨h1, h2, h3⟩ := hs.2 H ds (trodAll_len hA)
  refine ⟨ds, [], p ++ [], [], p, [], hW, ?_, ?_, ?_, hb.frame _, fun h => by cases h⟩
  · rw [List.append_nil, h1, hres]
    exact trodAll_mk1 (shut_bool htb true)
  · rw [List.append_nil, h2]
    exact trodAll_stays hl hb hts hA (fun x hx => hlt x (List.mem_append_left _ hx)) (fun x hx => by simpa using hlt x (List.mem_append_left _ hx))
  · rw [List.append_nil, h3, hs.1]
    rfl

theorem law_calls {E : Env} {f : Nat} {fn : Func} {s : ChangeSpec} {tb : TypeId} (hl : laidOutB E.P = true) (hs : Law s fn.params.toList.length) (hts : ∀ t ∈ fn.params.toList, E.P.readableRec t = true ∧ t < E.P.types.size) (hres : fn.resultTypes = #[tb]) (htb : E.P.underlying tb = some .bool)
    {args : Array Value} {ds gs : List (DataW H)} {before : List MemPlace} (hW : DataW.Whole enc E.P fn.params.toList s.vars false W args.toList ds gs before)
    {avs : List AV} {hout : List (Option Blk)} (hrel : RelL (now W (allX W)) (fun _ => none) avs args.toList) (hc : Ctr E.P f avs [] (.s (.bool true)) hout) :
    Calls E.P f args W fun e W' => ∃ v, e = .returned v ∧ s.post enc E.P fn false true false false W args v W' := by
  have := hc W (allX W) (fun _ => False) (fun _ => none) args.toList (relH_start W) hrel
  rw [Array.toArray_toList] at this
  refine this.mono ?_
  rintro e W' ⟨cv, β', rfl, _, h2, h3⟩
  have h2 : cv = .bool true := h2
  subst h2
  exact ⟨_, rfl, law_post hl hs hts hres htb hW (below_of h3)⟩

end
end Go.Proofs.Ytmkhbgklclhmgaa

namespace Go.Proofs.Ytmkhbgklclhmgaa
open Go

def bodyOf (f : Func) : Code := match f.body with
  | some c => c
  | none => .skip

theorem loopsOk_none {P : Program} {L : Lps} (h : L.sums = []) : ∀ c : Code, LoopsOk P L c := by
  intro c
  induction c with
  | seq a b iha ihb => exact ⟨iha, ihb⟩
  | cond o a b iha ihb => exact ⟨iha, ihb⟩
  | block id body ih => unfold LoopsOk; rw [h]; exact ih
  | loop body ih => exact ih
  | _ => trivial

def kitOf (P : Program) (fs : List (Nat × FSem)) (xs : List (Nat × (List AV → Option (Tr AV)))) (m : SubMode) (fn : Func) : Kit := ⟨⟨P, fs, xs⟩, m, fun d => Nat.blt d fn.ntmps⟩

def runB (P : Program) (fs : List (Nat × FSem)) (xs : List (Nat × (List AV → Option (Tr AV)))) (m : SubMode) (fuel : Nat) (fn : Func) (args : List AV) (hin : List Blk) : Option (AV × List (Option Blk)) :=
  evBody (kitOf P fs xs m fn) ⟨fn.ntmps, fuel, []⟩ fn (bodyOf fn) args hin

def runL (P : Program) (fs : List (Nat × FSem)) (xs : List (Nat × (List AV → Option (Tr AV)))) (m : SubMode) (fuel : Nat) (sums : List (Nat × LSem)) (fn : Func) (args : List AV) (hin : List Blk) : Option (AV × List (Option Blk)) :=
  evBody (kitOf P fs xs m fn) ⟨fn.ntmps, fuel, sums⟩ fn (bodyOf fn) args hin

structure Fn (P : Program) (f : Nat) (fn : Func) : Prop where
  mixed : P.follows .mixedOrders = true
  at_ : P.funcs[f]? = some fn
  body : fn.body = some (bodyOf fn)
  name : fn.name ≠ "runtime.NumGoroutine"

theorem EnvOk.nil {P : Program} : EnvOk ⟨P, [], []⟩ := ⟨fun f F h => by simp [lkF] at h, fun f F h => by simp [lkF] at h⟩

theorem EnvOk.cons {P : Program} {fs : List (Nat × FSem)} {xs : List (Nat × (List AV → Option (Tr AV)))} {f : Nat} {F : FSem} (h : FOk P f F) (hr : EnvOk ⟨P, fs, xs⟩) : EnvOk ⟨P, (f, F) :: fs, xs⟩ := by
  refine ⟨fun g G hg => ?_, hr.xs⟩
  by_cases e : f = g
  · subst e
    simp only [lkF, Nat.beq_refl, Option.some.injEq] at hg
    subst hg
    exact h
  · simp only [lkF, beq_false e] at hg
    exact hr.fs g G hg

theorem EnvOk.consX {P : Program} {xs : List (Nat × (List AV → Option (Tr AV)))} {f : Nat} {F : List AV → Option (Tr AV)} (h : XOk P f F) (hr : EnvOk ⟨P, [], xs⟩) : EnvOk ⟨P, [], (f, F) :: xs⟩ := by
  refine ⟨fun g G hg => by simp [lkF] at hg, fun g G hg => ?_⟩
  by_cases e : f = g
  · subst e
    simp only [lkF, Nat.beq_refl, Option.some.injEq] at hg
    subst hg
    exact h
  · simp only [lkF, beq_false e] at hg
    exact hr.xs g G hg

theorem fokB {P : Program} {fs : List (Nat × FSem)} {xs : List (Nat × (List AV → Option (Tr AV)))} {m : SubMode} {fuel : Nat} {f : Nat} {fn : Func} {F : FSem} (hE : EnvOk ⟨P, fs, xs⟩) (hF : Fn P f fn)
    (h : ∀ args hin t r, F.run args hin = some t → t.get = some r → runB P fs xs m fuel fn args hin = some r) : FOk P f F :=
  fok (X := kitOf P fs xs m fn) (L := ⟨fn.ntmps, fuel, []⟩) hE rfl rfl hF.mixed (loopsOk_none rfl _) hF.at_ hF.body hF.name h

theorem fokL {P : Program} {fs : List (Nat × FSem)} {xs : List (Nat × (List AV → Option (Tr AV)))} {m : SubMode} {fuel : Nat} {sums : List (Nat × LSem)} {f : Nat} {fn : Func} {F : FSem} (hE : EnvOk ⟨P, fs, xs⟩) (hF : Fn P f fn)
    (hL : LoopsOk P ⟨fn.ntmps, fuel, sums⟩ (bodyOf fn))
    (h : ∀ args hin t r, F.run args hin = some t → t.get = some r → runL P fs xs m fuel sums fn args hin = some r) : FOk P f F :=
  fok (X := kitOf P fs xs m fn) (L := ⟨fn.ntmps, fuel, sums⟩) hE rfl rfl hF.mixed hL hF.at_ hF.body hF.name h

theorem ctrB {P : Program} {fs : List (Nat × FSem)} {xs : List (Nat × (List AV → Option (Tr AV)))} {m : SubMode} {fuel : Nat} {f : Nat} {fn : Func} (hE : EnvOk ⟨P, fs, xs⟩) (hF : Fn P f fn) {args : List AV} {hin : List Blk} {v : AV} {hout : List (Option Blk)}
    (h : runB P fs xs m fuel fn args hin = some (v, hout)) : Ctr P f args hin v hout :=
  evBody_sound (X := kitOf P fs xs m fn) (L := ⟨fn.ntmps, fuel, []⟩) hE rfl rfl hF.mixed (loopsOk_none rfl _) hF.at_ hF.body h

theorem ctrL {P : Program} {fs : List (Nat × FSem)} {xs : List (Nat × (List AV → Option (Tr AV)))} {m : SubMode} {fuel : Nat} {sums : List (Nat × LSem)} {f : Nat} {fn : Func} (hE : EnvOk ⟨P, fs, xs⟩) (hF : Fn P f fn) {args : List AV} {hin : List Blk} {v : AV} {hout : List (Option Blk)}
    (hL : LoopsOk P ⟨fn.ntmps, fuel, sums⟩ (bodyOf fn)) (h : runL P fs xs m fuel sums fn args hin = some (v, hout)) : Ctr P f args hin v hout :=
  evBody_sound (X := kitOf P fs xs m fn) (L := ⟨fn.ntmps, fuel, sums⟩) hE rfl rfl hF.mixed hL hF.at_ hF.body h

/-- What must hold, one after the other. -/
def nd {α : Type} : List Bool → Option α → Option α
  | [], x => x
  | c :: cs, x => cond c (nd cs x) none

theorem nd_true {α : Type} {x : Option α} : ∀ {cs : List Bool}, (∀ c ∈ cs, c = true) → nd cs x = x
  | [], _ => rfl
  | c :: cs, h => by
    have hc : c = true := h c List.mem_cons_self
    subst hc
    exact nd_true (cs := cs) fun d hd => h d (List.mem_cons_of_mem _ hd)

theorem addOff_eq' (a b : Nat) : addOff a b = a + b := by cases a <;> simp [addOff]

end Go.Proofs.Ytmkhbgklclhmgaa

namespace Go.Proofs.Ytmkhbgklclhmgaa
open Go

/-- Turned to the left by n. -/
def rl (x n : Nat) : Nat := x * 2 ^ n % 4294967296 ||| x / 2 ^ (32 - n)

def mix1 (s : List Nat) (i j : Nat) : List Nat := s.set i ((s.getD i 0 + s.getD j 0) % 4294967296)
def mix2 (s : List Nat) (i j n : Nat) : List Nat := s.set i (rl (s.getD i 0 ^^^ s.getD j 0) n)

def qr (s : List Nat) (a b c d : Nat) : List Nat :=
  mix2 (mix1 (mix2 (mix1 (mix2 (mix1 (mix2 (mix1 s a b) d a 16) c d) b c 12) a b) d a 8) c d) b c 7

def okRot (n : Nat) : Bool := Nat.beq n 16 || Nat.beq n 12 || Nat.beq n 8 || Nat.beq n 7

def okQ (a b c d : Nat) : Bool :=
  Nat.blt a 4 && (Nat.beq b (a + 4) && Nat.beq c (a + 8) && Nat.beq d (a + 12) || Nat.beq b ((a + 1) % 4 + 4) && Nat.beq c ((a + 2) % 4 + 8) && Nat.beq d ((a + 3) % 4 + 12))

def F44 : FSem := ⟨false, fun args hin => match args, hin with
  | [.s (.nat .u32 x), .s (.nat .i64 n)], [] => match okRot n with
    | true => some (.leaf (.s (.nat .u32 (rl x n)), []))
    | false => none
  | _, _ => none⟩

def F33 : FSem := ⟨false, fun args hin => match args, hin with
  | [.s (.ptr 0 0), .s (.nat .i64 a), .s (.nat .i64 b), .s (.nat .i64 c), .s (.nat .i64 d)], [[.ints .u32 16 xs]] => match okQ a b c d with
    | true => some (.leaf (.tup [], [some [.ints .u32 16 (qr xs a b c d)]]))
    | false => none
  | _, _ => none⟩

theorem mixed : Try.prog.follows .mixedOrders = true := by kernel_rfl
theorem fn44 : Fn Try.prog 27 Try.f27 := ⟨mixed, Try.func27, by kernel_rfl, of_decide_eq_true (by kernel_rfl)⟩
theorem fn33 : Fn Try.prog 16 Try.f16 := ⟨mixed, Try.func16, by kernel_rfl, of_decide_eq_true (by kernel_rfl)⟩

theorem okRot_cases {n : Nat} (h : okRot n = true) : n = 16 ∨ n = 12 ∨ n = 8 ∨ n = 7 := by
  simp only [okRot, Bool.or_eq_true, Nat.beq_eq] at h
  omega

set_option maxRecDepth 100000 in
theorem ok44 : FOk Try.prog 27 F44 := by
  refine fokB (fs := []) (xs := []) (m := .nat) (fuel := 1) EnvOk.nil fn44 ?_
  intro args hin t r h hg
  unfold F44 at h
  simp only at h
  split at h
  · rename_i x n
    split at h
    · rename_i hn
      cases h; cases hg
      rcases okRot_cases hn with rfl | rfl | rfl | rfl <;> kernel_rfl
    · cases h
  · cases h

theorem okQ_cases {a b c d : Nat} (h : okQ a b c d = true) : (a, b, c, d) ∈ [(0, 4, 8, 12), (1, 5, 9, 13), (2, 6, 10, 14), (3, 7, 11, 15), (0, 5, 10, 15), (1, 6, 11, 12), (2, 7, 8, 13), (3, 4, 9, 14)] := by
  simp only [okQ, Bool.and_eq_true, Bool.or_eq_true, Nat.beq_eq] at h
  obtain ⟨h1, h2⟩ := h
  have h1 : a < 4 := Nat.le_of_ble_eq_true h1
  rcases (by omega : a = 0 ∨ a = 1 ∨ a = 2 ∨ a = 3) with rfl | rfl | rfl | rfl <;> rcases h2 with ⟨⟨rfl, rfl⟩, rfl⟩ | ⟨⟨rfl, rfl⟩, rfl⟩ <;> decide

set_option maxRecDepth 100000 in
theorem q33_0 (xs : List Nat) : runB Try.prog [(27, F44)] [] .nat 3 Try.f16 [.s (.ptr 0 0), .s (.nat .i64 0), .s (.nat .i64 4), .s (.nat .i64 8), .s (.nat .i64 12)] [[.ints .u32 16 xs]] = some (.tup [], [some [.ints .u32 16 (qr xs 0 4 8 12)]]) := by kernel_rfl
set_option maxRecDepth 100000 in
theorem q33_1 (xs : List Nat) : runB Try.prog [(27, F44)] [] .nat 3 Try.f16 [.s (.ptr 0 0), .s (.nat .i64 1), .s (.nat .i64 5), .s (.nat .i64 9), .s (.nat .i64 13)] [[.ints .u32 16 xs]] = some (.tup [], [some [.ints .u32 16 (qr xs 1 5 9 13)]]) := by kernel_rfl
set_option maxRecDepth 100000 in
theorem q33_2 (xs : List Nat) : runB Try.prog [(27, F44)] [] .nat 3 Try.f16 [.s (.ptr 0 0), .s (.nat .i64 2), .s (.nat .i64 6), .s (.nat .i64 10), .s (.nat .i64 14)] [[.ints .u32 16 xs]] = some (.tup [], [some [.ints .u32 16 (qr xs 2 6 10 14)]]) := by kernel_rfl
set_option maxRecDepth 100000 in
theorem q33_3 (xs : List Nat) : runB Try.prog [(27, F44)] [] .nat 3 Try.f16 [.s (.ptr 0 0), .s (.nat .i64 3), .s (.nat .i64 7), .s (.nat .i64 11), .s (.nat .i64 15)] [[.ints .u32 16 xs]] = some (.tup [], [some [.ints .u32 16 (qr xs 3 7 11 15)]]) := by kernel_rfl
set_option maxRecDepth 100000 in
theorem q33_4 (xs : List Nat) : runB Try.prog [(27, F44)] [] .nat 3 Try.f16 [.s (.ptr 0 0), .s (.nat .i64 0), .s (.nat .i64 5), .s (.nat .i64 10), .s (.nat .i64 15)] [[.ints .u32 16 xs]] = some (.tup [], [some [.ints .u32 16 (qr xs 0 5 10 15)]]) := by kernel_rfl
set_option maxRecDepth 100000 in
theorem q33_5 (xs : List Nat) : runB Try.prog [(27, F44)] [] .nat 3 Try.f16 [.s (.ptr 0 0), .s (.nat .i64 1), .s (.nat .i64 6), .s (.nat .i64 11), .s (.nat .i64 12)] [[.ints .u32 16 xs]] = some (.tup [], [some [.ints .u32 16 (qr xs 1 6 11 12)]]) := by kernel_rfl
set_option maxRecDepth 100000 in
theorem q33_6 (xs : List Nat) : runB Try.prog [(27, F44)] [] .nat 3 Try.f16 [.s (.ptr 0 0), .s (.nat .i64 2), .s (.nat .i64 7), .s (.nat .i64 8), .s (.nat .i64 13)] [[.ints .u32 16 xs]] = some (.tup [], [some [.ints .u32 16 (qr xs 2 7 8 13)]]) := by kernel_rfl
set_option maxRecDepth 100000 in
theorem q33_7 (xs : List Nat) : runB Try.prog [(27, F44)] [] .nat 3 Try.f16 [.s (.ptr 0 0), .s (.nat .i64 3), .s (.nat .i64 4), .s (.nat .i64 9), .s (.nat .i64 14)] [[.ints .u32 16 xs]] = some (.tup [], [some [.ints .u32 16 (qr xs 3 4 9 14)]]) := by kernel_rfl

theorem ok33 : FOk Try.prog 16 F33 := by
  refine fokB (fs := [(27, F44)]) (xs := []) (m := .nat) (fuel := 3) (.cons ok44 .nil) fn33 ?_
  intro args hin t r h hg
  unfold F33 at h
  simp only at h
  split at h
  · rename_i a b c d xs
    split at h
    · rename_i hq
      cases h; cases hg
      have := okQ_cases hq
      simp only [List.mem_cons, Prod.mk.injEq, List.not_mem_nil, or_false] at this
      rcases this with ⟨rfl, rfl, rfl, rfl⟩ | ⟨rfl, rfl, rfl, rfl⟩ | ⟨rfl, rfl, rfl, rfl⟩ | ⟨rfl, rfl, rfl, rfl⟩ | ⟨rfl, rfl, rfl, rfl⟩ | ⟨rfl, rfl, rfl, rfl⟩ | ⟨rfl, rfl, rfl, rfl⟩ | ⟨rfl, rfl, rfl, rfl⟩
      · exact q33_0 xs
      · exact q33_1 xs
      · exact q33_2 xs
      · exact q33_3 xs
      · exact q33_4 xs
      · exact q33_5 xs
      · exact q33_6 xs
      · exact q33_7 xs
    · cases h
  · cases h

end Go.Proofs.Ytmkhbgklclhmgaa

namespace Go.Proofs.Ytmkhbgklclhmgaa
open Go

structure OpsH where
  rl : Nat → Nat → Nat
def opsH : OpsH := ⟨rl⟩

def okRt (n : Nat) : Bool := Nat.beq n 25 || Nat.beq n 14 || Nat.beq n 15 || Nat.beq n 13 || Nat.beq n 26 || Nat.beq n 21 || Nat.beq n 7 || Nat.beq n 30 || Nat.beq n 19 || Nat.beq n 10

def R27h (o : OpsH) : FSem := ⟨false, fun args hin => match args, hin with
  | [.s (.nat .u32 x), .s (.nat .i64 n)], [] => match okRt n with
    | true => some (.leaf (.s (.nat .u32 (o.rl x n)), []))
    | false => none
  | _, _ => none⟩

theorem okRt_cases {n : Nat} (h : okRt n = true) : n = 25 ∨ n = 14 ∨ n = 15 ∨ n = 13 ∨ n = 26 ∨ n = 21 ∨ n = 7 ∨ n = 30 ∨ n = 19 ∨ n = 10 := by
  simp only [okRt, Bool.or_eq_true, Nat.beq_eq] at h
  omega

set_option maxRecDepth 100000 in
theorem or27h : FOk Try.prog 27 (R27h opsH) := by
  refine fokB (fs := []) (xs := []) (m := .nat) (fuel := 1) EnvOk.nil fn44 ?_
  intro args hin t r h hg
  unfold R27h at h
  simp only at h
  split at h
  · rename_i x n
    split at h
    · rename_i hn
      cases h; cases hg
      rcases okRt_cases hn with rfl | rfl | rfl | rfl | rfl | rfl | rfl | rfl | rfl | rfl <;> kernel_rfl
    · cases h
  · cases h

end Go.Proofs.Ytmkhbgklclhmgaa

namespace Go.Proofs.Ytmkhbgklclhmgaa
open Go

def loopsIn (sums : List (Nat × LSem)) : Code → List (Nat × Code × LSem)
  | .seq a b => loopsIn sums a ++ loopsIn sums b
  | .cond _ a b => loopsIn sums a ++ loopsIn sums b
  | .block id body => match lkF sums id with
    | some S => [(id, body, S)]
    | none => loopsIn sums body
  | .loop body => loopsIn sums body
  | _ => []

theorem loopsOk_of {P : Program} {L : Lps} : ∀ {c : Code}, (∀ x ∈ loopsIn L.sums c, LOk P L.N (.block x.1 x.2.1) x.2.2) → LoopsOk P L c := by
  intro c
  induction c with
  | seq a b iha ihb => intro h; exact ⟨iha fun x hx => h x (List.mem_append_left _ hx), ihb fun x hx => h x (List.mem_append_right _ hx)⟩
  | cond o a b iha ihb => intro h; exact ⟨iha fun x hx => h x (List.mem_append_left _ hx), ihb fun x hx => h x (List.mem_append_right _ hx)⟩
  | block id body ih =>
    intro h
    unfold LoopsOk
    unfold loopsIn at h
    cases hl : lkF L.sums id with
    | some S => rw [hl] at h; exact h _ (List.mem_singleton.2 rfl)
    | none => rw [hl] at h; exact ih h
  | loop body ih => intro h; exact ih h
  | _ => intro _; trivial

def findB (id : Nat) : Code → Option Code
  | .seq a b => match findB id a with
    | some c => some c
    | none => findB id b
  | .cond _ a b => match findB id a with
    | some c => some c
    | none => findB id b
  | .block j body => match Nat.beq j id with
    | true => some body
    | false => findB id body
  | .loop body => findB id body
  | _ => none

def lb (id : Nat) (f : Func) : Code := match findB id (bodyOf f) with
  | some (.loop b) => b
  | _ => .skip

def kitL (P : Program) (fs : List (Nat × FSem)) (xs : List (Nat × (List AV → Option (Tr AV)))) (m : SubMode) (N : Nat) (msk : Nat) : Kit := ⟨⟨P, fs, xs⟩, m, fun d => hasBit msk d && Nat.blt d N⟩

def runR (P : Program) (fs : List (Nat × FSem)) (xs : List (Nat × (List AV → Option (Tr AV)))) (m : SubMode) (fuel : Nat) (sums : List (Nat × LSem)) (fn : Func) (id : Nat) (S : LSem) (k : Nat) (args : List AV) (hs : List (Option Blk)) : Option (Ex × List AV × List (Option Blk)) :=
  evRound (kitL P fs xs m fn.ntmps (wrCode (lb id fn))) ⟨fn.ntmps, fuel, sums⟩ S k (lb id fn) args hs

theorem lokR {P : Program} {fs : List (Nat × FSem)} {xs : List (Nat × (List AV → Option (Tr AV)))} {m : SubMode} {fuel : Nat} {sums : List (Nat × LSem)} {fn : Func} {id : Nat} {S : LSem} (hE : EnvOk ⟨P, fs, xs⟩) (hm : P.follows .mixedOrders = true)
    (hL : LoopsOk P ⟨fn.ntmps, fuel, sums⟩ (lb id fn))
    (h : ∀ args hin t e vs hout, S.run args hin = some t → t.get = some (e, vs, hout) → ∃ (n : Nat) (A : Nat → List AV × List (Option Blk)) (e' : Ex), A 0 = (args, someL hin) ∧
      (∀ i, i < n → runR P fs xs m fuel sums fn id S hin.length (A i).1 (A i).2 = some (.normal, A (i + 1))) ∧ runR P fs xs m fuel sums fn id S hin.length (A n).1 (A n).2 = some (e', vs, hout) ∧ exB id e' = some e) :
    LOk P fn.ntmps (.block id (.loop (lb id fn))) S :=
  loop_ok (X := kitL P fs xs m fn.ntmps (wrCode (lb id fn))) (Lp := ⟨fn.ntmps, fuel, sums⟩) hE (fun d hd => by
    have hd : (hasBit (wrCode (lb id fn)) d && Nat.blt d fn.ntmps) = true := hd
    rw [Bool.and_eq_true] at hd
    exact ⟨hd.1, Nat.le_of_ble_eq_true hd.2⟩) rfl hm hL h

end Go.Proofs.Ytmkhbgklclhmgaa

namespace Go.Proofs.Ytmkhbgklclhmgaa
open Go

theorem mixedP : Try.prog.follows .mixedOrders = true := by kernel_rfl

def ct (x c : Nat) : Nat := (x + c) % 18446744073709551616

def carrO (t0 t1 t2 t3 t4 : Nat) : List Nat :=
  [((t0 &&& 67108863) + 5 * (t4 / 2 ^ 26) % 18446744073709551616) % 18446744073709551616, t1 &&& 67108863, t2 &&& 67108863, t3 &&& 67108863, t4 &&& 67108863]

def carr5 (a b c d e : Nat) : List Nat :=
  (fun t0 => (fun t1 => (fun t2 => (fun t3 => carrO t0 t1 t2 t3 (ct e (t3 / 2 ^ 26))) (ct d (t2 / 2 ^ 26))) (ct c (t1 / 2 ^ 26))) (ct b (t0 / 2 ^ 26))) (ct a 0)

def carr (x : List Nat) : List Nat := carr5 (x.getD 0 0) (x.getD 1 0) (x.getD 2 0) (x.getD 3 0) (x.getD 4 0)

theorem five {x : List Nat} (h : x.length = 5) : ∃ a b c d e, x = [a, b, c, d, e] := by
  match x, h with
  | [a, b, c, d, e], _ => exact ⟨a, b, c, d, e, rfl⟩

def F46 : FSem := ⟨false, fun args hin => match args, hin with
  | [.agg [.ints .u64 5 x]], [] => some (.need (decide (x.length = 5)) (.leaf (.agg [.ints .u64 5 (carr x)], [])))
  | _, _ => none⟩

theorem fn46 : Fn Try.prog 28 Try.f28 := ⟨mixedP, Try.func28, by kernel_rfl, of_decide_eq_true (by kernel_rfl)⟩

set_option maxRecDepth 100000 in
theorem r46 (a b c d e : Nat) : runB Try.prog [] [] .nat 7 Try.f28 [.agg [.ints .u64 5 [a, b, c, d, e]]] [] = some (.agg [.ints .u64 5 (carr [a, b, c, d, e])], []) := by kernel_rfl

theorem ok46 : FOk Try.prog 28 F46 := by
  refine fokB (fs := []) (xs := []) (m := .nat) (fuel := 7) EnvOk.nil fn46 ?_
  intro args hin t r h hg
  unfold F46 at h
  simp only at h
  split at h
  · rename_i x
    cases h
    simp only [Tr.get] at hg
    cases hl : decide (x.length = 5) with
    | false => rw [hl] at hg; cases hg
    | true =>
      rw [hl] at hg; cases hg
      obtain ⟨a, b, c, d, e, rfl⟩ := five (of_decide_eq_true hl)
      exact r46 a b c d e
  · cases h

def ad (o t : Nat) : Nat := (o + t) % 18446744073709551616
def pl (a b : Nat) : Nat := a * b % 18446744073709551616
def p5 (a b : Nat) : Nat := 5 * a % 18446744073709551616 * b % 18446744073709551616

def times5 (x0 x1 x2 x3 x4 y0 y1 y2 y3 y4 : Nat) : List Nat :=
  [ad (ad (ad (ad (ad 0 (pl x0 y0)) (p5 x1 y4)) (p5 x2 y3)) (p5 x3 y2)) (p5 x4 y1),
    ad (ad (ad (ad (ad 0 (pl x0 y1)) (pl x1 y0)) (p5 x2 y4)) (p5 x3 y3)) (p5 x4 y2),
    ad (ad (ad (ad (ad 0 (pl x0 y2)) (pl x1 y1)) (pl x2 y0)) (p5 x3 y4)) (p5 x4 y3),
    ad (ad (ad (ad (ad 0 (pl x0 y3)) (pl x1 y2)) (pl x2 y1)) (pl x3 y0)) (p5 x4 y4),
    ad (ad (ad (ad (ad 0 (pl x0 y4)) (pl x1 y3)) (pl x2 y2)) (pl x3 y1)) (pl x4 y0)]

def timesL (x y : List Nat) : List Nat := times5 (x.getD 0 0) (x.getD 1 0) (x.getD 2 0) (x.getD 3 0) (x.getD 4 0) (y.getD 0 0) (y.getD 1 0) (y.getD 2 0) (y.getD 3 0) (y.getD 4 0)

def F37 : FSem := ⟨false, fun args hin => match args, hin with
  | [.agg [.ints .u64 5 x], .agg [.ints .u64 5 y]], [] => some (.need (decide (x.length = 5)) (.need (decide (y.length = 5)) (.leaf (.agg [.ints .u64 5 (carr (carr (timesL x y)))], []))))
  | _, _ => none⟩

theorem fn37 : Fn Try.prog 19 Try.f19 := ⟨mixedP, Try.func19, by kernel_rfl, of_decide_eq_true (by kernel_rfl)⟩

set_option maxRecDepth 100000 in
theorem r37 (a b c d e a' b' c' d' e' : Nat) : runB Try.prog [(28, F46)] [] .nat 7 Try.f19 [.agg [.ints .u64 5 [a, b, c, d, e]], .agg [.ints .u64 5 [a', b', c', d', e']]] [] = some (.agg [.ints .u64 5 (carr (carr (timesL [a, b, c, d, e] [a', b', c', d', e'])))], []) := by kernel_rfl

theorem ok37 : FOk Try.prog 19 F37 := by
  refine fokB (fs := [(28, F46)]) (xs := []) (m := .nat) (fuel := 7) (.cons ok46 .nil) fn37 ?_
  intro args hin t r h hg
  unfold F37 at h
  simp only at h
  split at h
  · rename_i x y
    cases h
    simp only [Tr.get] at hg
    cases hl : decide (x.length = 5) with
    | false => rw [hl] at hg; cases hg
    | true =>
      rw [hl] at hg
      cases hl2 : decide (y.length = 5) with
      | false => rw [hl2] at hg; cases hg
      | true =>
        rw [hl2] at hg; cases hg
        obtain ⟨a, b, c, d, e, rfl⟩ := five (of_decide_eq_true hl)
        obtain ⟨a', b', c', d', e', rfl⟩ := five (of_decide_eq_true hl2)
        exact r37 a b c d e a' b' c' d' e'
  · cases h

end Go.Proofs.Ytmkhbgklclhmgaa

namespace Go.Proofs.Ytmkhbgklclhmgaa
open Go

theorem nd_of {α : Type} {cs : List Bool} {x r : Option α} (hc : ∀ c ∈ cs, c = true) (h : x = r) : nd cs x = r := by
  rw [nd_true hc, h]

theorem cond_t {α : Type} {c : Bool} {x y r : Option α} (hc : c = true) (h : x = r) : cond c x y = r := by
  rw [hc, cond_true, h]

theorem cond_f {α : Type} {c : Bool} {x y r : Option α} (hc : c = false) (h : y = r) : cond c x y = r := by
  rw [hc, cond_false, h]

def numStep1 (x : List Nat) (j v : Nat) : List Nat :=
  x.set (8 * j / 26) (x.getD (8 * j / 26) 0 ||| v * 2 ^ (8 * j % 26) % 18446744073709551616 &&& 67108863)

def numStep2 (x : List Nat) (j v : Nat) : List Nat :=
  x.set (8 * j / 26 + 1) (x.getD (8 * j / 26 + 1) 0 ||| v / 2 ^ (26 - 8 * j % 26))

def numStep (x : List Nat) (j v : Nat) : List Nat :=
  if 18 < 8 * j % 26 ∧ 8 * j / 26 < 4 then numStep2 (numStep1 x j v) j v else numStep1 x j v

def numN (xs : List Nat) : Nat → List Nat
  | 0 => [0, 0, 0, 0, 0]
  | j + 1 => numStep (numN xs j) j (xs.getD j 0)

def numb (xs : List Nat) : List Nat := numN xs xs.length

def S35 : LSem := ⟨[2, 3, 6, 7, 8], [2, 3], fun args hin => match args, hin with
  | [.s (.ptr 0 0), .s (.ptr 1 0), .s (.xsl (.ints .u8 xs)), .s (.nat .i64 n), .s (.nat .i64 0)], [[.ints .u64 5 [0, 0, 0, 0, 0]], [.ints .u64 5 [0, 0, 0, 0, 0]]] =>
    some (Tr.needs [decide (n = xs.length), decide (xs.length ≤ 17)]
      (.leaf (.normal, [.s (.ptr 0 0), .s (.ptr 1 0)], [some [.ints .u64 5 [0, 0, 0, 0, 0]], some [.ints .u64 5 (numb xs)]])))
  | _, _ => none⟩

set_option maxRecDepth 100000 in
theorem rr35 (xs zs : List Nat) (n j : Nat) : runR Try.prog [] [] .nat 3 [] Try.f17 0 S35 2 [.s (.ptr 0 0), .s (.ptr 1 0), .s (.xsl (.ints .u8 xs)), .s (.nat .i64 n), .s (.nat .i64 j)] [some [.ints .u64 5 [0,0,0,0,0]], some [.ints .u64 5 zs]] =
(cond (decide (j < n))
 (nd [decide (j < xs.length), decide (j < xs.length), decide (8 * j < 9223372036854775808), decide (8 * j / 26 < 5), decide (8 * j / 26 < 5), decide (8 * j < 9223372036854775808), decide (8 * j / 26 < 5), decide (8 * j / 26 < 5), decide (8 * j < 9223372036854775808)]
 (cond (decide (18 < 8 * j % 26))
 (nd [decide (8 * j < 9223372036854775808)]
 (cond (decide (8 * j / 26 < 4))
 (nd [decide (8 * j < 9223372036854775808), decide (8 * j / 26 + 1 < 9223372036854775808), decide (8 * j / 26 + 1 < 5), decide (8 * j / 26 + 1 < 5), decide (8 * j < 9223372036854775808), decide (8 * j % 26 ≤ 26), decide (8 * j / 26 + 1 < 5), decide (8 * j / 26 + 1 < 5), decide (j + 1 < 9223372036854775808)]
 (some (Ex.normal, [AV.s (SV.ptr 0 0), AV.s (SV.ptr 1 0), AV.s (SV.xsl (XC.ints IntKind.u8 xs)), AV.s (SV.nat IntKind.i64 n), AV.s (SV.nat IntKind.i64 (j + 1))], [some [Ch.ints IntKind.u64 5 [0, 0, 0, 0, 0]], some [Ch.ints IntKind.u64 5 (numStep2 (numStep1 zs j (xs.getD j 0)) j (xs.getD j 0))]])))
 (nd [decide (j + 1 < 9223372036854775808)]
 (some (Ex.normal, [AV.s (SV.ptr 0 0), AV.s (SV.ptr 1 0), AV.s (SV.xsl (XC.ints IntKind.u8 xs)), AV.s (SV.nat IntKind.i64 n), AV.s (SV.nat IntKind.i64 (j + 1))], [some [Ch.ints IntKind.u64 5 [0, 0, 0, 0, 0]], some [Ch.ints IntKind.u64 5 (numStep1 zs j (xs.getD j 0))]])))))
 (nd [decide (j + 1 < 9223372036854775808)]
 (some (Ex.normal, [AV.s (SV.ptr 0 0), AV.s (SV.ptr 1 0), AV.s (SV.xsl (XC.ints IntKind.u8 xs)), AV.s (SV.nat IntKind.i64 n), AV.s (SV.nat IntKind.i64 (j + 1))], [some [Ch.ints IntKind.u64 5 [0, 0, 0, 0, 0]], some [Ch.ints IntKind.u64 5 (numStep1 zs j (xs.getD j 0))]])))))
 (some (Ex.exit 0, [AV.s (SV.ptr 0 0), AV.s (SV.ptr 1 0)], [some [Ch.ints IntKind.u64 5 [0, 0, 0, 0, 0]], some [Ch.ints IntKind.u64 5 zs]]))) := by kernel_rfl

def A35 (xs : List Nat) (i : Nat) : List AV × List (Option Blk) :=
  ([.s (.ptr 0 0), .s (.ptr 1 0), .s (.xsl (.ints .u8 xs)), .s (.nat .i64 xs.length), .s (.nat .i64 i)], [some [.ints .u64 5 [0,0,0,0,0]], some [.ints .u64 5 (numN xs i)]])

theorem lok35 : LOk Try.prog Try.f17.ntmps (.block 0 (.loop (lb 0 Try.f17))) S35 := by
  refine lokR (fs := []) (xs := []) (m := .nat) (fuel := 3) (sums := []) EnvOk.nil mixedP (loopsOk_none rfl _) ?_
  intro args hin t e vs hout h hg
  unfold S35 at h
  simp only at h
  split at h
  · rename_i xs n
    simp only [Option.some.injEq] at h
    subst h
    obtain ⟨hc, hgt⟩ := Tr.needs_get hg
    clear hg
    have e1 : n = xs.length := of_decide_eq_true (hc _ (by simp))
    have hl : xs.length ≤ 17 := of_decide_eq_true (hc (decide (xs.length ≤ 17)) (by simp))
    clear hc
    subst e1
    cases hgt
    refine ⟨xs.length, A35 xs, .exit 0, rfl, fun i hi => ?_, ?_, rfl⟩
    · simp only [A35, List.length_cons, List.length_nil]
      rw [rr35]
      refine cond_t (decide_eq_true hi) (nd_of ?_ ?_)
      · simp only [List.mem_cons, List.not_mem_nil, or_false, forall_eq_or_imp, forall_eq, decide_eq_true_eq]; omega
      · by_cases h1 : 18 < 8 * i % 26
        · refine cond_t (decide_eq_true h1) (nd_of ?_ ?_)
          · simp only [List.mem_cons, List.not_mem_nil, or_false, forall_eq, decide_eq_true_eq]; omega
          · by_cases h2 : 8 * i / 26 < 4
            · refine cond_t (decide_eq_true h2) (nd_of ?_ ?_)
              · simp only [List.mem_cons, List.not_mem_nil, or_false, forall_eq_or_imp, forall_eq, decide_eq_true_eq]; omega
              · simp only [numN, numStep, if_pos (And.intro h1 h2)]
            · refine cond_f (decide_eq_false h2) (nd_of ?_ ?_)
              · simp only [List.mem_cons, List.not_mem_nil, or_false, forall_eq, decide_eq_true_eq]; omega
              · simp only [numN, numStep, if_neg (fun h : 18 < 8 * i % 26 ∧ 8 * i / 26 < 4 => h2 h.2)]
        · refine cond_f (decide_eq_false h1) (nd_of ?_ ?_)
          · simp only [List.mem_cons, List.not_mem_nil, or_false, forall_eq, decide_eq_true_eq]; omega
          · simp only [numN, numStep, if_neg (fun h : 18 < 8 * i % 26 ∧ 8 * i / 26 < 4 => h1 h.1)]
    · simp only [A35, List.length_cons, List.length_nil]
      rw [rr35]
      exact cond_f (decide_eq_false (Nat.lt_irrefl _)) rfl
  · cases h

def F35 : FSem := ⟨true, fun args hin => match args, hin with
  | [.s (.xsl (.ints .u8 xs))], [] => some (.need (decide (xs.length ≤ 17)) (.leaf (.agg [.ints .u64 5 (numb xs)], [])))
  | _, _ => none⟩

theorem fn35 : Fn Try.prog 17 Try.f17 := ⟨mixedP, Try.func17, by kernel_rfl, of_decide_eq_true (by kernel_rfl)⟩

theorem loops35 : LoopsOk Try.prog ⟨Try.f17.ntmps, 3, [(0, S35)]⟩ (bodyOf Try.f17) := by
  refine loopsOk_of ?_
  have e : loopsIn [(0, S35)] (bodyOf Try.f17) = [(0, .loop (lb 0 Try.f17), S35)] := by kernel_rfl
  simp only [e]
  intro x hx
  simp only [List.mem_cons, List.not_mem_nil, or_false] at hx
  subst hx
  exact lok35

set_option maxRecDepth 100000 in
theorem r35 (xs : List Nat) : runL Try.prog [] [] .nat 3 [(0, S35)] Try.f17 [.s (.xsl (.ints .u8 xs))] [] =
    nd [decide (xs.length < 9223372036854775808), decide (xs.length = xs.length), decide (xs.length ≤ 17)] (some (.agg [.ints .u64 5 (numb xs)], [])) := by kernel_rfl

theorem ok35 : FOk Try.prog 17 F35 := by
  refine fokL (fs := []) (xs := []) (m := .nat) (fuel := 3) (sums := [(0, S35)]) EnvOk.nil fn35 loops35 ?_
  intro args hin t r h hg
  unfold F35 at h
  simp only at h
  split at h
  · rename_i xs
    cases h
    simp only [Tr.get] at hg
    cases hl : decide (xs.length ≤ 17) with
    | false => rw [hl] at hg; cases hg
    | true =>
      rw [hl] at hg; cases hg
      have hl := of_decide_eq_true hl
      rw [r35]
      refine nd_of ?_ rfl
      simp only [List.mem_cons, List.not_mem_nil, or_false, forall_eq_or_imp, forall_eq, decide_eq_true_eq, true_and, and_true]; omega
  · cases h

end Go.Proofs.Ytmkhbgklclhmgaa

namespace Go.Proofs.Ytmkhbgklclhmgaa
open Go

def wS (o : OpsH) (xs : List Nat) (off : Nat) (w : List Nat) (j : Nat) : List Nat := cond (decide (j < 16))
  (w.set j (xs.getD (addOff off (4 * j)) 0 * 2 ^ 24 % 4294967296 ||| xs.getD (addOff off (4 * j + 1)) 0 * 2 ^ 16 % 4294967296 ||| xs.getD (addOff off (4 * j + 2)) 0 * 2 ^ 8 % 4294967296 ||| xs.getD (addOff off (4 * j + 3)) 0))
  (w.set j ((((w.getD (j - 16) 0 + w.getD (j - 7) 0) % 4294967296 + (o.rl (w.getD (j - 15) 0) 25 ^^^ o.rl (w.getD (j - 15) 0) 14 ^^^ w.getD (j - 15) 0 / 2 ^ 3)) % 4294967296 + (o.rl (w.getD (j - 2) 0) 15 ^^^ o.rl (w.getD (j - 2) 0) 13 ^^^ w.getD (j - 2) 0 / 2 ^ 10)) % 4294967296))

def wN (o : OpsH) (xs : List Nat) (off : Nat) (w : List Nat) : Nat → List Nat
  | 0 => w
  | j + 1 => wS o xs off (wN o xs off w j) j

structure V8h where
  a : Nat
  b : Nat
  c : Nat
  d : Nat
  e : Nat
  f : Nat
  g : Nat
  h : Nat

def rS (o : OpsH) (k w : List Nat) (v : V8h) (j : Nat) : V8h :=
  ⟨((((((v.h + (o.rl v.e 26 ^^^ o.rl v.e 21 ^^^ o.rl v.e 7)) % 4294967296 + (v.e &&& v.f ^^^ 4294967296 - 1 - v.e &&& v.g)) % 4294967296 + k.getD j 0 / 2 ^ 32 % 4294967296) % 4294967296 + w.getD j 0) % 4294967296 + ((o.rl v.a 30 ^^^ o.rl v.a 19 ^^^ o.rl v.a 10) + (v.a &&& v.b ^^^ v.a &&& v.c ^^^ v.b &&& v.c)) % 4294967296) % 4294967296), v.a, v.b, v.c,
   ((v.d + ((((v.h + (o.rl v.e 26 ^^^ o.rl v.e 21 ^^^ o.rl v.e 7)) % 4294967296 + (v.e &&& v.f ^^^ 4294967296 - 1 - v.e &&& v.g)) % 4294967296 + k.getD j 0 / 2 ^ 32 % 4294967296) % 4294967296 + w.getD j 0) % 4294967296) % 4294967296), v.e, v.f, v.g⟩

def rN (o : OpsH) (k w : List Nat) (v : V8h) : Nat → V8h
  | 0 => v
  | j + 1 => rS o k w (rN o k w v j) j

structure OpsW extends OpsH where
  w : List Nat → Nat → List Nat → List Nat
  r : List Nat → List Nat → V8h → V8h
def opsW : OpsW := { toOpsH := opsH, w := fun xs off w => wN opsH xs off w 64, r := fun k w v => rN opsH k w v 64 }
theorem opsW_ops : opsW.toOpsH = opsH := by kernel_rfl
theorem opsW_w : opsW.w = fun xs off w => wN opsH xs off w 64 := by kernel_rfl
theorem opsW_r : opsW.r = fun k w v => rN opsH k w v 64 := by kernel_rfl

def S32ah (o : OpsW) : LSem := ⟨[1, 4, 22], [], fun args hin => match args, hin with
  | [.s (.sl m 0 off 64 1), .s (.ptr 1 0), .s (.nat .i64 0)], [[.ints .u8 n xs], [.ints .u32 64 w]] =>
    some (Tr.needs [decide (off + 64 ≤ n)] (.leaf (.normal, [], [some [.ints .u8 n xs], some [.ints .u32 64 (o.w xs off w)]])))
  | _, _ => none⟩

def S32bh (o : OpsW) : LSem := ⟨[4, 8, 9, 10, 11, 12, 13, 14, 15, 16, 141], [9, 10, 11, 12, 13, 14, 15, 16], fun args hin => match args, hin with
  | [.s (.ptr 0 0), .s (.ptr 1 0), .s (.nat .u32 a), .s (.nat .u32 b), .s (.nat .u32 c), .s (.nat .u32 d), .s (.nat .u32 e), .s (.nat .u32 f), .s (.nat .u32 g), .s (.nat .u32 h), .s (.nat .i64 0)], [[.ints .u32 64 w], [.ints .u64 80 k]] =>
    some (.leaf (.normal, [.s (.nat .u32 (o.r k w ⟨a, b, c, d, e, f, g, h⟩).a), .s (.nat .u32 (o.r k w ⟨a, b, c, d, e, f, g, h⟩).b), .s (.nat .u32 (o.r k w ⟨a, b, c, d, e, f, g, h⟩).c), .s (.nat .u32 (o.r k w ⟨a, b, c, d, e, f, g, h⟩).d), .s (.nat .u32 (o.r k w ⟨a, b, c, d, e, f, g, h⟩).e), .s (.nat .u32 (o.r k w ⟨a, b, c, d, e, f, g, h⟩).f), .s (.nat .u32 (o.r k w ⟨a, b, c, d, e, f, g, h⟩).g), .s (.nat .u32 (o.r k w ⟨a, b, c, d, e, f, g, h⟩).h)], [some [.ints .u32 64 w], some [.ints .u64 80 k]]))
  | _, _ => none⟩

set_option maxRecDepth 100000 in
theorem r32ah (o : OpsW) (m : LK) (off n j : Nat) (xs w : List Nat) : runR Try.prog [(27, R27h o.toOpsH)] [] .nat 7 [] Try.f32 0 (S32ah o) 2 [.s (.sl m 0 off 64 1), .s (.ptr 1 0), .s (.nat .i64 j)] [some [.ints .u8 n xs], some [.ints .u32 64 w]] =
(cond (decide (j < 64))
 (cond (decide (j < 16))
 (nd [decide (4 * j < 9223372036854775808), decide (4 * j < 64), decide (addOff off (4 * j) < n), decide (4 * j < 9223372036854775808), decide (4 * j + 1 < 9223372036854775808), decide (4 * j + 1 < 64), decide (addOff off (4 * j + 1) < n), decide (4 * j < 9223372036854775808), decide (4 * j + 2 < 9223372036854775808), decide (4 * j + 2 < 64), decide (addOff off (4 * j + 2) < n), decide (4 * j < 9223372036854775808), decide (4 * j + 3 < 9223372036854775808), decide (4 * j + 3 < 64), decide (addOff off (4 * j + 3) < n), decide (j < 64), decide (j < 64), decide (j + 1 < 9223372036854775808)]
 (some (Ex.normal, [AV.s (SV.sl m 0 off 64 1), AV.s (SV.ptr (0 + 1) 0), AV.s (SV.nat IntKind.i64 (j + 1))], [some [Ch.ints IntKind.u8 n xs], some [Ch.ints IntKind.u32 64 (w.set j (xs.getD (addOff off (4 * j)) 0 * 2 ^ 24 % 4294967296 ||| xs.getD (addOff off (4 * j + 1)) 0 * 2 ^ 16 % 4294967296 ||| xs.getD (addOff off (4 * j + 2)) 0 * 2 ^ 8 % 4294967296 ||| xs.getD (addOff off (4 * j + 3)) 0))]])))
 (nd [decide (15 ≤ j), decide (j - 15 < 64), decide (j - 15 < 64), decide (2 ≤ j), decide (j - 2 < 64), decide (j - 2 < 64), decide (16 ≤ j), decide (j - 16 < 64), decide (j - 16 < 64), decide (7 ≤ j), decide (j - 7 < 64), decide (j - 7 < 64), decide (j < 64), decide (j < 64), decide (j + 1 < 9223372036854775808)]
 (some (Ex.normal, [AV.s (SV.sl m 0 off 64 1), AV.s (SV.ptr (0 + 1) 0), AV.s (SV.nat IntKind.i64 (j + 1))], [some [Ch.ints IntKind.u8 n xs], some [Ch.ints IntKind.u32 64 (w.set j ((((w.getD (j - 16) 0 + w.getD (j - 7) 0) % 4294967296 + (o.rl (w.getD (j - 15) 0) 25 ^^^ o.rl (w.getD (j - 15) 0) 14 ^^^ w.getD (j - 15) 0 / 2 ^ 3)) % 4294967296 + (o.rl (w.getD (j - 2) 0) 15 ^^^ o.rl (w.getD (j - 2) 0) 13 ^^^ w.getD (j - 2) 0 / 2 ^ 10)) % 4294967296))]]))))
 (some (Ex.exit 0, [], [some [Ch.ints IntKind.u8 n xs], some [Ch.ints IntKind.u32 64 w]]))) := by kernel_rfl

set_option maxRecDepth 100000 in
theorem r32bh (o : OpsW) (k w : List Nat) (v : V8h) (j : Nat) : runR Try.prog [(27, R27h o.toOpsH)] [] .nat 7 [] Try.f32 2 (S32bh o) 2 [.s (.ptr 0 0), .s (.ptr 1 0), .s (.nat .u32 v.a), .s (.nat .u32 v.b), .s (.nat .u32 v.c), .s (.nat .u32 v.d), .s (.nat .u32 v.e), .s (.nat .u32 v.f), .s (.nat .u32 v.g), .s (.nat .u32 v.h), .s (.nat .i64 j)] [some [.ints .u32 64 w], some [.ints .u64 80 k]] =
(cond (decide (j < 64))
 (nd [decide (j < 80), decide (j < 80), decide (j < 64), decide (j < 64), decide (j + 1 < 9223372036854775808)]
 (some (Ex.normal, [AV.s (SV.ptr 0 0), AV.s (SV.ptr (0 + 1) 0), .s (.nat .u32 (rS o.toOpsH k w v j).a), .s (.nat .u32 (rS o.toOpsH k w v j).b), .s (.nat .u32 (rS o.toOpsH k w v j).c), .s (.nat .u32 (rS o.toOpsH k w v j).d), .s (.nat .u32 (rS o.toOpsH k w v j).e), .s (.nat .u32 (rS o.toOpsH k w v j).f), .s (.nat .u32 (rS o.toOpsH k w v j).g), .s (.nat .u32 (rS o.toOpsH k w v j).h), AV.s (SV.nat IntKind.i64 (j + 1))], [some [Ch.ints IntKind.u32 64 w], some [Ch.ints IntKind.u64 80 k]])))
 (some (Ex.exit 2, [AV.s (SV.nat IntKind.u32 v.a), AV.s (SV.nat IntKind.u32 v.b), AV.s (SV.nat IntKind.u32 v.c), AV.s (SV.nat IntKind.u32 v.d), AV.s (SV.nat IntKind.u32 v.e), AV.s (SV.nat IntKind.u32 v.f), AV.s (SV.nat IntKind.u32 v.g), AV.s (SV.nat IntKind.u32 v.h)], [some [Ch.ints IntKind.u32 64 w], some [Ch.ints IntKind.u64 80 k]]))) := by kernel_rfl

theorem lok32ah : LOk Try.prog Try.f32.ntmps (.block 0 (.loop (lb 0 Try.f32))) (S32ah opsW) := by
  refine lokR (fs := [(27, R27h opsH)]) (xs := []) (m := .nat) (fuel := 7) (sums := []) (.cons or27h .nil) mixed (loopsOk_none rfl _) ?_
  intro args hin t e vs hout h hg
  unfold S32ah at h
  simp only at h
  split at h
  rotate_left
  · cases h
  rename_i m off n xs w
  simp only [Option.some.injEq] at h
  subst h
  obtain ⟨hc, hgt⟩ := Tr.needs_get hg
  cases hgt
  simp only [List.mem_cons, List.not_mem_nil, or_false, forall_eq, decide_eq_true_eq] at hc
  refine ⟨64, fun i => ([.s (.sl m 0 off 64 1), .s (.ptr 1 0), .s (.nat .i64 i)], [some [.ints .u8 n xs], some [.ints .u32 64 (wN opsH xs off w i)]]), .exit 0, rfl, fun i hi => ?_, ?_, rfl⟩
  · simp only [List.length_cons, List.length_nil]
    have := r32ah opsW m off n i xs (wN opsH xs off w i)
    rw [opsW_ops] at this
    rw [this]
    refine cond_t (decide_eq_true hi) ?_
    simp only [addOff_eq']
    by_cases h16 : i < 16
    · refine cond_t (decide_eq_true h16) (nd_of ?_ ?_)
      · simp only [List.mem_cons, List.not_mem_nil, or_false, forall_eq_or_imp, forall_eq, decide_eq_true_eq]; omega
      · rw [wN, wS, decide_eq_true h16, cond_true]
        simp only [addOff_eq']
    · refine cond_f (decide_eq_false h16) (nd_of ?_ ?_)
      · simp only [List.mem_cons, List.not_mem_nil, or_false, forall_eq_or_imp, forall_eq, decide_eq_true_eq]; omega
      · rw [wN, wS, decide_eq_false h16, cond_false]
  · simp only [List.length_cons, List.length_nil]
    have := r32ah opsW m off n 64 xs (wN opsH xs off w 64)
    rw [opsW_ops] at this
    rw [this, opsW_w]
    exact cond_f rfl rfl

theorem lok32bh : LOk Try.prog Try.f32.ntmps (.block 2 (.loop (lb 2 Try.f32))) (S32bh opsW) := by
  refine lokR (fs := [(27, R27h opsH)]) (xs := []) (m := .nat) (fuel := 7) (sums := []) (.cons or27h .nil) mixed (loopsOk_none rfl _) ?_
  intro args hin t e vs hout h hg
  unfold S32bh at h
  simp only at h
  split at h
  rotate_left
  · cases h
  rename_i a b c d e' f g h' w k
  simp only [Option.some.injEq] at h
  subst h
  cases hg
  refine ⟨64, fun i => ([.s (.ptr 0 0), .s (.ptr 1 0), .s (.nat .u32 (rN opsH k w ⟨a, b, c, d, e', f, g, h'⟩ i).a), .s (.nat .u32 (rN opsH k w ⟨a, b, c, d, e', f, g, h'⟩ i).b), .s (.nat .u32 (rN opsH k w ⟨a, b, c, d, e', f, g, h'⟩ i).c), .s (.nat .u32 (rN opsH k w ⟨a, b, c, d, e', f, g, h'⟩ i).d), .s (.nat .u32 (rN opsH k w ⟨a, b, c, d, e', f, g, h'⟩ i).e), .s (.nat .u32 (rN opsH k w ⟨a, b, c, d, e', f, g, h'⟩ i).f), .s (.nat .u32 (rN opsH k w ⟨a, b, c, d, e', f, g, h'⟩ i).g), .s (.nat .u32 (rN opsH k w ⟨a, b, c, d, e', f, g, h'⟩ i).h), .s (.nat .i64 i)], [some [.ints .u32 64 w], some [.ints .u64 80 k]]), .exit 2, rfl, fun i hi => ?_, ?_, rfl⟩
  · simp only [List.length_cons, List.length_nil]
    have hs : rN opsH k w ⟨a, b, c, d, e', f, g, h'⟩ (i + 1) = rS opsH k w (rN opsH k w ⟨a, b, c, d, e', f, g, h'⟩ i) i := rfl
    rw [hs]
    generalize rN opsH k w ⟨a, b, c, d, e', f, g, h'⟩ i = v
    have := r32bh opsW k w v i
    rw [opsW_ops] at this
    rw [this]
    refine cond_t (decide_eq_true hi) (nd_of ?_ rfl)
    simp only [List.mem_cons, List.not_mem_nil, or_false, forall_eq_or_imp, forall_eq, decide_eq_true_eq]; omega
  · simp only [List.length_cons, List.length_nil]
    have := r32bh opsW k w (rN opsH k w ⟨a, b, c, d, e', f, g, h'⟩ 64) 64
    rw [opsW_ops] at this
    rw [this, opsW_r]
    exact cond_f rfl rfl

theorem loops32h : LoopsOk Try.prog ⟨Try.f32.ntmps, 7, [(0, S32ah opsW), (2, S32bh opsW)]⟩ (bodyOf Try.f32) := by
  refine loopsOk_of ?_
  have e : loopsIn [(0, S32ah opsW), (2, S32bh opsW)] (bodyOf Try.f32) = [(0, .loop (lb 0 Try.f32), S32ah opsW), (2, .loop (lb 2 Try.f32), S32bh opsW)] := by kernel_rfl
  simp only [e]
  intro x hx
  simp only [List.mem_cons, List.not_mem_nil, or_false] at hx
  rcases hx with rfl | rfl
  · exact lok32ah
  · exact lok32bh

end Go.Proofs.Ytmkhbgklclhmgaa

namespace Go.Proofs.Ytmkhbgklclhmgaa
open Go

def tbl : List Nat := [4794697086780616226, 8158064640168781261, 13096744586834688815, 16840607885511220156, 4131703408338449720, 6480981068601479193, 10538285296894168987, 12329834152419229976, 15566598209576043074, 1334009975649890238, 2608012711638119052, 6128411473006802146, 8268148722764581231, 9286055187155687089, 11230858885718282805, 13951009754708518548, 16472876342353939154, 17275323862435702243, 1135362057144423861, 2597628984639134821, 3308224258029322869, 5365058923640841347, 6679025012923562964, 8573033837759648693, 10970295158949994411, 12119686244451234320, 12683024718118986047, 13788192230050041572, 14330467153632333762, 15395433587784984357, 489312712824947311, 1452737877330783856, 2861767655752347644, 3322285676063803686, 5560940570517711597, 5996557281743188959, 7280758554555802590, 8532644243296465576, 9350256976987008742, 10552545826968843579, 11727347734174303076, 12113106623233404929, 14000437183269869457, 14369950271660146224, 15101387698204529176, 15463397548674623760, 17586052441742319658, 1182934255886127544, 1847814050463011016, 2177327727835720531, 2830643537854262169, 3796741975233480872, 4115178125766777443, 5681478168544905931, 6601373596472566643, 7507060721942968483, 8399075790359081724, 8693463985226723168, 9568029438360202098, 10144078919501101548, 10430055236837252648, 11840083180663258601, 13761210420658862357, 14299343276471374635, 14566680578165727644, 15097957966210449927, 16922976911328602910, 17689382322260857208, 500013540394364858, 748580250866718886, 1242879168328830382, 1977374033974150939, 2944078676154940804, 3659926193048069267, 4368137639120453308, 4836135668995329356, 5532061633213252278, 6448918945643986474, 6902733635092675308, 7801388544844847127]

def F34h : FSem := ⟨false, fun args hin => match args, hin with
  | [], [] => some (.leaf (.agg [.ints .u64 80 tbl], []))
  | _, _ => none⟩

theorem fn34h : Fn Try.prog 34 Try.f34 := ⟨mixed, Try.func34, by kernel_rfl, of_decide_eq_true (by kernel_rfl)⟩
theorem fn32h : Fn Try.prog 32 Try.f32 := ⟨mixed, Try.func32, by kernel_rfl, of_decide_eq_true (by kernel_rfl)⟩
theorem fn29h : Fn Try.prog 29 Try.f29 := ⟨mixed, Try.func29, by kernel_rfl, of_decide_eq_true (by kernel_rfl)⟩

set_option maxRecDepth 100000 in
theorem r34h : runB Try.prog [] [] .nat 7 Try.f34 [] [] = some (.agg [.ints .u64 80 tbl], []) := by kernel_rfl

theorem ok34h : FOk Try.prog 34 F34h := by
  refine fokB (fs := []) (xs := []) (m := .nat) (fuel := 7) EnvOk.nil fn34h ?_
  intro args hin t r h hg
  unfold F34h at h
  simp only at h
  split at h
  · cases h; cases hg
    exact r34h
  · cases h

/-- The state of an empty hash. -/
def st0h : List Nat := [1779033703, 3144134277, 1013904242, 2773480762, 1359893119, 2600822924, 528734635, 1541459225]

def F29h : FSem := ⟨false, fun args hin => match args, hin with
  | [], [] => some (.leaf (.s (.ptr 0 0), [some [.one .nil, .one (.nat .u64 0), .ints .u32 8 st0h]]))
  | _, _ => none⟩

set_option maxRecDepth 100000 in
theorem r29h : runB Try.prog [] [] .nat 7 Try.f29 [] [] = some (.s (.ptr 0 0), [some [.one .nil, .one (.nat .u64 0), .ints .u32 8 st0h]]) := by kernel_rfl

theorem ok29h : FOk Try.prog 29 F29h := by
  refine fokB (fs := []) (xs := []) (m := .nat) (fuel := 7) EnvOk.nil fn29h ?_
  intro args hin t r h hg
  unfold F29h at h
  simp only at h
  split at h
  · cases h; cases hg
    exact r29h
  · cases h

def vOf (s : List Nat) : V8h := ⟨s.getD 0 0, s.getD 1 0, s.getD 2 0, s.getD 3 0, s.getD 4 0, s.getD 5 0, s.getD 6 0, s.getD 7 0⟩
def addV (s : List Nat) (v : V8h) : List Nat := [(s.getD 0 0 + v.a) % 4294967296, (s.getD 1 0 + v.b) % 4294967296, (s.getD 2 0 + v.c) % 4294967296, (s.getD 3 0 + v.d) % 4294967296, (s.getD 4 0 + v.e) % 4294967296, (s.getD 5 0 + v.f) % 4294967296, (s.getD 6 0 + v.g) % 4294967296, (s.getD 7 0 + v.h) % 4294967296]

def z64h : List Nat := List.replicate 64 0
/-- The state behind the block at 'off'. -/
def blkW (o : OpsW) (xs : List Nat) (off : Nat) (s : List Nat) : List Nat := addV s (o.r tbl (o.w xs off z64h) (vOf s))

set_option maxRecDepth 100000 in
theorem r32h (o : OpsW) (m m' : LK) (o' l' c off n : Nat) (xs : List Nat) (s0 s1 s2 s3 s4 s5 s6 s7 : Nat) : runL Try.prog [(27, R27h o.toOpsH), (34, F34h)] [] .nat 20 [(0, S32ah o), (2, S32bh o)] Try.f32 [.s (.ptr 0 0), .s (.sl m 1 off 64 1)] [[.one (.sl m' 1 o' l' 1), .one (.nat .u64 c), .ints .u32 8 [s0, s1, s2, s3, s4, s5, s6, s7]], [.ints .u8 n xs]] =
    nd [decide (off + 64 ≤ n)] (some (.tup [], [some [.one (.sl m' 1 o' l' 1), .one (.nat .u64 c), .ints .u32 8 (blkW o xs off [s0, s1, s2, s3, s4, s5, s6, s7])], some [.ints .u8 n xs]])) := by kernel_rfl

theorem eight {xs : List Nat} (h : xs.length = 8) : ∃ a b c d e f g i, xs = [a, b, c, d, e, f, g, i] := by
  match xs, h with
  | [a, b, c, d, e, f, g, i], _ => exact ⟨a, b, c, d, e, f, g, i, rfl⟩

/-- With the block left open. -/
structure OpsK where
  bk : List Nat → Nat → List Nat → List Nat
def opsK : OpsK := ⟨blkW opsW⟩
theorem opsK_bk : opsK.bk = blkW opsW := by kernel_rfl

def R32h (o : OpsK) : FSem := ⟨false, fun args hin => match args, hin with
  | [.s (.ptr 0 0), .s (.sl m 1 off 64 1)], [[.one (.sl m' 1 o' l' 1), .one (.nat .u64 c), .ints .u32 8 st], [.ints .u8 n xs]] =>
    some (Tr.needs [decide (off + 64 ≤ n), decide (st.length = 8)] (.leaf (.tup [], [some [.one (.sl m' 1 o' l' 1), .one (.nat .u64 c), .ints .u32 8 (o.bk xs off st)], some [.ints .u8 n xs]])))
  | _, _ => none⟩

theorem or32h : FOk Try.prog 32 (R32h opsK) := by
  refine fokL (fs := [(27, R27h opsH), (34, F34h)]) (xs := []) (m := .nat) (fuel := 20) (sums := [(0, S32ah opsW), (2, S32bh opsW)]) (.cons or27h (.cons ok34h .nil)) fn32h loops32h ?_
  intro args hin t r h hg
  unfold R32h at h
  simp only at h
  split at h
  · rename_i m off m' o' l' c st n xs
    simp only [Option.some.injEq] at h
    subst h
    obtain ⟨hc, hgt⟩ := Tr.needs_get hg
    cases hgt
    simp only [List.mem_cons, List.not_mem_nil, or_false, forall_eq_or_imp, forall_eq, decide_eq_true_eq] at hc
    obtain ⟨h1, h2⟩ := hc
    obtain ⟨s0, s1, s2, s3, s4, s5, s6, s7, rfl⟩ := eight h2
    have := r32h opsW m m' o' l' c off n xs s0 s1 s2 s3 s4 s5 s6 s7
    rw [opsW_ops] at this
    rw [this, opsK_bk]
    refine nd_of ?_ rfl
    simp only [List.mem_cons, List.not_mem_nil, or_false, forall_eq, decide_eq_true_eq]
    exact h1
  · cases h

theorem blkW_len (o : OpsW) (xs : List Nat) (off : Nat) (s : List Nat) : (blkW o xs off s).length = 8 := rfl

end Go.Proofs.Ytmkhbgklclhmgaa

namespace Go.Proofs.Ytmkhbgklclhmgaa
open Go

/-- How what is left was cut, behind q blocks. -/
def lk : Nat → LK
  | 0 => .whole
  | _ + 1 => .suf

theorem lk_cut (j : Nat) : (lk j).cut (some 64) none = lk (j + 1) := by
  cases j <;> rfl

/-- The bytes of a part of a row. -/
def rowB (m : LK) (off len : Nat) (xs : List Nat) : List Nat := match m with
  | .whole => xs
  | .pre => xs.take len
  | .suf => xs.drop off
  | .mid => (xs.drop off).take len

def rowN (m : LK) (off len n : Nat) : Bool := match m with
  | .whole => decide (off = 0) && decide (len = n)
  | .pre => decide (off = 0) && decide (len ≤ n)
  | .suf => decide (off + len = n)
  | .mid => decide (off + len ≤ n)

def bkN (o : OpsK) (y st : List Nat) : Nat → List Nat
  | 0 => st
  | j + 1 => o.bk y (64 * j) (bkN o y st j)

theorem bkN_len (y st : List Nat) (h : st.length = 8) : ∀ j, (bkN opsK y st j).length = 8
  | 0 => h
  | j + 1 => by
    rw [bkN, opsK_bk]
    rfl

structure OpsF extends OpsK where
  bks : List Nat → List Nat → Nat → List Nat
def opsF : OpsF := { toOpsK := opsK, bks := bkN opsK }
theorem opsF_ops : opsF.toOpsK = opsK := by kernel_rfl
theorem opsF_bks : opsF.bks = bkN opsK := by kernel_rfl

def hB (r : SV) (c : Nat) (st : List Nat) : Blk := [.one r, .one (.nat .u64 c), .ints .u32 8 st]
/-- What is left of n bytes at the block b. -/
def lf (b n : Nat) : SV := .sl (lk (n / 64)) b (64 * (n / 64)) (n - 64 * (n / 64)) 1

def S31h (o : OpsF) : LSem := ⟨[0, 1, 3], [], fun args hin => match args, hin with
  | [.s (.ptr 0 0), .s (.nat .i64 64), .s (.fn 32 [(0, 0)] [])], [[.one (.sl .whole 1 0 l 1), .one (.nat .u64 c), .ints .u32 8 st], [.ints .u8 n y]] =>
    some (Tr.needs [decide (l = n), decide (n < 9223372036854775808), decide (st.length = 8)] (.leaf (.normal, [], [some (hB (lf 1 n) c (o.bks y st (n / 64))), some [.ints .u8 n y]])))
  | _, _ => none⟩

set_option maxRecDepth 100000 in
theorem rr31h (o : OpsF) (m : LK) (c off n l : Nat) (xs st : List Nat) : runR Try.prog [(32, R32h o.toOpsK)] [] .nat 20 [] Try.f31 0 (S31h o) 2 [.s (.ptr 0 0), .s (.nat .i64 64), .s (.fn 32 [(0, 0)] [])] [some (hB (.sl m 1 off l 1) c st), some [.ints .u8 n xs]] =
(nd [decide (l < 9223372036854775808)]
 (cond (decide (64 ≤ l))
 (nd [decide (64 ≤ l), decide (off + 64 ≤ n), decide (st.length = 8), decide (64 ≤ l)]
 (some (Ex.normal, [AV.s (SV.ptr 0 0), AV.s (SV.nat IntKind.i64 64), AV.s (SV.fn 32 [(0, 0)] [])], [some (hB (.sl (m.cut (some 64) none) 1 (addOff off 64) (l - 64) 1) c (o.bk xs off st)), some [Ch.ints IntKind.u8 n xs]])))
 (some (Ex.exit 0, [], [some (hB (.sl m 1 off l 1) c st), some [Ch.ints IntKind.u8 n xs]])))) := by kernel_rfl

theorem lok31h : LOk Try.prog Try.f31.ntmps (.block 0 (.loop (lb 0 Try.f31))) (S31h opsF) := by
  refine lokR (fs := [(32, R32h opsK)]) (xs := []) (m := .nat) (fuel := 20) (sums := []) (.cons or32h .nil) mixed (loopsOk_none rfl _) ?_
  intro args hin t e vs hout h hg
  unfold S31h at h
  simp only at h
  split at h
  rotate_left
  · cases h
  rename_i l c st n y
  simp only [Option.some.injEq] at h
  subst h
  obtain ⟨hc, hgt⟩ := Tr.needs_get hg
  cases hgt
  simp only [List.mem_cons, List.not_mem_nil, or_false, forall_eq_or_imp, forall_eq, decide_eq_true_eq] at hc
  obtain ⟨rfl, h2, h3⟩ := hc
  refine ⟨l / 64, fun i => ([.s (.ptr 0 0), .s (.nat .i64 64), .s (.fn 32 [(0, 0)] [])], [some (hB (.sl (lk i) 1 (64 * i) (l - 64 * i) 1) c (bkN opsK y st i)), some [.ints .u8 l y]]), .exit 0, rfl, fun i hi => ?_, ?_, rfl⟩
  · simp only [List.length_cons, List.length_nil]
    have := rr31h opsF (lk i) c (64 * i) l (l - 64 * i) y (bkN opsK y st i)
    rw [opsF_ops] at this
    rw [this, lk_cut, addOff_eq', show 64 * i + 64 = 64 * (i + 1) from rfl, show l - 64 * i - 64 = l - 64 * (i + 1) by omega]
    refine nd_of ?_ (cond_t (decide_eq_true (by omega)) (nd_of ?_ rfl))
    · simp only [List.mem_cons, List.not_mem_nil, or_false, forall_eq, decide_eq_true_eq]; omega
    · simp only [List.mem_cons, List.not_mem_nil, or_false, forall_eq_or_imp, forall_eq, decide_eq_true_eq]
      exact ⟨by omega, by omega, bkN_len y st h3 i, by omega⟩
  · simp only [List.length_cons, List.length_nil]
    have := rr31h opsF (lk (l / 64)) c (64 * (l / 64)) l (l - 64 * (l / 64)) y (bkN opsK y st (l / 64))
    rw [opsF_ops] at this
    rw [this, opsF_bks]
    refine nd_of ?_ (cond_f (decide_eq_false (by omega)) rfl)
    simp only [List.mem_cons, List.not_mem_nil, or_false, forall_eq, decide_eq_true_eq]; omega

theorem loops31h : LoopsOk Try.prog ⟨Try.f31.ntmps, 20, [(0, S31h opsF)]⟩ (bodyOf Try.f31) := by
  refine loopsOk_of ?_
  have e : loopsIn [(0, S31h opsF)] (bodyOf Try.f31) = [(0, .loop (lb 0 Try.f31), S31h opsF)] := by kernel_rfl
  simp only [e]
  intro x hx
  simp only [List.mem_cons, List.not_mem_nil, or_false] at hx
  rcases hx with rfl
  · exact lok31h

theorem fn31h : Fn Try.prog 31 Try.f31 := ⟨mixed, Try.func31, by kernel_rfl, of_decide_eq_true (by kernel_rfl)⟩

def M64h : Nat := 18446744073709551616

set_option maxRecDepth 100000 in
theorem r31nh (o : OpsF) (c : Nat) (p st : List Nat) : runL Try.prog [(32, R32h o.toOpsK)] [] .nat 20 [(0, S31h o)] Try.f31 [.s (.ptr 0 0), .s (.nat .i64 64), .s (.xsl (.ints .u8 p)), .s (.fn 32 [(0, 0)] [])] [hB .nil c st] =
    nd [decide (p.length < 9223372036854775808), decide (p.length ≤ 4398046511104), decide (p.length = p.length), decide (p.length < 9223372036854775808), decide (st.length = 8)] (some (.tup [], [some (hB (lf 1 p.length) ((c + p.length) % 18446744073709551616) (o.bks p st (p.length / 64))), some [.ints .u8 p.length p]])) := by kernel_rfl

set_option maxRecDepth 100000 in
theorem r31sh (o : OpsF) {m : LK} {off len n : Nat} {xs ys : List Nat} {cs : List Bool} (c : Nat) (p st : List Nat) (h : rowOf .u8 m off len [.ints .u8 n xs] = some (cs, ys)) : runL Try.prog [(32, R32h o.toOpsK)] [] .nat 20 [(0, S31h o)] Try.f31 [.s (.ptr 0 0), .s (.nat .i64 64), .s (.xsl (.ints .u8 p)), .s (.fn 32 [(0, 0)] [])] [hB (.sl m 1 off len 1) c st, [.ints .u8 n xs]] =
    nd ([decide (p.length < 9223372036854775808)] ++ (cs ++ [decide (len + p.length ≤ 4398046511104), decide (len + p.length = len + p.length), decide (len + p.length < 9223372036854775808), decide (st.length = 8)])) (some (.tup [], [some (hB (lf 2 (len + p.length)) ((c + p.length) % 18446744073709551616) (o.bks (ys ++ p) st ((len + p.length) / 64))), none, some [.ints .u8 (len + p.length) (ys ++ p)]])) := by
  cases m <;> cases h <;> kernel_rfl

theorem rowOf_B {m : LK} {off len n : Nat} (xs : List Nat) (h : rowN m off len n = true) : ∃ cs, rowOf .u8 m off len [.ints .u8 n xs] = some (cs, rowB m off len xs) ∧ ∀ c ∈ cs, c = true := by
  cases m with
  | whole =>
    simp only [rowN, Bool.and_eq_true] at h
    refine ⟨_, rfl, ?_⟩
    simp only [List.mem_cons, List.not_mem_nil, or_false, forall_eq_or_imp, forall_eq]
    exact h
  | pre =>
    simp only [rowN, Bool.and_eq_true] at h
    refine ⟨_, rfl, ?_⟩
    simp only [List.mem_cons, List.not_mem_nil, or_false, forall_eq_or_imp, forall_eq]
    exact h
  | suf =>
    simp only [rowN] at h
    refine ⟨_, rfl, ?_⟩
    simp only [List.mem_cons, List.not_mem_nil, or_false, forall_eq]
    exact h
  | mid =>
    simp only [rowN] at h
    refine ⟨_, rfl, ?_⟩
    simp only [List.mem_cons, List.not_mem_nil, or_false, forall_eq]
    exact h

def R31h (o : OpsF) : FSem := ⟨true, fun args hin => match args, hin with
  | [.s (.ptr 0 0), .s (.nat .i64 64), .s (.xsl (.ints .u8 p)), .s (.fn 32 [(0, 0)] [])], [[.one .nil, .one (.nat .u64 c), .ints .u32 8 st]] =>
    some (Tr.needs [decide (p.length ≤ 4398046511104), decide (st.length = 8)] (.leaf (.tup [], [some (hB (lf 1 p.length) ((c + p.length) % 18446744073709551616) (o.bks p st (p.length / 64))), some [.ints .u8 p.length p]])))
  | [.s (.ptr 0 0), .s (.nat .i64 64), .s (.xsl (.ints .u8 p)), .s (.fn 32 [(0, 0)] [])], [[.one (.sl m 1 off len 1), .one (.nat .u64 c), .ints .u32 8 st], [.ints .u8 n xs]] =>
    some (Tr.needs [rowN m off len n, decide (len + p.length ≤ 4398046511104), decide (st.length = 8)] (.leaf (.tup [], [some (hB (lf 2 (len + p.length)) ((c + p.length) % 18446744073709551616) (o.bks (rowB m off len xs ++ p) st ((len + p.length) / 64))), none, some [.ints .u8 (len + p.length) (rowB m off len xs ++ p)]])))
  | _, _ => none⟩

theorem or31h : FOk Try.prog 31 (R31h opsF) := by
  refine fokL (fs := [(32, R32h opsK)]) (xs := []) (m := .nat) (fuel := 20) (sums := [(0, S31h opsF)]) (.cons or32h .nil) fn31h loops31h ?_
  intro args hin t r h hg
  unfold R31h at h
  simp only at h
  split at h
  · rename_i p c st
    simp only [Option.some.injEq] at h
    subst h
    obtain ⟨hc, hgt⟩ := Tr.needs_get hg
    cases hgt
    simp only [List.mem_cons, List.not_mem_nil, or_false, forall_eq_or_imp, forall_eq, decide_eq_true_eq] at hc
    have := r31nh opsF c p st
    rw [opsF_ops] at this
    rw [hB] at this
    rw [this]
    refine nd_of ?_ rfl
    simp only [List.mem_cons, List.not_mem_nil, or_false, forall_eq_or_imp, forall_eq, decide_eq_true_eq]
    exact ⟨by omega, hc.1, trivial, by omega, hc.2⟩
  · rename_i p m off len c st n xs
    simp only [Option.some.injEq] at h
    subst h
    obtain ⟨hc, hgt⟩ := Tr.needs_get hg
    cases hgt
    simp only [List.mem_cons, List.not_mem_nil, or_false, forall_eq_or_imp, forall_eq, decide_eq_true_eq] at hc
    obtain ⟨h1, h2, h3⟩ := hc
    obtain ⟨cs, hr, hcs⟩ := rowOf_B xs h1
    have := r31sh opsF c p st hr
    rw [opsF_ops] at this
    rw [hB] at this
    rw [this]
    refine nd_of (fun b hb => ?_) rfl
    rcases List.mem_append.1 hb with hb | hb
    · simp only [List.mem_cons, List.not_mem_nil, or_false] at hb
      subst hb
      exact decide_eq_true (by omega)
    · rcases List.mem_append.1 hb with hb | hb
      · exact hcs b hb
      · refine (show ∀ c ∈ [decide (len + p.length ≤ 4398046511104), decide (len + p.length = len + p.length), decide (len + p.length < 9223372036854775808), decide (st.length = 8)], c = true from ?_) b hb
        simp only [List.mem_cons, List.not_mem_nil, or_false, forall_eq_or_imp, forall_eq, decide_eq_true_eq]
        exact ⟨h2, trivial, by omega, h3⟩
  · cases h

end Go.Proofs.Ytmkhbgklclhmgaa

namespace Go.Proofs.Ytmkhbgklclhmgaa
open Go

/-- A hash to which something was written: the row that its rest lies in, how long that is, the count, the state. -/
structure HV where
  n : Nat
  c : Nat
  y : List Nat
  st : List Nat

structure OpsV where
  w0 : Nat → List Nat → List Nat → HV
  w1 : LK → Nat → Nat → List Nat → Nat → List Nat → List Nat → HV

def w0F (o : OpsF) (c : Nat) (st p : List Nat) : HV := ⟨p.length, (c + p.length) % 18446744073709551616, p, o.bks p st (p.length / 64)⟩
def w1F (o : OpsF) (m : LK) (off len : Nat) (xs : List Nat) (c : Nat) (st p : List Nat) : HV := ⟨len + p.length, (c + p.length) % 18446744073709551616, rowB m off len xs ++ p, o.bks (rowB m off len xs ++ p) st ((len + p.length) / 64)⟩
def opsV : OpsV := ⟨w0F opsF, w1F opsF⟩
theorem opsV_w0 : opsV.w0 = w0F opsF := by kernel_rfl
theorem opsV_w1 : opsV.w1 = w1F opsF := by kernel_rfl

def hV (b : Nat) (v : HV) : Blk := [.one (lf b v.n), .one (.nat .u64 v.c), .ints .u32 8 v.st]
def hY (v : HV) : Blk := [.ints .u8 v.n v.y]
/-- Onto a hash to which something was written. -/
def OpsV.more (o : OpsV) (v : HV) (p : List Nat) : HV := o.w1 (lk (v.n / 64)) (64 * (v.n / 64)) (v.n - 64 * (v.n / 64)) v.y v.c v.st p

theorem fn22h : Fn Try.prog 22 Try.f22 := ⟨mixed, Try.func22, by kernel_rfl, of_decide_eq_true (by kernel_rfl)⟩

set_option maxRecDepth 100000 in
theorem r22nh (c : Nat) (p st : List Nat) : runB Try.prog [(31, R31h opsF)] [] .nat 20 Try.f22 [.s (.ptr 0 0), .s (.xsl (.bss [p]))] [hB .nil c st] =
    nd [decide (p.length ≤ 4398046511104), decide (st.length = 8)] (some (.tup [], [some (hV 1 (w0F opsF c st p)), some (hY (w0F opsF c st p))])) := by kernel_rfl

set_option maxRecDepth 100000 in
theorem r22sh (m : LK) (off len n c : Nat) (xs p st : List Nat) : runB Try.prog [(31, R31h opsF)] [] .nat 20 Try.f22 [.s (.ptr 0 0), .s (.xsl (.bss [p]))] [hB (.sl m 1 off len 1) c st, [.ints .u8 n xs]] =
    nd [rowN m off len n, decide (len + p.length ≤ 4398046511104), decide (st.length = 8)] (some (.tup [], [some (hV 2 (w1F opsF m off len xs c st p)), none, some (hY (w1F opsF m off len xs c st p))])) := by kernel_rfl

set_option maxRecDepth 100000 in
theorem r22th (o : OpsF) (c : Nat) (p p' st : List Nat) : runB Try.prog [(31, R31h o)] [] .nat 20 Try.f22 [.s (.ptr 0 0), .s (.xsl (.bss [p, p']))] [hB .nil c st] =
    nd [decide (p.length ≤ 4398046511104), decide (st.length = 8), rowN (lk (p.length / 64)) (64 * (p.length / 64)) (p.length - 64 * (p.length / 64)) p.length, decide (p.length - 64 * (p.length / 64) + p'.length ≤ 4398046511104), decide ((o.bks p st (p.length / 64)).length = 8)]
      (some (.tup [], [some (hV 1 ((OpsV.mk (w0F o) (w1F o)).more (w0F o c st p) p')), some (hY ((OpsV.mk (w0F o) (w1F o)).more (w0F o c st p) p'))])) := by kernel_rfl

def R22h (o : OpsV) : FSem := ⟨true, fun args hin => match args, hin with
  | [.s (.ptr 0 0), .s (.xsl (.bss [p]))], [[.one .nil, .one (.nat .u64 c), .ints .u32 8 st]] =>
    some (Tr.needs [decide (p.length ≤ 4398046511104), decide (st.length = 8)] (.leaf (.tup [], [some (hV 1 (o.w0 c st p)), some (hY (o.w0 c st p))])))
  | [.s (.ptr 0 0), .s (.xsl (.bss [p]))], [[.one (.sl m 1 off len 1), .one (.nat .u64 c), .ints .u32 8 st], [.ints .u8 n xs]] =>
    some (Tr.needs [rowN m off len n, decide (len + p.length ≤ 4398046511104), decide (st.length = 8)] (.leaf (.tup [], [some (hV 2 (o.w1 m off len xs c st p)), none, some (hY (o.w1 m off len xs c st p))])))
  | [.s (.ptr 0 0), .s (.xsl (.bss [p, p']))], [[.one .nil, .one (.nat .u64 c), .ints .u32 8 st]] =>
    some (Tr.needs [decide (p.length ≤ 4398046511104), decide (p'.length ≤ 2199023255552), decide (st.length = 8)] (.leaf (.tup [], [some (hV 1 (o.more (o.w0 c st p) p')), some (hY (o.more (o.w0 c st p) p'))])))
  | _, _ => none⟩

theorem rowN_lf (n : Nat) : rowN (lk (n / 64)) (64 * (n / 64)) (n - 64 * (n / 64)) n = true := by
  cases h : n / 64 with
  | zero => simp [lk, rowN]
  | succ j =>
    simp only [lk, rowN, decide_eq_true_eq]
    omega

theorem bks_len (y st : List Nat) (q : Nat) (h : st.length = 8) : (opsF.bks y st q).length = 8 := by
  rw [opsF_bks]
  exact bkN_len y st h q

theorem or22h : FOk Try.prog 22 (R22h opsV) := by
  refine fokB (fs := [(31, R31h opsF)]) (xs := []) (m := .nat) (fuel := 20) (.cons or31h .nil) fn22h ?_
  intro args hin t r h hg
  unfold R22h at h
  rw [opsV_w0, opsV_w1] at h
  simp only at h
  split at h
  · rename_i p c st
    simp only [Option.some.injEq] at h
    subst h
    obtain ⟨hc, hgt⟩ := Tr.needs_get hg
    cases hgt
    have := r22nh c p st
    rw [hB] at this
    rw [this]
    exact nd_of hc rfl
  · rename_i p m off len c st n xs
    simp only [Option.some.injEq] at h
    subst h
    obtain ⟨hc, hgt⟩ := Tr.needs_get hg
    cases hgt
    have := r22sh m off len n c xs p st
    rw [hB] at this
    rw [this]
    exact nd_of hc rfl
  · rename_i p p' c st
    simp only [Option.some.injEq] at h
    subst h
    obtain ⟨hc, hgt⟩ := Tr.needs_get hg
    cases hgt
    simp only [List.mem_cons, List.not_mem_nil, or_false, forall_eq_or_imp, forall_eq, decide_eq_true_eq] at hc
    obtain ⟨h1, h2, h3⟩ := hc
    have := r22th opsF c p p' st
    rw [hB] at this
    rw [this]
    refine nd_of ?_ ?_
    · simp only [List.mem_cons, List.not_mem_nil, or_false, forall_eq_or_imp, forall_eq, decide_eq_true_eq]
      exact ⟨h1, h3, rowN_lf _, by omega, bks_len _ _ _ h3⟩
    · rw [show (OpsV.mk (w0F opsF) (w1F opsF)) = opsV from rfl]
  · cases h

theorem w0_st (c : Nat) (st p : List Nat) (h : st.length = 8) : (opsV.w0 c st p).st.length = 8 := by
  rw [opsV_w0]
  exact bks_len _ _ _ h
theorem w1_st (m : LK) (off len c : Nat) (xs st p : List Nat) (h : st.length = 8) : (opsV.w1 m off len xs c st p).st.length = 8 := by
  rw [opsV_w1]
  exact bks_len _ _ _ h
theorem w0_n (c : Nat) (st p : List Nat) : (opsV.w0 c st p).n = p.length := by rw [opsV_w0]; rfl
theorem w1_n (m : LK) (off len c : Nat) (xs st p : List Nat) : (opsV.w1 m off len xs c st p).n = len + p.length := by rw [opsV_w1]; rfl

end Go.Proofs.Ytmkhbgklclhmgaa

namespace Go.Proofs.Ytmkhbgklclhmgaa
open Go

def fz (c : Nat) : Nat := (64 - (c + 9) % 64) % 64

def padZ : Nat → List Nat
  | 0 => [128]
  | i + 1 => padZ i ++ [0]

structure OpsZ where
  fz : Nat → Nat
  pz : Nat → List Nat
def opsZ : OpsZ := ⟨fz, padZ⟩
theorem opsZ_fz : opsZ.fz = fz := by kernel_rfl
theorem opsZ_pz : opsZ.pz = padZ := by kernel_rfl

def S35h (o : OpsZ) : LSem := ⟨[0, 1, 2, 7], [7], fun args hin => match args, hin with
  | [.s (.ptr 0 0), .s (.nat .i64 64), .s (.nat .i64 8), .s (.sl .whole 1 0 1 1)], [[.one (.sl m 2 off len 1), .one (.nat .u64 c), .ints .u32 8 st], [.ints .u8 1 p], [.ints .u8 n xs]] =>
    some (Tr.needs [decide (p = [128]), decide (c < 4611686018427387904)] (.br (decide (o.fz c = 0))
      (.leaf (.normal, [.s (.sl .whole 1 0 (o.fz c + 1) 1)], [some (hB (.sl m 2 off len 1) c st), some [.ints .u8 (o.fz c + 1) (o.pz (o.fz c))], some [.ints .u8 n xs]]))
      (.leaf (.normal, [.s (.sl .whole 3 0 (o.fz c + 1) 1)], [some (hB (.sl m 2 off len 1) c st), none, some [.ints .u8 n xs], some [.ints .u8 (o.fz c + 1) (o.pz (o.fz c))]]))))
  | _, _ => none⟩

set_option maxRecDepth 100000 in
theorem rz0h (n c l off len : Nat) (mo : LK) (y xs st : List Nat) : runR Try.prog [] [] .nat 20 [] Try.f35 0 (S35h opsZ) 3 [.s (.ptr 0 0), .s (.nat .i64 64), .s (.nat .i64 8), .s (.sl .whole 1 0 l 1)] [some (hB (.sl mo 2 off len 1) c st), some [.ints .u8 l y], some [.ints .u8 n xs]] =
(nd [decide (c < 9223372036854775808), decide (l < 9223372036854775808), decide (c + l < 9223372036854775808), decide (c + l + 8 < 9223372036854775808)]
 (cond (!decide ((c + l + 8) % 64 = 0))
 (nd [decide (l = l), decide (l + 1 ≤ 4398046511104)]
 (some (Ex.normal, [.s (.ptr 0 0), .s (.nat .i64 64), .s (.nat .i64 8), .s (.sl .whole 3 0 (l + 1) 1)], [some (hB (.sl mo 2 off len 1) c st), none, some [.ints .u8 n xs], some [.ints .u8 (l + 1) (y ++ [0])]])))
 (some (Ex.exit 0, [.s (.sl .whole 1 0 l 1)], [some (hB (.sl mo 2 off len 1) c st), some [.ints .u8 l y], some [.ints .u8 n xs]])))) := by kernel_rfl

set_option maxRecDepth 100000 in
theorem rz1h (n c l off len : Nat) (mo : LK) (y xs st : List Nat) : runR Try.prog [] [] .nat 20 [] Try.f35 0 (S35h opsZ) 3 [.s (.ptr 0 0), .s (.nat .i64 64), .s (.nat .i64 8), .s (.sl .whole 3 0 l 1)] [some (hB (.sl mo 2 off len 1) c st), none, some [.ints .u8 n xs], some [.ints .u8 l y]] =
(nd [decide (c < 9223372036854775808), decide (l < 9223372036854775808), decide (c + l < 9223372036854775808), decide (c + l + 8 < 9223372036854775808)]
 (cond (!decide ((c + l + 8) % 64 = 0))
 (nd [decide (l = l), decide (l + 1 ≤ 4398046511104)]
 (some (Ex.normal, [.s (.ptr 0 0), .s (.nat .i64 64), .s (.nat .i64 8), .s (.sl .whole 3 0 (l + 1) 1)], [some (hB (.sl mo 2 off len 1) c st), none, some [.ints .u8 n xs], some [.ints .u8 (l + 1) (y ++ [0])]])))
 (some (Ex.exit 0, [.s (.sl .whole 3 0 l 1)], [some (hB (.sl mo 2 off len 1) c st), none, some [.ints .u8 n xs], some [.ints .u8 l y]])))) := by kernel_rfl

def AZ (m : LK) (off len n c : Nat) (xs st : List Nat) : Nat → List AV × List (Option Blk)
  | 0 => ([.s (.ptr 0 0), .s (.nat .i64 64), .s (.nat .i64 8), .s (.sl .whole 1 0 1 1)], [some (hB (.sl m 2 off len 1) c st), some [.ints .u8 1 [128]], some [.ints .u8 n xs]])
  | i + 1 => ([.s (.ptr 0 0), .s (.nat .i64 64), .s (.nat .i64 8), .s (.sl .whole 3 0 (i + 1 + 1) 1)], [some (hB (.sl m 2 off len 1) c st), none, some [.ints .u8 n xs], some [.ints .u8 (i + 1 + 1) (padZ (i + 1))]])

theorem fz_lt (c : Nat) : fz c < 64 := Nat.mod_lt _ (by decide)

theorem bnot_t {p : Prop} [Decidable p] (h : ¬ p) : (!decide p) = true := by simp [h]
theorem bnot_f {p : Prop} [Decidable p] (h : p) : (!decide p) = false := by simp [h]

theorem lok35h : LOk Try.prog Try.f35.ntmps (.block 0 (.loop (lb 0 Try.f35))) (S35h opsZ) := by
  refine lokR (fs := []) (xs := []) (m := .nat) (fuel := 20) (sums := []) EnvOk.nil mixed (loopsOk_none rfl _) ?_
  intro args hin t e vs hout h hg
  unfold S35h at h
  rw [opsZ_fz, opsZ_pz] at h
  simp only at h
  split at h
  rotate_left
  · cases h
  rename_i m off len c st p n xs
  simp only [Option.some.injEq] at h
  subst h
  obtain ⟨hc, hgt⟩ := Tr.needs_get hg
  clear hg
  simp only [List.mem_cons, List.not_mem_nil, or_false, forall_eq_or_imp, forall_eq, decide_eq_true_eq] at hc
  obtain ⟨rfl, hc⟩ := hc
  simp only [Tr.get] at hgt
  have hl := fz_lt c
  have hfz : fz c = (64 - (c + 9) % 64) % 64 := rfl
  have hstep : ∀ i, i < fz c → runR Try.prog [] [] .nat 20 [] Try.f35 0 (S35h opsZ) 3 (AZ m off len n c xs st i).1 (AZ m off len n c xs st i).2 = some (.normal, AZ m off len n c xs st (i + 1)) := fun i hi => by
    cases i with
    | zero =>
      simp only [AZ]
      rw [rz0h]
      refine nd_of ?_ (cond_t (bnot_t (by omega)) (nd_of ?_ rfl))
      · simp only [List.mem_cons, List.not_mem_nil, or_false, forall_eq_or_imp, forall_eq, decide_eq_true_eq]; omega
      · simp only [List.mem_cons, List.not_mem_nil, or_false, forall_eq_or_imp, forall_eq, decide_eq_true_eq]; exact ⟨trivial, by omega⟩
    | succ i =>
      simp only [AZ]
      rw [rz1h]
      refine nd_of ?_ (cond_t (bnot_t (by omega)) (nd_of ?_ rfl))
      · simp only [List.mem_cons, List.not_mem_nil, or_false, forall_eq_or_imp, forall_eq, decide_eq_true_eq]; omega
      · simp only [List.mem_cons, List.not_mem_nil, or_false, forall_eq_or_imp, forall_eq, decide_eq_true_eq]
        exact ⟨trivial, by omega⟩
  cases hz : decide (fz c = 0) with
  | true =>
    have hz' := of_decide_eq_true hz
    rw [hz, cond_true, hz'] at hgt
    cases hgt
    refine ⟨fz c, AZ m off len n c xs st, .exit 0, rfl, hstep, ?_, rfl⟩
    rw [hz']
    simp only [AZ, List.length_cons, List.length_nil]
    rw [rz0h]
    refine nd_of ?_ (cond_f (bnot_f (by omega)) rfl)
    simp only [List.mem_cons, List.not_mem_nil, or_false, forall_eq_or_imp, forall_eq, decide_eq_true_eq]; omega
  | false =>
    have hz' := of_decide_eq_false hz
    rw [hz, cond_false] at hgt
    cases hgt
    refine ⟨fz c, AZ m off len n c xs st, .exit 0, rfl, hstep, ?_, rfl⟩
    obtain ⟨q, hq⟩ : ∃ q, fz c = q + 1 := ⟨fz c - 1, by omega⟩
    rw [hq]
    simp only [AZ, List.length_cons, List.length_nil]
    rw [rz1h]
    refine nd_of ?_ (cond_f (bnot_f (by omega)) rfl)
    simp only [List.mem_cons, List.not_mem_nil, or_false, forall_eq_or_imp, forall_eq, decide_eq_true_eq]; omega

theorem loops35h : LoopsOk Try.prog ⟨Try.f35.ntmps, 20, [(0, S35h opsZ)]⟩ (bodyOf Try.f35) := by
  refine loopsOk_of ?_
  have e : loopsIn [(0, S35h opsZ)] (bodyOf Try.f35) = [(0, .loop (lb 0 Try.f35), S35h opsZ)] := by kernel_rfl
  simp only [e]
  intro x hx
  simp only [List.mem_cons, List.not_mem_nil, or_false] at hx
  rcases hx with rfl
  · exact lok35h

theorem fn35h : Fn Try.prog 35 Try.f35 := ⟨mixed, Try.func35, by kernel_rfl, of_decide_eq_true (by kernel_rfl)⟩

def cn1h (c i : Nat) : Nat := c / 2 ^ (8 * i + 8) * 2 ^ 3 % 18446744073709551616 % 256 ||| (c / 2 ^ (8 * i) &&& 255) / 2 ^ 5 % 256
/-- The count of bits in eight bytes. -/
def cnt (c : Nat) : List Nat := [cn1h c 6, cn1h c 5, cn1h c 4, cn1h c 3, cn1h c 2, cn1h c 1, cn1h c 0, c / 2 ^ 0 * 2 ^ 3 % 18446744073709551616 % 256]
def app8h (y : List Nat) (c : Nat) : List Nat := y ++ [cn1h c 6] ++ [cn1h c 5] ++ [cn1h c 4] ++ [cn1h c 3] ++ [cn1h c 2] ++ [cn1h c 1] ++ [cn1h c 0] ++ [c / 2 ^ 0 * 2 ^ 3 % 18446744073709551616 % 256]

set_option maxRecDepth 100000 in
theorem r35h (o : OpsZ) (c off len n : Nat) (m : LK) (xs st : List Nat) : runL Try.prog [] [] .down 20 [(0, S35h o)] Try.f35 [.s (.ptr 0 0), .s (.nat .i64 64), .s (.nat .i64 8)] [hB (.sl m 1 off len 1) c st, [.ints .u8 n xs]] =
  nd [true, decide (c < 4611686018427387904)] (cond (decide (o.fz c = 0))
    (nd [decide (o.fz c + 1 = o.fz c + 1), decide (o.fz c + 1 + 1 ≤ 4398046511104), decide (o.fz c + 1 + 1 = o.fz c + 1 + 1), decide (o.fz c + 1 + 1 + 1 ≤ 4398046511104), decide (o.fz c + 1 + 1 + 1 = o.fz c + 1 + 1 + 1), decide (o.fz c + 1 + 1 + 1 + 1 ≤ 4398046511104), decide (o.fz c + 1 + 1 + 1 + 1 = o.fz c + 1 + 1 + 1 + 1), decide (o.fz c + 1 + 1 + 1 + 1 + 1 ≤ 4398046511104), decide (o.fz c + 1 + 1 + 1 + 1 + 1 = o.fz c + 1 + 1 + 1 + 1 + 1), decide (o.fz c + 1 + 1 + 1 + 1 + 1 + 1 ≤ 4398046511104), decide (o.fz c + 1 + 1 + 1 + 1 + 1 + 1 = o.fz c + 1 + 1 + 1 + 1 + 1 + 1), decide (o.fz c + 1 + 1 + 1 + 1 + 1 + 1 + 1 ≤ 4398046511104), decide (o.fz c + 1 + 1 + 1 + 1 + 1 + 1 + 1 = o.fz c + 1 + 1 + 1 + 1 + 1 + 1 + 1), decide (o.fz c + 1 + 1 + 1 + 1 + 1 + 1 + 1 + 1 ≤ 4398046511104), decide (o.fz c + 1 + 1 + 1 + 1 + 1 + 1 + 1 + 1 = o.fz c + 1 + 1 + 1 + 1 + 1 + 1 + 1 + 1), decide (o.fz c + 1 + 1 + 1 + 1 + 1 + 1 + 1 + 1 + 1 ≤ 4398046511104)]
      (some (.s (.sl .whole 2 0 (o.fz c + 9) 1), [some (hB (.sl m 1 off len 1) c st), some [.ints .u8 n xs], some [.ints .u8 (o.fz c + 9) (app8h (o.pz (o.fz c)) c)]])))
    (nd [decide (o.fz c + 1 = o.fz c + 1), decide (o.fz c + 1 + 1 ≤ 4398046511104), decide (o.fz c + 1 + 1 = o.fz c + 1 + 1), decide (o.fz c + 1 + 1 + 1 ≤ 4398046511104), decide (o.fz c + 1 + 1 + 1 = o.fz c + 1 + 1 + 1), decide (o.fz c + 1 + 1 + 1 + 1 ≤ 4398046511104), decide (o.fz c + 1 + 1 + 1 + 1 = o.fz c + 1 + 1 + 1 + 1), decide (o.fz c + 1 + 1 + 1 + 1 + 1 ≤ 4398046511104), decide (o.fz c + 1 + 1 + 1 + 1 + 1 = o.fz c + 1 + 1 + 1 + 1 + 1), decide (o.fz c + 1 + 1 + 1 + 1 + 1 + 1 ≤ 4398046511104), decide (o.fz c + 1 + 1 + 1 + 1 + 1 + 1 = o.fz c + 1 + 1 + 1 + 1 + 1 + 1), decide (o.fz c + 1 + 1 + 1 + 1 + 1 + 1 + 1 ≤ 4398046511104), decide (o.fz c + 1 + 1 + 1 + 1 + 1 + 1 + 1 = o.fz c + 1 + 1 + 1 + 1 + 1 + 1 + 1), decide (o.fz c + 1 + 1 + 1 + 1 + 1 + 1 + 1 + 1 ≤ 4398046511104), decide (o.fz c + 1 + 1 + 1 + 1 + 1 + 1 + 1 + 1 = o.fz c + 1 + 1 + 1 + 1 + 1 + 1 + 1 + 1), decide (o.fz c + 1 + 1 + 1 + 1 + 1 + 1 + 1 + 1 + 1 ≤ 4398046511104)]
      (some (.s (.sl .whole 2 0 (o.fz c + 9) 1), [some (hB (.sl m 1 off len 1) c st), some [.ints .u8 n xs], some [.ints .u8 (o.fz c + 9) (app8h (o.pz (o.fz c)) c)]])))) := by kernel_rfl

def padL (c : Nat) : Nat := fz c + 9
def pad (c : Nat) : List Nat := app8h (padZ (fz c)) c

structure OpsP extends OpsV where
  pl : Nat → Nat
  pad : Nat → List Nat
def opsP : OpsP := { toOpsV := opsV, pl := padL, pad := pad }
theorem opsP_ops : opsP.toOpsV = opsV := by kernel_rfl
theorem opsP_pl : opsP.pl = padL := by kernel_rfl
theorem opsP_pad : opsP.pad = pad := by kernel_rfl

def R35h (o : OpsP) : FSem := ⟨false, fun args hin => match args, hin with
  | [.s (.ptr 0 0), .s (.nat .i64 64), .s (.nat .i64 8)], [[.one (.sl m 1 off len 1), .one (.nat .u64 c), .ints .u32 8 st], [.ints .u8 n xs]] =>
    some (Tr.needs [decide (c < 4611686018427387904)] (.leaf (.s (.sl .whole 2 0 (o.pl c) 1), [some (hB (.sl m 1 off len 1) c st), some [.ints .u8 n xs], some [.ints .u8 (o.pl c) (o.pad c)]])))
  | _, _ => none⟩

theorem or35h : FOk Try.prog 35 (R35h opsP) := by
  refine fokL (fs := []) (xs := []) (m := .down) (fuel := 20) (sums := [(0, S35h opsZ)]) EnvOk.nil fn35h loops35h ?_
  intro args hin t r h hg
  unfold R35h at h
  rw [opsP_pl, opsP_pad] at h
  simp only at h
  split at h
  · rename_i m off len c st n xs
    simp only [Option.some.injEq] at h
    subst h
    obtain ⟨hc, hgt⟩ := Tr.needs_get hg
    cases hgt
    simp only [List.mem_cons, List.not_mem_nil, or_false, forall_eq, decide_eq_true_eq] at hc
    have := r35h opsZ c off len n m xs st
    rw [hB] at this
    rw [this, opsZ_fz, opsZ_pz]
    have hl := fz_lt c
    have hn : ∀ i, i ≤ 9 → fz c + i ≤ 4398046511104 := fun i hi => by omega
    refine nd_of ?_ ?_
    · simp only [List.mem_cons, List.not_mem_nil, or_false, forall_eq_or_imp, forall_eq, decide_eq_true_eq]
      exact ⟨trivial, hc⟩
    · cases decide (fz c = 0)
      · refine cond_f rfl (nd_of ?_ rfl)
        simp only [List.mem_cons, List.not_mem_nil, or_false, forall_eq_or_imp, forall_eq, decide_eq_true_eq, true_and]
        omega
      · refine cond_t rfl (nd_of ?_ rfl)
        simp only [List.mem_cons, List.not_mem_nil, or_false, forall_eq_or_imp, forall_eq, decide_eq_true_eq, true_and]
        omega
  · cases h

end Go.Proofs.Ytmkhbgklclhmgaa

namespace Go.Proofs.Ytmkhbgklclhmgaa
open Go

def gen (f : Nat → Nat) : Nat → Nat → List Nat
  | 0, _ => []
  | n + 1, i => f i :: gen f n (i + 1)
theorem gen_len (f : Nat → Nat) : ∀ n i, (gen f n i).length = n
  | 0, _ => rfl
  | n + 1, i => by rw [gen, List.length_cons, gen_len f n (i + 1)]
theorem gen_mem {f : Nat → Nat} {B : Nat} (hf : ∀ i, f i < B) : ∀ n i, ∀ x ∈ gen f n i, x < B
  | 0, _, x, hx => by cases hx
  | n + 1, i, x, hx => by
    rcases List.mem_cons.1 hx with rfl | h
    · exact hf i
    · exact gen_mem hf n (i + 1) x h

/-- The state as bytes. -/
def fin (st : List Nat) : List Nat := gen (fun i => st.getD (i / 4) 0 / 2 ^ (24 - 8 * (i % 4)) % 256) 32 0
theorem fin_len (st : List Nat) : (fin st).length = 32 := gen_len _ _ _
theorem fin_mem (st : List Nat) : ∀ x ∈ fin st, x < 256 := gen_mem (fun _ => Nat.mod_lt _ (by decide)) _ _

theorem fn33h : Fn Try.prog 33 Try.f33 := ⟨mixed, Try.func33, by kernel_rfl, of_decide_eq_true (by kernel_rfl)⟩
theorem fn30h : Fn Try.prog 30 Try.f30 := ⟨mixed, Try.func30, by kernel_rfl, of_decide_eq_true (by kernel_rfl)⟩

set_option maxRecDepth 100000 in
theorem r33h (o : OpsP) {m : LK} {off len n : Nat} {xs ys : List Nat} {cs : List Bool} (c : Nat) (st : List Nat) (h : rowOf .u8 m off len [.ints .u8 n xs] = some (cs, ys)) : runB Try.prog [(35, R35h o), (22, R22h o.toOpsV)] [] .nat 40 Try.f33 [.s (.ptr 0 0)] [hB (.sl m 1 off len 1) c st, [.ints .u8 n xs]] =
    nd (cs ++ [decide (0 + len ≤ 4398046511104), decide (c < 4611686018427387904), decide (o.pl c = o.pl c), rowN LK.whole 0 (0 + len) (0 + len), decide (0 + len + (o.pad c).length ≤ 4398046511104), decide (st.length = 8)])
      (some (.agg [.ints .u8 32 (fin (o.w1 .whole 0 (0 + len) ys c st (o.pad c)).st)], [some (hB (.sl m 1 off len 1) c st), some [.ints .u8 n xs]])) := by
  cases m <;> cases h <;> kernel_rfl

structure OpsS extends OpsV where
  sm : LK → Nat → Nat → List Nat → Nat → List Nat → List Nat
def smF (m : LK) (off len : Nat) (xs : List Nat) (c : Nat) (st : List Nat) : List Nat := fin (opsV.w1 .whole 0 len (rowB m off len xs) c st (pad c)).st
def opsS : OpsS := { toOpsV := opsV, sm := smF }
theorem opsS_ops : opsS.toOpsV = opsV := by kernel_rfl
theorem opsS_sm : opsS.sm = smF := by kernel_rfl

def R33h (o : OpsS) : FSem := ⟨false, fun args hin => match args, hin with
  | [.s (.ptr 0 0)], [[.one (.sl m 1 off len 1), .one (.nat .u64 c), .ints .u32 8 st], [.ints .u8 n xs]] =>
    some (Tr.needs [rowN m off len n, decide (len ≤ 2199023255552), decide (c < 4611686018427387904), decide (st.length = 8)] (.leaf (.agg [.ints .u8 32 (o.sm m off len xs c st)], [some (hB (.sl m 1 off len 1) c st), some [.ints .u8 n xs]])))
  | _, _ => none⟩

theorem padZ_len : ∀ i, (padZ i).length = i + 1
  | 0 => rfl
  | i + 1 => by rw [padZ, List.length_append, padZ_len i]; rfl
theorem pad_len (c : Nat) : (pad c).length = fz c + 9 := by
  simp only [pad, app8h, List.length_append, padZ_len, List.length_cons, List.length_nil]

theorem or33h : FOk Try.prog 33 (R33h opsS) := by
  refine fokB (fs := [(35, R35h opsP), (22, R22h opsV)]) (xs := []) (m := .nat) (fuel := 40) (.cons or35h (.cons or22h .nil)) fn33h ?_
  intro args hin t r h hg
  unfold R33h at h
  rw [opsS_sm] at h
  simp only at h
  split at h
  · rename_i m off len c st n xs
    simp only [Option.some.injEq] at h
    subst h
    obtain ⟨hc, hgt⟩ := Tr.needs_get hg
    cases hgt
    simp only [List.mem_cons, List.not_mem_nil, or_false, forall_eq_or_imp, forall_eq, decide_eq_true_eq] at hc
    obtain ⟨h1, h2, h3, h4⟩ := hc
    obtain ⟨cs, hr, hcs⟩ := rowOf_B xs h1
    have := r33h opsP c st hr
    rw [opsP_ops, opsP_pl, opsP_pad, hB] at this
    rw [this, Nat.zero_add]
    refine nd_of (fun b hb => ?_) rfl
    rcases List.mem_append.1 hb with hb | hb
    · exact hcs b hb
    · refine (show ∀ b ∈ [decide (len ≤ 4398046511104), decide (c < 4611686018427387904), decide (padL c = padL c), rowN LK.whole 0 len len, decide (len + (pad c).length ≤ 4398046511104), decide (st.length = 8)], b = true from ?_) b hb
      have hl := fz_lt c
      have hp := pad_len c
      simp only [List.mem_cons, List.not_mem_nil, or_false, forall_eq_or_imp, forall_eq, decide_eq_true_eq]
      exact ⟨by omega, h3, trivial, by simp [rowN], by omega, h4⟩
  · cases h

/-- Of a hash to which something was written. -/
def OpsS.sv (o : OpsS) (v : HV) : List Nat := o.sm (lk (v.n / 64)) (64 * (v.n / 64)) (v.n - 64 * (v.n / 64)) v.y v.c v.st

set_option maxRecDepth 100000 in
theorem r30h1 (o : OpsS) (p : List Nat) : runB Try.prog [(29, F29h), (22, R22h o.toOpsV), (33, R33h o)] [] .nat 40 Try.f30 [.s (.xsl (.bss [p]))] [] =
    nd [decide (p.length ≤ 4398046511104), true, rowN (lk ((o.w0 0 st0h p).n / 64)) (64 * ((o.w0 0 st0h p).n / 64)) ((o.w0 0 st0h p).n - 64 * ((o.w0 0 st0h p).n / 64)) (o.w0 0 st0h p).n, decide ((o.w0 0 st0h p).n - 64 * ((o.w0 0 st0h p).n / 64) ≤ 2199023255552), decide ((o.w0 0 st0h p).c < 4611686018427387904), decide ((o.w0 0 st0h p).st.length = 8)]
      (some (.agg [.ints .u8 32 (o.sv (o.w0 0 st0h p))], [])) := by kernel_rfl

set_option maxRecDepth 100000 in
theorem r30h2 (o : OpsS) (p p' : List Nat) : runB Try.prog [(29, F29h), (22, R22h o.toOpsV), (33, R33h o)] [] .nat 40 Try.f30 [.s (.xsl (.bss [p, p']))] [] =
    nd [decide (p.length ≤ 4398046511104), decide (p'.length ≤ 2199023255552), true, rowN (lk ((o.more (o.w0 0 st0h p) p').n / 64)) (64 * ((o.more (o.w0 0 st0h p) p').n / 64)) ((o.more (o.w0 0 st0h p) p').n - 64 * ((o.more (o.w0 0 st0h p) p').n / 64)) (o.more (o.w0 0 st0h p) p').n, decide ((o.more (o.w0 0 st0h p) p').n - 64 * ((o.more (o.w0 0 st0h p) p').n / 64) ≤ 2199023255552), decide ((o.more (o.w0 0 st0h p) p').c < 4611686018427387904), decide ((o.more (o.w0 0 st0h p) p').st.length = 8)]
      (some (.agg [.ints .u8 32 (o.sv (o.more (o.w0 0 st0h p) p'))], [])) := by kernel_rfl

theorem w0_c (c : Nat) (st p : List Nat) : (opsV.w0 c st p).c = (c + p.length) % 18446744073709551616 := by rw [opsV_w0]; rfl
theorem more_c (v : HV) (p : List Nat) : (opsV.more v p).c = (v.c + p.length) % 18446744073709551616 := by
  unfold OpsV.more
  rw [opsV_w1]; rfl
theorem more_n (v : HV) (p : List Nat) : (opsV.more v p).n = v.n - 64 * (v.n / 64) + p.length := by
  unfold OpsV.more
  rw [opsV_w1]; rfl
theorem more_st (v : HV) (p : List Nat) (h : v.st.length = 8) : (opsV.more v p).st.length = 8 := w1_st _ _ _ _ _ _ _ h

def R30h (o : OpsS) : FSem := ⟨true, fun args hin => match args, hin with
  | [.s (.xsl (.bss [p]))], [] => some (Tr.needs [decide (p.length ≤ 1099511627776)] (.leaf (.agg [.ints .u8 32 (o.sv (o.w0 0 st0h p))], [])))
  | [.s (.xsl (.bss [p, p']))], [] => some (Tr.needs [decide (p.length ≤ 1099511627776), decide (p'.length ≤ 1099511627776)] (.leaf (.agg [.ints .u8 32 (o.sv (o.more (o.w0 0 st0h p) p'))], [])))
  | _, _ => none⟩

theorem or30h : FOk Try.prog 30 (R30h opsS) := by
  refine fokB (fs := [(29, F29h), (22, R22h opsV), (33, R33h opsS)]) (xs := []) (m := .nat) (fuel := 40) (.cons ok29h (.cons or22h (.cons or33h .nil))) fn30h ?_
  intro args hin t r h hg
  unfold R30h at h
  rw [opsS_ops] at h
  simp only at h
  split at h
  · rename_i p
    simp only [Option.some.injEq] at h
    subst h
    obtain ⟨hc, hgt⟩ := Tr.needs_get hg
    cases hgt
    simp only [List.mem_cons, List.not_mem_nil, or_false, forall_eq, decide_eq_true_eq] at hc
    have := r30h1 opsS p
    rw [opsS_ops] at this
    rw [this]
    refine nd_of ?_ rfl
    simp only [List.mem_cons, List.not_mem_nil, or_false, forall_eq_or_imp, forall_eq, decide_eq_true_eq]
    exact ⟨by omega, trivial, rowN_lf _, by rw [w0_n]; omega, by rw [w0_c]; omega, w0_st _ _ _ rfl⟩
  · rename_i p p'
    simp only [Option.some.injEq] at h
    subst h
    obtain ⟨hc, hgt⟩ := Tr.needs_get hg
    cases hgt
    simp only [List.mem_cons, List.not_mem_nil, or_false, forall_eq_or_imp, forall_eq, decide_eq_true_eq] at hc
    have := r30h2 opsS p p'
    rw [opsS_ops] at this
    rw [this]
    refine nd_of ?_ rfl
    simp only [List.mem_cons, List.not_mem_nil, or_false, forall_eq_or_imp, forall_eq, decide_eq_true_eq]
    exact ⟨by omega, by omega, trivial, rowN_lf _, by rw [more_n, w0_n]; omega, by rw [more_c, w0_c]; omega, more_st _ _ (w0_st _ _ _ rfl)⟩
  · cases h

theorem sv_len (v : HV) : (opsS.sv v).length = 32 := by
  unfold OpsS.sv
  rw [opsS_sm]
  exact fin_len _
theorem sv_mem (v : HV) : ∀ x ∈ opsS.sv v, x < 256 := by
  unfold OpsS.sv
  rw [opsS_sm]
  exact fin_mem _

end Go.Proofs.Ytmkhbgklclhmgaa

namespace Go.Proofs.Ytmkhbgklclhmgaa
open Go

def nN (x : List Nat) (k : Nat) (w : List Nat) : Nat → List Nat
  | 0 => w
  | j + 1 => (nN x k w j).set j (x.getD j 0 ^^^ k)

/-- A key of m bytes, filled up. -/
def kp (ys : List Nat) (m : Nat) : List Nat := List.take 0 z64h ++ (ys.take (min m 64) ++ z64h.drop (0 + min m 64))
def inB (x : List Nat) : List Nat := nN x 54 x 64
def ouB (x : List Nat) : List Nat := nN x 92 z64h 64

theorem fn21h : Fn Try.prog 21 Try.f21 := ⟨mixed, Try.func21, by kernel_rfl, of_decide_eq_true (by kernel_rfl)⟩

set_option maxRecDepth 100000 in
theorem r21h (o : OpsS) (key : List Nat) : runB Try.prog [(29, F29h), (30, R30h o), (22, R22h o.toOpsV)] [] .nat 70 Try.f21 [.s (.xsl (.ints .u8 key))] [] =
    nd [decide (key.length < 9223372036854775808)] (cond (decide (64 < key.length))
      (nd [decide (key.length ≤ 1099511627776), decide ((inB (kp (o.sv (o.w0 0 st0h key)) 32)).length ≤ 4398046511104), true]
        (some (.s (.ptr 0 0), [some [.one (.ptr 1 0), .ints .u8 64 (ouB (kp (o.sv (o.w0 0 st0h key)) 32))], some (hV 2 (o.w0 0 st0h (inB (kp (o.sv (o.w0 0 st0h key)) 32)))), some (hY (o.w0 0 st0h (inB (kp (o.sv (o.w0 0 st0h key)) 32))))])))
      (nd [decide ((inB (kp key key.length)).length ≤ 4398046511104), true]
        (some (.s (.ptr 0 0), [some [.one (.ptr 1 0), .ints .u8 64 (ouB (kp key key.length))], some (hV 2 (o.w0 0 st0h (inB (kp key key.length)))), some (hY (o.w0 0 st0h (inB (kp key key.length))))])))) := by kernel_rfl

theorem nN_len (x : List Nat) (k : Nat) (w : List Nat) : ∀ j, (nN x k w j).length = w.length
  | 0 => rfl
  | j + 1 => by rw [nN, List.length_set, nN_len x k w j]
theorem kp_len {ys : List Nat} {m : Nat} (h : ys.length = m) : (kp ys m).length = 64 := by
  unfold kp
  simp only [List.take_zero, List.nil_append, List.length_append, List.length_take, List.length_drop, h, z64h, List.length_replicate]
  omega
theorem inB_len {x : List Nat} (h : x.length = 64) : (inB x).length = 64 := by
  unfold inB
  rw [nN_len, h]
theorem ouB_len (x : List Nat) : (ouB x).length = 64 := by
  unfold ouB
  rw [nN_len]
  rfl

/-- The key, filled up. -/
def kk (key : List Nat) : List Nat := cond (decide (64 < key.length)) (kp (opsS.sv (opsS.w0 0 st0h key)) 32) (kp key key.length)

structure OpsN extends OpsS where
  inn : List Nat → List Nat
  out : List Nat → List Nat
def opsN : OpsN := { toOpsS := opsS, inn := fun key => inB (kk key), out := fun key => ouB (kk key) }
theorem opsN_ops : opsN.toOpsS = opsS := by kernel_rfl
theorem opsN_inn : opsN.inn = fun key => inB (kk key) := by kernel_rfl
theorem opsN_out : opsN.out = fun key => ouB (kk key) := by kernel_rfl

def R21h (o : OpsN) : FSem := ⟨true, fun args hin => match args, hin with
  | [.s (.xsl (.ints .u8 key))], [] => some (Tr.needs [decide (key.length ≤ 1099511627776)]
      (.leaf (.s (.ptr 0 0), [some [.one (.ptr 1 0), .ints .u8 64 (o.out key)], some (hV 2 (o.w0 0 st0h (o.inn key))), some (hY (o.w0 0 st0h (o.inn key)))])))
  | _, _ => none⟩

theorem or21h : FOk Try.prog 21 (R21h opsN) := by
  refine fokB (fs := [(29, F29h), (30, R30h opsS), (22, R22h opsV)]) (xs := []) (m := .nat) (fuel := 70) (.cons ok29h (.cons or30h (.cons or22h .nil))) fn21h ?_
  intro args hin t r h hg
  unfold R21h at h
  rw [opsN_inn, opsN_out, opsN_ops] at h
  simp only at h
  split at h
  · rename_i key
    simp only [Option.some.injEq] at h
    subst h
    obtain ⟨hc, hgt⟩ := Tr.needs_get hg
    cases hgt
    simp only [List.mem_cons, List.not_mem_nil, or_false, forall_eq, decide_eq_true_eq] at hc
    have := r21h opsS key
    rw [opsS_ops] at this
    rw [this]
    refine nd_of ?_ ?_
    · simp only [List.mem_cons, List.not_mem_nil, or_false, forall_eq, decide_eq_true_eq]; omega
    · unfold kk
      rw [opsS_ops]
      cases decide (64 < key.length) with
      | true =>
        refine cond_t rfl (nd_of ?_ rfl)
        have := inB_len (kp_len (sv_len (opsV.w0 0 st0h key)))
        simp only [List.mem_cons, List.not_mem_nil, or_false, forall_eq_or_imp, forall_eq, decide_eq_true_eq]
        exact ⟨hc, by omega, trivial⟩
      | false =>
        refine cond_f rfl (nd_of ?_ rfl)
        have := inB_len (kp_len (ys := key) rfl)
        simp only [List.mem_cons, List.not_mem_nil, or_false, forall_eq_or_imp, forall_eq, decide_eq_true_eq]
        exact ⟨by omega, trivial⟩
  · cases h

theorem kk_len (key : List Nat) : (kk key).length = 64 := by
  unfold kk
  rw [opsS_ops]
  cases decide (64 < key.length)
  · exact kp_len rfl
  · exact kp_len (sv_len _)
theorem inn_len (key : List Nat) : (opsN.inn key).length = 64 := by
  rw [opsN_inn]
  exact inB_len (kk_len key)
theorem out_len (key : List Nat) : (opsN.out key).length = 64 := by
  rw [opsN_out]
  exact ouB_len _

end Go.Proofs.Ytmkhbgklclhmgaa

namespace Go.Proofs.Ytmkhbgklclhmgaa
open Go

theorem fn23h : Fn Try.prog 23 Try.f23 := ⟨mixed, Try.func23, by kernel_rfl, of_decide_eq_true (by kernel_rfl)⟩
theorem fn24h : Fn Try.prog 24 Try.f24 := ⟨mixed, Try.func24, by kernel_rfl, of_decide_eq_true (by kernel_rfl)⟩
theorem fn11h : Fn Try.prog 11 Try.f11 := ⟨mixed, Try.func11, by kernel_rfl, of_decide_eq_true (by kernel_rfl)⟩

set_option maxRecDepth 100000 in
theorem r23h (o : OpsS) (m : LK) (off len n c : Nat) (st xs ou : List Nat) : runB Try.prog [(33, R33h o), (30, R30h o)] [] .nat 70 Try.f23 [.s (.ptr 0 0)] [[.one (.ptr 1 0), .ints .u8 64 ou], hB (.sl m 2 off len 1) c st, [.ints .u8 n xs]] =
    nd [rowN m off len n, decide (len ≤ 2199023255552), decide (c < 4611686018427387904), decide (st.length = 8), decide (ou.length ≤ 1099511627776), decide ((o.sm m off len xs c st).length ≤ 1099511627776)]
      (some (.agg [.ints .u8 32 (o.sv (o.more (o.w0 0 st0h ou) (o.sm m off len xs c st)))], [some [.one (.ptr 1 0), .ints .u8 64 ou], some (hB (.sl m 2 off len 1) c st), some [.ints .u8 n xs]])) := by kernel_rfl

def R23h (o : OpsS) : FSem := ⟨false, fun args hin => match args, hin with
  | [.s (.ptr 0 0)], [[.one (.ptr 1 0), .ints .u8 64 ou], [.one (.sl m 2 off len 1), .one (.nat .u64 c), .ints .u32 8 st], [.ints .u8 n xs]] =>
    some (Tr.needs [rowN m off len n, decide (len ≤ 2199023255552), decide (c < 4611686018427387904), decide (st.length = 8), decide (ou.length ≤ 1099511627776)]
      (.leaf (.agg [.ints .u8 32 (o.sv (o.more (o.w0 0 st0h ou) (o.sm m off len xs c st)))], [some [.one (.ptr 1 0), .ints .u8 64 ou], some (hB (.sl m 2 off len 1) c st), some [.ints .u8 n xs]])))
  | _, _ => none⟩

theorem sm_len (m : LK) (off len c : Nat) (xs st : List Nat) : (opsS.sm m off len xs c st).length = 32 := by
  rw [opsS_sm]
  exact fin_len _

theorem or23h : FOk Try.prog 23 (R23h opsS) := by
  refine fokB (fs := [(33, R33h opsS), (30, R30h opsS)]) (xs := []) (m := .nat) (fuel := 70) (.cons or33h (.cons or30h .nil)) fn23h ?_
  intro args hin t r h hg
  unfold R23h at h
  simp only at h
  split at h
  · rename_i ou m off len c st n xs
    simp only [Option.some.injEq] at h
    subst h
    obtain ⟨hc, hgt⟩ := Tr.needs_get hg
    cases hgt
    simp only [List.mem_cons, List.not_mem_nil, or_false, forall_eq_or_imp, forall_eq, decide_eq_true_eq] at hc
    obtain ⟨h1, h2, h3, h4, h5⟩ := hc
    have := r23h opsS m off len n c st xs ou
    rw [hB] at this
    rw [this]
    refine nd_of ?_ rfl
    simp only [List.mem_cons, List.not_mem_nil, or_false, forall_eq_or_imp, forall_eq, decide_eq_true_eq]
    exact ⟨h1, h2, h3, h4, h5, by rw [sm_len]; decide⟩
  · cases h

set_option maxRecDepth 100000 in
theorem r24h (o : OpsN) (key p : List Nat) : runB Try.prog [(21, R21h o), (22, R22h o.toOpsV), (23, R23h o.toOpsS)] [] .nat 70 Try.f24 [.s (.xsl (.ints .u8 key)), .s (.xsl (.bss [p]))] [] =
    nd [decide (key.length ≤ 1099511627776), rowN (lk ((o.w0 0 st0h (o.inn key)).n / 64)) (64 * ((o.w0 0 st0h (o.inn key)).n / 64)) ((o.w0 0 st0h (o.inn key)).n - 64 * ((o.w0 0 st0h (o.inn key)).n / 64)) (o.w0 0 st0h (o.inn key)).n, decide ((o.w0 0 st0h (o.inn key)).n - 64 * ((o.w0 0 st0h (o.inn key)).n / 64) + p.length ≤ 4398046511104), decide ((o.w0 0 st0h (o.inn key)).st.length = 8),
      rowN (lk ((o.more (o.w0 0 st0h (o.inn key)) p).n / 64)) (64 * ((o.more (o.w0 0 st0h (o.inn key)) p).n / 64)) ((o.more (o.w0 0 st0h (o.inn key)) p).n - 64 * ((o.more (o.w0 0 st0h (o.inn key)) p).n / 64)) (o.more (o.w0 0 st0h (o.inn key)) p).n, decide ((o.more (o.w0 0 st0h (o.inn key)) p).n - 64 * ((o.more (o.w0 0 st0h (o.inn key)) p).n / 64) ≤ 2199023255552), decide ((o.more (o.w0 0 st0h (o.inn key)) p).c < 4611686018427387904), decide ((o.more (o.w0 0 st0h (o.inn key)) p).st.length = 8), decide ((o.out key).length ≤ 1099511627776)]
      (some (.agg [.ints .u8 32 (o.sv (o.more (o.w0 0 st0h (o.out key)) (o.sv (o.more (o.w0 0 st0h (o.inn key)) p))))], [])) := by kernel_rfl

/-- The sum with a key of one part. -/
def OpsN.mc (o : OpsN) (key p : List Nat) : List Nat := o.sv (o.more (o.w0 0 st0h (o.out key)) (o.sv (o.more (o.w0 0 st0h (o.inn key)) p)))

def R24h (o : OpsN) : FSem := ⟨true, fun args hin => match args, hin with
  | [.s (.xsl (.ints .u8 key)), .s (.xsl (.bss [p]))], [] => some (Tr.needs [decide (key.length ≤ 1099511627776), decide (p.length ≤ 1099511627776)] (.leaf (.agg [.ints .u8 32 (o.mc key p)], [])))
  | _, _ => none⟩

theorem nw_n (key : List Nat) : (opsV.w0 0 st0h (opsN.inn key)).n = 64 := by rw [w0_n, inn_len]
theorem nw_c (key : List Nat) : (opsV.w0 0 st0h (opsN.inn key)).c = 64 := by rw [w0_c, inn_len]
theorem nw_st (key : List Nat) : (opsV.w0 0 st0h (opsN.inn key)).st.length = 8 := w0_st _ _ _ rfl

theorem or24h : FOk Try.prog 24 (R24h opsN) := by
  refine fokB (fs := [(21, R21h opsN), (22, R22h opsV), (23, R23h opsS)]) (xs := []) (m := .nat) (fuel := 70) (.cons or21h (.cons or22h (.cons or23h .nil))) fn24h ?_
  intro args hin t r h hg
  unfold R24h at h
  simp only at h
  split at h
  · rename_i key p
    simp only [Option.some.injEq] at h
    subst h
    obtain ⟨hc, hgt⟩ := Tr.needs_get hg
    cases hgt
    simp only [List.mem_cons, List.not_mem_nil, or_false, forall_eq_or_imp, forall_eq, decide_eq_true_eq] at hc
    obtain ⟨h1, h2⟩ := hc
    have := r24h opsN key p
    rw [opsN_ops, opsS_ops] at this
    unfold OpsN.mc
    rw [opsN_ops, opsS_ops, this]
    refine nd_of ?_ rfl
    have e1 := nw_n key
    have e2 := nw_c key
    have e3 := more_n (opsV.w0 0 st0h (opsN.inn key)) p
    have e4 := more_c (opsV.w0 0 st0h (opsN.inn key)) p
    simp only [List.mem_cons, List.not_mem_nil, or_false, forall_eq_or_imp, forall_eq, decide_eq_true_eq]
    exact ⟨h1, rowN_lf _, by omega, nw_st _, rowN_lf _, by omega, by omega, more_st _ _ (nw_st _), by rw [out_len]; decide⟩
  · cases h

set_option maxRecDepth 100000 in
theorem r11h (o : OpsN) (key p : List Nat) : runB Try.prog [(24, R24h o)] [] .nat 70 Try.f11 [.s (.xsl (.ints .u8 key)), .s (.xsl (.bss [p]))] [] =
    nd [decide (key.length ≤ 1099511627776), decide (p.length ≤ 1099511627776)] (some (.agg [.ints .u8 32 (o.mc key p)], [])) := by kernel_rfl

theorem or11h : FOk Try.prog 11 (R24h opsN) := by
  refine fokB (fs := [(24, R24h opsN)]) (xs := []) (m := .nat) (fuel := 70) (.cons or24h .nil) fn11h ?_
  intro args hin t r h hg
  unfold R24h at h
  simp only at h
  split at h
  · rename_i key p
    simp only [Option.some.injEq] at h
    subst h
    obtain ⟨hc, hgt⟩ := Tr.needs_get hg
    cases hgt
    rw [r11h]
    exact nd_of hc rfl
  · cases h

end Go.Proofs.Ytmkhbgklclhmgaa

namespace Go.Proofs.Ytmkhbgklclhmgaa
open Go

def OpsN.nw (o : OpsN) (key : List Nat) : HV := o.w0 0 st0h (o.inn key)
def OpsN.x3 (o : OpsN) (key last info : List Nat) (i : Nat) : HV := o.more (o.more (o.more (o.nw key) last) info) [i]
def OpsN.ex (o : OpsN) (key last info : List Nat) (i : Nat) : List Nat := o.sv (o.more (o.w0 0 st0h (o.out key)) (o.sv (o.x3 key last info i)))

def wrN (v : HV) (p : List Nat) : List Bool := [rowN (lk (v.n / 64)) (64 * (v.n / 64)) (v.n - 64 * (v.n / 64)) v.n, decide (v.n - 64 * (v.n / 64) + p.length ≤ 4398046511104), decide (v.st.length = 8)]
def suN (v : HV) : List Bool := [rowN (lk (v.n / 64)) (64 * (v.n / 64)) (v.n - 64 * (v.n / 64)) v.n, decide (v.n - 64 * (v.n / 64) ≤ 2199023255552), decide (v.c < 4611686018427387904), decide (v.st.length = 8)]
def exN (o : OpsN) (key last info : List Nat) (i : Nat) : List Bool := decide (key.length ≤ 1099511627776) :: (wrN (o.nw key) last ++ (wrN (o.more (o.nw key) last) info ++ (wrN (o.more (o.more (o.nw key) last) info) [i] ++ (suN (o.x3 key last info i) ++ [decide ((o.out key).length ≤ 1099511627776)]))))

theorem fn10h : Fn Try.prog 10 Try.f10 := ⟨mixed, Try.func10, by kernel_rfl, of_decide_eq_true (by kernel_rfl)⟩

set_option maxRecDepth 100000 in
theorem r10h (o : OpsN) (key info : List Nat) : runB Try.prog [(21, R21h o), (22, R22h o.toOpsV), (23, R23h o.toOpsS)] [] .nat 70 Try.f10 [.agg [.ints .u8 32 key], .s (.nat .i64 64), .s (.xsl (.bss [info]))] [] =
    nd (exN o key [] info 1 ++ exN o key (o.ex key [] info 1) info 2) (some (.tup [.s (.sl .pre 0 0 64 1), .s (.nat .i64 0)], [some [.ints .u8 64 (o.ex key [] info 1 ++ o.ex key (o.ex key [] info 1) info 2)]])) := by kernel_rfl

structure OpsE where
  mc : List Nat → List Nat → List Nat
  ep : List Nat → List Nat → List Nat
def epF (key info : List Nat) : List Nat := opsN.ex key [] info 1 ++ opsN.ex key (opsN.ex key [] info 1) info 2
def opsE : OpsE := ⟨opsN.mc, epF⟩
theorem opsE_mc : opsE.mc = opsN.mc := by kernel_rfl
theorem opsE_ep : opsE.ep = epF := by kernel_rfl

def R10h (o : OpsE) : FSem := ⟨true, fun args hin => match args, hin with
  | [.agg [.ints .u8 32 key], .s (.nat .i64 64), .s (.xsl (.bss [info]))], [] => some (Tr.needs [decide (key.length ≤ 1099511627776), decide (info.length ≤ 1099511627776)]
      (.leaf (.tup [.s (.sl .pre 0 0 64 1), .s (.nat .i64 0)], [some [.ints .u8 64 (o.ep key info)]])))
  | _, _ => none⟩

theorem wrN_ok {v : HV} {p : List Nat} (h : p.length ≤ 1099511627776) (hs : v.st.length = 8) : ∀ b ∈ wrN v p, b = true := by
  unfold wrN
  simp only [List.mem_cons, List.not_mem_nil, or_false, forall_eq_or_imp, forall_eq, decide_eq_true_eq]
  exact ⟨rowN_lf _, by omega, hs⟩
theorem suN_ok {v : HV} (hc : v.c < 4611686018427387904) (hs : v.st.length = 8) : ∀ b ∈ suN v, b = true := by
  unfold suN
  simp only [List.mem_cons, List.not_mem_nil, or_false, forall_eq_or_imp, forall_eq, decide_eq_true_eq]
  exact ⟨rowN_lf _, by omega, hc, hs⟩
theorem all_app2 {a b : List Bool} (h1 : ∀ x ∈ a, x = true) (h2 : ∀ x ∈ b, x = true) : ∀ x ∈ a ++ b, x = true := by
  intro x hx
  rcases List.mem_append.1 hx with h | h
  · exact h1 x h
  · exact h2 x h

theorem exN_ok {key last info : List Nat} {i : Nat} (h1 : key.length ≤ 1099511627776) (h2 : last.length ≤ 1099511627776) (h3 : info.length ≤ 1099511627776) : ∀ b ∈ exN opsN key last info i, b = true := by
  unfold exN OpsN.x3 OpsN.nw
  rw [opsN_ops, opsS_ops]
  have s1 := nw_st key
  have s2 := more_st _ last s1
  have s3 := more_st _ info s2
  have s4 := more_st _ [i] s3
  have c1 := nw_c key
  have c2 := more_c (opsV.w0 0 st0h (opsN.inn key)) last
  have c3 := more_c (opsV.more (opsV.w0 0 st0h (opsN.inn key)) last) info
  have c4 := more_c (opsV.more (opsV.more (opsV.w0 0 st0h (opsN.inn key)) last) info) [i]
  simp only [List.length_cons, List.length_nil] at c4
  intro b hb
  rcases List.mem_cons.1 hb with rfl | hb
  · exact decide_eq_true h1
  · have hl : ∀ b ∈ [decide ((opsN.out key).length ≤ 1099511627776)], b = true := by
      simp only [List.mem_cons, List.not_mem_nil, or_false, forall_eq, decide_eq_true_eq]
      rw [out_len]
      decide
    exact all_app2 (wrN_ok h2 s1) (all_app2 (wrN_ok h3 s2) (all_app2 (wrN_ok (p := [i]) (show 1 ≤ 1099511627776 by decide) s3) (all_app2 (suN_ok (by omega) s4) hl))) b hb

theorem ex_len (key last info : List Nat) (i : Nat) : (opsN.ex key last info i).length = 32 := by
  unfold OpsN.ex
  rw [opsN_ops]
  exact sv_len _
theorem ex_mem (key last info : List Nat) (i : Nat) : ∀ x ∈ opsN.ex key last info i, x < 256 := by
  unfold OpsN.ex
  rw [opsN_ops]
  exact sv_mem _
theorem mc_len (key p : List Nat) : (opsN.mc key p).length = 32 := by
  unfold OpsN.mc
  rw [opsN_ops]
  exact sv_len _
theorem ep_len (key info : List Nat) : (epF key info).length = 64 := by
  unfold epF
  rw [List.length_append, ex_len, ex_len]
theorem ep_mem (key info : List Nat) : ∀ x ∈ epF key info, x < 256 := by
  unfold epF
  intro x hx
  rcases List.mem_append.1 hx with h | h
  · exact ex_mem _ _ _ _ x h
  · exact ex_mem _ _ _ _ x h

theorem or10h : FOk Try.prog 10 (R10h opsE) := by
  refine fokB (fs := [(21, R21h opsN), (22, R22h opsV), (23, R23h opsS)]) (xs := []) (m := .nat) (fuel := 70) (.cons or21h (.cons or22h (.cons or23h .nil))) fn10h ?_
  intro args hin t r h hg
  unfold R10h at h
  rw [opsE_ep] at h
  simp only at h
  split at h
  · rename_i key info
    simp only [Option.some.injEq] at h
    subst h
    obtain ⟨hc, hgt⟩ := Tr.needs_get hg
    cases hgt
    simp only [List.mem_cons, List.not_mem_nil, or_false, forall_eq_or_imp, forall_eq, decide_eq_true_eq] at hc
    obtain ⟨h1, h2⟩ := hc
    have := r10h opsN key info
    rw [opsN_ops, opsS_ops] at this
    rw [this]
    refine nd_of (all_app2 (exN_ok h1 (by simp) h2) (exN_ok h1 (by rw [ex_len]; decide) h2)) ?_
    rfl
  · cases h

end Go.Proofs.Ytmkhbgklclhmgaa

namespace Go.Proofs.Ytmkhbgklclhmgaa
open Go

/-- Is it 2^130 - 5 or more? -/
def over5 (a b c d e : Nat) : Nat := ct e (ct d (ct c (ct b (ct a 5 / 2 ^ 26) / 2 ^ 26) / 2 ^ 26) / 2 ^ 26) / 2 ^ 26

def carrL (t0 t1 t2 t3 t4 : Nat) : List Nat := [t0 &&& 67108863, t1 &&& 67108863, t2 &&& 67108863, t3 &&& 67108863, t4 &&& 67108863]

def least5 (a b c d e : Nat) : List Nat :=
  (fun t0 => (fun t1 => (fun t2 => (fun t3 => carrL t0 t1 t2 t3 (ct e (t3 / 2 ^ 26))) (ct d (t2 / 2 ^ 26))) (ct c (t1 / 2 ^ 26))) (ct b (t0 / 2 ^ 26)))
    (ct ((a + 5 * over5 a b c d e % 18446744073709551616) % 18446744073709551616) 0)

def least (x : List Nat) : List Nat := least5 (x.getD 0 0) (x.getD 1 0) (x.getD 2 0) (x.getD 3 0) (x.getD 4 0)

/-- The i-th byte of a number of five parts, and what stands above it. -/
def fx (x : List Nat) (i : Nat) : Nat :=
  match decide (18 < 8 * i % 26) && decide (8 * i / 26 < 4) with
  | true => x.getD (8 * i / 26) 0 / 2 ^ (8 * i % 26) ||| x.getD (8 * i / 26 + 1) 0 * 2 ^ (26 - 8 * i % 26) % 18446744073709551616
  | false => x.getD (8 * i / 26) 0 / 2 ^ (8 * i % 26)

/-- What is carried into the i-th byte. -/
def fo (x key : List Nat) : Nat → Nat
  | 0 => 0
  | i + 1 => (fo x key i + (fx x i % 256 + key.getD (16 + i) 0)) / 2 ^ 8

def ft (x key : List Nat) (i : Nat) : Nat := (fo x key i + (fx x i % 256 + key.getD (16 + i) 0)) % 256

def fcs (x key : List Nat) : Nat → Nat → List Bool
  | 0, _ => []
  | n + 1, i => decide (fx x i % 256 + key.getD (16 + i) 0 < 9223372036854775808) :: decide (fo x key i + (fx x i % 256 + key.getD (16 + i) 0) < 9223372036854775808) :: fcs x key n (i + 1)

def fts (x key : List Nat) : Nat → Nat → List Nat
  | 0, _ => []
  | n + 1, i => ft x key i :: fts x key n (i + 1)

def finL (x key : List Nat) : List Nat := fts (least (carr (carr x))) key 16 0

def F38 : FSem := ⟨false, fun args hin => match args, hin with
  | [.agg [.ints .u64 5 x], .agg [.ints .u8 32 key]], [] => some (Tr.needs [decide (x.length = 5), key.all fun k => decide (k < 256)] (.leaf (.agg [.ints .u8 16 (finL x key)], [])))
  | _, _ => none⟩

theorem fn38 : Fn Try.prog 20 Try.f20 := ⟨mixedP, Try.func20, by kernel_rfl, of_decide_eq_true (by kernel_rfl)⟩

set_option maxRecDepth 100000 in
theorem r38 (a b c d e : Nat) (key : List Nat) : runB Try.prog [(28, F46)] [] .nat 17 Try.f20 [.agg [.ints .u64 5 [a, b, c, d, e]], .agg [.ints .u8 32 key]] [] =
    nd (fcs (least (carr (carr [a, b, c, d, e]))) key 16 0) (some (.agg [.ints .u8 16 (finL [a, b, c, d, e] key)], [])) := by kernel_rfl

theorem key_lt {key : List Nat} (h : key.all (fun k => decide (k < 256)) = true) (i : Nat) : key.getD i 0 < 256 := by
  rw [List.getD]
  cases hj : key[i]? with
  | none => simp
  | some p =>
    have := List.all_eq_true.1 h p (List.mem_of_getElem? hj)
    simpa using this

theorem fo_lt {x key : List Nat} (h : key.all (fun k => decide (k < 256)) = true) : ∀ i, fo x key i < 256
  | 0 => by simp [fo]
  | i + 1 => by
    have h1 := fo_lt (x := x) h i
    have h2 := key_lt h (16 + i)
    have h3 : fx x i % 256 < 256 := Nat.mod_lt _ (by omega)
    unfold fo
    omega

theorem fcs_ok {x key : List Nat} (h : key.all (fun k => decide (k < 256)) = true) : ∀ n i, ∀ c ∈ fcs x key n i, c = true
  | 0, i, c, hc => by cases hc
  | n + 1, i, c, hc => by
    have h1 := fo_lt (x := x) h i
    have h2 := key_lt h (16 + i)
    have h3 : fx x i % 256 < 256 := Nat.mod_lt _ (by omega)
    simp only [fcs, List.mem_cons] at hc
    rcases hc with rfl | rfl | hc
    · exact decide_eq_true (by omega)
    · exact decide_eq_true (by omega)
    · exact fcs_ok h n (i + 1) c hc

theorem ok38 : FOk Try.prog 20 F38 := by
  refine fokB (fs := [(28, F46)]) (xs := []) (m := .nat) (fuel := 17) (.cons ok46 .nil) fn38 ?_
  intro args hin t r h hg
  unfold F38 at h
  simp only at h
  split at h
  · rename_i x key
    cases h
    obtain ⟨hc, hgt⟩ := Tr.needs_get hg
    cases hgt
    obtain ⟨a, b, c, d, e, rfl⟩ := five (of_decide_eq_true (hc (decide (x.length = 5)) (by simp)))
    rw [r38]
    exact nd_of (fcs_ok (hc _ (by simp)) 16 0) rfl
  · cases h

end Go.Proofs.Ytmkhbgklclhmgaa

namespace Go.Proofs.Ytmkhbgklclhmgaa
open Go

/-! One block more. -/
def addL (a x : List Nat) : List Nat := [ct (a.getD 0 0) (x.getD 0 0), ct (a.getD 1 0) (x.getD 1 0), ct (a.getD 2 0) (x.getD 2 0), ct (a.getD 3 0) (x.getD 3 0), ct (a.getD 4 0) (x.getD 4 0)]

def stepC (r a ys : List Nat) : List Nat := carr (carr (timesL (addL a (numb (ys ++ [1]))) r))

def F36 : FSem := ⟨false, fun args hin => match args, hin with
  | [.s (.sl m 0 off len 1), .s (.ptr 1 0), .s (.ptr 2 0)], [[.ints .u8 n xs], [.ints .u64 5 a], [.ints .u64 5 r]] => match rowOf .u8 m off len [.ints .u8 n xs] with
    | some (cs, ys) => some (Tr.needs (cs ++ [decide (ys.length = len), decide (len ≤ 16), decide (a.length = 5), decide (r.length = 5)])
      (.leaf (.tup [], [some [.ints .u8 n xs], some [.ints .u64 5 (stepC r a ys)], some [.ints .u64 5 r]])))
    | none => none
  | _, _ => none⟩

theorem fn36 : Fn Try.prog 18 Try.f18 := ⟨mixedP, Try.func18, by kernel_rfl, of_decide_eq_true (by kernel_rfl)⟩

set_option maxRecDepth 100000 in
theorem r36 {m : LK} {off len n : Nat} {xs ys : List Nat} {cs : List Bool} (a b c d e : Nat) (r : List Nat) (h : rowOf .u8 m off len [.ints .u8 n xs] = some (cs, ys)) :
    runB Try.prog [(17, F35), (19, F37)] [] .nat 7 Try.f18 [.s (.sl m 0 off len 1), .s (.ptr 1 0), .s (.ptr 2 0)] [[.ints .u8 n xs], [.ints .u64 5 [a, b, c, d, e]], [.ints .u64 5 r]] =
    nd (cs ++ [decide (0 + len ≤ 4398046511104), decide (0 + len = 0 + len), decide (0 + len + 1 ≤ 4398046511104), decide (0 + len + 1 = 0 + len + 1), decide ((ys ++ [1]).length ≤ 17), decide (r.length = 5)])
      (some (.tup [], [some [.ints .u8 n xs], some [.ints .u64 5 (stepC r [a, b, c, d, e] ys)], some [.ints .u64 5 r]])) := by
  cases m <;> cases h <;> kernel_rfl

theorem ok36 : FOk Try.prog 18 F36 := by
  refine fokB (fs := [(17, F35), (19, F37)]) (xs := []) (m := .nat) (fuel := 7) (.cons ok35 (.cons ok37 .nil)) fn36 ?_
  intro args hin t r h hg
  unfold F36 at h
  simp only at h
  split at h
  · rename_i m off len n xs a r
    split at h
    · rename_i cs ys hr
      cases h
      obtain ⟨hc, hgt⟩ := Tr.needs_get hg
      cases hgt
      have h1 : ys.length = len := of_decide_eq_true (hc _ (List.mem_append_right _ (by simp)))
      have h2 : len ≤ 16 := of_decide_eq_true (hc (decide (len ≤ 16)) (List.mem_append_right _ (by simp)))
      have h3 : a.length = 5 := of_decide_eq_true (hc (decide (a.length = 5)) (List.mem_append_right _ (by simp)))
      have h4 : r.length = 5 := of_decide_eq_true (hc (decide (r.length = 5)) (List.mem_append_right _ (by simp)))
      obtain ⟨a0, a1, a2, a3, a4, rfl⟩ := five h3
      rw [r36 _ _ _ _ _ _ hr]
      refine nd_of (fun c hm => ?_) rfl
      rcases List.mem_append.1 hm with hm | hm
      · exact hc c (List.mem_append_left _ hm)
      · refine (show ∀ c ∈ [decide (0 + len ≤ 4398046511104), decide (0 + len = 0 + len), decide (0 + len + 1 ≤ 4398046511104), decide (0 + len + 1 = 0 + len + 1), decide ((ys ++ [1]).length ≤ 17), decide (r.length = 5)], c = true from ?_) c hm
        simp only [List.mem_cons, List.not_mem_nil, or_false, forall_eq_or_imp, forall_eq, decide_eq_true_eq, true_and, List.length_append, List.length_cons, List.length_nil]
        omega
    · cases h
  · cases h

end Go.Proofs.Ytmkhbgklclhmgaa

namespace Go.Proofs.Ytmkhbgklclhmgaa
open Go

def takesC (r a ys : List Nat) : Nat → List Nat
  | 0 => a
  | q + 1 => stepC r (takesC r a ys q) ((ys.drop (16 * q)).take 16)

theorem carr_len (x : List Nat) : (carr x).length = 5 := rfl
theorem stepC_len (r a ys : List Nat) : (stepC r a ys).length = 5 := rfl
theorem takesC_len {r a ys : List Nat} (h : a.length = 5) : ∀ q, (takesC r a ys q).length = 5
  | 0 => h
  | _ + 1 => rfl

def clo6 : AV := .s (.fn 18 [] [(1, 0), (2, 0)])

def S6 : LSem := ⟨[11, 12], [11], fun args hin => match args, hin with
  | [.s (.sl .whole 0 0 l 1), .s (.fn 18 [] [(1, 0), (2, 0)])], [[.ints .u8 n xs], [.ints .u64 5 a], [.ints .u64 5 r]] =>
    some (Tr.needs [decide (n = l), decide (xs.length = l), decide (a.length = 5), decide (r.length = 5), decide (l < 9223372036854775808)]
      (.br (decide (l / 16 = 0)) (.leaf (.normal, [.s (.sl .whole 0 0 l 1)], [some [.ints .u8 l xs], some [.ints .u64 5 a], some [.ints .u64 5 r]]))
        (.leaf (.normal, [.s (.sl .suf 0 (16 * (l / 16)) (l - 16 * (l / 16)) 1)], [some [.ints .u8 l xs], some [.ints .u64 5 (takesC r a xs (l / 16))], some [.ints .u64 5 r]]))))
  | _, _ => none⟩

set_option maxRecDepth 100000 in
theorem rr6w (l : Nat) (xs a r : List Nat) : runR Try.prog [(18, F36)] [] .nat 7 [] Try.f9 6 S6 3 [.s (.sl .whole 0 0 l 1), .s (.fn 18 [] [(1, 0), (2, 0)])] [some [.ints .u8 l xs], some [.ints .u64 5 a], some [.ints .u64 5 r]] =
(nd [decide (l < 9223372036854775808)]
 (cond (decide (16 ≤ l))
 (nd [decide (16 ≤ l), decide (16 ≤ l), decide ((List.take 16 xs).length = 16), decide (a.length = 5), decide (r.length = 5), decide (16 ≤ l)]
 (some (Ex.normal, [AV.s (SV.sl LK.suf 0 16 (l - 16) 1), AV.s (SV.fn 18 [] [(1, 0), (2, 0)])], [some [Ch.ints IntKind.u8 l xs], some [Ch.ints IntKind.u64 5 (stepC r a (List.take 16 xs))], some [Ch.ints IntKind.u64 5 r]])))
 (some (Ex.exit 6, [AV.s (SV.sl LK.whole 0 0 l 1)], [some [Ch.ints IntKind.u8 l xs], some [Ch.ints IntKind.u64 5 a], some [Ch.ints IntKind.u64 5 r]])))) := by kernel_rfl

set_option maxRecDepth 100000 in
theorem rr6s (off len l : Nat) (xs a r : List Nat) : runR Try.prog [(18, F36)] [] .nat 7 [] Try.f9 6 S6 3 [.s (.sl .suf 0 off len 1), .s (.fn 18 [] [(1, 0), (2, 0)])] [some [.ints .u8 l xs], some [.ints .u64 5 a], some [.ints .u64 5 r]] =
(nd [decide (len < 9223372036854775808)]
 (cond (decide (16 ≤ len))
 (nd [decide (16 ≤ len), decide (off + 16 ≤ l), decide ((List.take 16 (List.drop off xs)).length = 16), decide (a.length = 5), decide (r.length = 5), decide (16 ≤ len)]
 (some (Ex.normal, [AV.s (SV.sl LK.suf 0 (addOff off 16) (len - 16) 1), AV.s (SV.fn 18 [] [(1, 0), (2, 0)])], [some [Ch.ints IntKind.u8 l xs], some [Ch.ints IntKind.u64 5 (stepC r a (List.take 16 (List.drop off xs)))], some [Ch.ints IntKind.u64 5 r]])))
 (some (Ex.exit 6, [AV.s (SV.sl LK.suf 0 off len 1)], [some [Ch.ints IntKind.u8 l xs], some [Ch.ints IntKind.u64 5 a], some [Ch.ints IntKind.u64 5 r]])))) := by kernel_rfl

def A6 (xs a r : List Nat) : Nat → List AV × List (Option Blk)
  | 0 => ([.s (.sl .whole 0 0 xs.length 1), clo6], [some [.ints .u8 xs.length xs], some [.ints .u64 5 a], some [.ints .u64 5 r]])
  | i + 1 => ([.s (.sl .suf 0 (16 * (i + 1)) (xs.length - 16 * (i + 1)) 1), clo6], [some [.ints .u8 xs.length xs], some [.ints .u64 5 (takesC r a xs (i + 1))], some [.ints .u64 5 r]])

theorem lok6 : LOk Try.prog Try.f9.ntmps (.block 6 (.loop (lb 6 Try.f9))) S6 := by
  refine lokR (fs := [(18, F36)]) (xs := []) (m := .nat) (fuel := 7) (sums := []) (.cons ok36 .nil) mixedP (loopsOk_none rfl _) ?_
  intro args hin t e vs hout h hg
  unfold S6 at h
  simp only at h
  split at h
  · rename_i l n xs a r
    simp only [Option.some.injEq] at h
    subst h
    obtain ⟨hc, hgt⟩ := Tr.needs_get hg
    clear hg
    have e1 : n = l := of_decide_eq_true (hc _ (by simp))
    have e2 : xs.length = l := of_decide_eq_true (hc (decide (xs.length = l)) (by simp))
    have e3 : a.length = 5 := of_decide_eq_true (hc (decide (a.length = 5)) (by simp))
    have e4 : r.length = 5 := of_decide_eq_true (hc (decide (r.length = 5)) (by simp))
    have e5 : l < 9223372036854775808 := of_decide_eq_true (hc (decide (l < 9223372036854775808)) (by simp))
    clear hc
    subst e1; subst e2
    refine ⟨xs.length / 16, A6 xs a r, .exit 6, rfl, fun i hi => ?_, ?_, ?_⟩
    · cases i with
      | zero =>
        simp only [A6, clo6, List.length_cons, List.length_nil]
        rw [rr6w]
        refine nd_of ?_ (cond_t (decide_eq_true (by omega)) (nd_of ?_ ?_))
        · simp only [List.mem_cons, List.not_mem_nil, or_false, forall_eq, decide_eq_true_eq]; omega
        · simp only [List.mem_cons, List.not_mem_nil, or_false, forall_eq_or_imp, forall_eq, decide_eq_true_eq, List.length_take]; omega
        · simp [takesC]
      | succ i =>
        simp only [A6, clo6, List.length_cons, List.length_nil]
        rw [rr6s]
        refine nd_of ?_ (cond_t (decide_eq_true (by omega)) (nd_of ?_ ?_))
        · simp only [List.mem_cons, List.not_mem_nil, or_false, forall_eq, decide_eq_true_eq]; omega
        · simp only [List.mem_cons, List.not_mem_nil, or_false, forall_eq_or_imp, forall_eq, decide_eq_true_eq, List.length_take, List.length_drop, takesC_len e3, true_and]; omega
        · rw [addOff_eq', show 16 * (i + 1) + 16 = 16 * (i + 1 + 1) by omega, show xs.length - 16 * (i + 1) - 16 = xs.length - 16 * (i + 1 + 1) by omega]
          rfl
    · show _ = some (Ex.exit 6, vs, hout)
      simp only [Tr.get] at hgt
      cases hq : xs.length / 16 with
      | zero =>
        rw [hq] at hgt
        cases hgt
        simp only [A6, clo6, List.length_cons, List.length_nil]
        rw [rr6w]
        refine nd_of ?_ (cond_f (decide_eq_false (by omega)) rfl)
        simp only [List.mem_cons, List.not_mem_nil, or_false, forall_eq, decide_eq_true_eq]; omega
      | succ i =>
        rw [hq] at hgt
        cases hgt
        simp only [A6, clo6, List.length_cons, List.length_nil]
        rw [rr6s]
        refine nd_of ?_ (cond_f (decide_eq_false (by omega)) rfl)
        simp only [List.mem_cons, List.not_mem_nil, or_false, forall_eq, decide_eq_true_eq]; omega
    · simp only [Tr.get] at hgt
      cases hq : decide (xs.length / 16 = 0) <;> rw [hq] at hgt <;> cases hgt <;> rfl
  · cases h

end Go.Proofs.Ytmkhbgklclhmgaa

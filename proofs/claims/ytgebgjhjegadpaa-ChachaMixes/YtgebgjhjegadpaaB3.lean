/-
  Part 3 of what the last text stands on: The abstract machine: regions, sound: in order, and in any order.
-/
import Derived.Test.YtgebgjhjegadpaaB2
import Derived.LoopN
import Derived.ProofKit
import Derived.OpenShut
import Derived.Test.YtgebgjhjegadpaaRows

set_option linter.unusedSimpArgs false
set_option linter.unusedVariables false

namespace Go.Proofs.Ytgebgjhjegadpaa
open Go

section
variable {X : Kit} {C : C0} {ops : Array Oper} {T : Nat → AV} {H : Nat → Option Blk} {a : Act} {w : World}

theorem zip_get {os : List Oper} {rs : List Did} (hlen : rs.length = os.length) {j : Nat} {o : Oper} (ho : os[j]? = some o) : ∃ r, rs[j]? = some r ∧ (os.zip rs)[j]? = some (o, r) := by
  have hj := (List.getElem?_eq_some_iff.1 ho).1
  refine ⟨rs[j]'(by omega), List.getElem?_eq_getElem _, ?_⟩
  rw [List.getElem?_zip_eq_some]
  exact ⟨ho, List.getElem?_eq_getElem _⟩

theorem zip_get' {os : List Oper} {rs : List Did} {j : Nat} {p : Pr} (h : (os.zip rs)[j]? = some p) : os[j]? = some p.1 ∧ rs[j]? = some p.2 := by
  obtain ⟨o, r⟩ := p
  rw [List.getElem?_zip_eq_some] at h
  exact h

theorem fresh_at {os : List Oper} {rs : List Did} {nx j nxj : Nat} {o : Oper} {r : Did} {S : Nat → Bool} (hSj : S j = false) (hp : (os.zip rs)[j]? = some (o, r)) (hst : ∀ n, (lkF r.out.nw n).isSome = true → nxj ≤ n ∧ n < nxj + r.out.nw.length) (hnx : nx ≤ nxj)
    (h3 : ∀ (k : Nat) (p : Pr) (n : Nat), (os.zip rs)[k]? = some p → (lkF p.2.out.nw n).isSome = true → nx ≤ n ∧ (k < j → n < nxj) ∧ (j < k → nxj + r.out.nw.length ≤ n)) :
    ∀ n, (lkF r.out.nw n).isSome = true → ¬ selD S (os.zip rs) (fun n => n < nx) n := by
  intro n hn h
  have hr := hst n hn
  rcases h with h | ⟨k, p, e1, e2, e3⟩
  · omega
  · have := h3 k p n e1 e3
    rcases Nat.lt_trichotomy k j with h | h | h
    · have := this.2.1 h; omega
    · subst h; rw [hSj] at e2; cases e2
    · have := this.2.2 h; omega

theorem selD_end {os : List Oper} {rs : List Did} {nx : Nat} {S : Nat → Bool} (ht : TraceP X ops os rs T H nx) (n : Nat) (h : selD S (os.zip rs) (fun n => n < nx) n) : n < nx + ((os.zip rs).map (·.2.out.nw.length)).sum := by
  rcases h with h | ⟨k, p, e1, e2, e3⟩
  · omega
  · clear e2
    induction os generalizing rs T H nx k with
    | nil => simp at e1
    | cons o os ih =>
      cases rs with
      | nil => simp at e1
      | cons r rs =>
        obtain ⟨hs, ht⟩ := ht
        cases k with
        | zero =>
          simp only [List.zip_cons_cons, List.getElem?_cons_zero, Option.some.injEq] at e1
          subst e1
          have := (hs.names e3).2
          simp only [List.zip_cons_cons, List.map_cons, List.sum_cons]
          omega
        | succ k =>
          have := ih ht k (by simpa using e1)
          simp only [List.zip_cons_cons, List.map_cons, List.sum_cons]
          omega

theorem region_seq (hX : KitOk X C) {rs : List Did} {nx : Nat} {Q : Exit → Act → World → Prop} (hlen : rs.length = ops.toList.length) (ht : TraceP X ops ops.toList rs T H nx) (hI : RelA C T H (fun n => n < nx) a w)
    (hQ : ∀ a' w', RelA C (selT (fun _ => true) 0 (ops.toList.zip rs) T) (selH (fun _ => true) 0 (ops.toList.zip rs) H) (fun n => n < nx + ((ops.toList.zip rs).map (·.2.out.nw.length)).sum) a' w' → Q .normal a' w') :
    wpOps X.E.P ops Q (List.range ops.size) a w := by
  have key : ∀ (m j : Nat) (a : Act) (w : World), j + m = ops.size → RelA C (selT (fun k => decide (k < j)) 0 (ops.toList.zip rs) T) (selH (fun k => decide (k < j)) 0 (ops.toList.zip rs) H) (selD (fun k => decide (k < j)) (ops.toList.zip rs) (fun n => n < nx)) a w →
      wpOps X.E.P ops Q (List.range' j m) a w := by
    intro m
    induction m with
    | zero =>
      intro j a w hj hI
      simp only [List.range'_zero, wpOps]
      refine hQ a w ?_
      have e1 : selT (fun k => decide (k < j)) 0 (ops.toList.zip rs) T = selT (fun _ => true) 0 (ops.toList.zip rs) T := by
        funext t
        rw [selT_get, selT_get]
        refine selV_congr fun k u hu => ?_
        have := (List.getElem?_eq_some_iff.1 hu).1
        simp at this
        simp; omega
      have e2 : selH (fun k => decide (k < j)) 0 (ops.toList.zip rs) H = selH (fun _ => true) 0 (ops.toList.zip rs) H := by
        funext t
        rw [selH_get, selH_get]
        refine selV_congr fun k u hu => ?_
        have := (List.getElem?_eq_some_iff.1 hu).1
        simp at this
        simp; omega
      rw [e1, e2] at hI
      exact hI.weaken fun n hn => selD_end ht n hn
    | succ m ih =>
      intro j a w hj hI
      rw [List.range'_succ, wpOps_cons]
      have hlt : j < ops.size := by omega
      have ho : ops[j]? = some ops[j] := Array.getElem?_eq_getElem hlt
      obtain ⟨r, hr, hp⟩ := zip_get hlen (j := j) (o := ops[j]) (by rw [Array.getElem?_toList]; exact ho)
      obtain ⟨nxj, h1, h2, h3⟩ := TraceP_get (i := 0) ht hp
      rw [Nat.zero_add] at h1
      refine step_at hX ho hp (by simp) h1 (fun _ _ => rfl) (fun _ _ => rfl) (fresh_at (by simp) hp (fun n hn => h1.names hn) h2 h3) (fun t _ k p hk _ hS => ?_) (fun n _ k p hk _ hS => ?_) hI (fun S' a' w' hS' hI' => ?_)
      · simp at hS; omega
      · simp at hS; omega
      · have : S' = fun k => decide (k < j + 1) := by
          funext k
          rw [hS' k]
          by_cases h : k = j
          · subst h; simp
          · have : (k == j) = false := by simp [h]
            rw [this, Bool.or_false]
            by_cases h' : k < j
            · simp [h']; omega
            · simp [h']; omega
        subst this
        exact ih (j + 1) a' w' (by omega) hI'
  rw [List.range_eq_range']
  refine key ops.size 0 a w (by omega) ?_
  have e1 : selT (fun k => decide (k < 0)) 0 (ops.toList.zip rs) T = T := by
    funext t; rw [selT_get]; exact selV_none fun k u _ => by simp
  have e2 : selH (fun k => decide (k < 0)) 0 (ops.toList.zip rs) H = H := by
    funext t; rw [selH_get]; exact selV_none fun k u _ => by simp
  rw [e1, e2]
  exact hI.weaken fun n hn => .inl hn

/-! Which come before which. -/
theorem hasBit_lor (a b x : Nat) : hasBit (Nat.lor a b) x = (hasBit a x || hasBit b x) := Nat.testBit_or a b x
theorem hasBit_pow (t x : Nat) : hasBit (Nat.pow 2 t) x = decide (t = x) := Nat.testBit_two_pow
theorem hasBit_zero (x : Nat) : hasBit 0 x = false := Nat.zero_testBit x

theorem bindE_eq (e : Edge) : Region.binds .any e = bindE e := by
  unfold Region.binds bindE
  cases e.ground <;> rfl

theorem ancE_spec {j : Nat} {anc : List Nat} : ∀ {es : List Edge} {m : Nat}, ancE j anc es = some m → (∀ e ∈ es, bindE e = true → e.on < j) ∧
    ∀ x, hasBit m x = true → ∃ e ∈ es, bindE e = true ∧ (x = e.on ∨ ∃ m', anc[e.on]? = some m' ∧ hasBit m' x = true)
  | [], m, h => by
    simp only [ancE, Option.some.injEq] at h
    subst h
    exact ⟨by simp, fun x hx => by rw [hasBit_zero] at hx; cases hx⟩
  | e :: es, m, h => by
    unfold ancE at h
    split at h
    · rename_i hb
      obtain ⟨h1, h2⟩ := ancE_spec h
      refine ⟨fun e' he' hb' => ?_, fun x hx => ?_⟩
      · rcases List.mem_cons.1 he' with rfl | he'
        · rw [hb] at hb'; cases hb'
        · exact h1 e' he' hb'
      · obtain ⟨e', he', h3⟩ := h2 x hx
        exact ⟨e', List.mem_cons_of_mem _ he', h3⟩
    · rename_i hb
      split at h
      · rename_i m0 r hlt hm0 hr
        simp only [Option.some.injEq] at h
        subst h
        obtain ⟨h1, h2⟩ := ancE_spec hr
        refine ⟨fun e' he' hb' => ?_, fun x hx => ?_⟩
        · rcases List.mem_cons.1 he' with rfl | he'
          · exact Nat.le_of_ble_eq_true hlt
          · exact h1 e' he' hb'
        · rw [hasBit_lor, hasBit_lor, hasBit_pow] at hx
          simp only [Bool.or_eq_true, decide_eq_true_eq] at hx
          rcases hx with (hx | hx) | hx
          · exact ⟨e, List.mem_cons_self, hb, .inl hx.symm⟩
          · exact ⟨e, List.mem_cons_self, hb, .inr ⟨m0, hm0, hx⟩⟩
          · obtain ⟨e', he', h3⟩ := h2 x hx
            exact ⟨e', List.mem_cons_of_mem _ he', h3⟩
      · cases h

theorem ancs_spec : ∀ {os : List Oper} {acc ms : List Nat}, ancs os acc = some ms → (∃ l, ms = acc ++ l ∧ l.length = os.length) ∧
    ∀ (i : Nat) (o : Oper), os[i]? = some o → ∃ m, ms[acc.length + i]? = some m ∧ (∀ e ∈ o.after, bindE e = true → e.on < acc.length + i) ∧
      ∀ x, hasBit m x = true → ∃ e ∈ o.after, bindE e = true ∧ (x = e.on ∨ ∃ m', ms[e.on]? = some m' ∧ hasBit m' x = true)
  | [], acc, ms, h => by
    simp only [ancs, Option.some.injEq] at h
    subst h
    exact ⟨⟨[], by simp, rfl⟩, fun i o e => by simp at e⟩
  | o :: os, acc, ms, h => by
    unfold ancs at h
    split at h
    · rename_i m hm
      obtain ⟨⟨l, hl, hll⟩, h2⟩ := ancs_spec h
      obtain ⟨h3, h4⟩ := ancE_spec hm
      refine ⟨⟨m :: l, by rw [hl]; simp, by simp [hll]⟩, fun i o' e => ?_⟩
      cases i with
      | zero =>
        simp only [List.getElem?_cons_zero, Option.some.injEq] at e
        subst e
        refine ⟨m, by rw [hl]; simp, fun e he hb => h3 e (by simpa using he) hb, fun x hx => ?_⟩
        obtain ⟨e, he, hb, h5⟩ := h4 x hx
        refine ⟨e, by simpa using he, hb, h5.imp id fun ⟨m', h6, h7⟩ => ⟨m', ?_, h7⟩⟩
        have hlt := (List.getElem?_eq_some_iff.1 h6).1
        rw [hl, List.append_assoc, List.getElem?_append_left hlt]
        exact h6
      | succ i =>
        obtain ⟨m', h5, h6, h7⟩ := h2 i o' (by simpa using e)
        simp only [List.length_append, List.length_singleton] at h5 h6
        rw [show acc.length + 1 + i = acc.length + (i + 1) by omega] at h5 h6
        exact ⟨m', h5, h6, h7⟩
    · cases h

theorem stas_spec : ∀ {os : List Oper} {ms : List Nat} {st : List Sta}, stas ops os ms = some st → st.length = os.length ∧ ms.length = os.length ∧ ∀ (i : Nat) (o : Oper) (m : Nat), os[i]? = some o → ms[i]? = some m → st[i]? = some ⟨o.dst, lookMask ops o, m⟩
  | [], [], st, h => by simp only [stas, Option.some.injEq] at h; subst h; exact ⟨rfl, rfl, fun i o m e => by simp at e⟩
  | [], _ :: _, st, h => by simp [stas] at h
  | _ :: _, [], st, h => by simp [stas] at h
  | o :: os, m :: ms, st, h => by
    unfold stas at h
    split at h
    · rename_i r hr
      simp only [Option.some.injEq] at h
      subst h
      obtain ⟨h1, h2, h3⟩ := stas_spec hr
      refine ⟨by simp [h1], by simp [h2], fun i o' m' e1 e2 => ?_⟩
      cases i with
      | zero => simp only [List.getElem?_cons_zero, Option.some.injEq] at e1 e2 ⊢; subst e1; subst e2; rfl
      | succ i => simpa using h3 i o' m' (by simpa using e1) (by simpa using e2)
    · cases h

theorem tmpMask_spec : ∀ {l : List Operand} {t : Nat}, .tmp t ∈ l → hasBit (tmpMask l) t = true
  | [], t, h => by cases h
  | x :: l, t, h => by
    rcases List.mem_cons.1 h with e | h
    · subst e; simp only [tmpMask, hasBit_lor, hasBit_pow, decide_true, Bool.true_or]
    · have := tmpMask_spec h
      cases x <;> simp only [tmpMask, hasBit_lor, this, Bool.or_true]

theorem lookMask_spec {o : Oper} {t : Nat} (h : Looks ops o t) : hasBit (lookMask ops o) t = true := by
  unfold lookMask
  rcases h with h | h
  · have := tmpMask_spec (Array.mem_toList_iff.2 h)
    split
    · rw [hasBit_lor, this, Bool.or_true]
    · exact this
  · rw [h]; simp only [hasBit_lor, hasBit_pow, decide_true, Bool.true_or]

theorem staAgainst_spec {i : Nat} {x : Sta} : ∀ {ys : List Sta}, staAgainst i x ys = true → ∀ (q : Nat) (y : Sta), ys[q]? = some y → staPair i x y = true
  | [], _, q, y, e => by simp at e
  | z :: ys, h, q, y, e => by
    unfold staAgainst at h
    split at h
    · rename_i hz
      cases q with
      | zero => simp only [List.getElem?_cons_zero, Option.some.injEq] at e; subst e; exact hz
      | succ q => exact staAgainst_spec h q y (by simpa using e)
    · cases h

theorem staAll_spec : ∀ {xs : List Sta} {i : Nat}, staAll i xs = true → ∀ (p q : Nat) (x y : Sta), p < q → xs[p]? = some x → xs[q]? = some y → staPair (i + p) x y = true
  | [], i, _, p, q, x, y, _, e, _ => by simp at e
  | z :: xs, i, h, p, q, x, y, hpq, e1, e2 => by
    unfold staAll at h
    split at h
    · rename_i hz
      obtain ⟨q, rfl⟩ : ∃ q', q = q' + 1 := ⟨q - 1, by omega⟩
      cases p with
      | zero =>
        simp only [List.getElem?_cons_zero, Option.some.injEq] at e1
        subst e1
        exact staAgainst_spec hz q y (by simpa using e2)
      | succ p =>
        have := staAll_spec h p q x y (by omega) (by simpa using e1) (by simpa using e2)
        rw [show i + (p + 1) = i + 1 + p by omega]; exact this
    · cases h

theorem didFwd_spec {i : Nat} {ts : List Nat} : ∀ {ys : List Sta} {rs : List Did}, didFwd i ts ys rs = true → ∀ (q : Nat) (y : Sta) (r : Did), ys[q]? = some y → rs[q]? = some r → hasBit y.anc i = true ∨ (disjN ts r.rd = true ∧ disjN ts r.tch = true)
  | [], rs, _, q, y, r, e, _ => by simp at e
  | _ :: _, [], _, q, y, r, _, e => by simp at e
  | z :: ys, s :: rs, h, q, y, r, e1, e2 => by
    unfold didFwd at h
    split at h
    · rename_i hz
      cases q with
      | zero =>
        simp only [List.getElem?_cons_zero, Option.some.injEq] at e1 e2
        subst e1; subst e2
        simpa [Bool.or_eq_true, Bool.and_eq_true] using hz
      | succ q => exact didFwd_spec h q y r (by simpa using e1) (by simpa using e2)
    · cases h

theorem didBwd_spec {i : Nat} {rd : List Nat} : ∀ {ys : List Sta} {rs : List Did}, didBwd i rd ys rs = true → ∀ (q : Nat) (y : Sta) (r : Did), ys[q]? = some y → rs[q]? = some r → r.tch = [] ∨ hasBit y.anc i = true ∨ disjN r.tch rd = true
  | [], rs, _, q, y, r, e, _ => by simp at e
  | _ :: _, [], _, q, y, r, _, e => by simp at e
  | z :: ys, s :: rs, h, q, y, r, e1, e2 => by
    unfold didBwd at h
    split at h
    · rename_i hz
      cases q with
      | zero =>
        simp only [List.getElem?_cons_zero, Option.some.injEq] at e1 e2
        subst e1; subst e2
        simp only [Bool.or_eq_true] at hz
        refine hz.imp (fun h => ?_) id
        cases ht : s.tch with
        | nil => rfl
        | cons _ _ => rw [ht] at h; cases h
      | succ q => exact didBwd_spec h q y r (by simpa using e1) (by simpa using e2)
    · cases h

theorem didAll_spec : ∀ {ys : List Sta} {rs : List Did} {i : Nat}, didAll i ys rs = true → ∀ (p q : Nat) (x y : Did) (z : Sta), p < q → ys.length = rs.length → rs[p]? = some x → rs[q]? = some y → ys[q]? = some z →
    (x.tch = [] ∨ hasBit z.anc (i + p) = true ∨ (disjN x.tch y.rd = true ∧ disjN x.tch y.tch = true)) ∧ (y.tch = [] ∨ hasBit z.anc (i + p) = true ∨ disjN y.tch x.rd = true)
  | [], rs, i, _, p, q, x, y, z, _, _, _, _, e => by simp at e
  | _ :: _, [], i, _, p, q, x, y, z, _, _, e, _, _ => by simp at e
  | s :: ys, r :: rs, i, h, p, q, x, y, z, hpq, hl, e1, e2, e3 => by
    unfold didAll at h
    split at h
    · rename_i hz
      rw [Bool.and_eq_true, Bool.or_eq_true] at hz
      obtain ⟨q, rfl⟩ : ∃ q', q = q' + 1 := ⟨q - 1, by omega⟩
      have e2 : rs[q]? = some y := by simpa using e2
      have e3 : ys[q]? = some z := by simpa using e3
      cases p with
      | zero =>
        simp only [List.getElem?_cons_zero, Option.some.injEq] at e1
        subst e1
        refine ⟨?_, didBwd_spec hz.2 q z y e3 e2⟩
        rcases hz.1 with h1 | h1
        · left
          cases ht : r.tch with
          | nil => rfl
          | cons _ _ => rw [ht] at h1; cases h1
        · exact .inr (didFwd_spec h1 q z y e3 e2)
      | succ p =>
        have := didAll_spec h p q x y z (by omega) (by simpa using hl) (by simpa using e1) e2 e3
        rw [show i + (p + 1) = i + 1 + p by omega]; exact this
    · cases h

end
end Go.Proofs.Ytgebgjhjegadpaa

namespace Go.Proofs.Ytgebgjhjegadpaa
open Go

section
variable {X : Kit} {C : C0} {ops : Array Oper} {T : Nat → AV} {H : Nat → Option Blk} {a : Act} {w : World}

def lst (listed : Array Bool) : Nat → Bool := fun k => listed.getD k false

/-- Each listed operation's grounds are listed. -/
def Closed (ops : Array Oper) (S : Nat → Bool) : Prop := ∀ (k : Nat) (o : Oper), ops[k]? = some o → S k = true → ∀ e ∈ o.after, bindE e = true → S e.on = true

theorem anc_in {S : Nat → Bool} (hS : Closed ops S) {ms : List Nat} (hms : ∀ (i : Nat) (o : Oper), ops[i]? = some o → ∃ m, ms[i]? = some m ∧ (∀ e ∈ o.after, bindE e = true → e.on < i) ∧
    ∀ x, hasBit m x = true → ∃ e ∈ o.after, bindE e = true ∧ (x = e.on ∨ ∃ m', ms[e.on]? = some m' ∧ hasBit m' x = true)) :
    ∀ (j : Nat) (o : Oper) (m x : Nat), ops[j]? = some o → (∀ e ∈ o.after, bindE e = true → S e.on = true) → ms[j]? = some m → hasBit m x = true → S x = true := by
  intro j
  induction j using Nat.strongRecOn with
  | _ j ih =>
    intro o m x ho hd hm hx
    obtain ⟨m1, h1, h2, h3⟩ := hms j o ho
    rw [hm] at h1
    cases h1
    obtain ⟨e, he, hb, h4⟩ := h3 x hx
    have hlt := h2 e he hb
    have hSe := hd e he hb
    rcases h4 with rfl | ⟨m', h5, h6⟩
    · exact hSe
    · have hj := (Array.getElem?_eq_some_iff.1 ho).1
      have hoe : ops[e.on]? = some ops[e.on] := Array.getElem?_eq_getElem (by omega)
      exact ih e.on hlt _ m' x hoe (hS e.on _ hoe hSe) h5 h6

theorem region_any (hX : KitOk X C) {rs : List Did} {st : List Sta} {nx : Nat} {Q : Exit → Act → World → Prop} (hst : stasOf ops = some st) (hall : staAll 0 st = true) (hdid : didAll 0 st rs = true) (hlen : rs.length = ops.toList.length)
    (ht : TraceP X ops ops.toList rs T H nx) (hI : RelA C T H (fun n => n < nx) a w)
    (hQ : ∀ a' w', RelA C (selT (fun _ => true) 0 (ops.toList.zip rs) T) (selH (fun _ => true) 0 (ops.toList.zip rs) H) (fun n => n < nx + ((ops.toList.zip rs).map (·.2.out.nw.length)).sum) a' w' → Q .normal a' w') :
    wpAny X.E.P .any ops Q ops.size (Array.replicate ops.size false) a w := by
  -- the static side
  unfold stasOf at hst
  split at hst
  rotate_left
  · cases hst
  rename_i ms hms
  obtain ⟨⟨l, hl, _⟩, hanc⟩ := ancs_spec hms
  obtain ⟨hsl, _, hsg⟩ := stas_spec hst
  have hms' : ∀ (i : Nat) (o : Oper), ops[i]? = some o → ∃ m, ms[i]? = some m ∧ (∀ e ∈ o.after, bindE e = true → e.on < i) ∧
      ∀ x, hasBit m x = true → ∃ e ∈ o.after, bindE e = true ∧ (x = e.on ∨ ∃ m', ms[e.on]? = some m' ∧ hasBit m' x = true) := fun i o ho => by
    have := hanc i o (by rw [Array.getElem?_toList]; exact ho)
    simpa using this
  -- two operations, the one in front of the other: ordered, or apart
  have hpair : ∀ {i j : Nat} {oi oj : Oper} {ri rj : Did}, i < j → (ops.toList.zip rs)[i]? = some (oi, ri) → (ops.toList.zip rs)[j]? = some (oj, rj) →
      (∃ m, ms[j]? = some m ∧ hasBit m i = true) ∨
      ((∀ t, oi.dst = some t → ¬ Looks ops oj t) ∧ (∀ t, oi.dst = some t → oj.dst ≠ some t) ∧ (∀ t, oj.dst = some t → ¬ Looks ops oi t) ∧
        (∀ n, n ∈ ri.tch → n ∉ rj.rd) ∧ (∀ n, n ∈ ri.tch → n ∉ rj.tch) ∧ (∀ n, n ∈ rj.tch → n ∉ ri.rd)) := by
    intro i j oi oj ri rj hij hi hj
    obtain ⟨hoi, hri⟩ := zip_get' hi
    obtain ⟨hoj, hrj⟩ := zip_get' hj
    obtain ⟨mi, hmi, _⟩ := hanc i oi hoi
    obtain ⟨mj, hmj, _⟩ := hanc j oj hoj
    simp only [List.length_nil, Nat.zero_add] at hmi hmj
    have hsi := hsg i oi mi hoi hmi
    have hsj := hsg j oj mj hoj hmj
    have h1 := staAll_spec hall i j _ _ hij hsi hsj
    have h2 := didAll_spec hdid i j _ _ _ hij (by omega) hri hrj hsj
    simp only [Nat.zero_add, staPair, Bool.or_eq_true, Bool.and_eq_true] at h1 h2
    by_cases hb : hasBit mj i = true
    · exact .inl ⟨mj, hmj, hb⟩
    · right
      rcases h1 with h1 | ⟨⟨h1, h3⟩, h4⟩
      · exact absurd h1 hb
      · refine ⟨fun t e hl => ?_, fun t e e' => ?_, fun t e hl => ?_, fun n hn => ?_, fun n hn => ?_, fun n hn => ?_⟩
        · rw [e] at h1; simp only [dstNot, lookMask_spec hl] at h1; cases h1
        · rw [e, e'] at h3; simp [dstNe] at h3
        · rw [e] at h4; simp only [dstNot, lookMask_spec hl] at h4; cases h4
        · rcases h2.1 with h | h | h
          · rw [h] at hn; cases hn
          · exact absurd h hb
          · exact fun h' => disjN_spec h.1 n h' hn
        · rcases h2.1 with h | h | h
          · rw [h] at hn; cases hn
          · exact absurd h hb
          · exact fun h' => disjN_spec h.2 n h' hn
        · rcases h2.2 with h | h | h
          · rw [h] at hn; cases hn
          · exact absurd h hb
          · exact fun h' => disjN_spec h n h' hn
  have key : ∀ (fuel : Nat) (listed : Array Bool) (a : Act) (w : World) (un : List Nat), listed.size = ops.size → un.length ≤ fuel → (∀ k, k < ops.size → lst listed k = false → k ∈ un) → Closed ops (lst listed) →
      RelA C (selT (lst listed) 0 (ops.toList.zip rs) T) (selH (lst listed) 0 (ops.toList.zip rs) H) (selD (lst listed) (ops.toList.zip rs) (fun n => n < nx)) a w → wpAny X.E.P .any ops Q fuel listed a w := by
    -- once all are listed
    have hdone : ∀ (listed : Array Bool) (a : Act) (w : World), listed.size = ops.size → (∀ k, k < ops.size → lst listed k = true) →
        RelA C (selT (lst listed) 0 (ops.toList.zip rs) T) (selH (lst listed) 0 (ops.toList.zip rs) H) (selD (lst listed) (ops.toList.zip rs) (fun n => n < nx)) a w → Region.ready .any ops listed = [] ∧ Q .normal a w := by
      intro listed a w hsz hl hI
      refine ⟨?_, hQ a w ?_⟩
      · rw [List.eq_nil_iff_forall_not_mem]
        intro j hj
        obtain ⟨h0, o, ho, _⟩ := mem_ready.1 hj
        have hlt := (Array.getElem?_eq_some_iff.1 ho).1
        have := hl j hlt
        unfold lst at this
        rw [Array.getD_eq_getD_getElem?, Array.getElem?_eq_getElem (by omega)] at this h0
        simp only [Option.getD_some] at this h0
        rw [h0] at this
        cases this
      · have e1 : selT (lst listed) 0 (ops.toList.zip rs) T = selT (fun _ => true) 0 (ops.toList.zip rs) T := by
          funext t
          rw [selT_get, selT_get]
          refine selV_congr fun k u hu => ?_
          have := (List.getElem?_eq_some_iff.1 hu).1
          simp at this
          rw [Nat.zero_add]
          exact hl k (by omega)
        have e2 : selH (lst listed) 0 (ops.toList.zip rs) H = selH (fun _ => true) 0 (ops.toList.zip rs) H := by
          funext t
          rw [selH_get, selH_get]
          refine selV_congr fun k u hu => ?_
          have := (List.getElem?_eq_some_iff.1 hu).1
          simp at this
          rw [Nat.zero_add]
          exact hl k (by omega)
        rw [e1, e2] at hI
        exact hI.weaken fun n hn => selD_end ht n hn
    -- if none is ready, all are listed
    have hprog : ∀ (listed : Array Bool), listed.size = ops.size → Region.ready .any ops listed = [] → ∀ k, k < ops.size → lst listed k = true := by
      intro listed hsz hr k
      induction k using Nat.strongRecOn with
      | _ k ih =>
        intro hk
        cases hl : lst listed k with
        | true => rfl
        | false =>
          exfalso
          have ho : ops[k]? = some ops[k] := Array.getElem?_eq_getElem hk
          have : k ∈ Region.ready .any ops listed := by
            rw [mem_ready]
            refine ⟨?_, _, ho, fun e he hb => ?_⟩
            · unfold lst at hl
              rw [Array.getD_eq_getD_getElem?, Array.getElem?_eq_getElem (by omega)] at hl ⊢
              exact hl
            · rw [bindE_eq] at hb
              obtain ⟨m, _, h2, _⟩ := hms' k _ ho
              have := h2 e he hb
              exact ih e.on this (by omega)
          rw [hr] at this
          cases this
    intro fuel
    induction fuel with
    | zero =>
      intro listed a w un hsz hun hcov hcl hI
      have : un = [] := List.length_eq_zero_iff.1 (by omega)
      subst this
      exact hdone listed a w hsz (fun k hk => by cases h : lst listed k with
        | true => rfl
        | false => exact absurd (hcov k hk h) (by simp)) hI
    | succ fuel ih =>
      intro listed a w un hsz hun hcov hcl hI
      refine ⟨fun hr => (hdone listed a w hsz (hprog listed hsz hr) hI).2, fun j hj => ?_⟩
      obtain ⟨h0, o, ho, hedge⟩ := mem_ready.1 hj
      have hlt := (Array.getElem?_eq_some_iff.1 ho).1
      have hSj : lst listed j = false := by
        unfold lst
        rw [Array.getD_eq_getD_getElem?, Array.getElem?_eq_getElem (by omega)] at h0 ⊢
        exact h0
      have hedge' : ∀ e ∈ o.after, bindE e = true → lst listed e.on = true := fun e he hb => hedge e he (by rw [bindE_eq]; exact hb)
      obtain ⟨r, hr, hp⟩ := zip_get hlen (j := j) (o := o) (by rw [Array.getElem?_toList]; exact ho)
      obtain ⟨nxj, h1, h2, h3⟩ := TraceP_get (i := 0) ht hp
      rw [Nat.zero_add] at h1
      -- one in front of j that is not listed yet; one behind it that is: both apart from it
      have hfront : ∀ {k : Nat} {p : Pr}, k < j → lst listed k = false → (ops.toList.zip rs)[k]? = some p → (∀ t, p.1.dst = some t → ¬ Looks ops o t) ∧ (∀ n, n ∈ p.2.tch → n ∉ r.rd) := by
        intro k p hk hS hpk
        rcases hpair hk hpk hp with ⟨m, hm, hb⟩ | h
        · have := anc_in hcl hms' j o m k ho hedge' hm hb
          rw [hS] at this; cases this
        · exact ⟨h.1, h.2.2.2.1⟩
      have hback : ∀ {k : Nat} {p : Pr}, j < k → lst listed k = true → (ops.toList.zip rs)[k]? = some p → (∀ t, p.1.dst = some t → ¬ Looks ops o t) ∧ (∀ n, n ∈ p.2.tch → n ∉ r.rd) ∧ (∀ t, o.dst = some t → p.1.dst ≠ some t) ∧ (∀ n, n ∈ r.tch → n ∉ p.2.tch) := by
        intro k p hk hS hpk
        rcases hpair hk hp hpk with ⟨m, hm, hb⟩ | h
        · have hok : ops[k]? = some p.1 := by rw [← Array.getElem?_toList]; exact (zip_get' hpk).1
          have := anc_in hcl hms' k p.1 m j hok (hcl k p.1 hok hS) hm hb
          rw [hSj] at this; cases this
        · exact ⟨h.2.2.1, h.2.2.2.2.2, h.2.1, h.2.2.2.2.1⟩
      refine step_at hX ho hp hSj h1 (fun t htl => ?_) (fun n hn => ?_) (fresh_at hSj hp (fun n hn => h1.names hn) h2 h3) (fun t e k p hk hpk hS => (hback hk hS hpk).2.2.1 t e) (fun n hn k p hk hpk hS => (hback hk hS hpk).2.2.2 n hn) hI ?_
      · rw [selT_get, selT_get]
        refine selV_congr fun k u hu => ?_
        rw [List.getElem?_map, Option.map_eq_some_iff] at hu
        obtain ⟨p, hpk, hu⟩ := hu
        have hd : p.1.dst = some t := by
          unfold updT at hu
          split at hu
          · assumption
          · cases hu
        rw [Nat.zero_add]
        rcases Nat.lt_trichotomy k j with h | h | h
        · cases hS : lst listed k with
          | true => simp [h]
          | false => exact absurd htl ((hfront h hS hpk).1 t hd)
        · subst h; simp [hSj]
        · cases hS : lst listed k with
          | true => exact absurd htl ((hback h hS hpk).1 t hd)
          | false => simp; omega
      · rw [selH_get, selH_get]
        refine selV_congr fun k u hu => ?_
        rw [List.getElem?_map, Option.map_eq_some_iff] at hu
        obtain ⟨p, hpk, hu⟩ := hu
        have hd : n ∈ p.2.tch := updH_touch (by rw [hu]; rfl)
        rw [Nat.zero_add]
        rcases Nat.lt_trichotomy k j with h | h | h
        · cases hS : lst listed k with
          | true => simp [h]
          | false => exact absurd hn ((hfront h hS hpk).2 n hd)
        · subst h; simp [hSj]
        · cases hS : lst listed k with
          | true => exact absurd hn ((hback h hS hpk).2.1 n hd)
          | false => simp; omega
      · intro S' a' w' hS' hI'
        have hlset : lst (listed.setIfInBounds j true) = S' := by
          funext k
          rw [hS' k]
          unfold lst
          by_cases hkj : k = j
          · subst hkj
            have : k < listed.size := by omega
            simp [this]
          · have : (k == j) = false := by simp [hkj]
            rw [this, Bool.or_false]
            exact getD_set_ne false (fun e => hkj e.symm)
        rw [← hlset] at hI'
        refine ih _ a' w' (un.erase j) (by simp [hsz]) ?_ (fun k hk hS => ?_) (fun k ok hok hS e he hb => ?_) hI'
        · have := List.length_erase_of_mem (hcov j hlt hSj)
          omega
        · rw [hlset, hS' k] at hS
          simp only [Bool.or_eq_false_iff, beq_eq_false_iff_ne] at hS
          exact (List.mem_erase_of_ne hS.2).2 (hcov k hk hS.1)
        · rw [hlset] at hS ⊢
          rw [hS'] at hS ⊢
          rw [Bool.or_eq_true] at hS
          rcases hS with hS | hS
          · rw [hcl k ok hok hS e he hb]; rfl
          · have hkj : k = j := by simpa using hS
            subst hkj
            rw [ho] at hok
            cases hok
            rw [hedge' e he hb]; rfl
  refine key ops.size _ a w (List.range ops.size) (by simp) (by simp) (fun k hk _ => by simpa using hk) (fun k o ho hS => ?_) ?_
  · exfalso
    unfold lst at hS
    have hk := (Array.getElem?_eq_some_iff.1 ho).1
    simp [Array.getD_eq_getD_getElem?, hk] at hS
  · have hno : ∀ k, lst (Array.replicate ops.size false) k = false := fun k => by
      unfold lst
      by_cases hk : k < ops.size <;> simp [Array.getD_eq_getD_getElem?, hk]
    have e1 : selT (lst (Array.replicate ops.size false)) 0 (ops.toList.zip rs) T = T := by
      funext t; rw [selT_get]; exact selV_none fun k u _ => hno _
    have e2 : selH (lst (Array.replicate ops.size false)) 0 (ops.toList.zip rs) H = H := by
      funext t; rw [selH_get]; exact selV_none fun k u _ => hno _
    rw [e1, e2]
    exact hI.weaken fun n hn => .inl hn

/-- A state of the evaluator. -/
abbrev RelSt (C : C0) (s : St) (a : Act) (w : World) : Prop := RelA C (lkT s.T) (lkF s.H) (fun n => n < s.nx) a w

theorem evRegion_sound {R : Type} {id : Nat} {draw : Bool} {s : St} {K : St → Option R} {res : R} {Q : Exit → Act → World → Prop} (hX : KitOk X C) (hm : X.E.P.follows .mixedOrders = true) (h : evRegion X ops draw s K = some res) (hI : RelSt C s a w)
    (hQ : ∀ s' a' w', K s' = some res → RelSt C s' a' w' → Q .normal a' w') : (Code.region id ops draw).wp X.E.P Q a w := by
  unfold evRegion at h
  split at h
  · obtain ⟨rs, s', h1, h2, h3, h4⟩ := evOps_trace h
    refine wp_region (region_seq hX h2 h3 hI fun a' w' hI' => hQ s' a' w' h1 ?_)
    unfold RelSt
    rw [h4.T, h4.H, h4.nx]
    exact hI'
  · split at h
    · rename_i st hst
      split at h
      · rename_i hall
        obtain ⟨rs, s', h1, h2, h3, h4⟩ := evOps_trace h
        split at h1
        · rename_i hdid
          rw [List.append_nil, List.reverse_reverse] at hdid
          refine wp_region_any hm ?_
          refine region_any hX hst hall hdid h2 h3 (RelA.drew hI) fun a' w' hI' => hQ s' a' w' h1 ?_
          unfold RelSt
          rw [h4.T, h4.H, h4.nx]
          exact hI'
        · cases h1
      · cases h
    · cases h

end
end Go.Proofs.Ytgebgjhjegadpaa

namespace Go.Proofs.Ytgebgjhjegadpaa
open Go

def exOf : Ex → Exit
  | .normal => .normal
  | .exit id => .exit id
  | .ret => .ret

/-- What is known of a loop as a whole. -/
def LOk (P : Program) (N : Nat) (c : Code) (L : LSem) : Prop :=
  ∀ args hin t e vs hout, L.run args hin = some t → t.get = some (e, vs, hout) →
    ∀ (w : World) (X Wr : Nat → Prop) (β : Bm) (a : Act) (Q : Exit → Act → World → Prop), RelH (now w X) Wr β (hinF hin) (fun n => n < hin.length) w → RelL (now w X) β args (L.tin.map fun t => a.tmps.getD t undef) → a.defers = [] → a.tmps.size = N →
      (∀ β' a' w', Ext β β' → RelH (now w X) Wr β' (houtF hout) (fun n => n < hout.length) w' → RelL (now w X) β' vs (L.tout.map fun t => a'.tmps.getD t undef) → a'.defers = [] → a'.tmps.size = N →
        (∀ t, hasBit (wrCode c) t = false → a'.tmps.getD t undef = a.tmps.getD t undef) → Q (exOf e) a' w') → c.wp P Q a w

def LoopsOk (P : Program) (L : Lps) : Code → Prop
  | .seq a b => LoopsOk P L a ∧ LoopsOk P L b
  | .cond _ a b => LoopsOk P L a ∧ LoopsOk P L b
  | .block id body => match lkF L.sums id with
    | some S => LOk P L.N (.block id body) S
    | none => LoopsOk P L body
  | .loop body => LoopsOk P L body
  | _ => True

theorem valsT_map {cx : Cx} {β : Bm} {T : List (Nat × AV)} {f : Nat → Value} (h : ∀ t, RelV cx β (lkT T t) (f t)) : ∀ (ts : List Nat), RelL cx β (valsT T ts) (ts.map f)
  | [] => ⟨rfl, fun j v cv e => by simp [valsT] at e⟩
  | t :: ts => by
    obtain ⟨h1, h2⟩ := valsT_map h ts
    refine ⟨by simp [valsT, h1], fun j v cv e1 e2 => ?_⟩
    cases j with
    | zero =>
      simp only [valsT, List.map_cons, List.getElem?_cons_zero, Option.some.injEq] at e1 e2
      subst e1; subst e2
      exact h t
    | succ j => exact h2 j v cv (by simpa [valsT] using e1) (by simpa using e2)

theorem putTs_rel {cx : Cx} {β : Bm} {f : Nat → Value} : ∀ {ts : List Nat} {vs : List AV} {T : List (Nat × AV)}, (∀ t, RelV cx β (lkT T t) (f t)) → RelL cx β vs (ts.map f) → ∀ t, RelV cx β (lkT (putTs ts vs T) t) (f t)
  | [], vs, T, h, _, t => by cases vs <;> exact h t
  | u :: ts, [], T, h, _, t => h t
  | u :: ts, v :: vs, T, h, ⟨h1, h2⟩, t => by
    refine putTs_rel (ts := ts) (vs := vs) (fun t => ?_) ⟨by simpa using h1, fun j v cv e1 e2 => h2 (j + 1) v cv (by simpa using e1) (by simpa using e2)⟩ t
    rw [lkT_up]
    split
    · rename_i e; subst e; exact h2 0 v (f u) rfl rfl
    · exact h t

theorem forgetT_get (dk : Nat → Bool) : ∀ (T : List (Nat × AV)) (t : Nat), lkT (forgetT dk T) t = if dk t then .any else lkT T t
  | [], t => by simp [forgetT, lkT]
  | (u, v) :: T, t => by
    unfold forgetT
    split
    · rename_i hu
      rw [forgetT_get dk T t]
      by_cases h : u = t
      · subst h; simp [hu]
      · simp [lkT, beq_false h]
    · rename_i hu
      by_cases h : u = t
      · subst h; simp [lkT, hu]
      · simp only [lkT, beq_false h]; exact forgetT_get dk T t

theorem maskOk_spec {dk : Nat → Bool} : ∀ {n m : Nat}, maskOk dk n m = true → ∀ t, t < n → hasBit m t = true → dk t = true
  | 0, m, _, t, h, _ => by omega
  | n + 1, m, h, t, ht, hb => by
    unfold maskOk at h
    split at h
    · rename_i hn
      by_cases e : t = n
      · subst e; simpa [hb] using hn
      · exact maskOk_spec h t (by omega) hb
    · cases h

theorem RelL1.of {cx : Cx} {β : Bm} : ∀ {vs : List AV} {l : List Value}, noTup vs = true → RelL cx β vs l → RelL1 cx β vs l
  | [], l, _, h => by
    have := h.1
    simp at this
    exact List.length_eq_zero_iff.1 this.symm
  | v :: vs, [], _, h => by have := h.1; simp at this
  | v :: vs, cv :: l, hn, h => by
    have h0 := h.2 0 v cv rfl rfl
    have hr : RelL cx β vs l := ⟨by simpa using h.1, fun j u cu e1 e2 => h.2 (j + 1) u cu (by simpa using e1) (by simpa using e2)⟩
    cases v with
    | tup _ => cases hn
    | any => exact ⟨cv, l, rfl, h0, RelL1.of hn hr⟩
    | s _ => exact ⟨cv, l, rfl, h0, RelL1.of hn hr⟩
    | agg _ => exact ⟨cv, l, rfl, h0, RelL1.of hn hr⟩

theorem RelL.of1 {cx : Cx} {β : Bm} : ∀ {vs : List AV} {l : List Value}, RelL1 cx β vs l → RelL cx β vs l
  | [], l, h => by have h : l = [] := h; subst h; exact ⟨rfl, fun j v cv e => by simp at e⟩
  | v :: vs, l, ⟨cv, l', e, h1, h2⟩ => by
    subst e
    obtain ⟨a1, a2⟩ := RelL.of1 h2
    refine ⟨by simp [a1], fun j u cu e1 e2 => ?_⟩
    cases j with
    | zero =>
      simp only [List.getElem?_cons_zero, Option.some.injEq] at e1 e2
      subst e1; subst e2
      exact RelV.of1 h1
    | succ j => exact a2 j u cu (by simpa using e1) (by simpa using e2)

section
variable {X : Kit} {C : C0} {a : Act} {w : World}

theorem evSum_sound {R : Type} {N id : Nat} {body : Code} {L : LSem} {s : St} {K : Ex → St → Option R} {res : R} {Q : Exit → Act → World → Prop} (hX : KitOk X C) (hN : N = C.N) (hL : LOk X.E.P N (.block id body) L) (h : evSum X N (wrCode body) L s K = some res) (hI : RelSt C s a w)
    (hQ : ∀ e s' a' w', K e s' = some res → RelSt C s' a' w' → Q (exOf e) a' w') : (Code.block id body).wp X.E.P Q a w := by
  subst hN
  unfold evSum at h
  split at h
  rotate_left
  · cases h
  rename_i hmask
  rw [Bool.and_eq_true] at hmask
  obtain ⟨hmask, hbig⟩ := hmask
  have hbig : wrCode body < 2 ^ C.N := Nat.le_of_ble_eq_true hbig
  split at h
  rotate_left
  · cases h
  rename_i c rd hcan
  obtain ⟨ns, vs', bs'⟩ := c
  split at h
  rotate_left
  · cases h
  rename_i tr htr
  obtain ⟨⟨e, s'⟩, hg, hk⟩ := cps_get h
  obtain ⟨⟨e1, vs, hout⟩, hg1, hg2⟩ := Tr.map_get hg
  have hrun := hL _ _ _ _ _ _ htr hg1
  obtain ⟨β, h0, hH, hT, h3, h4, h5⟩ := hI
  obtain ⟨_, hnd, hvs, bs, hbl, hbs, hbg⟩ := canon_spec hcan
  have hnd := hnd List.nodup_nil
  have hns : ∀ n ∈ ns, ∃ b, lkF s.H n = some b := fun n hn => by
    obtain ⟨i, hi, e⟩ := List.getElem_of_mem hn
    obtain ⟨b, hb, _⟩ := hbg i n (by rw [List.getElem?_eq_getElem hi, e])
    exact ⟨b, hb⟩
  have hXno : ∀ b, C.cx.X b → b < w.heap.size ∧ ¬ Wc ns β b := fun b hb => by
    obtain ⟨h1, h2⟩ := hH.xok b hb
    refine ⟨by have := hH.size; omega, fun hW => ?_⟩
    obtain ⟨n, p, _, h3, h4⟩ := Wc_of hW
    rcases (hH.dom n p h3).2.2 with h5 | h5
    · omega
    · exact h2 (h4 ▸ h5)
  have hin := hH.canon hnd hbl hbs hbg
  obtain ⟨hbl', hbg'⟩ := renBs_get hbs
  have hin' : RelH (now w C.cx.X) (Wc ns β) (subM ns β) (hinF bs') (fun n => n < bs'.length) w := by
    refine ⟨Nat.le_refl _, fun _ _ _ => rfl, hXno, fun n p e => ?_, fun n p cs e hc => ?_, hin.wf, fun n cs e => (List.getElem?_eq_some_iff.1 e).1, hin.inj, rfl, rfl, rfl⟩
    · obtain ⟨h1, h2, h3⟩ := hin.dom n p e
      exact ⟨by rw [hbl', hbl]; exact h1, h2, .inr ⟨n, p, e, rfl⟩⟩
    · obtain ⟨c, T, fr, g1, g2, g3, l, g4, g5⟩ := hin.held n p cs e hc
      exact ⟨c, T, fr, g1, g2, g3, l, g4.to (.inr (hH.imp fun _ h => h)), g5⟩
  refine hrun w C.cx.X (Wc ns β) (subM ns β) a Q hin' (renL_rel (subM_ren ns β) hvs ((valsT_map hT L.tin).to (hH.imp fun _ h => h))) h3 h4 ?_
  intro β1 a' w' g1 g2 g3 g4 g5 g6
  unfold afterLoop at hg2
  split at hg2
  rotate_left
  · cases hg2
  rename_i o ho
  split at hg2
  rotate_left
  · cases hg2
  rename_i vs2 hov
  split at hg2
  rotate_left
  · cases hg2
  rename_i hlv hnew
  simp only [Option.some.injEq, Prod.mk.injEq] at hg2
  obtain ⟨rfl, rfl⟩ := hg2
  rw [Bool.and_eq_true] at hlv
  have hfr : Fresh (fun n => n < s.nx) o := fun n hn => by have := newOk_spec hnew hn; omega
  have hnt : RelV (now w C.cx.X) β1 (.tup vs) (.tuple (L.tout.map fun t => a'.tmps.getD t undef).toArray) := by
    -- the values that come back are no tuples: their renamed forms are none
    have hren : ∃ r, renL r vs = some vs2 := by
      unfold callOut at ho
      split at ho
      · split at ho
        · rename_i v1 bs1 hv1 hb1
          split at ho
          · simp only [Option.some.injEq] at ho
            subst ho
            simp only at hov
            subst hov
            simp only [AV.ren] at hv1
            split at hv1
            · rename_i r hr
              simp only [Option.some.injEq, AV.tup.injEq] at hv1
              subst hv1
              exact ⟨_, hr⟩
            · cases hv1
          · cases ho
        · cases ho
      · cases ho
    obtain ⟨r, hr⟩ := hren
    have : ∀ {vs vs2 : List AV}, renL r vs = some vs2 → noTup vs2 = true → noTup vs = true := by
      intro vs
      induction vs with
      | nil => intro _ _ _; rfl
      | cons v vs ih =>
        intro vs2 h hn
        unfold renL at h
        split at h
        · rename_i v1 r1 hv hr1
          cases h
          cases v with
          | tup us =>
            simp only [AV.ren] at hv
            split at hv
            · cases hv; cases hn
            · cases hv
          | any => simp only [AV.ren, Option.some.injEq] at hv; subst hv; exact ih hr1 hn
          | s u =>
            simp only [AV.ren] at hv
            split at hv
            · cases hv; exact ih hr1 hn
            · cases hv
          | agg u =>
            simp only [AV.ren] at hv
            split at hv
            · cases hv; exact ih hr1 hn
            · cases hv
        · cases h
    exact ⟨_, rfl, RelL1.of (this hr hlv.2) g3⟩
  obtain ⟨β2, k1, k2, k3⟩ := call_post hH hnd hns (ro := false) (fun _ h => h) (fun _ => rfl) g1 hnt g2 ho hfr
  rw [hov] at k2
  obtain ⟨l, hl, k2⟩ := k2
  have hl : l = L.tout.map fun t => a'.tmps.getD t undef := by
    have := Value.tuple.inj hl
    exact (List.toArray_inj this).symm
  subst hl
  refine hQ _ _ a' w' hk ⟨β2, h0.trans k1, ?_, fun t => ?_, g4, g5, fun t ht => ?_⟩
  · have e1 : lkF (o.nw ++ upHs o.wr s.H) = happ o (lkF s.H) := by
      funext n
      simp only [lkF_append, happ, lkF_upHs]
      cases lkF o.nw n <;> rfl
    rw [e1]
    refine k3.mono (fun n hn => ?_) (fun _ _ h => h)
    show n < s.nx + o.nw.length
    rcases hn with hn | hn
    · have hn : n < s.nx := hn
      omega
    · have := newOk_spec hnew hn; omega
  · refine putTs_rel (f := fun t => a'.tmps.getD t undef) (fun t => ?_) (RelL.of1 k2) t
    rw [forgetT_get]
    split
    · trivial
    · rename_i hb
      rw [g6 t (by simpa [wrCode] using hb)]
      exact (hT t).ext k1
  · rw [g6 t ?_]
    · exact h5 t ht
    · show hasBit (wrCode body) t = false
      cases hb : hasBit (wrCode body) t with
      | false => rfl
      | true =>
        have hlt : t < C.N := by
          rcases Nat.lt_or_ge t C.N with h | h
          · exact h
          · have : wrCode body < 2 ^ t := Nat.lt_of_lt_of_le hbig (Nat.pow_le_pow_right (by omega) h)
            unfold hasBit at hb
            rw [Nat.testBit_lt_two_pow this] at hb
            cases hb
        rw [(hX.dst t (maskOk_spec hmask t hlt hb)).1] at ht
        cases ht

theorem ev_sound {R : Type} {L : Lps} {res : R} (hX : KitOk X C) (hm : X.E.P.follows .mixedOrders = true) (hN : L.N = C.N) : ∀ (c : Code), LoopsOk X.E.P L c → ∀ {s : St} {K : Ex → St → Option R} {a : Act} {w : World} {Q : Exit → Act → World → Prop}, ev X L c s K = some res → RelSt C s a w →
    (∀ e s' a' w', K e s' = some res → RelSt C s' a' w' → Q (exOf e) a' w') → c.wp X.E.P Q a w := by
  intro c
  induction c with
  | skip => intro _ s K a w Q h hI hQ; exact wp_skip (hQ .normal s a w h hI)
  | region id ops draw =>
    intro _ s K a w Q h hI hQ
    exact evRegion_sound hX hm h hI fun s' a' w' h1 h2 => hQ .normal s' a' w' h1 h2
  | seq x y ihx ihy =>
    intro hL s K a w Q h hI hQ
    refine wp_seq (ihx hL.1 (K := _) h hI ?_)
    intro e s' a' w' h1 h2
    cases e with
    | normal => exact ihy hL.2 h1 h2 hQ
    | exit id => exact hQ _ s' a' w' h1 h2
    | ret => exact hQ _ s' a' w' h1 h2
  | cond o x y ihx ihy =>
    intro hL s K a w Q h hI hQ
    unfold ev at h
    split at h
    · rename_i t ht
      have hc : a.eval o = .bool t := by
        obtain ⟨β, _, _, hT, _⟩ := hI
        have := valF_rel hT o
        rw [← St.val_eq, ht] at this
        exact this
      refine wp_cond_split hc (fun e => ?_) (fun e => ?_)
      · subst e; exact ihx hL.1 h hI hQ
      · subst e; exact ihy hL.2 h hI hQ
    · cases h
  | block id body ih =>
    intro hL s K a w Q h hI hQ
    unfold ev at h
    unfold LoopsOk at hL
    split at h
    · rename_i S hS
      rw [hS] at hL
      exact evSum_sound hX hN hL h hI hQ
    · rename_i hS
      rw [hS] at hL
      refine wp_block (ih hL h hI ?_)
      intro e s' a' w' h1 h2
      cases e with
      | normal => exact hQ .normal s' a' w' h1 h2
      | ret => exact hQ .ret s' a' w' h1 h2
      | exit id' =>
        simp only [exOf, Exit.inBlock]
        by_cases e : id' = id
        · subst e
          rw [if_pos rfl]
          simp only [Nat.beq_refl] at h1
          exact hQ .normal s' a' w' h1 h2
        · rw [if_neg e]
          simp only [beq_false e] at h1
          exact hQ (.exit id') s' a' w' h1 h2
  | loop body ih =>
    intro hL s K a w Q h hI hQ
    have key : ∀ (n : Nat) (s : St) (a : Act) (w : World), iterL (ev X L body) n s K = some res → RelSt C s a w → Code.rounds X.E.P body Q n a w := by
      intro n
      induction n with
      | zero => intro s a w h _; cases h
      | succ n ihn =>
        intro s a w h hI
        refine ih hL (K := _) h hI ?_
        intro e s' a' w' h1 h2
        cases e with
        | normal => exact ihn s' a' w' h1 h2
        | exit id => exact hQ _ s' a' w' h1 h2
        | ret => exact hQ _ s' a' w' h1 h2
    exact wp_loop_rounds L.fuel (key L.fuel s a w h hI)
  | exit id => intro _ s K a w Q h hI hQ; exact wp_exit (hQ (.exit id) s a w h hI)
  | ret => intro _ s K a w Q h hI hQ; exact wp_ret (hQ .ret s a w h hI)
  | _ => intro _ s K a w Q h hI hQ; cases h

end
end Go.Proofs.Ytgebgjhjegadpaa

namespace Go.Proofs.Ytgebgjhjegadpaa
open Go

section
variable {cx : Cx} {Wr : Nat → Prop} {β : Bm} {H : Nat → Option Blk} {D : Nat → Prop} {w : World} {P : Program}

theorem closeO_spec : ∀ {f i : Nat} {ns ns' : List Nat} {bs : List (Option Blk)}, closeO H f i ns = some (ns', bs) → i ≤ ns.length →
    (∃ s, ns' = ns ++ s) ∧ (ns.Nodup → ns'.Nodup) ∧ i + bs.length = ns'.length ∧ ∀ (j n : Nat), ns'[i + j]? = some n → bs[j]? = some (H n) := by
  intro f
  induction f with
  | zero => intro i ns ns' bs h; cases h
  | succ f ih =>
    intro i ns ns' bs h hi
    unfold closeO at h
    split at h
    · rename_i hn
      simp only [Option.some.injEq, Prod.mk.injEq] at h
      obtain ⟨e1, e2⟩ := h
      subst e2
      have hlen : ns.length ≤ i := List.getElem?_eq_none_iff.1 hn
      refine ⟨⟨[], by simp [e1]⟩, fun h => e1 ▸ h, by rw [← e1]; simp; omega, fun j n e => ?_⟩
      rw [← e1, List.getElem?_eq_none (by omega)] at e
      cases e
    · rename_i n hn
      have hlt := (List.getElem?_eq_some_iff.1 hn).1
      split at h
      · rename_i b hb
        split at h
        · rename_i r hr
          obtain ⟨ns2, bs2⟩ := r
          simp only [Option.some.injEq, Prod.mk.injEq] at h
          obtain ⟨e1, e2⟩ := h
          subst e1; subst e2
          obtain ⟨⟨s, hs⟩, hnd⟩ := insL_spec (refsB b) ns
          obtain ⟨⟨s2, h3⟩, h4, h5, h6⟩ := ih hr (by rw [hs]; simp; omega)
          refine ⟨⟨s ++ s2, by rw [h3, hs, List.append_assoc]⟩, fun h => h4 (hnd h), by simp; omega, fun j m e => ?_⟩
          cases j with
          | zero =>
            rw [h3, hs, List.append_assoc, Nat.add_zero, List.getElem?_append_left hlt, hn] at e
            cases e
            simp [hb]
          | succ j => simpa using h6 j m (by rw [← e]; congr 1; omega)
        · cases h
      · rename_i hb
        split at h
        · rename_i r hr
          obtain ⟨ns2, bs2⟩ := r
          simp only [Option.some.injEq, Prod.mk.injEq] at h
          obtain ⟨e1, e2⟩ := h
          subst e1; subst e2
          obtain ⟨⟨s2, h3⟩, h4, h5, h6⟩ := ih hr (by omega)
          refine ⟨⟨s2, h3⟩, h4, by simp; omega, fun j m e => ?_⟩
          cases j with
          | zero =>
            rw [h3, Nat.add_zero, List.getElem?_append_left hlt, hn] at e
            cases e
            simp [hb]
          | succ j => simpa using h6 j m (by rw [← e]; congr 1; omega)
        · cases h

theorem canonO_rel (hH : RelH cx Wr β H D w) {k : Nat} {vs vs' : List AV} {bs' : List (Option Blk)} {l : List Value} (h : canonO k vs H = some (vs', bs')) (hl : RelL cx β vs l) :
    ∃ β', (∀ i, i < k → β' i = β i) ∧ RelH cx Wr β' (houtF bs') (fun n => n < bs'.length) w ∧ RelL cx β' vs' l := by
  unfold canonO at h
  split at h
  rotate_left
  · cases h
  rename_i r hr
  obtain ⟨ns, bs⟩ := r
  split at h
  rotate_left
  · cases h
  rename_i vs1 bs1 hvs hbs
  simp only [Option.some.injEq, Prod.mk.injEq] at h
  obtain ⟨rfl, rfl⟩ := h
  simp only at hvs hbs
  obtain ⟨⟨s, hs⟩, hnd⟩ := insL_spec (refsL vs) (freshN 0 k)
  obtain ⟨⟨s2, h3⟩, h4, h5, h6⟩ := closeO_spec hr (Nat.zero_le _)
  have hnd := h4 (hnd (freshN_nodup _ _))
  obtain ⟨hbl, hbg⟩ := renOs_get hbs
  have hsub : ∀ {i : Nat} {p : Pl}, subM ns β i = some p → ∃ n, ns[i]? = some n ∧ β n = some p := fun e => subM_get e
  have hlive : ∀ {i : Nat} {c : Blk}, houtF bs1 i = some c → ∃ n b, ns[i]? = some n ∧ H n = some b ∧ renB (idxN ns) b = some c := by
    intro i c hc
    obtain ⟨b, hb, hrb⟩ := hbg i c (houtF_some.1 hc)
    have hi := (List.getElem?_eq_some_iff.1 hb).1
    have hn : ns[i]? = some (ns[i]'(by omega)) := List.getElem?_eq_getElem _
    have := h6 i _ (by rw [Nat.zero_add]; exact hn)
    rw [hb] at this
    exact ⟨_, b, hn, (Option.some.inj this).symm, hrb⟩
  refine ⟨subM ns β, fun i hi => ?_, ⟨hH.size, hH.frame, hH.xok, fun i p e => ?_, fun i p cs e hc => ?_, fun i cs hc => ?_, fun i cs hc => ?_, fun i j p q e1 e2 l1 l2 hpq => ?_, hH.os, hH.tape, hH.output⟩, renL_rel (subM_ren ns β) hvs hl⟩
  · have : ns[i]? = some i := by
      rw [h3, hs, List.append_assoc, List.getElem?_append_left (by rw [freshN_length]; exact hi), freshN_get _ _ _ hi]
      simp
    simp only [subM, this]
  · obtain ⟨n, hn, hp⟩ := hsub e
    have := (List.getElem?_eq_some_iff.1 hn).1
    exact ⟨by omega, (hH.dom n p hp).2⟩
  · obtain ⟨n, hn, hp⟩ := hsub e
    obtain ⟨n', b, hn', hb, hrb⟩ := hlive hc
    rw [hn] at hn'
    cases hn'
    exact (hH.held n p b hp hb).ren (subM_ren ns β) hrb
  · obtain ⟨n', b, hn', hb, hrb⟩ := hlive hc
    exact renB_wf hrb (hH.wf _ _ hb)
  · exact (List.getElem?_eq_some_iff.1 (houtF_some.1 hc)).1
  · obtain ⟨n, hn, hp⟩ := hsub e1
    obtain ⟨m, hm, hq⟩ := hsub e2
    obtain ⟨c1, l1⟩ := Option.isSome_iff_exists.1 l1
    obtain ⟨c2, l2⟩ := Option.isSome_iff_exists.1 l2
    obtain ⟨n', b, hn', hb, _⟩ := hlive l1
    obtain ⟨m', c, hm', hc, _⟩ := hlive l2
    rw [hn] at hn'; cases hn'
    rw [hm] at hm'; cases hm'
    have : n = m := hH.inj n m p q hp hq (by rw [hb]; rfl) (by rw [hc]; rfl) hpq
    subst this
    obtain ⟨a1, a2⟩ := List.getElem?_eq_some_iff.1 hn
    obtain ⟨a3, a4⟩ := List.getElem?_eq_some_iff.1 hm
    exact (List.getElem_inj hnd).1 (a2.trans a4.symm)

theorem zipT_get : ∀ (vs : List AV) (i t : Nat), lkT (zipT i vs) t = if i ≤ t then vs.getD (t - i) .any else .any
  | [], i, t => by simp [zipT, lkT]
  | v :: vs, i, t => by
    simp only [zipT, lkT]
    by_cases h : i = t
    · subst h; simp
    · simp only [beq_false h]
      rw [zipT_get vs (i + 1) t]
      by_cases h' : i ≤ t
      · rw [if_pos (by omega), if_pos h', show t - i = (t - (i + 1)) + 1 by omega]
        simp
      · rw [if_neg (by omega), if_neg h']

theorem zipH_get : ∀ (bs : List (Option Blk)) (i n : Nat), lkF (zipH i bs) n = if i ≤ n then houtF bs (n - i) else none
  | [], i, n => by simp [zipH, lkF, houtF]
  | some b :: bs, i, n => by
    simp only [zipH, lkF]
    by_cases h : i = n
    · subst h; simp [houtF]
    · simp only [beq_false h]
      rw [zipH_get bs (i + 1) n]
      by_cases h' : i ≤ n
      · rw [if_pos (by omega), if_pos h', show n - i = (n - (i + 1)) + 1 by omega]
        simp [houtF]
      · rw [if_neg (by omega), if_neg h']
  | none :: bs, i, n => by
    simp only [zipH]
    rw [zipH_get bs (i + 1) n]
    by_cases h : i = n
    · subst h; rw [if_neg (by omega), if_pos (Nat.le_refl _)]; simp [houtF]
    · by_cases h' : i ≤ n
      · rw [if_pos (by omega), if_pos h', show n - i = (n - (i + 1)) + 1 by omega]
        simp [houtF]
      · rw [if_neg (by omega), if_neg h']

theorem someL_map : ∀ (bs : List Blk), someL bs = bs.map some
  | [] => rfl
  | b :: bs => by simp [someL, someL_map bs]

theorem houtF_someL (bs : List Blk) : houtF (someL bs) = hinF bs := by
  funext n
  unfold houtF hinF
  rw [someL_map, List.getElem?_map]
  cases bs[n]? <;> rfl

theorem zipH_fun (bs : List (Option Blk)) : lkF (zipH 0 bs) = houtF bs := by
  funext n
  rw [zipH_get, if_pos (Nat.zero_le _), Nat.sub_zero]

/-! Results. -/
def resF (tm : Array Value) : ResultVar → Sem Value
  | .tmp t => pure (tm.getD t undef)
  | .cell a t => do loadVar t (← asAddr (tm.getD a undef))

theorem results_eq (fn : Func) (tm : Array Value) : results fn tm = (do
    let vs ← fn.results.mapM (resF tm)
    pure (if h : vs.size = 1 then vs[0] else .tuple vs)) := by
  rfl

theorem resOne_sound {E : Env} {s : St} {tm : Array Value} {r : ResultVar} {tr : Tr AV} {v : AV} (h : resOne E s r = some tr) (hg : tr.get = some v) (hH : RelH cx Wr β (lkF s.H) D w) (hT : ∀ t, RelV cx β (lkT s.T t) (tm.getD t undef)) :
    ∃ β' cv, Ext β β' ∧ RelH cx Wr β' (lkF s.H) D w ∧ RelV cx β' v cv ∧ (resF tm r).run E.P w = .ok cv w := by
  cases r with
  | tmp t =>
    simp only [resOne, Option.some.injEq] at h
    subst h
    simp only [Tr.get, Option.some.injEq] at hg
    subst hg
    exact ⟨β, _, Ext.refl β, hH, hT t, by simp [resF]⟩
  | cell a t =>
    simp only [resOne] at h
    cases hrun : (loadSem E.P t (lkT s.T a)).run (lkF s.H) with
    | none => rw [hrun] at h; cases h
    | some q =>
      obtain ⟨tr0, rd⟩ := q
      rw [hrun] at h
      simp only [Option.some.injEq] at h
      subst h
      obtain ⟨o, ho, hov⟩ := Tr.map_get hg
      split at hov
      · rename_i hw hn
        simp only [Option.some.injEq] at hov
        subst hov
        obtain ⟨cv, h1, β', h2, h3, h4⟩ := loadSem_run (P := E.P) hrun ho hH (hT a)
        have e1 : happ o (lkF s.H) = lkF s.H := by funext n; simp [happ, hn, hw, lkF, wrF]
        have e2 : dapp o D = D := by funext n; simp [dapp, hn, lkF]
        rw [e1, e2] at h4
        refine ⟨β', cv, h2, h4, h3, ?_⟩
        have hp : ∃ p, tm.getD a undef = .pointer (some p) := by
          have hv := hT a
          unfold loadSem at hrun
          split at hrun
          · rename_i b off he
            rw [he] at hv
            obtain ⟨q, _, hv⟩ := hv
            exact ⟨_, hv⟩
          · rename_i c i he
            rw [he] at hv
            obtain ⟨b, o', hv, _⟩ := hv
            exact ⟨_, hv⟩
          · exact (fail_run hrun).elim
        obtain ⟨p, hp⟩ := hp
        rw [hp] at h1
        simp only [resF, hp]
        simpa [Instr.loadAt, Instr.sureAddr, asAddr] using h1
      · cases hov

theorem resAll_sound {R : Type} {E : Env} {s : St} {tm : Array Value} {res : R} : ∀ {rs : List ResultVar} {acc : List AV} {K : List AV → Option R} {β : Bm}, resAll E s rs acc K = some res → RelH cx Wr β (lkF s.H) D w → (∀ t, RelV cx β (lkT s.T t) (tm.getD t undef)) →
    ∃ β' vs cvs, Ext β β' ∧ RelH cx Wr β' (lkF s.H) D w ∧ K (acc ++ vs) = some res ∧ RelL cx β' vs cvs ∧ (rs.mapM (resF tm)).run E.P w = .ok cvs w
  | [], acc, K, β, h, hH, hT => ⟨β, [], [], Ext.refl β, hH, by simpa [resAll] using h, ⟨rfl, fun j v cv e => by simp at e⟩, by simp⟩
  | r :: rs, acc, K, β, h, hH, hT => by
    simp only [resAll] at h
    cases htr : resOne E s r with
    | none => rw [htr] at h; cases h
    | some tr =>
      rw [htr] at h
      obtain ⟨v, hv, hk⟩ := cps_get h
      obtain ⟨β1, cv, h1, h2, h3, h4⟩ := resOne_sound htr hv hH hT
      obtain ⟨β2, vs, cvs, g1, g2, g3, g4, g5⟩ := resAll_sound hk h2 (fun t => (hT t).ext h1)
      refine ⟨β2, v :: vs, cv :: cvs, h1.trans g1, g2, by simpa using g3, ⟨by simp [g4.1], fun j u cu e1 e2 => ?_⟩, ?_⟩
      · cases j with
        | zero =>
          simp only [List.getElem?_cons_zero, Option.some.injEq] at e1 e2
          subst e1; subst e2
          exact h3.ext g1
        | succ j => exact g4.2 j u cu (by simpa using e1) (by simpa using e2)
      · simp [List.mapM_cons, h4, g5]

theorem tupV_rel {vs : List AV} {cvs : List Value} (hn : noTup vs = true) (h : RelL cx β vs cvs) : RelV cx β (tupV vs) (if h : cvs.toArray.size = 1 then cvs.toArray[0] else .tuple cvs.toArray) := by
  have hl := h.1
  rcases vs with _ | ⟨v, _ | ⟨u, vs⟩⟩
  · rw [dif_neg (by simp at hl ⊢; omega)]
    exact ⟨cvs, rfl, RelL1.of hn h⟩
  · rcases cvs with _ | ⟨c, _ | ⟨d, cvs⟩⟩
    · simp at hl
    · exact h.2 0 v c rfl rfl
    · simp at hl
  · rw [dif_neg (by simp at hl ⊢; omega)]
    exact ⟨cvs, rfl, RelL1.of hn h⟩

theorem RelL.one {v : AV} {cv : Value} (h : RelV cx β v cv) : RelL cx β [v] [cv] :=
  ⟨rfl, fun j u cu e1 e2 => by
    cases j with
    | zero =>
      simp only [List.getElem?_cons_zero, Option.some.injEq] at e1 e2
      subst e1; subst e2
      exact h
    | succ j => simp at e1⟩

theorem evBody_sound {X : Kit} {L : Lps} {fn : Func} {c : Code} {f : Nat} {args : List AV} {hin : List Blk} {v : AV} {hout : List (Option Blk)} (hE : EnvOk X.E) (hdk : X.dk = fun d => Nat.blt d fn.ntmps) (hN : L.N = fn.ntmps) (hm : X.E.P.follows .mixedOrders = true)
    (hL : LoopsOk X.E.P L c) (hf : X.E.P.funcs[f]? = some fn) (hb : fn.body = some c) (h : evBody X L fn c args hin = some (v, hout)) : Ctr X.E.P f args hin v hout := by
  intro w Xr Wr β cargs hH hA
  unfold evBody at h
  split at h
  rotate_left
  · cases h
  rename_i hle
  have hle : args.length ≤ fn.ntmps := by rw [← hN]; exact Nat.le_of_ble_eq_true hle
  have hX : KitOk X ⟨now w Xr, Wr, β, fn.ntmps, fun _ => true, fun _ => undef⟩ := ⟨hE, fun d hd => by rw [hdk] at hd; exact ⟨rfl, Nat.le_of_ble_eq_true hd⟩⟩
  have hlen := hA.1
  refine calls_of_wp hf hb (ev_sound hX hm hN c hL h (a := _) ?_ ?_)
  · refine ⟨β, Ext.refl β, ?_, fun t => ?_, rfl, by simp; omega, fun t ht => by cases ht⟩
    · simp only [zipH_fun, houtF_someL]; exact hH
    · simp only [zipT_get, Nat.zero_le, if_true, Nat.sub_zero]
      by_cases ht : t < args.length
      · have h1 : args[t]? = some args[t] := List.getElem?_eq_getElem ht
        have h2 : cargs[t]? = some (cargs[t]'(by omega)) := List.getElem?_eq_getElem _
        have := hA.2 t _ _ h1 h2
        rw [List.getD, h1, Option.getD_some]
        have e : (cargs.toArray ++ Array.replicate (fn.ntmps - cargs.toArray.size) undef).getD t undef = cargs[t]'(by omega) := by
          have : t < cargs.length := by omega
          simp [Array.getD_eq_getD_getElem?, Array.getElem?_append, this]
        rw [e]
        exact this
      · rw [List.getD, List.getElem?_eq_none (by omega), Option.getD_none]
        trivial
  · intro e s a' w' h1 h2
    have key : resAll X.E s fn.results.toList [] (fun vs => match noTup vs with
        | true => match canonO hin.length [tupV vs] (lkF s.H) with
          | some ([v], bs) => some (v, bs)
          | _ => none
        | false => none) = some (v, hout) ∧ (exOf e = .normal ∨ exOf e = .ret) := by
      cases e with
      | normal => exact ⟨h1, .inl rfl⟩
      | ret => exact ⟨h1, .inr rfl⟩
      | exit id => cases h1
    obtain ⟨h1, he⟩ := key
    obtain ⟨β1, g0, gH, gT, g3, _, _⟩ := h2
    obtain ⟨β2, vs, cvs, k1, k2, k3, k4, k5⟩ := resAll_sound (tm := a'.tmps) h1 gH gT
    rw [List.nil_append] at k3
    split at k3
    rotate_left
    · cases k3
    rename_i hnt
    split at k3
    rotate_left
    · cases k3
    rename_i v1 bs1 hcan
    simp only [Option.some.injEq, Prod.mk.injEq] at k3
    obtain ⟨rfl, rfl⟩ := k3
    obtain ⟨β3, q1, q2, q3⟩ := canonO_rel k2 hcan (RelL.one (tupV_rel hnt k4))
    have hres : (results fn a'.tmps).run X.E.P w' = .ok (if h : cvs.toArray.size = 1 then cvs.toArray[0] else .tuple cvs.toArray) w' := by
      rw [results_eq, Array.mapM_eq_mapM_toList]
      simp [k5]
    have hR : ∃ v, (results fn a'.tmps).run X.E.P w' = .ok v w' ∧ (∃ cv β', Ending.returned v = .returned cv ∧ Ext β β' ∧ RelV (now w Xr) β' v1 cv ∧ RelH (now w Xr) Wr β' (houtF bs1) (fun n => n < bs1.length) w') := by
      refine ⟨_, hres, _, β3, rfl, fun n p hn => ?_, q3.2 0 _ _ rfl rfl, q2⟩
      have hlt := (hH.dom n p hn).1
      rw [q1 n hlt]
      exact (g0.trans k1) n p hn
    rcases he with he | he <;> rw [he] <;> exact ⟨g3, hR⟩

/-- A function by what the evaluator says. -/
theorem fok {X : Kit} {L : Lps} {fn : Func} {c : Code} {f : Nat} {F : FSem} (hE : EnvOk X.E) (hdk : X.dk = fun d => Nat.blt d fn.ntmps) (hN : L.N = fn.ntmps) (hm : X.E.P.follows .mixedOrders = true)
    (hL : LoopsOk X.E.P L c) (hf : X.E.P.funcs[f]? = some fn) (hb : fn.body = some c) (hn : fn.name ≠ "runtime.NumGoroutine")
    (h : ∀ args hin t r, F.run args hin = some t → t.get = some r → evBody X L fn c args hin = some r) : FOk X.E.P f F :=
  ⟨⟨fn, c, hf, hb, hn⟩, fun args hin t v hout h1 h2 => evBody_sound hE hdk hN hm hL hf hb (h args hin t (v, hout) h1 h2)⟩

/-! Loops. -/
def exB (id : Nat) : Ex → Option Ex
  | .normal => none
  | .exit j => match Nat.beq j id with
    | true => some .normal
    | false => some (.exit j)
  | .ret => some .ret

theorem loop_ok {X : Kit} {Lp : Lps} {L : LSem} {id N : Nat} {body : Code} (hE : EnvOk X.E) (hdk : ∀ d, X.dk d = true → hasBit (wrCode body) d = true ∧ d < N) (hN : Lp.N = N) (hm : X.E.P.follows .mixedOrders = true) (hLo : LoopsOk X.E.P Lp body)
    (h : ∀ args hin t e vs hout, L.run args hin = some t → t.get = some (e, vs, hout) → ∃ (n : Nat) (A : Nat → List AV × List (Option Blk)) (e' : Ex), A 0 = (args, someL hin) ∧
      (∀ i, i < n → evRound X Lp L hin.length body (A i).1 (A i).2 = some (.normal, A (i + 1))) ∧ evRound X Lp L hin.length body (A n).1 (A n).2 = some (e', vs, hout) ∧ exB id e' = some e) :
    LOk X.E.P N (.block id (.loop body)) L := by
  intro args hin t e vs hout h1 h2 w Xr Wr β a Q hH hA hd hsz hQ
  obtain ⟨n, A, e', hA0, hstep, hlast, hex⟩ := h args hin t e vs hout h1 h2
  refine wp_block (wp_loop_rounds (n + 1) ?_)
  let C : C0 := ⟨now w Xr, Wr, β, N, hasBit (wrCode body), fun t => a.tmps.getD t undef⟩
  have hX : KitOk X C := ⟨hE, hdk⟩
  -- the state at the head of a round
  have hhead : ∀ (i : Nat) (a' : Act) (w' : World) (β' : Bm), Ext β β' → RelH (now w Xr) Wr β' (houtF (A i).2) (fun n => n < (A i).2.length) w' → RelL (now w Xr) β' (A i).1 (L.tin.map fun t => a'.tmps.getD t undef) → a'.defers = [] → a'.tmps.size = N →
      (∀ t, hasBit (wrCode body) t = false → a'.tmps.getD t undef = a.tmps.getD t undef) → RelSt C ⟨putTs L.tin (A i).1 [], zipH 0 (A i).2, (A i).2.length⟩ a' w' := by
    intro i a' w' β' k1 k2 k3 k4 k5 k6
    refine ⟨β', k1, ?_, fun t => ?_, k4, k5, k6⟩
    · simp only [zipH_fun]; exact k2
    · exact putTs_rel (f := fun t => a'.tmps.getD t undef) (fun t => by simp only [lkT]; trivial) k3 t
  have key : ∀ (m i : Nat) (a' : Act) (w' : World) (β' : Bm), i + m = n → Ext β β' → RelH (now w Xr) Wr β' (houtF (A i).2) (fun n => n < (A i).2.length) w' → RelL (now w Xr) β' (A i).1 (L.tin.map fun t => a'.tmps.getD t undef) → a'.defers = [] → a'.tmps.size = N →
      (∀ t, hasBit (wrCode body) t = false → a'.tmps.getD t undef = a.tmps.getD t undef) → Code.rounds X.E.P body (Exit.inBlock id Q) (m + 1) a' w' := by
    have hβ : ∀ n p, β n = some p → n < hin.length := fun n p hn => (hH.dom n p hn).1
    intro m
    induction m with
    | zero =>
      intro i a' w' β' hi k1 k2 k3 k4 k5 k6
      have hi : i = n := by omega
      subst hi
      refine ev_sound hX hm hN body hLo hlast (hhead i a' w' β' k1 k2 k3 k4 k5 k6) ?_
      intro e2 s a2 w2 g1 g2
      split at g1
      rotate_left
      · cases g1
      rename_i r hr
      simp only [Option.some.injEq, Prod.mk.injEq] at g1
      obtain ⟨rfl, rfl, rfl⟩ := g1
      obtain ⟨β2, b0, b1, b2, b3, b4, b5⟩ := g2
      cases e2 with
      | normal => cases hex
      | ret =>
        cases hex
        obtain ⟨β3, q1, q2, q3⟩ := canonO_rel b1 hr (valsT_map b2 L.tout)
        exact hQ β3 a2 w2 (fun n p hn => by rw [q1 n (hβ n p hn)]; exact b0 n p hn) q2 q3 b3 b4 b5
      | exit j =>
        obtain ⟨β3, q1, q2, q3⟩ := canonO_rel b1 hr (valsT_map b2 L.tout)
        have hQ2 := hQ β3 a2 w2 (fun n p hn => by rw [q1 n (hβ n p hn)]; exact b0 n p hn) q2 q3 b3 b4 b5
        unfold exB at hex
        show Exit.inBlock id Q (.exit j) a2 w2
        unfold Exit.inBlock
        by_cases hj : j = id
        · subst hj
          simp only [Nat.beq_refl, Option.some.injEq] at hex
          subst hex
          simp only [if_true]
          exact hQ2
        · simp only [beq_false hj, Option.some.injEq] at hex
          subst hex
          simp only [hj, if_false]
          exact hQ2
    | succ m ih =>
      intro i a' w' β' hi k1 k2 k3 k4 k5 k6
      refine ev_sound hX hm hN body hLo (hstep i (by omega)) (hhead i a' w' β' k1 k2 k3 k4 k5 k6) ?_
      intro e2 s a2 w2 g1 g2
      split at g1
      rotate_left
      · cases g1
      rename_i r hr
      simp only [Option.some.injEq, Prod.mk.injEq] at g1
      obtain ⟨rfl, hr2⟩ := g1
      obtain ⟨β2, b0, b1, b2, b3, b4, b5⟩ := g2
      obtain ⟨β3, q1, q2, q3⟩ := canonO_rel b1 hr (valsT_map b2 L.tin)
      have r1 : (A (i + 1)).1 = r.1 := by rw [← hr2]
      have r2 : (A (i + 1)).2 = r.2 := by rw [← hr2]
      exact ih (i + 1) a2 w2 β3 (by omega) (fun n p hn => by rw [q1 n (hβ n p hn)]; exact b0 n p hn) (by rw [r2]; exact q2) (by rw [r1]; exact q3) b3 b4 b5
  refine key n 0 a w β (by omega) (Ext.refl β) ?_ ?_ hd hsz (fun _ _ => rfl)
  · rw [hA0]; simp only [someL_map, List.length_map]; rw [← someL_map, houtF_someL]; exact hH
  · rw [hA0]; exact hA

end
end Go.Proofs.Ytgebgjhjegadpaa

namespace Go.Proofs.Ytgebgjhjegadpaa
open Go Go.ChangeShapes Go.WideShapes Go.RowKit

section
variable {H : Type} {enc : TypeId × Value → H} {P : Program} {W : World} {r : Reach} {b0 base : Nat} {spare : Nat → Bool} {held : Bool} {t e : TypeId} {k : IntKind} {v : Value} {d : DataW H} {ps : List MemPlace}

theorem wf_u (hk : isU k = true) {n : Int} (h : (Lit.int k n).wf = true) : 0 ≤ n ∧ n.toNat < lim k := by
  cases k <;> simp [isU] at hk <;> simp [Lit.wf, IntKind.min, IntKind.max, IntKind.signed, IntKind.bits, lim] at h ⊢ <;> omega

theorem open_uintV (ht : P.underlying t = some (.int k)) (hk : isU k = true) (hval : Value.okWide P W r b0 t v) (hd : DataW.Trod enc P W base spare held t v d ps) : ∃ x : Nat, x < lim k ∧ v = .int k x := by
  obtain ⟨n, rfl, _, _, hw⟩ := open_int ht hval hd
  obtain ⟨h1, h2⟩ := wf_u hk hw
  exact ⟨n.toNat, h2, by rw [Int.toNat_of_nonneg h1]⟩

theorem open_i64V (ht : P.underlying t = some (.int .i64)) (hval : Value.okWide P W r b0 t v) (hd : DataW.Trod enc P W base spare held t v d ps) : ∃ z : Int, -9223372036854775808 ≤ z ∧ z < 9223372036854775808 ∧ v = .int .i64 z := by
  obtain ⟨n, rfl, _, _, hw⟩ := open_int ht hval hd
  refine ⟨n, ?_, ?_, rfl⟩ <;> simp [Lit.wf, IntKind.min, IntKind.max, IntKind.signed, IntKind.bits] at hw <;> omega

theorem open_arrC {n : Nat} (hk : isU k = true) (he : P.underlying e = some (.int k)) (hce : P.cellsOf e = 1) (ht : P.underlying t = some (.array n e)) (hct : P.cellsOf t = n) {fuel : Nat} {cs : List Value} {x : DataW H × List MemPlace}
    (hd : DataW.trod enc P W base spare held fuel t cs = some x) : ∃ xs : List Nat, xs.length = n ∧ (∀ x ∈ xs, x < lim k) ∧ cs = xs.map (fun x : Nat => Value.int k x) := by
  obtain ⟨ys, m, _, _, hlen, hyl, hget⟩ := DataW.trod_array ht hd
  rw [hct] at hlen
  have key : ∀ i, i < n → ∃ z : Nat, z < lim k ∧ cs[i]? = some (.int k z) := by
    intro i hi
    have h1 := hget i hi
    rw [hce, Nat.mul_one] at h1
    have hy : ys[i]? = some (ys[i]'(by omega)) := List.getElem?_eq_getElem _
    rw [hy] at h1
    have hc : cs[i]? = some (cs[i]'(by omega)) := List.getElem?_eq_getElem _
    have hcs : (cs.drop i).take 1 = [cs[i]'(by omega)] := by
      rw [List.take_one, List.head?_drop, hc]; rfl
    rw [hcs] at h1
    obtain ⟨z, hz1, _, hz3⟩ := DataW.trod_int he h1
    obtain ⟨g1, g2⟩ := wf_u hk hz3
    refine ⟨z.toNat, g2, ?_⟩
    rw [hc, Int.toNat_of_nonneg g1]
    simp only [List.cons.injEq] at hz1
    rw [hz1.1]
  refine ⟨cs.map fun v => match v with
    | .int _ z => z.toNat
    | _ => 0, by simpa using hlen, fun x hx => ?_, ?_⟩
  · obtain ⟨v, hv, rfl⟩ := List.mem_map.1 hx
    obtain ⟨i, hi, rfl⟩ := List.getElem_of_mem hv
    obtain ⟨z, hz, hz2⟩ := key i (by omega)
    rw [List.getElem?_eq_getElem hi] at hz2
    rw [Option.some.inj hz2]
    simpa using hz
  · apply List.ext_getElem?
    intro i
    by_cases hi : i < cs.length
    · obtain ⟨z, hz, hz2⟩ := key i (by omega)
      simp only [List.map_map, List.getElem?_map, hz2, Option.map_some, Function.comp]
      simp
    · simp [List.getElem?_eq_none (Nat.le_of_not_lt hi)]

theorem open_arrV {n : Nat} (hk : isU k = true) (he : P.underlying e = some (.int k)) (hce : P.cellsOf e = 1) (ht : P.underlying t = some (.array n e)) (hct : P.cellsOf t = n) (hval : Value.okWide P W r b0 t v) (hd : DataW.Trod enc P W base spare held t v d ps) :
    ∃ xs : List Nat, xs.length = n ∧ (∀ x ∈ xs, x < lim k) ∧ v = .agg (xs.map (fun x : Nat => Value.int k x)).toArray := by
  obtain ⟨fuel, hd⟩ := hd
  simp only [Value.okWide, ht] at hval
  obtain ⟨cs, rfl, _, _⟩ := hval
  obtain ⟨xs, h1, h2, h3⟩ := open_arrC hk he hce ht hct hd
  refine ⟨xs, h1, h2, ?_⟩
  congr 1
  apply Array.ext'
  simpa [Value.cells] using h3

theorem relAgg {cx : Cx} {β : Bm} {n : Nat} {xs : List Nat} (h1 : xs.length = n) (h2 : ∀ x ∈ xs, x < lim k) : RelV cx β (.agg [.ints k n xs]) (.agg (xs.map (fun x : Nat => Value.int k x)).toArray) :=
  ⟨_, rfl, h1, h2, [], by simp, rfl⟩

theorem relNat {cx : Cx} {β : Bm} {x : Nat} (h : x < lim k) : RelV cx β (.s (.nat k x)) (.int k x) := ⟨rfl, h⟩

theorem relInt {cx : Cx} {β : Bm} {z : Int} (h1 : -9223372036854775808 ≤ z) (h2 : z < 9223372036854775808) : RelV cx β (.s (.int z)) (.int .i64 z) := ⟨rfl, h1, h2⟩

theorem relNil {cx : Cx} {β : Bm} : RelL cx β [] [] := ⟨rfl, fun j v cv e => by simp at e⟩

theorem relCons {cx : Cx} {β : Bm} {v : AV} {vs : List AV} {cv : Value} {l : List Value} (h : RelV cx β v cv) (hr : RelL cx β vs l) : RelL cx β (v :: vs) (cv :: l) :=
  ⟨by simp [hr.1], fun j u cu e1 e2 => by
    cases j with
    | zero =>
      simp only [List.getElem?_cons_zero, Option.some.injEq] at e1 e2
      subst e1; subst e2
      exact h
    | succ j => exact hr.2 j u cu (by simpa using e1) (by simpa using e2)⟩

/-- All that stands at the start, to be read. -/
def allX (W : World) : Nat → Prop := fun b => b < W.heap.size

theorem cell_lt {a : Addr} {u : Value} (h : W.cell? a = some u) : a.block < W.heap.size := by
  unfold World.cell? at h
  rcases Nat.lt_or_ge a.block W.heap.size with hl | hl
  · exact hl
  · simp [Array.getElem?_eq_none hl] at h

theorem relXs {cx : Cx} {β : Bm} {c : XC} {cv : Value} (h : RelX cx c cv) : RelV cx β (.s (.xsl c)) cv := h

/-- A slice of numbers, by value. -/
theorem open_rowV (hk : isU k = true) (he : P.underlying e = some (.int k)) (hce : P.cellsOf e = 1) (ht : P.underlying t = some (.slice e)) (hval : Value.okWide P W r b0 t v) (hd : DataW.Trod enc P W base spare held t v d ps) :
    ∃ xs : List Nat, xs.length ≤ 9223372036854775807 ∧ (∀ x ∈ xs, x < lim k) ∧ RelX (now W (allX W)) (.ints k xs) v := by
  obtain ⟨fuel, hd⟩ := hd
  have hok := hval
  simp only [Value.okWide, ht, Cell.okWide, Cell.ok] at hok
  have hcell : v.cells.toList = [v] := by
    cases v <;> simp_all [Value.cells]
  rw [hcell] at hd
  rcases open_ints ht he hce hd with ⟨h1, _⟩ | ⟨a, len, cap, zs, h1, _, h2, h3, h4, _, h6, h7⟩
  · simp only [List.cons.injEq, and_true] at h1
    subst h1
    exact ⟨[], by simp, by simp, .inl ⟨rfl, _, _, rfl⟩⟩
  · simp only [List.cons.injEq, and_true] at h1
    subst h1
    simp only [World.has] at hok
    obtain ⟨_, _, _, hspot, _⟩ := hok
    have hlen : len ≤ zs.length := by rw [h4]; split <;> omega
    obtain ⟨b, o, sp⟩ := a
    simp only at hspot
    subst hspot
    have hx : ∀ i, i < len → ∃ z : Nat, z < lim k ∧ zs[i]? = some (z : Int) ∧ W.cell? ⟨b, o + i, none⟩ = some (.int k z) := by
      intro i hi
      have hz : zs[i]? = some (zs[i]'(by omega)) := List.getElem?_eq_getElem _
      obtain ⟨g1, g2⟩ := wf_u hk (h7 _ (List.getElem_mem (by omega : i < zs.length)))
      refine ⟨(zs[i]'(by omega)).toNat, g2, by rw [hz, Int.toNat_of_nonneg g1], ?_⟩
      have := h6 i (by omega)
      rw [addr_add] at this
      rw [this, List.getD, hz, Option.getD_some, Int.toNat_of_nonneg g1]
    refine ⟨(zs.take len).map Int.toNat, by simp [maxLen] at h3 ⊢; omega, fun x hx' => ?_, .inr ⟨b, o, cap, by simp [XC.len]; omega, by simp [XC.len]; omega, fun i x e => ?_⟩⟩
    · obtain ⟨z, hz, rfl⟩ := List.mem_map.1 hx'
      exact (wf_u hk (h7 z (List.mem_of_mem_take hz))).2
    · rw [List.getElem?_map, Option.map_eq_some_iff] at e
      obtain ⟨z, hz, rfl⟩ := e
      have hi : i < len := by have := (List.getElem?_eq_some_iff.1 hz).1; simp at this; omega
      rw [List.getElem?_take_of_lt hi] at hz
      obtain ⟨z', g1, g2, g3⟩ := hx i hi
      rw [hz] at g2
      have : z = (z' : Int) := Option.some.inj g2
      subst this
      simp only [Int.toNat_natCast]
      exact ⟨cell_lt g3, g3, g1⟩

/-! The end. -/
theorem trodAll_stays (hl : laidOutB P = true) {W' : World} (hb : Below W.heap.size W W') {sp : Nat → Bool} : ∀ {ts : List TypeId} {vs : List Value} {ds : List (DataW H)} {ps : List MemPlace}, (∀ t ∈ ts, P.readableRec t = true ∧ t < P.types.size) →
    DataW.TrodAll enc P W 0 (fun _ => true) true ts vs ds ps → (∀ p ∈ ps, p.block < W.heap.size) → (∀ p ∈ ps, sp p.block = true) → DataW.TrodAll enc P W' 0 sp true ts vs ds ps
  | [], vs, ds, ps, _, h, _, _ => by
    obtain ⟨rfl, rfl, rfl⟩ := trodAll_nil h
    exact rfl
  | t :: ts, vs, ds, ps, hts, h, hlt, hsp => by
    obtain ⟨v, vs1, d, ds1, a, b, rfl, rfl, rfl, h1, h2⟩ := trodAll_cons h
    have ht := hts t List.mem_cons_self
    exact ⟨a, b, WideElems.Trod_stays hl ht.1 ht.2 h1 (fun x hx => hb.same (hlt x (List.mem_append_left _ hx))) (fun x hx => hsp x (List.mem_append_left _ hx)),
      trodAll_stays hl hb (fun t h => hts t (List.mem_cons_of_mem _ h)) h2 (fun p hp => hlt p (List.mem_append_right _ hp)) (fun p hp => hsp p (List.mem_append_right _ hp)), rfl⟩

theorem below_of {X : Nat → Prop} {β : Bm} {Hf : Nat → Option Blk} {D : Nat → Prop} {w' : World} (h : RelH (now W X) (fun _ => False) β Hf D w') : Below W.heap.size W w' :=
  ⟨h.os, h.tape, h.output, h.size, fun k hk => h.frame k hk (fun h => h)⟩

theorem relH_start (W : World) : RelH (now W (allX W)) (fun _ => False) (fun _ => none) (hinF []) (fun n => n < 0) W where
  size := Nat.le_refl _
  frame := fun _ _ _ => rfl
  xok := fun _ h => ⟨h, fun h => h⟩
  dom := fun _ _ h => by cases h
  held := fun _ _ _ h => by cases h
  wf := fun _ _ h => by simp [hinF] at h
  hd := fun _ _ h => by simp [hinF] at h
  inj := fun _ _ _ _ h => by cases h
  os := rfl
  tape := rfl
  output := rfl

/-- A law: it returns true, and what it was given reads as before. -/
def Law (s : ChangeSpec) (n : Nat) : Prop := s.vars = [] ∧ ∀ (H : Type) (ds : List (DataW H)), ds.length = n → (s.fn H ds).results = [.lit (.bool true)] ∧ (s.fn H ds).args = ds ∧ (s.fn H ds).vars = []

theorem trodAll_len {w : World} : ∀ {ts : List TypeId} {vs : List Value} {ds : List (DataW H)} {ps : List MemPlace}, DataW.TrodAll enc P w base spare held ts vs ds ps → ds.length = ts.length
  | [], vs, ds, ps, h => by obtain ⟨_, rfl, _⟩ := trodAll_nil h; rfl
  | t :: ts, vs, ds, ps, h => by
    obtain ⟨v, vs1, d, ds1, a, b, rfl, rfl, rfl, h1, h2⟩ := trodAll_cons h
    simp [trodAll_len h2]

theorem law_post {fn : Func} {s : ChangeSpec} {tb : TypeId} (hl : laidOutB P = true) (hs : Law s fn.params.toList.length) (hts : ∀ t ∈ fn.params.toList, P.readableRec t = true ∧ t < P.types.size) (hres : fn.resultTypes = #[tb]) (htb : P.underlying tb = some .bool)
    {W' : World} {args : Array Value} {ds gs : List (DataW H)} {before : List MemPlace} (hW : DataW.Whole enc P fn.params.toList s.vars false W args.toList ds gs before) (hb : Below W.heap.size W W') :
    s.post enc P fn false true false false W args (.bool true) W' := by
  have hlt := hW.lt
  have hW2 := hW
  obtain ⟨p, q, hA, hV, rfl, _, _⟩ := hW2
  rw [hs.1] at hV
  obtain ⟨rfl, rfl⟩ := trodVars_none hV
  obtain ⟨h1, h2, h3⟩ := hs.2 H ds (trodAll_len hA)
  refine ⟨ds, [], p ++ [], [], p, [], hW, ?_, ?_, ?_, hb.frame _, fun h => by cases h⟩
  · rw [List.append_nil, h1, hres]
    exact trodAll_mk1 (shut_bool htb true)
  · rw [List.append_nil, h2]
    exact trodAll_stays hl hb hts hA (fun x hx => hlt x (List.mem_append_left _ hx)) (fun x hx => by simpa using hlt x (List.mem_append_left _ hx))
  · rw [List.append_nil, h3, hs.1]
    rfl

theorem law_calls {E : Env} {f : Nat} {fn : Func} {s : ChangeSpec} {tb : TypeId} (hl : laidOutB E.P = true) (hs : Law s fn.params.toList.length) (hts : ∀ t ∈ fn.params.toList, E.P.readableRec t = true ∧ t < E.P.types.size) (hres : fn.resultTypes = #[tb]) (htb : E.P.underlying tb = some .bool)
    {args : Array Value} {ds gs : List (DataW H)} {before : List MemPlace} (hW : DataW.Whole enc E.P fn.params.toList s.vars false W args.toList ds gs before)
    {avs : List AV} {hout : List (Option Blk)} (hrel : RelL (now W (allX W)) (fun _ => none) avs args.toList) (hc : Ctr E.P f avs [] (.s (.bool true)) hout) :
    Calls E.P f args W fun e W' => ∃ v, e = .returned v ∧ s.post enc E.P fn false true false false W args v W' := by
  have := hc W (allX W) (fun _ => False) (fun _ => none) args.toList (relH_start W) hrel
  rw [Array.toArray_toList] at this
  refine this.mono ?_
  rintro e W' ⟨cv, β', rfl, _, h2, h3⟩
  have h2 : cv = .bool true := h2
  subst h2
  exact ⟨_, rfl, law_post hl hs hts hres htb hW (below_of h3)⟩

end
end Go.Proofs.Ytgebgjhjegadpaa

namespace Go.Proofs.Ytgebgjhjegadpaa
open Go

def bodyOf (f : Func) : Code := match f.body with
  | some c => c
  | none => .skip

theorem loopsOk_none {P : Program} {L : Lps} (h : L.sums = []) : ∀ c : Code, LoopsOk P L c := by
  intro c
  induction c with
  | seq a b iha ihb => exact ⟨iha, ihb⟩
  | cond o a b iha ihb => exact ⟨iha, ihb⟩
  | block id body ih => unfold LoopsOk; rw [h]; exact ih
  | loop body ih => exact ih
  | _ => trivial

def kitOf (P : Program) (fs : List (Nat × FSem)) (xs : List (Nat × (List AV → Option (Tr AV)))) (m : SubMode) (fn : Func) : Kit := ⟨⟨P, fs, xs⟩, m, fun d => Nat.blt d fn.ntmps⟩

def runB (P : Program) (fs : List (Nat × FSem)) (xs : List (Nat × (List AV → Option (Tr AV)))) (m : SubMode) (fuel : Nat) (fn : Func) (args : List AV) (hin : List Blk) : Option (AV × List (Option Blk)) :=
  evBody (kitOf P fs xs m fn) ⟨fn.ntmps, fuel, []⟩ fn (bodyOf fn) args hin

def runL (P : Program) (fs : List (Nat × FSem)) (xs : List (Nat × (List AV → Option (Tr AV)))) (m : SubMode) (fuel : Nat) (sums : List (Nat × LSem)) (fn : Func) (args : List AV) (hin : List Blk) : Option (AV × List (Option Blk)) :=
  evBody (kitOf P fs xs m fn) ⟨fn.ntmps, fuel, sums⟩ fn (bodyOf fn) args hin

structure Fn (P : Program) (f : Nat) (fn : Func) : Prop where
  mixed : P.follows .mixedOrders = true
  at_ : P.funcs[f]? = some fn
  body : fn.body = some (bodyOf fn)
  name : fn.name ≠ "runtime.NumGoroutine"

theorem EnvOk.nil {P : Program} : EnvOk ⟨P, [], []⟩ := ⟨fun f F h => by simp [lkF] at h, fun f F h => by simp [lkF] at h⟩

theorem EnvOk.cons {P : Program} {fs : List (Nat × FSem)} {xs : List (Nat × (List AV → Option (Tr AV)))} {f : Nat} {F : FSem} (h : FOk P f F) (hr : EnvOk ⟨P, fs, xs⟩) : EnvOk ⟨P, (f, F) :: fs, xs⟩ := by
  refine ⟨fun g G hg => ?_, hr.xs⟩
  by_cases e : f = g
  · subst e
    simp only [lkF, Nat.beq_refl, Option.some.injEq] at hg
    subst hg
    exact h
  · simp only [lkF, beq_false e] at hg
    exact hr.fs g G hg

theorem EnvOk.consX {P : Program} {xs : List (Nat × (List AV → Option (Tr AV)))} {f : Nat} {F : List AV → Option (Tr AV)} (h : XOk P f F) (hr : EnvOk ⟨P, [], xs⟩) : EnvOk ⟨P, [], (f, F) :: xs⟩ := by
  refine ⟨fun g G hg => by simp [lkF] at hg, fun g G hg => ?_⟩
  by_cases e : f = g
  · subst e
    simp only [lkF, Nat.beq_refl, Option.some.injEq] at hg
    subst hg
    exact h
  · simp only [lkF, beq_false e] at hg
    exact hr.xs g G hg

theorem fokB {P : Program} {fs : List (Nat × FSem)} {xs : List (Nat × (List AV → Option (Tr AV)))} {m : SubMode} {fuel : Nat} {f : Nat} {fn : Func} {F : FSem} (hE : EnvOk ⟨P, fs, xs⟩) (hF : Fn P f fn)
    (h : ∀ args hin t r, F.run args hin = some t → t.get = some r → runB P fs xs m fuel fn args hin = some r) : FOk P f F :=
  fok (X := kitOf P fs xs m fn) (L := ⟨fn.ntmps, fuel, []⟩) hE rfl rfl hF.mixed (loopsOk_none rfl _) hF.at_ hF.body hF.name h

theorem fokL {P : Program} {fs : List (Nat × FSem)} {xs : List (Nat × (List AV → Option (Tr AV)))} {m : SubMode} {fuel : Nat} {sums : List (Nat × LSem)} {f : Nat} {fn : Func} {F : FSem} (hE : EnvOk ⟨P, fs, xs⟩) (hF : Fn P f fn)
    (hL : LoopsOk P ⟨fn.ntmps, fuel, sums⟩ (bodyOf fn))
    (h : ∀ args hin t r, F.run args hin = some t → t.get = some r → runL P fs xs m fuel sums fn args hin = some r) : FOk P f F :=
  fok (X := kitOf P fs xs m fn) (L := ⟨fn.ntmps, fuel, sums⟩) hE rfl rfl hF.mixed hL hF.at_ hF.body hF.name h

theorem ctrB {P : Program} {fs : List (Nat × FSem)} {xs : List (Nat × (List AV → Option (Tr AV)))} {m : SubMode} {fuel : Nat} {f : Nat} {fn : Func} (hE : EnvOk ⟨P, fs, xs⟩) (hF : Fn P f fn) {args : List AV} {hin : List Blk} {v : AV} {hout : List (Option Blk)}
    (h : runB P fs xs m fuel fn args hin = some (v, hout)) : Ctr P f args hin v hout :=
  evBody_sound (X := kitOf P fs xs m fn) (L := ⟨fn.ntmps, fuel, []⟩) hE rfl rfl hF.mixed (loopsOk_none rfl _) hF.at_ hF.body h

theorem ctrL {P : Program} {fs : List (Nat × FSem)} {xs : List (Nat × (List AV → Option (Tr AV)))} {m : SubMode} {fuel : Nat} {sums : List (Nat × LSem)} {f : Nat} {fn : Func} (hE : EnvOk ⟨P, fs, xs⟩) (hF : Fn P f fn) {args : List AV} {hin : List Blk} {v : AV} {hout : List (Option Blk)}
    (hL : LoopsOk P ⟨fn.ntmps, fuel, sums⟩ (bodyOf fn)) (h : runL P fs xs m fuel sums fn args hin = some (v, hout)) : Ctr P f args hin v hout :=
  evBody_sound (X := kitOf P fs xs m fn) (L := ⟨fn.ntmps, fuel, sums⟩) hE rfl rfl hF.mixed hL hF.at_ hF.body h

/-- What must hold, one after the other. -/
def nd {α : Type} : List Bool → Option α → Option α
  | [], x => x
  | c :: cs, x => cond c (nd cs x) none

theorem nd_true {α : Type} {x : Option α} : ∀ {cs : List Bool}, (∀ c ∈ cs, c = true) → nd cs x = x
  | [], _ => rfl
  | c :: cs, h => by
    have hc : c = true := h c List.mem_cons_self
    subst hc
    exact nd_true (cs := cs) fun d hd => h d (List.mem_cons_of_mem _ hd)

theorem addOff_eq' (a b : Nat) : addOff a b = a + b := by cases a <;> simp [addOff]

end Go.Proofs.Ytgebgjhjegadpaa

namespace Go.Proofs.Ytgebgjhjegadpaa
open Go

/-- Turned to the left by n. -/
def rl (x n : Nat) : Nat := x * 2 ^ n % 4294967296 ||| x / 2 ^ (32 - n)

def mix1 (s : List Nat) (i j : Nat) : List Nat := s.set i ((s.getD i 0 + s.getD j 0) % 4294967296)
def mix2 (s : List Nat) (i j n : Nat) : List Nat := s.set i (rl (s.getD i 0 ^^^ s.getD j 0) n)

def qr (s : List Nat) (a b c d : Nat) : List Nat :=
  mix2 (mix1 (mix2 (mix1 (mix2 (mix1 (mix2 (mix1 s a b) d a 16) c d) b c 12) a b) d a 8) c d) b c 7

def okRot (n : Nat) : Bool := Nat.beq n 16 || Nat.beq n 12 || Nat.beq n 8 || Nat.beq n 7

def okQ (a b c d : Nat) : Bool :=
  Nat.blt a 4 && (Nat.beq b (a + 4) && Nat.beq c (a + 8) && Nat.beq d (a + 12) || Nat.beq b ((a + 1) % 4 + 4) && Nat.beq c ((a + 2) % 4 + 8) && Nat.beq d ((a + 3) % 4 + 12))

def F44 : FSem := ⟨false, fun args hin => match args, hin with
  | [.s (.nat .u32 x), .s (.nat .i64 n)], [] => match okRot n with
    | true => some (.leaf (.s (.nat .u32 (rl x n)), []))
    | false => none
  | _, _ => none⟩

def F33 : FSem := ⟨false, fun args hin => match args, hin with
  | [.s (.ptr 0 0), .s (.nat .i64 a), .s (.nat .i64 b), .s (.nat .i64 c), .s (.nat .i64 d)], [[.ints .u32 16 xs]] => match okQ a b c d with
    | true => some (.leaf (.tup [], [some [.ints .u32 16 (qr xs a b c d)]]))
    | false => none
  | _, _ => none⟩

theorem mixed : Try.prog.follows .mixedOrders = true := by kernel_rfl
theorem fn44 : Fn Try.prog 44 Try.f44 := ⟨mixed, Try.func44, by kernel_rfl, of_decide_eq_true (by kernel_rfl)⟩
theorem fn33 : Fn Try.prog 33 Try.f33 := ⟨mixed, Try.func33, by kernel_rfl, of_decide_eq_true (by kernel_rfl)⟩

theorem okRot_cases {n : Nat} (h : okRot n = true) : n = 16 ∨ n = 12 ∨ n = 8 ∨ n = 7 := by
  simp only [okRot, Bool.or_eq_true, Nat.beq_eq] at h
  omega

set_option maxRecDepth 100000 in
theorem ok44 : FOk Try.prog 44 F44 := by
  refine fokB (fs := []) (xs := []) (m := .nat) (fuel := 1) EnvOk.nil fn44 ?_
  intro args hin t r h hg
  unfold F44 at h
  simp only at h
  split at h
  · rename_i x n
    split at h
    · rename_i hn
      cases h; cases hg
      rcases okRot_cases hn with rfl | rfl | rfl | rfl <;> kernel_rfl
    · cases h
  · cases h

theorem okQ_cases {a b c d : Nat} (h : okQ a b c d = true) : (a, b, c, d) ∈ [(0, 4, 8, 12), (1, 5, 9, 13), (2, 6, 10, 14), (3, 7, 11, 15), (0, 5, 10, 15), (1, 6, 11, 12), (2, 7, 8, 13), (3, 4, 9, 14)] := by
  simp only [okQ, Bool.and_eq_true, Bool.or_eq_true, Nat.beq_eq] at h
  obtain ⟨h1, h2⟩ := h
  have h1 : a < 4 := Nat.le_of_ble_eq_true h1
  rcases (by omega : a = 0 ∨ a = 1 ∨ a = 2 ∨ a = 3) with rfl | rfl | rfl | rfl <;> rcases h2 with ⟨⟨rfl, rfl⟩, rfl⟩ | ⟨⟨rfl, rfl⟩, rfl⟩ <;> decide

set_option maxRecDepth 100000 in
theorem q33_0 (xs : List Nat) : runB Try.prog [(44, F44)] [] .nat 3 Try.f33 [.s (.ptr 0 0), .s (.nat .i64 0), .s (.nat .i64 4), .s (.nat .i64 8), .s (.nat .i64 12)] [[.ints .u32 16 xs]] = some (.tup [], [some [.ints .u32 16 (qr xs 0 4 8 12)]]) := by kernel_rfl
set_option maxRecDepth 100000 in
theorem q33_1 (xs : List Nat) : runB Try.prog [(44, F44)] [] .nat 3 Try.f33 [.s (.ptr 0 0), .s (.nat .i64 1), .s (.nat .i64 5), .s (.nat .i64 9), .s (.nat .i64 13)] [[.ints .u32 16 xs]] = some (.tup [], [some [.ints .u32 16 (qr xs 1 5 9 13)]]) := by kernel_rfl
set_option maxRecDepth 100000 in
theorem q33_2 (xs : List Nat) : runB Try.prog [(44, F44)] [] .nat 3 Try.f33 [.s (.ptr 0 0), .s (.nat .i64 2), .s (.nat .i64 6), .s (.nat .i64 10), .s (.nat .i64 14)] [[.ints .u32 16 xs]] = some (.tup [], [some [.ints .u32 16 (qr xs 2 6 10 14)]]) := by kernel_rfl
set_option maxRecDepth 100000 in
theorem q33_3 (xs : List Nat) : runB Try.prog [(44, F44)] [] .nat 3 Try.f33 [.s (.ptr 0 0), .s (.nat .i64 3), .s (.nat .i64 7), .s (.nat .i64 11), .s (.nat .i64 15)] [[.ints .u32 16 xs]] = some (.tup [], [some [.ints .u32 16 (qr xs 3 7 11 15)]]) := by kernel_rfl
set_option maxRecDepth 100000 in
theorem q33_4 (xs : List Nat) : runB Try.prog [(44, F44)] [] .nat 3 Try.f33 [.s (.ptr 0 0), .s (.nat .i64 0), .s (.nat .i64 5), .s (.nat .i64 10), .s (.nat .i64 15)] [[.ints .u32 16 xs]] = some (.tup [], [some [.ints .u32 16 (qr xs 0 5 10 15)]]) := by kernel_rfl
set_option maxRecDepth 100000 in
theorem q33_5 (xs : List Nat) : runB Try.prog [(44, F44)] [] .nat 3 Try.f33 [.s (.ptr 0 0), .s (.nat .i64 1), .s (.nat .i64 6), .s (.nat .i64 11), .s (.nat .i64 12)] [[.ints .u32 16 xs]] = some (.tup [], [some [.ints .u32 16 (qr xs 1 6 11 12)]]) := by kernel_rfl
set_option maxRecDepth 100000 in
theorem q33_6 (xs : List Nat) : runB Try.prog [(44, F44)] [] .nat 3 Try.f33 [.s (.ptr 0 0), .s (.nat .i64 2), .s (.nat .i64 7), .s (.nat .i64 8), .s (.nat .i64 13)] [[.ints .u32 16 xs]] = some (.tup [], [some [.ints .u32 16 (qr xs 2 7 8 13)]]) := by kernel_rfl
set_option maxRecDepth 100000 in
theorem q33_7 (xs : List Nat) : runB Try.prog [(44, F44)] [] .nat 3 Try.f33 [.s (.ptr 0 0), .s (.nat .i64 3), .s (.nat .i64 4), .s (.nat .i64 9), .s (.nat .i64 14)] [[.ints .u32 16 xs]] = some (.tup [], [some [.ints .u32 16 (qr xs 3 4 9 14)]]) := by kernel_rfl

theorem ok33 : FOk Try.prog 33 F33 := by
  refine fokB (fs := [(44, F44)]) (xs := []) (m := .nat) (fuel := 3) (.cons ok44 .nil) fn33 ?_
  intro args hin t r h hg
  unfold F33 at h
  simp only at h
  split at h
  · rename_i a b c d xs
    split at h
    · rename_i hq
      cases h; cases hg
      have := okQ_cases hq
      simp only [List.mem_cons, Prod.mk.injEq, List.not_mem_nil, or_false] at this
      rcases this with ⟨rfl, rfl, rfl, rfl⟩ | ⟨rfl, rfl, rfl, rfl⟩ | ⟨rfl, rfl, rfl, rfl⟩ | ⟨rfl, rfl, rfl, rfl⟩ | ⟨rfl, rfl, rfl, rfl⟩ | ⟨rfl, rfl, rfl, rfl⟩ | ⟨rfl, rfl, rfl, rfl⟩ | ⟨rfl, rfl, rfl, rfl⟩
      · exact q33_0 xs
      · exact q33_1 xs
      · exact q33_2 xs
      · exact q33_3 xs
      · exact q33_4 xs
      · exact q33_5 xs
      · exact q33_6 xs
      · exact q33_7 xs
    · cases h
  · cases h

end Go.Proofs.Ytgebgjhjegadpaa

namespace Go.Proofs.Ytgebgjhjegadpaa
open Go

/-- Four bytes, the least first. -/
def wd (xs : List Nat) (o : Nat) : Nat :=
  ((xs.getD o 0 ||| xs.getD (o + 1) 0 * 2 ^ 8 % 4294967296) ||| xs.getD (o + 2) 0 * 2 ^ 16 % 4294967296) ||| xs.getD (o + 3) 0 * 2 ^ 24 % 4294967296

def okW (off len n : Nat) : Bool := Nat.ble 4 len && Nat.ble (off + 4) n

def F32 : FSem := ⟨false, fun args hin => match args, hin with
  | [.s (.sl _ 0 off len 1)], [[.ints .u8 n xs]] => match okW off len n with
    | true => some (.leaf (.s (.nat .u32 (wd xs off)), [some [.ints .u8 n xs]]))
    | false => none
  | _, _ => none⟩

theorem fn32 : Fn Try.prog 32 Try.f32 := ⟨mixed, Try.func32, by kernel_rfl, of_decide_eq_true (by kernel_rfl)⟩

def cs32 (off len n : Nat) : List Bool :=
  [decide (0 < len), decide (addOff off 0 < n), decide (1 < len), decide (addOff off 1 < n), decide (2 < len), decide (addOff off 2 < n), decide (3 < len), decide (addOff off 3 < n)]
def w32 (xs : List Nat) (off : Nat) : Nat :=
  ((xs.getD (addOff off 0) 0 ||| xs.getD (addOff off 1) 0 * 2 ^ 8 % 4294967296) ||| xs.getD (addOff off 2) 0 * 2 ^ 16 % 4294967296) ||| xs.getD (addOff off 3) 0 * 2 ^ 24 % 4294967296

set_option maxRecDepth 100000 in
theorem r32 (m : LK) (off len n : Nat) (xs : List Nat) : runB Try.prog [] [] .nat 1 Try.f32 [.s (.sl m 0 off len 1)] [[.ints .u8 n xs]] = nd (cs32 off len n) (some (.s (.nat .u32 (w32 xs off)), [some [.ints .u8 n xs]])) := by kernel_rfl

theorem ok32 : FOk Try.prog 32 F32 := by
  refine fokB (fs := []) (xs := []) (m := .nat) (fuel := 1) EnvOk.nil fn32 ?_
  intro args hin t r h hg
  unfold F32 at h
  simp only at h
  split at h
  · rename_i m off len n xs
    split at h
    · rename_i hq
      cases h; cases hg
      rw [r32, nd_true]
      · simp only [w32, wd, addOff_eq', Nat.add_zero]
      · simp only [okW, Bool.and_eq_true, Nat.ble_eq] at hq
        simp only [cs32, addOff_eq', List.mem_cons, List.not_mem_nil, or_false, forall_eq_or_imp, forall_eq, decide_eq_true_eq]
        omega
    · cases h
  · cases h

end Go.Proofs.Ytgebgjhjegadpaa

namespace Go.Proofs.Ytgebgjhjegadpaa
open Go

def dr (s : List Nat) : List Nat :=
  qr (qr (qr (qr (qr (qr (qr (qr s 0 4 8 12) 1 5 9 13) 2 6 10 14) 3 7 11 15) 0 5 10 15) 1 6 11 12) 2 7 8 13) 3 4 9 14

def rounds (s : List Nat) : Nat → List Nat
  | 0 => s
  | n + 1 => dr (rounds s n)

def upto (f : Nat → Nat) : Nat → Nat → List Nat
  | 0, _ => []
  | n + 1, i => f i :: upto f n (i + 1)

def st0 (key nonce : List Nat) (n : Nat) : List Nat :=
  [1634760805, 857760878, 2036477234, 1797285236, wd key 0, wd key 4, wd key 8, wd key 12, wd key 16, wd key 20, wd key 24, wd key 28, n, wd nonce 0, wd nonce 4, wd nonce 8]

def outB (x s : List Nat) : List Nat := upto (fun i => (x.getD (i / 4) 0 + s.getD (i / 4) 0) % 4294967296 / 2 ^ (8 * (i % 4)) % 256) 64 0

def blk (key nonce : List Nat) (n : Nat) : List Nat := outB (rounds (st0 key nonce n) 10) (st0 key nonce n)

def F20 : FSem := ⟨false, fun args hin => match args, hin with
  | [.agg [.ints .u8 32 key], .agg [.ints .u8 12 nonce], .s (.nat .u32 n)], [] => some (.leaf (.agg [.ints .u8 64 (blk key nonce n)], []))
  | _, _ => none⟩

theorem fn20 : Fn Try.prog 20 Try.f20 := ⟨mixed, Try.func20, by kernel_rfl, of_decide_eq_true (by kernel_rfl)⟩

set_option maxRecDepth 100000 in
theorem r20 (key nonce : List Nat) (n : Nat) : runB Try.prog [(32, F32), (33, F33)] [] .nat 70 Try.f20 [.agg [.ints .u8 32 key], .agg [.ints .u8 12 nonce], .s (.nat .u32 n)] [] = some (.agg [.ints .u8 64 (blk key nonce n)], []) := by kernel_rfl

theorem ok20 : FOk Try.prog 20 F20 := by
  refine fokB (fs := [(32, F32), (33, F33)]) (xs := []) (m := .nat) (fuel := 70) (.cons ok32 (.cons ok33 .nil)) fn20 ?_
  intro args hin t r h hg
  unfold F20 at h
  simp only at h
  split at h
  · cases h; cases hg
    exact r20 _ _ _
  · cases h

end Go.Proofs.Ytgebgjhjegadpaa

namespace Go.Proofs.Ytgebgjhjegadpaa
open Go

def rl64 (x n : Nat) : Nat := (x * 2 ^ n % 18446744073709551616 % 4294967296 + x / 2 ^ (32 - n)) % 18446744073709551616

def mix1r (s : List Nat) (i j : Nat) : List Nat := s.set i ((s.getD i 0 + s.getD j 0) % 18446744073709551616 % 4294967296)
def mix2r (s : List Nat) (i j n : Nat) : List Nat := s.set i (rl64 (s.getD i 0 ^^^ s.getD j 0) n)

def qrr (s : List Nat) (a b c d : Nat) : List Nat :=
  mix2r (mix1r (mix2r (mix1r (mix2r (mix1r (mix2r (mix1r s a b) d a 16) c d) b c 12) a b) d a 8) c d) b c 7

def F45 : FSem := ⟨false, fun args hin => match args, hin with
  | [.s (.nat .u64 x), .s (.nat .i64 n)], [] => match okRot n with
    | true => some (.leaf (.s (.nat .u64 (rl64 x n)), []))
    | false => none
  | _, _ => none⟩

theorem fn45 : Fn Try.prog 45 Try.f45 := ⟨mixed, Try.func45, by kernel_rfl, of_decide_eq_true (by kernel_rfl)⟩
theorem fn34 : Fn Try.prog 34 Try.f34 := ⟨mixed, Try.func34, by kernel_rfl, of_decide_eq_true (by kernel_rfl)⟩

set_option maxRecDepth 100000 in
theorem r45_16 (x : Nat) : runB Try.prog [] [] .nat 20 Try.f45 [.s (.nat .u64 x), .s (.nat .i64 16)] [] = some (.s (.nat .u64 (rl64 x 16)), []) := by kernel_rfl
set_option maxRecDepth 100000 in
theorem r45_12 (x : Nat) : runB Try.prog [] [] .nat 20 Try.f45 [.s (.nat .u64 x), .s (.nat .i64 12)] [] = some (.s (.nat .u64 (rl64 x 12)), []) := by kernel_rfl
set_option maxRecDepth 100000 in
theorem r45_8 (x : Nat) : runB Try.prog [] [] .nat 20 Try.f45 [.s (.nat .u64 x), .s (.nat .i64 8)] [] = some (.s (.nat .u64 (rl64 x 8)), []) := by kernel_rfl
set_option maxRecDepth 100000 in
theorem r45_7 (x : Nat) : runB Try.prog [] [] .nat 20 Try.f45 [.s (.nat .u64 x), .s (.nat .i64 7)] [] = some (.s (.nat .u64 (rl64 x 7)), []) := by kernel_rfl

theorem ok45 : FOk Try.prog 45 F45 := by
  refine fokB (fs := []) (xs := []) (m := .nat) (fuel := 20) EnvOk.nil fn45 ?_
  intro args hin t r h hg
  unfold F45 at h
  simp only at h
  split at h
  · rename_i x n
    split at h
    · rename_i hn
      cases h; cases hg
      rcases okRot_cases hn with rfl | rfl | rfl | rfl
      · exact r45_16 x
      · exact r45_12 x
      · exact r45_8 x
      · exact r45_7 x
    · cases h
  · cases h

def F34 : FSem := ⟨false, fun args hin => match args, hin with
  | [.s (.sl .whole 0 0 16 1), .s (.nat .i64 a), .s (.nat .i64 b), .s (.nat .i64 c), .s (.nat .i64 d)], [[.ints .u64 16 xs]] => match okQ a b c d with
    | true => some (.leaf (.s (.sl .whole 1 0 16 1), [some [.ints .u64 16 xs], some [.ints .u64 16 (qrr xs a b c d)]]))
    | false => none
  | _, _ => none⟩

set_option maxRecDepth 100000 in
theorem q34_0 (xs : List Nat) : runB Try.prog [(45, F45)] [] .nat 3 Try.f34 [.s (.sl .whole 0 0 16 1), .s (.nat .i64 0), .s (.nat .i64 4), .s (.nat .i64 8), .s (.nat .i64 12)] [[.ints .u64 16 xs]] = some (.s (.sl .whole 1 0 16 1), [some [.ints .u64 16 xs], some [.ints .u64 16 (qrr xs 0 4 8 12)]]) := by kernel_rfl
set_option maxRecDepth 100000 in
theorem q34_1 (xs : List Nat) : runB Try.prog [(45, F45)] [] .nat 3 Try.f34 [.s (.sl .whole 0 0 16 1), .s (.nat .i64 1), .s (.nat .i64 5), .s (.nat .i64 9), .s (.nat .i64 13)] [[.ints .u64 16 xs]] = some (.s (.sl .whole 1 0 16 1), [some [.ints .u64 16 xs], some [.ints .u64 16 (qrr xs 1 5 9 13)]]) := by kernel_rfl
set_option maxRecDepth 100000 in
theorem q34_2 (xs : List Nat) : runB Try.prog [(45, F45)] [] .nat 3 Try.f34 [.s (.sl .whole 0 0 16 1), .s (.nat .i64 2), .s (.nat .i64 6), .s (.nat .i64 10), .s (.nat .i64 14)] [[.ints .u64 16 xs]] = some (.s (.sl .whole 1 0 16 1), [some [.ints .u64 16 xs], some [.ints .u64 16 (qrr xs 2 6 10 14)]]) := by kernel_rfl
set_option maxRecDepth 100000 in
theorem q34_3 (xs : List Nat) : runB Try.prog [(45, F45)] [] .nat 3 Try.f34 [.s (.sl .whole 0 0 16 1), .s (.nat .i64 3), .s (.nat .i64 7), .s (.nat .i64 11), .s (.nat .i64 15)] [[.ints .u64 16 xs]] = some (.s (.sl .whole 1 0 16 1), [some [.ints .u64 16 xs], some [.ints .u64 16 (qrr xs 3 7 11 15)]]) := by kernel_rfl
set_option maxRecDepth 100000 in
theorem q34_4 (xs : List Nat) : runB Try.prog [(45, F45)] [] .nat 3 Try.f34 [.s (.sl .whole 0 0 16 1), .s (.nat .i64 0), .s (.nat .i64 5), .s (.nat .i64 10), .s (.nat .i64 15)] [[.ints .u64 16 xs]] = some (.s (.sl .whole 1 0 16 1), [some [.ints .u64 16 xs], some [.ints .u64 16 (qrr xs 0 5 10 15)]]) := by kernel_rfl
set_option maxRecDepth 100000 in
theorem q34_5 (xs : List Nat) : runB Try.prog [(45, F45)] [] .nat 3 Try.f34 [.s (.sl .whole 0 0 16 1), .s (.nat .i64 1), .s (.nat .i64 6), .s (.nat .i64 11), .s (.nat .i64 12)] [[.ints .u64 16 xs]] = some (.s (.sl .whole 1 0 16 1), [some [.ints .u64 16 xs], some [.ints .u64 16 (qrr xs 1 6 11 12)]]) := by kernel_rfl
set_option maxRecDepth 100000 in
theorem q34_6 (xs : List Nat) : runB Try.prog [(45, F45)] [] .nat 3 Try.f34 [.s (.sl .whole 0 0 16 1), .s (.nat .i64 2), .s (.nat .i64 7), .s (.nat .i64 8), .s (.nat .i64 13)] [[.ints .u64 16 xs]] = some (.s (.sl .whole 1 0 16 1), [some [.ints .u64 16 xs], some [.ints .u64 16 (qrr xs 2 7 8 13)]]) := by kernel_rfl
set_option maxRecDepth 100000 in
theorem q34_7 (xs : List Nat) : runB Try.prog [(45, F45)] [] .nat 3 Try.f34 [.s (.sl .whole 0 0 16 1), .s (.nat .i64 3), .s (.nat .i64 4), .s (.nat .i64 9), .s (.nat .i64 14)] [[.ints .u64 16 xs]] = some (.s (.sl .whole 1 0 16 1), [some [.ints .u64 16 xs], some [.ints .u64 16 (qrr xs 3 4 9 14)]]) := by kernel_rfl

theorem ok34 : FOk Try.prog 34 F34 := by
  refine fokB (fs := [(45, F45)]) (xs := []) (m := .nat) (fuel := 3) (.cons ok45 .nil) fn34 ?_
  intro args hin t r h hg
  unfold F34 at h
  simp only at h
  split at h
  · rename_i a b c d xs
    split at h
    · rename_i hq
      cases h; cases hg
      have := okQ_cases hq
      simp only [List.mem_cons, Prod.mk.injEq, List.not_mem_nil, or_false] at this
      rcases this with ⟨rfl, rfl, rfl, rfl⟩ | ⟨rfl, rfl, rfl, rfl⟩ | ⟨rfl, rfl, rfl, rfl⟩ | ⟨rfl, rfl, rfl, rfl⟩ | ⟨rfl, rfl, rfl, rfl⟩ | ⟨rfl, rfl, rfl, rfl⟩ | ⟨rfl, rfl, rfl, rfl⟩ | ⟨rfl, rfl, rfl, rfl⟩
      · exact q34_0 xs
      · exact q34_1 xs
      · exact q34_2 xs
      · exact q34_3 xs
      · exact q34_4 xs
      · exact q34_5 xs
      · exact q34_6 xs
      · exact q34_7 xs
    · cases h
  · cases h

end Go.Proofs.Ytgebgjhjegadpaa

namespace Go.Proofs.Ytgebgjhjegadpaa
open Go

def drr (s : List Nat) : List Nat :=
  qrr (qrr (qrr (qrr (qrr (qrr (qrr (qrr s 0 4 8 12) 1 5 9 13) 2 6 10 14) 3 7 11 15) 0 5 10 15) 1 6 11 12) 2 7 8 13) 3 4 9 14

def roundsR (s : List Nat) : Nat → List Nat
  | 0 => s
  | n + 1 => drr (roundsR s n)

def wR (b0 b1 b2 b3 : Nat) : Nat :=
  (((b0 + 256 * b1 % 18446744073709551616) % 18446744073709551616 + 65536 * b2 % 18446744073709551616) % 18446744073709551616 + 16777216 * b3 % 18446744073709551616) % 18446744073709551616

def wK (xs : List Nat) (o : Nat) : Nat := wR (xs.getD o 0) (xs.getD (o + 1) 0) (xs.getD (o + 2) 0) (xs.getD (o + 3) 0)

def stR (key nonce : List Nat) (n : Nat) : List Nat :=
  [wR 101 120 112 97, wR 110 100 32 51, wR 50 45 98 121, wR 116 101 32 107, wK key 0, wK key 4, wK key 8, wK key 12, wK key 16, wK key 20, wK key 24, wK key 28,
    wR (n % 256 % 256) (n / 256 % 256 % 256) (n / 256 / 256 % 256 % 256) (n / 256 / 256 / 256 % 256 % 256), wK nonce 0, wK nonce 4, wK nonce 8]

def outV (v : Nat) (r : List Nat) : List Nat := v % 256 % 256 :: v / 256 % 256 % 256 :: v / 256 / 256 % 256 % 256 :: v / 256 / 256 / 256 % 256 % 256 :: r

def outs (x s : List Nat) : Nat → Nat → List Nat
  | 0, _ => []
  | n + 1, i => outV ((x.getD i 0 + s.getD i 0) % 18446744073709551616 % 4294967296) (outs x s n (i + 1))

def outR (x s : List Nat) : List Nat := outs x s 16 0

def blkR (key nonce : List Nat) (n : Nat) : List Nat := outR (roundsR (stR key nonce n) 10) (stR key nonce n)

def F21 : FSem := ⟨false, fun args hin => match args, hin with
  | [.agg [.ints .u8 32 key], .agg [.ints .u8 12 nonce], .s (.nat .u64 n)], [] => some (.leaf (.agg [.ints .u8 64 (blkR key nonce n)], []))
  | _, _ => none⟩

theorem fn21 : Fn Try.prog 21 Try.f21 := ⟨mixed, Try.func21, by kernel_rfl, of_decide_eq_true (by kernel_rfl)⟩

set_option maxRecDepth 100000 in
theorem r21 (key nonce : List Nat) (n : Nat) : runB Try.prog [(34, F34)] [] .nat 70 Try.f21 [.agg [.ints .u8 32 key], .agg [.ints .u8 12 nonce], .s (.nat .u64 n)] [] = some (.agg [.ints .u8 64 (blkR key nonce n)], []) := by kernel_rfl

theorem ok21 : FOk Try.prog 21 F21 := by
  refine fokB (fs := [(34, F34)]) (xs := []) (m := .nat) (fuel := 70) (.cons ok34 .nil) fn21 ?_
  intro args hin t r h hg
  unfold F21 at h
  simp only at h
  split at h
  · cases h; cases hg
    exact r21 _ _ _
  · cases h

end Go.Proofs.Ytgebgjhjegadpaa

namespace Go.Proofs.Ytgebgjhjegadpaa
open Go

def loopsIn (sums : List (Nat × LSem)) : Code → List (Nat × Code × LSem)
  | .seq a b => loopsIn sums a ++ loopsIn sums b
  | .cond _ a b => loopsIn sums a ++ loopsIn sums b
  | .block id body => match lkF sums id with
    | some S => [(id, body, S)]
    | none => loopsIn sums body
  | .loop body => loopsIn sums body
  | _ => []

theorem loopsOk_of {P : Program} {L : Lps} : ∀ {c : Code}, (∀ x ∈ loopsIn L.sums c, LOk P L.N (.block x.1 x.2.1) x.2.2) → LoopsOk P L c := by
  intro c
  induction c with
  | seq a b iha ihb => intro h; exact ⟨iha fun x hx => h x (List.mem_append_left _ hx), ihb fun x hx => h x (List.mem_append_right _ hx)⟩
  | cond o a b iha ihb => intro h; exact ⟨iha fun x hx => h x (List.mem_append_left _ hx), ihb fun x hx => h x (List.mem_append_right _ hx)⟩
  | block id body ih =>
    intro h
    unfold LoopsOk
    unfold loopsIn at h
    cases hl : lkF L.sums id with
    | some S => rw [hl] at h; exact h _ (List.mem_singleton.2 rfl)
    | none => rw [hl] at h; exact ih h
  | loop body ih => intro h; exact ih h
  | _ => intro _; trivial

def findB (id : Nat) : Code → Option Code
  | .seq a b => match findB id a with
    | some c => some c
    | none => findB id b
  | .cond _ a b => match findB id a with
    | some c => some c
    | none => findB id b
  | .block j body => match Nat.beq j id with
    | true => some body
    | false => findB id body
  | .loop body => findB id body
  | _ => none

def lb (id : Nat) (f : Func) : Code := match findB id (bodyOf f) with
  | some (.loop b) => b
  | _ => .skip

def kitL (P : Program) (fs : List (Nat × FSem)) (xs : List (Nat × (List AV → Option (Tr AV)))) (m : SubMode) (N : Nat) (msk : Nat) : Kit := ⟨⟨P, fs, xs⟩, m, fun d => hasBit msk d && Nat.blt d N⟩

def runR (P : Program) (fs : List (Nat × FSem)) (xs : List (Nat × (List AV → Option (Tr AV)))) (m : SubMode) (fuel : Nat) (sums : List (Nat × LSem)) (fn : Func) (id : Nat) (S : LSem) (k : Nat) (args : List AV) (hs : List (Option Blk)) : Option (Ex × List AV × List (Option Blk)) :=
  evRound (kitL P fs xs m fn.ntmps (wrCode (lb id fn))) ⟨fn.ntmps, fuel, sums⟩ S k (lb id fn) args hs

theorem lokR {P : Program} {fs : List (Nat × FSem)} {xs : List (Nat × (List AV → Option (Tr AV)))} {m : SubMode} {fuel : Nat} {sums : List (Nat × LSem)} {fn : Func} {id : Nat} {S : LSem} (hE : EnvOk ⟨P, fs, xs⟩) (hm : P.follows .mixedOrders = true)
    (hL : LoopsOk P ⟨fn.ntmps, fuel, sums⟩ (lb id fn))
    (h : ∀ args hin t e vs hout, S.run args hin = some t → t.get = some (e, vs, hout) → ∃ (n : Nat) (A : Nat → List AV × List (Option Blk)) (e' : Ex), A 0 = (args, someL hin) ∧
      (∀ i, i < n → runR P fs xs m fuel sums fn id S hin.length (A i).1 (A i).2 = some (.normal, A (i + 1))) ∧ runR P fs xs m fuel sums fn id S hin.length (A n).1 (A n).2 = some (e', vs, hout) ∧ exB id e' = some e) :
    LOk P fn.ntmps (.block id (.loop (lb id fn))) S :=
  loop_ok (X := kitL P fs xs m fn.ntmps (wrCode (lb id fn))) (Lp := ⟨fn.ntmps, fuel, sums⟩) hE (fun d hd => by
    have hd : (hasBit (wrCode (lb id fn)) d && Nat.blt d fn.ntmps) = true := hd
    rw [Bool.and_eq_true] at hd
    exact ⟨hd.1, Nat.le_of_ble_eq_true hd.2⟩) rfl hm hL h

end Go.Proofs.Ytgebgjhjegadpaa

namespace Go.Proofs.Ytgebgjhjegadpaa
open Go

theorem getD_lt {xs : List Nat} {b : Nat} (hb : 0 < b) (h : ∀ x ∈ xs, x < b) (i : Nat) : xs.getD i 0 < b := by
  rw [List.getD]
  cases hi : xs[i]? with
  | none => exact hb
  | some x => exact h x (List.mem_of_getElem? hi)

/-- The first i parts, and how long they are. -/
def catN (pss : List (List Nat)) : Nat → List Nat
  | 0 => []
  | i + 1 => catN pss i ++ pss.getD i []

def lenN (pss : List (List Nat)) : Nat → Nat
  | 0 => 0
  | i + 1 => lenN pss i + (pss.getD i []).length

/-- How many parts go in, of which the sum is at most m. -/
def badAt (m : Nat) : List (List Nat) → Nat → Nat
  | [], _ => 0
  | p :: ps, l => match decide (m - l < p.length) with
    | true => 0
    | false => badAt m ps (l + p.length) + 1

theorem catN_len (pss : List (List Nat)) : ∀ i, (catN pss i).length = lenN pss i
  | 0 => rfl
  | i + 1 => by simp [catN, lenN, catN_len pss i]

theorem lenN_shift (p : List Nat) (ps : List (List Nat)) : ∀ i, lenN (p :: ps) (i + 1) = p.length + lenN ps i
  | 0 => by simp [lenN]
  | i + 1 => by
    rw [lenN, lenN_shift p ps i, lenN]
    simp; omega

theorem badAt_spec (m : Nat) : ∀ (ps : List (List Nat)) (l : Nat), l ≤ m → badAt m ps l ≤ ps.length ∧ l + lenN ps (badAt m ps l) ≤ m ∧ (badAt m ps l < ps.length → m - (l + lenN ps (badAt m ps l)) < (ps.getD (badAt m ps l) []).length) ∧
    ∀ i, i < badAt m ps l → ¬ (m - (l + lenN ps i) < (ps.getD i []).length)
  | [], l, h => by simp [badAt, lenN, h]
  | p :: ps, l, h => by
    unfold badAt
    split
    · rename_i hd
      have hd : m - l < p.length := of_decide_eq_true hd
      refine ⟨Nat.zero_le _, by simpa [lenN] using h, fun _ => by simpa [lenN] using hd, fun i hi => by omega⟩
    · rename_i hd
      have hd : ¬ m - l < p.length := of_decide_eq_false hd
      obtain ⟨h1, h2, h3, h4⟩ := badAt_spec m ps (l + p.length) (by omega)
      refine ⟨by simp; omega, by rw [lenN_shift]; omega, fun hlt => ?_, fun i hi => ?_⟩
      · rw [lenN_shift]
        have := h3 (by simp at hlt; omega)
        rw [List.getD_cons_succ]
        omega
      · cases i with
        | zero => simpa [lenN] using hd
        | succ i =>
          rw [lenN_shift, List.getD_cons_succ]
          have := h4 i (by omega)
          omega

theorem lenN_mono (ps : List (List Nat)) {i j : Nat} (h : i ≤ j) : lenN ps i ≤ lenN ps j := by
  induction j with
  | zero => have : i = 0 := by omega
            subst this; exact Nat.le_refl _
  | succ j ih =>
    rcases Nat.lt_or_ge i (j + 1) with h' | h'
    · exact Nat.le_trans (ih (by omega)) (by rw [lenN]; omega)
    · have : i = j + 1 := by omega
      subst this; exact Nat.le_refl _

/-- All go in just if their sum is at most m. -/
theorem badAt_all (m : Nat) (ps : List (List Nat)) : badAt m ps 0 = ps.length ↔ lenN ps ps.length ≤ m := by
  obtain ⟨h1, h2, h3, h4⟩ := badAt_spec m ps 0 (Nat.zero_le _)
  constructor
  · intro e; rw [e] at h2; omega
  · intro e
    rcases Nat.lt_or_ge (badAt m ps 0) ps.length with h | h
    · exfalso
      have := h3 h
      have := lenN_mono ps (show badAt m ps 0 + 1 ≤ ps.length by omega)
      rw [lenN] at this
      omega
    · omega

end Go.Proofs.Ytgebgjhjegadpaa

namespace Go.Proofs.Ytgebgjhjegadpaa
open Go

def B32 (xs : List Nat) : Prop := ∀ x ∈ xs, x < 4294967296
def B8 (xs : List Nat) : Prop := ∀ x ∈ xs, x < 256

theorem or_add {a b n : Nat} (h : b < 2 ^ n) : 2 ^ n * a ||| b = 2 ^ n * a + b := (Nat.two_pow_add_eq_or_of_lt h a).symm

theorem rl_eq {x n : Nat} (hx : x < 4294967296) (hn : okRot n = true) : rl64 x n = rl x n ∧ rl x n < 4294967296 := by
  rcases okRot_cases hn with rfl | rfl | rfl | rfl
  · have e : x * 2 ^ 16 % 4294967296 = 2 ^ 16 * (x % 65536) := by omega
    have hb : x / 2 ^ (32 - 16) < 2 ^ 16 := by omega
    have e0 : x * 2 ^ 16 % 18446744073709551616 = x * 2 ^ 16 := Nat.mod_eq_of_lt (by omega)
    unfold rl rl64
    rw [e0, e, or_add hb]
    omega
  · have e : x * 2 ^ 12 % 4294967296 = 2 ^ 12 * (x % 1048576) := by omega
    have hb : x / 2 ^ (32 - 12) < 2 ^ 12 := by omega
    have e0 : x * 2 ^ 12 % 18446744073709551616 = x * 2 ^ 12 := Nat.mod_eq_of_lt (by omega)
    unfold rl rl64
    rw [e0, e, or_add hb]
    omega
  · have e : x * 2 ^ 8 % 4294967296 = 2 ^ 8 * (x % 16777216) := by omega
    have hb : x / 2 ^ (32 - 8) < 2 ^ 8 := by omega
    have e0 : x * 2 ^ 8 % 18446744073709551616 = x * 2 ^ 8 := Nat.mod_eq_of_lt (by omega)
    unfold rl rl64
    rw [e0, e, or_add hb]
    omega
  · have e : x * 2 ^ 7 % 4294967296 = 2 ^ 7 * (x % 33554432) := by omega
    have hb : x / 2 ^ (32 - 7) < 2 ^ 7 := by omega
    have e0 : x * 2 ^ 7 % 18446744073709551616 = x * 2 ^ 7 := Nat.mod_eq_of_lt (by omega)
    unfold rl rl64
    rw [e0, e, or_add hb]
    omega

theorem B32.set {xs : List Nat} (h : B32 xs) (i : Nat) {v : Nat} (hv : v < 4294967296) : B32 (xs.set i v) := fun x hx => by
  rcases List.mem_or_eq_of_mem_set hx with h' | h'
  · exact h x h'
  · subst h'; exact hv

theorem mix1_eq {s : List Nat} (h : B32 s) (i j : Nat) : mix1r s i j = mix1 s i j ∧ B32 (mix1 s i j) := by
  have h1 := getD_lt (by omega) h i
  have h2 := getD_lt (by omega) h j
  unfold mix1r mix1
  generalize s.getD i 0 = u at *
  generalize s.getD j 0 = v at *
  refine ⟨by congr 1; omega, h.set i (by omega)⟩

theorem mix2_eq {s : List Nat} (h : B32 s) (i j : Nat) {n : Nat} (hn : okRot n = true) : mix2r s i j n = mix2 s i j n ∧ B32 (mix2 s i j n) := by
  have h1 := getD_lt (by omega) h i
  have h2 := getD_lt (by omega) h j
  have h3 : s.getD i 0 ^^^ s.getD j 0 < 4294967296 := Nat.xor_lt_two_pow (n := 32) h1 h2
  obtain ⟨h4, h5⟩ := rl_eq h3 hn
  exact ⟨by unfold mix2r mix2; rw [h4], h.set i h5⟩

theorem qr_eq {s : List Nat} (h : B32 s) (a b c d : Nat) : qrr s a b c d = qr s a b c d ∧ B32 (qr s a b c d) := by
  unfold qrr qr
  obtain ⟨e1, b1⟩ := mix1_eq h a b
  obtain ⟨e2, b2⟩ := mix2_eq b1 d a (n := 16) rfl
  obtain ⟨e3, b3⟩ := mix1_eq b2 c d
  obtain ⟨e4, b4⟩ := mix2_eq b3 b c (n := 12) rfl
  obtain ⟨e5, b5⟩ := mix1_eq b4 a b
  obtain ⟨e6, b6⟩ := mix2_eq b5 d a (n := 8) rfl
  obtain ⟨e7, b7⟩ := mix1_eq b6 c d
  obtain ⟨e8, b8⟩ := mix2_eq b7 b c (n := 7) rfl
  rw [e1, e2, e3, e4, e5, e6, e7, e8]
  exact ⟨rfl, b8⟩

theorem dr_eq {s : List Nat} (h : B32 s) : drr s = dr s ∧ B32 (dr s) := by
  unfold drr dr
  obtain ⟨e1, b1⟩ := qr_eq h 0 4 8 12
  obtain ⟨e2, b2⟩ := qr_eq b1 1 5 9 13
  obtain ⟨e3, b3⟩ := qr_eq b2 2 6 10 14
  obtain ⟨e4, b4⟩ := qr_eq b3 3 7 11 15
  obtain ⟨e5, b5⟩ := qr_eq b4 0 5 10 15
  obtain ⟨e6, b6⟩ := qr_eq b5 1 6 11 12
  obtain ⟨e7, b7⟩ := qr_eq b6 2 7 8 13
  obtain ⟨e8, b8⟩ := qr_eq b7 3 4 9 14
  rw [e1, e2, e3, e4, e5, e6, e7, e8]
  exact ⟨rfl, b8⟩

theorem rounds_eq {s : List Nat} (h : B32 s) : ∀ n, roundsR s n = rounds s n ∧ B32 (rounds s n)
  | 0 => ⟨rfl, h⟩
  | n + 1 => by
    obtain ⟨e1, b1⟩ := rounds_eq h n
    obtain ⟨e2, b2⟩ := dr_eq b1
    exact ⟨by rw [roundsR, rounds, e1, e2], b2⟩

set_option maxRecDepth 20000 in
theorem wd_eq {xs : List Nat} (h : B8 xs) (o : Nat) : wd xs o = wK xs o ∧ wd xs o < 4294967296 := by
  have h0 := getD_lt (by omega) h o
  have h1 := getD_lt (by omega) h (o + 1)
  have h2 := getD_lt (by omega) h (o + 2)
  have h3 := getD_lt (by omega) h (o + 3)
  unfold wd wK wR
  generalize xs.getD o 0 = b0 at *
  generalize xs.getD (o + 1) 0 = b1 at *
  generalize xs.getD (o + 2) 0 = b2 at *
  generalize xs.getD (o + 3) 0 = b3 at *
  have e1 : b1 * 2 ^ 8 % 4294967296 = 2 ^ 8 * b1 := by omega
  have e2 : b2 * 2 ^ 16 % 4294967296 = 2 ^ 16 * b2 := by omega
  have e3 : b3 * 2 ^ 24 % 4294967296 = 2 ^ 24 * b3 := (Nat.mod_eq_of_lt (Nat.lt_of_lt_of_le (Nat.mul_lt_mul_of_pos_right h3 (by decide)) (by decide))).trans (Nat.mul_comm _ _)
  rw [e1, e2, e3, Nat.or_comm b0, or_add (by omega), Nat.or_comm _ (2 ^ 16 * b2), or_add (by omega), Nat.or_comm _ (2 ^ 24 * b3), or_add (by omega)]
  omega

theorem st_eq {key nonce : List Nat} {n : Nat} (hk : B8 key) (hn : B8 nonce) (h : n < 4294967296) : stR key nonce n = st0 key nonce n ∧ B32 (st0 key nonce n) := by
  have hw : wR (n % 256 % 256) (n / 256 % 256 % 256) (n / 256 / 256 % 256 % 256) (n / 256 / 256 / 256 % 256 % 256) = n := by unfold wR; omega
  constructor
  · unfold stR st0
    rw [hw]
    simp only [(wd_eq hk _).1, (wd_eq hn _).1]
    rfl
  · intro x hx
    have hkk := fun o => (wd_eq hk o).2
    have hnn := fun o => (wd_eq hn o).2
    simp only [st0, List.mem_cons, List.not_mem_nil, or_false] at hx
    rcases hx with rfl | rfl | rfl | rfl | rfl | rfl | rfl | rfl | rfl | rfl | rfl | rfl | rfl | rfl | rfl | rfl <;> first | omega | exact hkk _ | exact hnn _

theorem out_eq {x s : List Nat} (hx : B32 x) (hs : B32 s) : outR x s = outB x s := by
  have key : ∀ i, outV ((x.getD i 0 + s.getD i 0) % 18446744073709551616 % 4294967296) [] =
      [(x.getD i 0 + s.getD i 0) % 4294967296 / 2 ^ (8 * 0) % 256, (x.getD i 0 + s.getD i 0) % 4294967296 / 2 ^ (8 * 1) % 256, (x.getD i 0 + s.getD i 0) % 4294967296 / 2 ^ (8 * 2) % 256, (x.getD i 0 + s.getD i 0) % 4294967296 / 2 ^ (8 * 3) % 256] := by
    intro i
    have h1 := getD_lt (by omega) hx i
    have h2 := getD_lt (by omega) hs i
    unfold outV
    generalize x.getD i 0 = u at *
    generalize s.getD i 0 = v at *
    have e : (u + v) % 18446744073709551616 % 4294967296 = (u + v) % 4294967296 := by omega
    rw [e]
    generalize (u + v) % 4294967296 = y at *
    congr 1
    · omega
    congr 1
    · omega
    congr 1
    · omega
    congr 1
    omega
  have app : ∀ v r, outV v r = outV v [] ++ r := fun v r => rfl
  unfold outR outB
  simp only [outs]
  rw [app _ (outV _ _)]
  repeat rw [key]
  have hrest : ∀ i r, outV ((x.getD i 0 + s.getD i 0) % 18446744073709551616 % 4294967296) r = [(x.getD i 0 + s.getD i 0) % 4294967296 / 2 ^ (8 * 0) % 256, (x.getD i 0 + s.getD i 0) % 4294967296 / 2 ^ (8 * 1) % 256, (x.getD i 0 + s.getD i 0) % 4294967296 / 2 ^ (8 * 2) % 256, (x.getD i 0 + s.getD i 0) % 4294967296 / 2 ^ (8 * 3) % 256] ++ r := fun i r => by rw [app, key]
  simp only [hrest]
  rfl

theorem blk_eq {key nonce : List Nat} {n : Nat} (hk : B8 key) (hn : B8 nonce) (h : n < 4294967296) : blkR key nonce n = blk key nonce n := by
  obtain ⟨e1, b1⟩ := st_eq hk hn h
  unfold blkR blk
  rw [e1]
  obtain ⟨e2, b2⟩ := rounds_eq b1 10
  rw [e2, out_eq b2 b1]

end Go.Proofs.Ytgebgjhjegadpaa

namespace Go.Proofs.Ytgebgjhjegadpaa
open Go Go.ChangeShapes Go.WideShapes Go.RowKit

def F19 : FSem := ⟨false, fun args hin => match args, hin with
  | [], [] => some (.leaf (.s (.bool true), []))
  | _, _ => none⟩

theorem fn19 : Fn Try.prog 19 Try.f19 := ⟨mixed, Try.func19, by kernel_rfl, of_decide_eq_true (by kernel_rfl)⟩
theorem fn3 : Fn Try.prog 3 Try.f3 := ⟨mixed, Try.func3, by kernel_rfl, of_decide_eq_true (by kernel_rfl)⟩

set_option maxRecDepth 100000 in
theorem r19 : runB Try.prog [(20, F20)] [] .nat 3 Try.f19 [] [] = some (.s (.bool true), []) := by kernel_rfl

theorem ok19 : FOk Try.prog 19 F19 := by
  refine fokB (fs := [(20, F20)]) (xs := []) (m := .nat) (fuel := 3) (.cons ok20 .nil) fn19 ?_
  intro args hin t r h hg
  unfold F19 at h
  simp only at h
  split at h
  · cases h; cases hg
    exact r19
  · cases h

set_option maxRecDepth 100000 in
theorem r3 (key nonce : List Nat) (n : Nat) : runB Try.prog [(19, F19), (20, F20), (21, F21)] [] .nat 3 Try.f3 [.agg [.ints .u8 32 key], .agg [.ints .u8 12 nonce], .s (.nat .u32 n)] [] = some (.s (.bool (decide (blk key nonce n = blkR key nonce n))), []) := by kernel_rfl

end Go.Proofs.Ytgebgjhjegadpaa

namespace Go.Proofs.Ytgebgjhjegadpaa
open Go

def okLens (pss : List (List Nat)) : Bool := pss.all fun p => decide (p.length < 9223372036854775808)

def slN (pss : List (List Nat)) (i : Nat) : AV := .s (.sl .whole 0 0 (lenN pss i) 1)
def hsN (pss : List (List Nat)) (i : Nat) : List (Option Blk) := [some [.ints .u8 (lenN pss i) (catN pss i)]]

def S0 : LSem := ⟨[15, 16, 17, 10], [10, 8, 9], fun args hin => match args, hin with
  | [.s (.xsl (.bss pss)), .s (.nat .i64 n), .s (.nat .i64 0), .s .nil], [] =>
    some (Tr.needs [decide (n = pss.length), decide (n < 9223372036854775808), okLens pss]
      (.br (decide (badAt 16777216 pss 0 = pss.length))
        (.br (decide (pss.length = 0)) (.leaf (.normal, [.s .nil, .any, .any], [])) (.leaf (.normal, [.s (.sl .whole 0 0 (lenN pss pss.length) 1), .any, .any], [some [.ints .u8 (lenN pss pss.length) (catN pss pss.length)]])))
        (.br (decide (badAt 16777216 pss 0 = 0)) (.leaf (.ret, [.s .nil, .s .nil, .s (.nat .i64 2)], []))
          (.leaf (.ret, [.s (.sl .whole 0 0 (lenN pss (badAt 16777216 pss 0)) 1), .s .nil, .s (.nat .i64 2)], [some [.ints .u8 (lenN pss (badAt 16777216 pss 0)) (catN pss (badAt 16777216 pss 0))]])))))
  | _, _ => none⟩

set_option maxRecDepth 100000 in
theorem rA0 (pss : List (List Nat)) (n : Nat) : runR Try.prog [] [] .nat 3 [] Try.f22 0 S0 0 [.s (.xsl (.bss pss)), .s (.nat .i64 n), .s (.nat .i64 0), .s .nil] [] =
    cond (decide (0 < n)) (nd [decide (0 < pss.length), decide (0 < pss.length), decide ((pss.getD 0 []).length < 9223372036854775808)]
      (cond (decide (16777216 - 0 < (pss.getD 0 []).length)) (some (.ret, [.s .nil, .s .nil, .s (.nat .i64 2)], []))
        (nd [decide ((pss.getD 0 []).length ≤ 4398046511104)] (some (.normal, [.s (.xsl (.bss pss)), .s (.nat .i64 n), .s (.nat .i64 (0 + 1)), .s (.sl .whole 0 0 (pss.getD 0 []).length 1)], [some [.ints .u8 (pss.getD 0 []).length (pss.getD 0 [])]])))))
      (some (.exit 0, [.s .nil, .any, .any], [])) := by kernel_rfl

set_option maxRecDepth 100000 in
theorem rA (pss : List (List Nat)) (n j l : Nat) (xs : List Nat) : runR Try.prog [] [] .nat 3 [] Try.f22 0 S0 0 [.s (.xsl (.bss pss)), .s (.nat .i64 n), .s (.nat .i64 j), .s (.sl .whole 0 0 l 1)] [some [.ints .u8 l xs]] =
    cond (decide (j < n)) (nd [decide (j < pss.length), decide (j < pss.length), decide ((pss.getD j []).length < 9223372036854775808), decide (l < 9223372036854775808), decide (l ≤ 16777216)]
      (cond (decide (16777216 - l < (pss.getD j []).length)) (some (.ret, [.s (.sl .whole 0 0 l 1), .s .nil, .s (.nat .i64 2)], [some [.ints .u8 l xs]]))
        (nd [decide (l = l), decide (l + (pss.getD j []).length ≤ 4398046511104), decide (j + 1 < 9223372036854775808)]
          (some (.normal, [.s (.xsl (.bss pss)), .s (.nat .i64 n), .s (.nat .i64 (j + 1)), .s (.sl .whole 0 0 (l + (pss.getD j []).length) 1)], [some [.ints .u8 (l + (pss.getD j []).length) (xs ++ pss.getD j [])]])))))
      (some (.exit 0, [.s (.sl .whole 0 0 l 1), .any, .any], [some [.ints .u8 l xs]])) := by kernel_rfl

theorem okLens_get {pss : List (List Nat)} (h : okLens pss = true) (j : Nat) : (pss.getD j []).length < 9223372036854775808 := by
  rw [List.getD]
  cases hj : pss[j]? with
  | none => simp
  | some p =>
    have := List.all_eq_true.1 h p (List.mem_of_getElem? hj)
    simpa using this

def A22 (pss : List (List Nat)) : Nat → List AV × List (Option Blk)
  | 0 => ([.s (.xsl (.bss pss)), .s (.nat .i64 pss.length), .s (.nat .i64 0), .s .nil], [])
  | i + 1 => ([.s (.xsl (.bss pss)), .s (.nat .i64 pss.length), .s (.nat .i64 (i + 1)), slN pss (i + 1)], hsN pss (i + 1))

theorem stepA {pss : List (List Nat)} (hl : pss.length < 9223372036854775808) (hk : okLens pss = true) (i : Nat) (hi : i < badAt 16777216 pss 0) :
    runR Try.prog [] [] .nat 3 [] Try.f22 0 S0 0 (A22 pss i).1 (A22 pss i).2 = some (.normal, A22 pss (i + 1)) := by
  obtain ⟨h1, h2, h3, h4⟩ := badAt_spec 16777216 pss 0 (Nat.zero_le _)
  have h5 := h4 i hi
  have h6 := okLens_get hk i
  have h7 := lenN_mono pss (show i + 1 ≤ badAt 16777216 pss 0 by omega)
  rw [lenN] at h7
  cases i with
  | zero =>
    simp only [A22]
    rw [rA0, decide_eq_true (by omega : 0 < pss.length), cond_true, nd_true, decide_eq_false (by simp only [lenN] at h5; omega), cond_false, nd_true]
    · simp only [slN, hsN, lenN, catN, Nat.zero_add, List.nil_append]
    · intro c hc
      simp only [List.mem_cons, List.not_mem_nil, or_false] at hc
      subst hc
      simp only [lenN] at h5
      exact decide_eq_true (by omega)
    · intro c hc
      simp only [List.mem_cons, List.not_mem_nil, or_false] at hc
      rcases hc with rfl | rfl | rfl <;> first | rfl | exact decide_eq_true (by omega)
  | succ i =>
    simp only [A22, slN, hsN]
    rw [rA, decide_eq_true (by omega : i + 1 < pss.length), cond_true, nd_true, decide_eq_false (by omega : ¬ (16777216 - lenN pss (i + 1) < (pss.getD (i + 1) []).length)), cond_false, nd_true]
    · rfl
    · intro c hc
      simp only [List.mem_cons, List.not_mem_nil, or_false] at hc
      rcases hc with rfl | rfl | rfl <;> first | rfl | exact decide_eq_true (by omega)
    · intro c hc
      simp only [List.mem_cons, List.not_mem_nil, or_false] at hc
      rcases hc with rfl | rfl | rfl | rfl | rfl <;> first | rfl | exact decide_eq_true (by omega)

theorem lok0 : LOk Try.prog Try.f22.ntmps (.block 0 (.loop (lb 0 Try.f22))) S0 := by
  refine lokR (fs := []) (xs := []) (m := .nat) (fuel := 3) (sums := []) EnvOk.nil mixed (loopsOk_none rfl _) ?_
  intro args hin t e vs hout h hg
  unfold S0 at h
  simp only at h
  split at h
  rotate_left
  · cases h
  rename_i pss n
  simp only [Option.some.injEq] at h
  subst h
  obtain ⟨hc, hgt⟩ := Tr.needs_get hg
  clear hg
  have e1 : n = pss.length := of_decide_eq_true (hc _ (by simp))
  subst e1
  have hl : pss.length < 9223372036854775808 := of_decide_eq_true (hc (decide (pss.length < 9223372036854775808)) (by simp))
  have hk : okLens pss = true := hc _ (by simp)
  obtain ⟨h1, h2, h3, h4⟩ := badAt_spec 16777216 pss 0 (Nat.zero_le _)
  refine ⟨badAt 16777216 pss 0, A22 pss, ?_⟩
  simp only [List.length_nil]
  simp only [Tr.get] at hgt
  have hstep : ∀ i, i < badAt 16777216 pss 0 → runR Try.prog [] [] .nat 3 [] Try.f22 0 S0 0 (A22 pss i).1 (A22 pss i).2 = some (.normal, A22 pss (i + 1)) := fun i hi => stepA hl hk i hi
  have hlast : ∀ j, badAt 16777216 pss 0 = j + 1 → runR Try.prog [] [] .nat 3 [] Try.f22 0 S0 0 (A22 pss (badAt 16777216 pss 0)).1 (A22 pss (badAt 16777216 pss 0)).2 =
      cond (decide (badAt 16777216 pss 0 < pss.length)) (some (.ret, [slN pss (badAt 16777216 pss 0), .s .nil, .s (.nat .i64 2)], hsN pss (badAt 16777216 pss 0))) (some (.exit 0, [slN pss (badAt 16777216 pss 0), .any, .any], hsN pss (badAt 16777216 pss 0))) := by
    intro j hj
    rw [hj] at h1 h2 h3 ⊢
    simp only [A22, slN, hsN]
    rw [rA]
    by_cases hlt : j + 1 < pss.length
    · have h6 := okLens_get hk (j + 1)
      have h7 := h3 hlt
      rw [decide_eq_true hlt, cond_true, cond_true, nd_true, decide_eq_true (by omega : 16777216 - lenN pss (j + 1) < (pss.getD (j + 1) []).length), cond_true]
      intro c hc
      simp only [List.mem_cons, List.not_mem_nil, or_false] at hc
      rcases hc with rfl | rfl | rfl | rfl | rfl <;> first | rfl | exact decide_eq_true (by omega)
    · rw [decide_eq_false hlt, cond_false, cond_false]
  cases hb : decide (badAt 16777216 pss 0 = pss.length) with
  | true =>
    have hb := of_decide_eq_true hb
    rw [decide_eq_true hb, cond_true] at hgt
    cases hz : decide (pss.length = 0) with
    | true =>
      have hz' := of_decide_eq_true hz
      rw [hz, cond_true] at hgt
      cases hgt
      refine ⟨.exit 0, rfl, hstep, ?_, rfl⟩
      rw [hb, hz']
      simp only [A22]
      rw [rA0, decide_eq_false (by omega), cond_false]
    | false =>
      have hz' := of_decide_eq_false hz
      rw [hz, cond_false] at hgt
      cases hgt
      refine ⟨.exit 0, rfl, hstep, ?_, rfl⟩
      rw [hlast (pss.length - 1) (by omega), decide_eq_false (by omega), cond_false, hb]
      rfl
  | false =>
    have hb := of_decide_eq_false hb
    rw [decide_eq_false hb, cond_false] at hgt
    cases hz : decide (badAt 16777216 pss 0 = 0) with
    | true =>
      have hz' := of_decide_eq_true hz
      rw [hz, cond_true] at hgt
      cases hgt
      refine ⟨.ret, rfl, hstep, ?_, rfl⟩
      have h7 := h3 (by omega)
      rw [hz'] at h7 ⊢
      have h6 := okLens_get hk 0
      simp only [A22]
      simp only [lenN] at h7
      rw [rA0, decide_eq_true (by omega : 0 < pss.length), cond_true, nd_true, decide_eq_true (by omega : 16777216 - 0 < (pss.getD 0 []).length), cond_true]
      intro c hc
      simp only [List.mem_cons, List.not_mem_nil, or_false] at hc
      rcases hc with rfl | rfl | rfl <;> first | rfl | exact decide_eq_true (by omega)
    | false =>
      have hz' := of_decide_eq_false hz
      rw [hz, cond_false] at hgt
      cases hgt
      refine ⟨.ret, rfl, hstep, ?_, rfl⟩
      rw [hlast (badAt 16777216 pss 0 - 1) (by omega), decide_eq_true (by omega), cond_true]
      rfl

end Go.Proofs.Ytgebgjhjegadpaa

namespace Go.Proofs.Ytgebgjhjegadpaa
open Go

/-- The block at hand and the bytes, j of them mixed. -/
def mcur (key nonce : List Nat) (c : Nat) (cur : List Nat) (j : Nat) : List Nat :=
  match decide (j % 64 = 0) with
  | true => blk key nonce ((c + j / 64 % 4294967296) % 4294967296)
  | false => cur

def mrun (key nonce : List Nat) (c : Nat) (cur xs : List Nat) : Nat → List Nat × List Nat
  | 0 => (cur, xs)
  | j + 1 => (mcur key nonce c (mrun key nonce c cur xs j).1 j, (mrun key nonce c cur xs j).2.set j ((mrun key nonce c cur xs j).2.getD j 0 ^^^ (mcur key nonce c (mrun key nonce c cur xs j).1 j).getD (j % 64) 0))

def S2 : LSem := ⟨[4, 5, 2, 13, 10, 32, 33], [10], fun args hin => match args, hin with
  | [.s (.ptr 0 0), .s (.ptr 1 0), .s (.nat .u32 c), .s (.ptr 2 0), .s (.sl .whole 3 0 l 1), .s (.nat .i64 n), .s (.nat .i64 0)], [[.ints .u8 32 key], [.ints .u8 12 nonce], [.ints .u8 64 cur], [.ints .u8 m xs]] =>
    some (Tr.needs [decide (n = l), decide (m = l), decide (l < 9223372036854775808)]
      (.leaf (.normal, [.s (.sl .whole 3 0 l 1)], [some [.ints .u8 32 key], some [.ints .u8 12 nonce], some [.ints .u8 64 (mrun key nonce c cur xs l).1], some [.ints .u8 l (mrun key nonce c cur xs l).2]])))
  | [.s (.ptr 0 0), .s (.ptr 1 0), .s (.nat .u32 _), .s (.ptr 2 0), .s .nil, .s (.nat .i64 0), .s (.nat .i64 0)], [[.ints .u8 32 key], [.ints .u8 12 nonce], [.ints .u8 64 cur]] =>
    some (.leaf (.normal, [.s .nil], [some [.ints .u8 32 key], some [.ints .u8 12 nonce], some [.ints .u8 64 cur]]))
  | _, _ => none⟩

set_option maxRecDepth 100000 in
theorem rB (key nonce cur xs : List Nat) (c n j l : Nat) : runR Try.prog [(20, F20)] [] .nat 3 [] Try.f22 2 S2 4 [.s (.ptr 0 0), .s (.ptr 1 0), .s (.nat .u32 c), .s (.ptr 2 0), .s (.sl .whole 3 0 l 1), .s (.nat .i64 n), .s (.nat .i64 j)] [some [.ints .u8 32 key], some [.ints .u8 12 nonce], some [.ints .u8 64 cur], some [.ints .u8 l xs]] =
    cond (decide (j < n)) (cond (decide (j % 64 = 0))
        (nd [decide (j < l), decide (j < l), decide (j % 64 < 64), decide (j % 64 < 64), decide (j < l), decide (j < l), decide (j + 1 < 9223372036854775808)]
          (some (.normal, [.s (.ptr 0 0), .s (.ptr 1 0), .s (.nat .u32 c), .s (.ptr 2 0), .s (.sl .whole 3 0 l 1), .s (.nat .i64 n), .s (.nat .i64 (j + 1))], [some [.ints .u8 32 key], some [.ints .u8 12 nonce], some [.ints .u8 64 (blk key nonce ((c + j / 64 % 4294967296) % 4294967296))],
            some [.ints .u8 l (xs.set j (xs.getD j 0 ^^^ (blk key nonce ((c + j / 64 % 4294967296) % 4294967296)).getD (j % 64) 0))]])))
        (nd [decide (j < l), decide (j < l), decide (j % 64 < 64), decide (j % 64 < 64), decide (j < l), decide (j < l), decide (j + 1 < 9223372036854775808)]
          (some (.normal, [.s (.ptr 0 0), .s (.ptr 1 0), .s (.nat .u32 c), .s (.ptr 2 0), .s (.sl .whole 3 0 l 1), .s (.nat .i64 n), .s (.nat .i64 (j + 1))], [some [.ints .u8 32 key], some [.ints .u8 12 nonce], some [.ints .u8 64 cur],
            some [.ints .u8 l (xs.set j (xs.getD j 0 ^^^ cur.getD (j % 64) 0))]]))))
      (some (.exit 2, [.s (.sl .whole 3 0 l 1)], [some [.ints .u8 32 key], some [.ints .u8 12 nonce], some [.ints .u8 64 cur], some [.ints .u8 l xs]])) := by kernel_rfl

set_option maxRecDepth 100000 in
theorem rB0 (key nonce cur : List Nat) (c : Nat) : runR Try.prog [(20, F20)] [] .nat 3 [] Try.f22 2 S2 3 [.s (.ptr 0 0), .s (.ptr 1 0), .s (.nat .u32 c), .s (.ptr 2 0), .s .nil, .s (.nat .i64 0), .s (.nat .i64 0)] [some [.ints .u8 32 key], some [.ints .u8 12 nonce], some [.ints .u8 64 cur]] =
    some (.exit 2, [.s .nil], [some [.ints .u8 32 key], some [.ints .u8 12 nonce], some [.ints .u8 64 cur]]) := by kernel_rfl

theorem nd7 {j l : Nat} (h : j < l) (hl : l < 9223372036854775808) {α : Type} (x : Option α) : nd [decide (j < l), decide (j < l), decide (j % 64 < 64), decide (j % 64 < 64), decide (j < l), decide (j < l), decide (j + 1 < 9223372036854775808)] x = x := by
  refine nd_true fun c hc => ?_
  simp only [List.mem_cons, List.not_mem_nil, or_false] at hc
  rcases hc with rfl | rfl | rfl | rfl | rfl | rfl | rfl <;> exact decide_eq_true (by omega)

def A22b (key nonce : List Nat) (c l : Nat) (cur xs : List Nat) (i : Nat) : List AV × List (Option Blk) :=
  ([.s (.ptr 0 0), .s (.ptr 1 0), .s (.nat .u32 c), .s (.ptr 2 0), .s (.sl .whole 3 0 l 1), .s (.nat .i64 l), .s (.nat .i64 i)],
    [some [.ints .u8 32 key], some [.ints .u8 12 nonce], some [.ints .u8 64 (mrun key nonce c cur xs i).1], some [.ints .u8 l (mrun key nonce c cur xs i).2]])

theorem lok2 : LOk Try.prog Try.f22.ntmps (.block 2 (.loop (lb 2 Try.f22))) S2 := by
  refine lokR (fs := [(20, F20)]) (xs := []) (m := .nat) (fuel := 3) (sums := []) (.cons ok20 .nil) mixed (loopsOk_none rfl _) ?_
  intro args hin t e vs hout h hg
  unfold S2 at h
  simp only at h
  split at h
  · rename_i c l n key nonce cur m xs
    simp only [Option.some.injEq] at h
    subst h
    obtain ⟨hc, hgt⟩ := Tr.needs_get hg
    clear hg
    have e1 : n = l := of_decide_eq_true (hc _ (by simp))
    have e2 : m = l := of_decide_eq_true (hc (decide (m = l)) (by simp))
    have hl : l < 9223372036854775808 := of_decide_eq_true (hc (decide (l < 9223372036854775808)) (by simp))
    clear hc
    subst e1; subst e2
    cases hgt
    refine ⟨m, A22b key nonce c m cur xs, .exit 2, rfl, fun i hi => ?_, ?_, rfl⟩
    · simp only [A22b, mrun, List.length_cons, List.length_nil]
      rw [rB, nd7 hi hl, nd7 hi hl, decide_eq_true hi, cond_true]
      unfold mcur
      cases decide (i % 64 = 0) <;> rfl
    · simp only [A22b, List.length_cons, List.length_nil]
      rw [rB, decide_eq_false (Nat.lt_irrefl _), cond_false]
  · rename_i c key nonce cur
    cases h
    cases hg
    exact ⟨0, fun _ => ([.s (.ptr 0 0), .s (.ptr 1 0), .s (.nat .u32 _), .s (.ptr 2 0), .s .nil, .s (.nat .i64 0), .s (.nat .i64 0)], [some [.ints .u8 32 key], some [.ints .u8 12 nonce], some [.ints .u8 64 cur]]), .exit 2, rfl, fun i hi => by omega, rB0 _ _ _ _, rfl⟩
  · cases h

end Go.Proofs.Ytgebgjhjegadpaa

namespace Go.Proofs.Ytgebgjhjegadpaa
open Go

def zeros64 : List Nat := [0, 0, 0, 0, 0, 0, 0, 0, 0, 0, 0, 0, 0, 0, 0, 0, 0, 0, 0, 0, 0, 0, 0, 0, 0, 0, 0, 0, 0, 0, 0, 0, 0, 0, 0, 0, 0, 0, 0, 0, 0, 0, 0, 0, 0, 0, 0, 0, 0, 0, 0, 0, 0, 0, 0, 0, 0, 0, 0, 0, 0, 0, 0, 0]

def mixC (key nonce : List Nat) (c : Nat) (xs : List Nat) (l : Nat) : List Nat := (mrun key nonce c zeros64 xs l).2

def F22 : FSem := ⟨true, fun args hin => match args, hin with
  | [.agg [.ints .u8 32 key], .agg [.ints .u8 12 nonce], .s (.nat .u32 c), .s (.xsl (.bss pss))], [] =>
    some (Tr.needs [decide (pss.length < 9223372036854775808), okLens pss]
      (.br (decide (lenN pss pss.length ≤ 16777216))
        (.br (decide (pss.length = 0)) (.leaf (.tup [.s .nil, .s (.nat .i64 0)], []))
          (.leaf (.tup [.s (.sl .whole 0 0 (lenN pss pss.length) 1), .s (.nat .i64 0)], [some [.ints .u8 (lenN pss pss.length) (mixC key nonce c (catN pss pss.length) (lenN pss pss.length))]])))
        (.leaf (.tup [.s .nil, .s (.nat .i64 2)], []))))
  | _, _ => none⟩

theorem fn22 : Fn Try.prog 22 Try.f22 := ⟨mixed, Try.func22, by kernel_rfl, of_decide_eq_true (by kernel_rfl)⟩

set_option maxRecDepth 100000 in
theorem r22 (key nonce : List Nat) (c : Nat) (pss : List (List Nat)) : runL Try.prog [(20, F20)] [] .nat 3 [(0, S0), (2, S2)] Try.f22 [.agg [.ints .u8 32 key], .agg [.ints .u8 12 nonce], .s (.nat .u32 c), .s (.xsl (.bss pss))] [] =
    nd [decide (pss.length < 9223372036854775808), decide (pss.length = pss.length), decide (pss.length < 9223372036854775808), okLens pss]
      (cond (decide (badAt 16777216 pss 0 = pss.length))
        (cond (decide (pss.length = 0)) (some (.tup [.s .nil, .s (.nat .i64 0)], []))
          (nd [decide (lenN pss pss.length < 9223372036854775808), decide (lenN pss pss.length = lenN pss pss.length), decide (lenN pss pss.length = lenN pss pss.length), decide (lenN pss pss.length < 9223372036854775808)]
            (some (.tup [.s (.sl .whole 0 0 (lenN pss pss.length) 1), .s (.nat .i64 0)], [some [.ints .u8 (lenN pss pss.length) (mixC key nonce c (catN pss pss.length) (lenN pss pss.length))]]))))
        (cond (decide (badAt 16777216 pss 0 = 0)) (some (.tup [.s .nil, .s (.nat .i64 2)], [])) (some (.tup [.s .nil, .s (.nat .i64 2)], [])))) := by kernel_rfl

theorem loops22 : LoopsOk Try.prog ⟨Try.f22.ntmps, 3, [(0, S0), (2, S2)]⟩ (bodyOf Try.f22) := by
  refine loopsOk_of ?_
  have e : loopsIn [(0, S0), (2, S2)] (bodyOf Try.f22) = [(0, .loop (lb 0 Try.f22), S0), (2, .loop (lb 2 Try.f22), S2)] := by kernel_rfl
  simp only [e]
  intro x hx
  simp only [List.mem_cons, List.not_mem_nil, or_false] at hx
  rcases hx with rfl | rfl
  · exact lok0
  · exact lok2

theorem ok22 : FOk Try.prog 22 F22 := by
  refine fokL (fs := [(20, F20)]) (xs := []) (m := .nat) (fuel := 3) (sums := [(0, S0), (2, S2)]) (.cons ok20 .nil) fn22 loops22 ?_
  intro args hin t r h hg
  unfold F22 at h
  simp only at h
  split at h
  rotate_left
  · cases h
  rename_i key nonce c pss
  simp only [Option.some.injEq] at h
  subst h
  obtain ⟨hc, hgt⟩ := Tr.needs_get hg
  clear hg
  have hl : pss.length < 9223372036854775808 := of_decide_eq_true (hc _ (by simp))
  have hk : okLens pss = true := hc _ (by simp)
  clear hc
  rw [r22, nd_true]
  · simp only [Tr.get] at hgt
    by_cases hs : lenN pss pss.length ≤ 16777216
    · rw [decide_eq_true ((badAt_all 16777216 pss).2 hs), cond_true]
      rw [decide_eq_true hs, cond_true] at hgt
      rw [nd_true]
      · exact hgt
      · intro d hd
        simp only [List.mem_cons, List.not_mem_nil, or_false] at hd
        rcases hd with rfl | rfl | rfl | rfl <;> first | exact decide_eq_true (by omega) | simp
    · rw [decide_eq_false (fun e => hs ((badAt_all 16777216 pss).1 e)), cond_false]
      rw [decide_eq_false hs, cond_false] at hgt
      cases decide (badAt 16777216 pss 0 = 0) <;> exact hgt
  · intro d hd
    simp only [List.mem_cons, List.not_mem_nil, or_false] at hd
    rcases hd with rfl | rfl | rfl | rfl
    · exact decide_eq_true hl
    · simp
    · exact decide_eq_true hl
    · exact hk

/-! What mixing does. -/
def mixAt (key nonce : List Nat) (c : Nat) (xs : List Nat) (i : Nat) : Nat := xs.getD i 0 ^^^ (blk key nonce ((c + i / 64 % 4294967296) % 4294967296)).getD (i % 64) 0

theorem mrun_spec (key nonce : List Nat) (c : Nat) (xs : List Nat) : ∀ j, (mrun key nonce c zeros64 xs j).2.length = xs.length ∧ (∀ i, (mrun key nonce c zeros64 xs j).2.getD i 0 = if i < j ∧ i < xs.length then mixAt key nonce c xs i else xs.getD i 0) ∧
    (0 < j → (mrun key nonce c zeros64 xs j).1 = blk key nonce ((c + (j - 1) / 64 % 4294967296) % 4294967296))
  | 0 => ⟨rfl, fun i => by simp [mrun], fun h => by omega⟩
  | j + 1 => by
    obtain ⟨h1, h2, h3⟩ := mrun_spec key nonce c xs j
    have hcur : mcur key nonce c (mrun key nonce c zeros64 xs j).1 j = blk key nonce ((c + j / 64 % 4294967296) % 4294967296) := by
      unfold mcur
      cases hd : decide (j % 64 = 0) with
      | true => rfl
      | false =>
        have hd := of_decide_eq_false hd
        simp only
        rw [h3 (by omega), show (j - 1) / 64 = j / 64 by omega]
    simp only [mrun, hcur]
    refine ⟨by simp [h1], fun i => ?_, fun _ => by simp⟩
    by_cases hi : i = j
    · subst hi
      by_cases hl : i < xs.length
      · rw [if_pos ⟨by omega, hl⟩, List.getD, List.getElem?_set_self (by omega), Option.getD_some, h2 i, if_neg (by omega)]
        rfl
      · rw [if_neg (fun h => hl h.2), List.getD, List.getElem?_eq_none (by simp; omega), List.getD, List.getElem?_eq_none (by omega)]
    · have e : ∀ v, ((mrun key nonce c zeros64 xs j).2.set j v).getD i 0 = (mrun key nonce c zeros64 xs j).2.getD i 0 := fun v => by
        rw [List.getD, List.getElem?_set_ne (fun h => hi h.symm), List.getD]
      rw [e, h2 i]
      by_cases h : i < j ∧ i < xs.length
      · rw [if_pos h, if_pos ⟨by omega, h.2⟩]
      · rw [if_neg h, if_neg (by omega)]

theorem mixC_len (key nonce : List Nat) (c : Nat) (xs : List Nat) (l : Nat) : (mixC key nonce c xs l).length = xs.length := (mrun_spec key nonce c xs l).1

theorem mixC_get (key nonce : List Nat) (c : Nat) (xs : List Nat) {l i : Nat} (h : i < l) (hx : i < xs.length) : (mixC key nonce c xs l).getD i 0 = mixAt key nonce c xs i := by
  rw [mixC, (mrun_spec key nonce c xs l).2.1 i, if_pos ⟨h, hx⟩]

end Go.Proofs.Ytgebgjhjegadpaa

namespace Go.Proofs.Ytgebgjhjegadpaa
open Go

theorem mixedP : Try.prog.follows .mixedOrders = true := by kernel_rfl

def ct (x c : Nat) : Nat := (x + c) % 18446744073709551616

def carrO (t0 t1 t2 t3 t4 : Nat) : List Nat :=
  [((t0 &&& 67108863) + 5 * (t4 / 2 ^ 26) % 18446744073709551616) % 18446744073709551616, t1 &&& 67108863, t2 &&& 67108863, t3 &&& 67108863, t4 &&& 67108863]

def carr5 (a b c d e : Nat) : List Nat :=
  (fun t0 => (fun t1 => (fun t2 => (fun t3 => carrO t0 t1 t2 t3 (ct e (t3 / 2 ^ 26))) (ct d (t2 / 2 ^ 26))) (ct c (t1 / 2 ^ 26))) (ct b (t0 / 2 ^ 26))) (ct a 0)

def carr (x : List Nat) : List Nat := carr5 (x.getD 0 0) (x.getD 1 0) (x.getD 2 0) (x.getD 3 0) (x.getD 4 0)

theorem five {x : List Nat} (h : x.length = 5) : ∃ a b c d e, x = [a, b, c, d, e] := by
  match x, h with
  | [a, b, c, d, e], _ => exact ⟨a, b, c, d, e, rfl⟩

def F46 : FSem := ⟨false, fun args hin => match args, hin with
  | [.agg [.ints .u64 5 x]], [] => some (.need (decide (x.length = 5)) (.leaf (.agg [.ints .u64 5 (carr x)], [])))
  | _, _ => none⟩

theorem fn46 : Fn Try.prog 46 Try.f46 := ⟨mixedP, Try.func46, by kernel_rfl, of_decide_eq_true (by kernel_rfl)⟩

set_option maxRecDepth 100000 in
theorem r46 (a b c d e : Nat) : runB Try.prog [] [] .nat 7 Try.f46 [.agg [.ints .u64 5 [a, b, c, d, e]]] [] = some (.agg [.ints .u64 5 (carr [a, b, c, d, e])], []) := by kernel_rfl

theorem ok46 : FOk Try.prog 46 F46 := by
  refine fokB (fs := []) (xs := []) (m := .nat) (fuel := 7) EnvOk.nil fn46 ?_
  intro args hin t r h hg
  unfold F46 at h
  simp only at h
  split at h
  · rename_i x
    cases h
    simp only [Tr.get] at hg
    cases hl : decide (x.length = 5) with
    | false => rw [hl] at hg; cases hg
    | true =>
      rw [hl] at hg; cases hg
      obtain ⟨a, b, c, d, e, rfl⟩ := five (of_decide_eq_true hl)
      exact r46 a b c d e
  · cases h

def ad (o t : Nat) : Nat := (o + t) % 18446744073709551616
def pl (a b : Nat) : Nat := a * b % 18446744073709551616
def p5 (a b : Nat) : Nat := 5 * a % 18446744073709551616 * b % 18446744073709551616

def times5 (x0 x1 x2 x3 x4 y0 y1 y2 y3 y4 : Nat) : List Nat :=
  [ad (ad (ad (ad (ad 0 (pl x0 y0)) (p5 x1 y4)) (p5 x2 y3)) (p5 x3 y2)) (p5 x4 y1),
    ad (ad (ad (ad (ad 0 (pl x0 y1)) (pl x1 y0)) (p5 x2 y4)) (p5 x3 y3)) (p5 x4 y2),
    ad (ad (ad (ad (ad 0 (pl x0 y2)) (pl x1 y1)) (pl x2 y0)) (p5 x3 y4)) (p5 x4 y3),
    ad (ad (ad (ad (ad 0 (pl x0 y3)) (pl x1 y2)) (pl x2 y1)) (pl x3 y0)) (p5 x4 y4),
    ad (ad (ad (ad (ad 0 (pl x0 y4)) (pl x1 y3)) (pl x2 y2)) (pl x3 y1)) (pl x4 y0)]

def timesL (x y : List Nat) : List Nat := times5 (x.getD 0 0) (x.getD 1 0) (x.getD 2 0) (x.getD 3 0) (x.getD 4 0) (y.getD 0 0) (y.getD 1 0) (y.getD 2 0) (y.getD 3 0) (y.getD 4 0)

def F37 : FSem := ⟨false, fun args hin => match args, hin with
  | [.agg [.ints .u64 5 x], .agg [.ints .u64 5 y]], [] => some (.need (decide (x.length = 5)) (.need (decide (y.length = 5)) (.leaf (.agg [.ints .u64 5 (carr (carr (timesL x y)))], []))))
  | _, _ => none⟩

theorem fn37 : Fn Try.prog 37 Try.f37 := ⟨mixedP, Try.func37, by kernel_rfl, of_decide_eq_true (by kernel_rfl)⟩

set_option maxRecDepth 100000 in
theorem r37 (a b c d e a' b' c' d' e' : Nat) : runB Try.prog [(46, F46)] [] .nat 7 Try.f37 [.agg [.ints .u64 5 [a, b, c, d, e]], .agg [.ints .u64 5 [a', b', c', d', e']]] [] = some (.agg [.ints .u64 5 (carr (carr (timesL [a, b, c, d, e] [a', b', c', d', e'])))], []) := by kernel_rfl

theorem ok37 : FOk Try.prog 37 F37 := by
  refine fokB (fs := [(46, F46)]) (xs := []) (m := .nat) (fuel := 7) (.cons ok46 .nil) fn37 ?_
  intro args hin t r h hg
  unfold F37 at h
  simp only at h
  split at h
  · rename_i x y
    cases h
    simp only [Tr.get] at hg
    cases hl : decide (x.length = 5) with
    | false => rw [hl] at hg; cases hg
    | true =>
      rw [hl] at hg
      cases hl2 : decide (y.length = 5) with
      | false => rw [hl2] at hg; cases hg
      | true =>
        rw [hl2] at hg; cases hg
        obtain ⟨a, b, c, d, e, rfl⟩ := five (of_decide_eq_true hl)
        obtain ⟨a', b', c', d', e', rfl⟩ := five (of_decide_eq_true hl2)
        exact r37 a b c d e a' b' c' d' e'
  · cases h

end Go.Proofs.Ytgebgjhjegadpaa

namespace Go.Proofs.Ytgebgjhjegadpaa
open Go

theorem nd_of {α : Type} {cs : List Bool} {x r : Option α} (hc : ∀ c ∈ cs, c = true) (h : x = r) : nd cs x = r := by
  rw [nd_true hc, h]

theorem cond_t {α : Type} {c : Bool} {x y r : Option α} (hc : c = true) (h : x = r) : cond c x y = r := by
  rw [hc, cond_true, h]

theorem cond_f {α : Type} {c : Bool} {x y r : Option α} (hc : c = false) (h : y = r) : cond c x y = r := by
  rw [hc, cond_false, h]

def numStep1 (x : List Nat) (j v : Nat) : List Nat :=
  x.set (8 * j / 26) (x.getD (8 * j / 26) 0 ||| v * 2 ^ (8 * j % 26) % 18446744073709551616 &&& 67108863)

def numStep2 (x : List Nat) (j v : Nat) : List Nat :=
  x.set (8 * j / 26 + 1) (x.getD (8 * j / 26 + 1) 0 ||| v / 2 ^ (26 - 8 * j % 26))

def numStep (x : List Nat) (j v : Nat) : List Nat :=
  if 18 < 8 * j % 26 ∧ 8 * j / 26 < 4 then numStep2 (numStep1 x j v) j v else numStep1 x j v

def numN (xs : List Nat) : Nat → List Nat
  | 0 => [0, 0, 0, 0, 0]
  | j + 1 => numStep (numN xs j) j (xs.getD j 0)

def numb (xs : List Nat) : List Nat := numN xs xs.length

def S35 : LSem := ⟨[2, 3, 6, 7, 8], [2, 3], fun args hin => match args, hin with
  | [.s (.ptr 0 0), .s (.ptr 1 0), .s (.xsl (.ints .u8 xs)), .s (.nat .i64 n), .s (.nat .i64 0)], [[.ints .u64 5 [0, 0, 0, 0, 0]], [.ints .u64 5 [0, 0, 0, 0, 0]]] =>
    some (Tr.needs [decide (n = xs.length), decide (xs.length ≤ 17)]
      (.leaf (.normal, [.s (.ptr 0 0), .s (.ptr 1 0)], [some [.ints .u64 5 [0, 0, 0, 0, 0]], some [.ints .u64 5 (numb xs)]])))
  | _, _ => none⟩

set_option maxRecDepth 100000 in
theorem rr35 (xs zs : List Nat) (n j : Nat) : runR Try.prog [] [] .nat 3 [] Try.f35 0 S35 2 [.s (.ptr 0 0), .s (.ptr 1 0), .s (.xsl (.ints .u8 xs)), .s (.nat .i64 n), .s (.nat .i64 j)] [some [.ints .u64 5 [0,0,0,0,0]], some [.ints .u64 5 zs]] =
(cond (decide (j < n))
 (nd [decide (j < xs.length), decide (j < xs.length), decide (8 * j < 9223372036854775808), decide (8 * j / 26 < 5), decide (8 * j / 26 < 5), decide (8 * j < 9223372036854775808), decide (8 * j / 26 < 5), decide (8 * j / 26 < 5), decide (8 * j < 9223372036854775808)]
 (cond (decide (18 < 8 * j % 26))
 (nd [decide (8 * j < 9223372036854775808)]
 (cond (decide (8 * j / 26 < 4))
 (nd [decide (8 * j < 9223372036854775808), decide (8 * j / 26 + 1 < 9223372036854775808), decide (8 * j / 26 + 1 < 5), decide (8 * j / 26 + 1 < 5), decide (8 * j < 9223372036854775808), decide (8 * j % 26 ≤ 26), decide (8 * j / 26 + 1 < 5), decide (8 * j / 26 + 1 < 5), decide (j + 1 < 9223372036854775808)]
 (some (Ex.normal, [AV.s (SV.ptr 0 0), AV.s (SV.ptr 1 0), AV.s (SV.xsl (XC.ints IntKind.u8 xs)), AV.s (SV.nat IntKind.i64 n), AV.s (SV.nat IntKind.i64 (j + 1))], [some [Ch.ints IntKind.u64 5 [0, 0, 0, 0, 0]], some [Ch.ints IntKind.u64 5 (numStep2 (numStep1 zs j (xs.getD j 0)) j (xs.getD j 0))]])))
 (nd [decide (j + 1 < 9223372036854775808)]
 (some (Ex.normal, [AV.s (SV.ptr 0 0), AV.s (SV.ptr 1 0), AV.s (SV.xsl (XC.ints IntKind.u8 xs)), AV.s (SV.nat IntKind.i64 n), AV.s (SV.nat IntKind.i64 (j + 1))], [some [Ch.ints IntKind.u64 5 [0, 0, 0, 0, 0]], some [Ch.ints IntKind.u64 5 (numStep1 zs j (xs.getD j 0))]])))))
 (nd [decide (j + 1 < 9223372036854775808)]
 (some (Ex.normal, [AV.s (SV.ptr 0 0), AV.s (SV.ptr 1 0), AV.s (SV.xsl (XC.ints IntKind.u8 xs)), AV.s (SV.nat IntKind.i64 n), AV.s (SV.nat IntKind.i64 (j + 1))], [some [Ch.ints IntKind.u64 5 [0, 0, 0, 0, 0]], some [Ch.ints IntKind.u64 5 (numStep1 zs j (xs.getD j 0))]])))))
 (some (Ex.exit 0, [AV.s (SV.ptr 0 0), AV.s (SV.ptr 1 0)], [some [Ch.ints IntKind.u64 5 [0, 0, 0, 0, 0]], some [Ch.ints IntKind.u64 5 zs]]))) := by kernel_rfl

def A35 (xs : List Nat) (i : Nat) : List AV × List (Option Blk) :=
  ([.s (.ptr 0 0), .s (.ptr 1 0), .s (.xsl (.ints .u8 xs)), .s (.nat .i64 xs.length), .s (.nat .i64 i)], [some [.ints .u64 5 [0,0,0,0,0]], some [.ints .u64 5 (numN xs i)]])

theorem lok35 : LOk Try.prog Try.f35.ntmps (.block 0 (.loop (lb 0 Try.f35))) S35 := by
  refine lokR (fs := []) (xs := []) (m := .nat) (fuel := 3) (sums := []) EnvOk.nil mixedP (loopsOk_none rfl _) ?_
  intro args hin t e vs hout h hg
  unfold S35 at h
  simp only at h
  split at h
  · rename_i xs n
    simp only [Option.some.injEq] at h
    subst h
    obtain ⟨hc, hgt⟩ := Tr.needs_get hg
    clear hg
    have e1 : n = xs.length := of_decide_eq_true (hc _ (by simp))
    have hl : xs.length ≤ 17 := of_decide_eq_true (hc (decide (xs.length ≤ 17)) (by simp))
    clear hc
    subst e1
    cases hgt
    refine ⟨xs.length, A35 xs, .exit 0, rfl, fun i hi => ?_, ?_, rfl⟩
    · simp only [A35, List.length_cons, List.length_nil]
      rw [rr35]
      refine cond_t (decide_eq_true hi) (nd_of ?_ ?_)
      · simp only [List.mem_cons, List.not_mem_nil, or_false, forall_eq_or_imp, forall_eq, decide_eq_true_eq]; omega
      · by_cases h1 : 18 < 8 * i % 26
        · refine cond_t (decide_eq_true h1) (nd_of ?_ ?_)
          · simp only [List.mem_cons, List.not_mem_nil, or_false, forall_eq, decide_eq_true_eq]; omega
          · by_cases h2 : 8 * i / 26 < 4
            · refine cond_t (decide_eq_true h2) (nd_of ?_ ?_)
              · simp only [List.mem_cons, List.not_mem_nil, or_false, forall_eq_or_imp, forall_eq, decide_eq_true_eq]; omega
              · simp only [numN, numStep, if_pos (And.intro h1 h2)]
            · refine cond_f (decide_eq_false h2) (nd_of ?_ ?_)
              · simp only [List.mem_cons, List.not_mem_nil, or_false, forall_eq, decide_eq_true_eq]; omega
              · simp only [numN, numStep, if_neg (fun h : 18 < 8 * i % 26 ∧ 8 * i / 26 < 4 => h2 h.2)]
        · refine cond_f (decide_eq_false h1) (nd_of ?_ ?_)
          · simp only [List.mem_cons, List.not_mem_nil, or_false, forall_eq, decide_eq_true_eq]; omega
          · simp only [numN, numStep, if_neg (fun h : 18 < 8 * i % 26 ∧ 8 * i / 26 < 4 => h1 h.1)]
    · simp only [A35, List.length_cons, List.length_nil]
      rw [rr35]
      exact cond_f (decide_eq_false (Nat.lt_irrefl _)) rfl
  · cases h

def F35 : FSem := ⟨true, fun args hin => match args, hin with
  | [.s (.xsl (.ints .u8 xs))], [] => some (.need (decide (xs.length ≤ 17)) (.leaf (.agg [.ints .u64 5 (numb xs)], [])))
  | _, _ => none⟩

theorem fn35 : Fn Try.prog 35 Try.f35 := ⟨mixedP, Try.func35, by kernel_rfl, of_decide_eq_true (by kernel_rfl)⟩

theorem loops35 : LoopsOk Try.prog ⟨Try.f35.ntmps, 3, [(0, S35)]⟩ (bodyOf Try.f35) := by
  refine loopsOk_of ?_
  have e : loopsIn [(0, S35)] (bodyOf Try.f35) = [(0, .loop (lb 0 Try.f35), S35)] := by kernel_rfl
  simp only [e]
  intro x hx
  simp only [List.mem_cons, List.not_mem_nil, or_false] at hx
  subst hx
  exact lok35

set_option maxRecDepth 100000 in
theorem r35 (xs : List Nat) : runL Try.prog [] [] .nat 3 [(0, S35)] Try.f35 [.s (.xsl (.ints .u8 xs))] [] =
    nd [decide (xs.length < 9223372036854775808), decide (xs.length = xs.length), decide (xs.length ≤ 17)] (some (.agg [.ints .u64 5 (numb xs)], [])) := by kernel_rfl

theorem ok35 : FOk Try.prog 35 F35 := by
  refine fokL (fs := []) (xs := []) (m := .nat) (fuel := 3) (sums := [(0, S35)]) EnvOk.nil fn35 loops35 ?_
  intro args hin t r h hg
  unfold F35 at h
  simp only at h
  split at h
  · rename_i xs
    cases h
    simp only [Tr.get] at hg
    cases hl : decide (xs.length ≤ 17) with
    | false => rw [hl] at hg; cases hg
    | true =>
      rw [hl] at hg; cases hg
      have hl := of_decide_eq_true hl
      rw [r35]
      refine nd_of ?_ rfl
      simp only [List.mem_cons, List.not_mem_nil, or_false, forall_eq_or_imp, forall_eq, decide_eq_true_eq, true_and, and_true]; omega
  · cases h

end Go.Proofs.Ytgebgjhjegadpaa

namespace Go.Proofs.Ytgebgjhjegadpaa
open Go

theorem fn23 : Fn Try.prog 23 Try.f23 := ⟨mixed, Try.func23, by kernel_rfl, of_decide_eq_true (by kernel_rfl)⟩

structure OpsR where
  bR : List Nat → List Nat → Nat → List Nat
def opsR : OpsR := ⟨blkR⟩
theorem opsR_bR : opsR.bR = blkR := by kernel_rfl

def Y21 (o : OpsR) : FSem := ⟨false, fun args hin => match args, hin with
  | [.agg [.ints .u8 32 key], .agg [.ints .u8 12 nonce], .s (.nat .u64 n)], [] => some (.leaf (.agg [.ints .u8 64 (o.bR key nonce n)], []))
  | _, _ => none⟩
theorem yy21 : FOk Try.prog 21 (Y21 opsR) := by
  have e : Y21 opsR = F21 := by kernel_rfl
  rw [e]
  exact ok21

def inN (s b : List Nat) (a : Nat) (xs : List Nat) : Nat → List Nat
  | 0 => xs
  | i + 1 => (inN s b a xs i).set (a + i) (s.getD (a + i) 0 ^^^ b.getD i 0)

theorem inN_len (s b : List Nat) (a : Nat) (xs : List Nat) : ∀ i, (inN s b a xs i).length = xs.length
  | 0 => rfl
  | i + 1 => by rw [inN, List.length_set, inN_len s b a xs i]

theorem inN_get (s b : List Nat) (a : Nat) (xs : List Nat) (j : Nat) : ∀ n, (inN s b a xs n).getD j 0 = if a ≤ j ∧ j < a + n ∧ j < xs.length then s.getD j 0 ^^^ b.getD (j - a) 0 else xs.getD j 0
  | 0 => by rw [if_neg (by omega)]; rfl
  | n + 1 => by
    have ih := inN_get s b a xs j n
    have hl := inN_len s b a xs n
    rw [inN]
    by_cases e : a + n = j
    · subst e
      by_cases h : a + n < xs.length
      · rw [List.getD, List.getElem?_set_self (by omega), Option.getD_some, if_pos (by omega), Nat.add_sub_cancel_left]
      · rw [if_neg (by omega), List.getD, List.getElem?_eq_none (by rw [List.length_set]; omega), List.getD, List.getElem?_eq_none (by omega)]
    · rw [List.getD, List.getElem?_set_ne e, ← List.getD, ih]
      by_cases h : a ≤ j ∧ j < a + n ∧ j < xs.length
      · rw [if_pos h, if_pos (by omega)]
      · rw [if_neg h, if_neg (by omega)]

def I2 : LSem := ⟨[3, 10, 11, 12, 13], [], fun args hin => match args, hin with
  | [.s (.str s), .s (.sl .whole 0 0 n 1), .s (.nat .i64 a), .s (.ptr 1 0), .s (.nat .i64 0)], [[.ints .u8 m xs], [.ints .u8 64 b]] =>
    some (Tr.needs [decide (m = n), decide (s.length = n), decide (n < 4611686018427387904), decide (a < n)] (.leaf (.normal, [], [some [.ints .u8 n (inN s b a xs (min 64 (n - a)))], some [.ints .u8 64 b]])))
  | _, _ => none⟩

set_option maxRecDepth 100000 in
theorem ri2 (s xs b : List Nat) (at_ i n : Nat) : runR Try.prog [] [] .nat 7 [] Try.f23 2 I2 2 [.s (.str s), .s (.sl .whole 0 0 n 1), .s (.nat .i64 at_), .s (.ptr 1 0), .s (.nat .i64 i)] [some [.ints .u8 n xs], some [.ints .u8 64 b]] =
(cond (decide (i < 64))
 (nd [decide (at_ + i < 9223372036854775808), decide (s.length < 9223372036854775808)]
 (cond (decide (at_ + i < s.length))
 (nd [decide (at_ + i < 9223372036854775808), decide (at_ + i < 9223372036854775808), decide (at_ + i < s.length), decide (i < 64), decide (i < 64), decide (at_ + i < n), decide (at_ + i < n), decide (i + 1 < 9223372036854775808)]
 (some (Ex.normal, [.s (.str s), .s (.sl .whole 0 0 n 1), .s (.nat .i64 at_), .s (.ptr 1 0), .s (.nat .i64 (i + 1))], [some [Ch.ints IntKind.u8 n (xs.set (at_ + i) (s.getD (at_ + i) 0 ^^^ b.getD i 0))], some [Ch.ints IntKind.u8 64 b]])))
 (some (Ex.exit 2, [], [some [Ch.ints IntKind.u8 n xs], some [Ch.ints IntKind.u8 64 b]]))))
 (some (Ex.exit 2, [], [some [Ch.ints IntKind.u8 n xs], some [Ch.ints IntKind.u8 64 b]]))) := by kernel_rfl

theorem loki2 : LOk Try.prog Try.f23.ntmps (.block 2 (.loop (lb 2 Try.f23))) I2 := by
  refine lokR (fs := []) (xs := []) (m := .nat) (fuel := 7) (sums := []) EnvOk.nil mixed (loopsOk_none rfl _) ?_
  intro args hin t e vs hout h hg
  unfold I2 at h
  simp only at h
  split at h
  · rename_i s n a m xs b
    simp only [Option.some.injEq] at h
    subst h
    obtain ⟨hc, hgt⟩ := Tr.needs_get hg
    cases hgt
    simp only [List.mem_cons, List.not_mem_nil, or_false, forall_eq_or_imp, forall_eq, decide_eq_true_eq] at hc
    obtain ⟨e1, e2, e3, e4⟩ := hc
    clear hg
    subst e1
    refine ⟨min 64 (m - a), fun i => ([.s (.str s), .s (.sl .whole 0 0 m 1), .s (.nat .i64 a), .s (.ptr 1 0), .s (.nat .i64 i)], [some [.ints .u8 m (inN s b a xs i)], some [.ints .u8 64 b]]), .exit 2, rfl, fun i hi => ?_, ?_, rfl⟩
    · simp only [List.length_cons, List.length_nil]
      rw [ri2]
      have h1 : i < 64 := by omega
      have h2 : a + i < m := by omega
      refine cond_t (decide_eq_true h1) (nd_of ?_ (cond_t (decide_eq_true (by omega)) (nd_of ?_ rfl)))
      · simp only [List.mem_cons, List.not_mem_nil, or_false, forall_eq_or_imp, forall_eq, decide_eq_true_eq]; omega
      · simp only [List.mem_cons, List.not_mem_nil, or_false, forall_eq_or_imp, forall_eq, decide_eq_true_eq]; omega
    · simp only [List.length_cons, List.length_nil]
      rw [ri2]
      by_cases h : min 64 (m - a) < 64
      · refine cond_t (decide_eq_true h) (nd_of ?_ (cond_f (decide_eq_false (by omega)) rfl))
        simp only [List.mem_cons, List.not_mem_nil, or_false, forall_eq_or_imp, forall_eq, decide_eq_true_eq]; omega
      · exact cond_f (decide_eq_false h) rfl
  · cases h

def ouN (bR : List Nat → List Nat → Nat → List Nat) (key nonce : List Nat) (num : Nat) (s : List Nat) : Nat → List Nat
  | 0 => s
  | r + 1 => inN s (bR key nonce ((num + 64 * r / 64) % 18446744073709551616 % 4294967296)) (64 * r) (ouN bR key nonce num s r) (min 64 (s.length - 64 * r))

theorem ouN_len (bR : List Nat → List Nat → Nat → List Nat) (key nonce : List Nat) (num : Nat) (s : List Nat) : ∀ r, (ouN bR key nonce num s r).length = s.length
  | 0 => rfl
  | r + 1 => by rw [ouN, inN_len, ouN_len bR key nonce num s r]

def I0 (o : OpsR) : LSem := ⟨[4, 5, 2, 3, 10, 11], [10], fun args hin => match args, hin with
  | [.s (.ptr 0 0), .s (.ptr 1 0), .s (.nat .u64 num), .s (.str s), .s (.sl .whole 2 0 n 1), .s (.nat .i64 0)], [[.ints .u8 32 key], [.ints .u8 12 nonce], [.ints .u8 m xs]] =>
    some (Tr.needs [decide (m = n), decide (s.length = n), decide (n < 4611686018427387904), decide (xs = s)] (.leaf (.normal, [.s (.sl .whole 2 0 n 1)], [some [.ints .u8 32 key], some [.ints .u8 12 nonce], some [.ints .u8 n (ouN o.bR key nonce num s ((n + 63) / 64))]])))
  | _, _ => none⟩

set_option maxRecDepth 100000 in
theorem ri0 (o : OpsR) (s xs key nonce : List Nat) (num at_ n : Nat) : runR Try.prog [(21, Y21 o)] [] .nat 7 [(2, I2)] Try.f23 0 (I0 o) 3 [.s (.ptr 0 0), .s (.ptr 1 0), .s (.nat .u64 num), .s (.str s), .s (.sl .whole 2 0 n 1), .s (.nat .i64 at_)] [some [.ints .u8 32 key], some [.ints .u8 12 nonce], some [.ints .u8 n xs]] =
(nd [decide (s.length < 9223372036854775808)]
 (cond (decide (at_ < s.length))
 (nd [decide (n = n), decide (s.length = n), decide (n < 4611686018427387904), decide (at_ < n), decide (at_ + 64 < 9223372036854775808)]
 (some (Ex.normal, [.s (.ptr 0 0), .s (.ptr 1 0), .s (.nat .u64 num), .s (.str s), .s (.sl .whole 2 0 n 1), .s (.nat .i64 (at_ + 64))], [some [.ints .u8 32 key], some [.ints .u8 12 nonce], some [.ints .u8 n (inN s (o.bR key nonce ((num + at_ / 64) % 18446744073709551616 % 4294967296)) at_ xs (min 64 (n - at_)))]])))
 (some (Ex.exit 0, [.s (.sl .whole 2 0 n 1)], [some [.ints .u8 32 key], some [.ints .u8 12 nonce], some [.ints .u8 n xs]])))) := by kernel_rfl

theorem loopsi0 : LoopsOk Try.prog ⟨Try.f23.ntmps, 7, [(2, I2)]⟩ (lb 0 Try.f23) := by
  refine loopsOk_of ?_
  have e : loopsIn [(2, I2)] (lb 0 Try.f23) = [(2, .loop (lb 2 Try.f23), I2)] := by kernel_rfl
  simp only [e]
  intro x hx
  simp only [List.mem_cons, List.not_mem_nil, or_false] at hx
  rcases hx with rfl
  · exact loki2

theorem loki0 : LOk Try.prog Try.f23.ntmps (.block 0 (.loop (lb 0 Try.f23))) (I0 opsR) := by
  refine lokR (fs := [(21, Y21 opsR)]) (xs := []) (m := .nat) (fuel := 7) (sums := [(2, I2)]) (.cons yy21 .nil) mixed loopsi0 ?_
  intro args hin t e vs hout h hg
  unfold I0 at h
  simp only at h
  split at h
  · rename_i num s n key nonce m xs
    simp only [Option.some.injEq] at h
    subst h
    obtain ⟨hc, hgt⟩ := Tr.needs_get hg
    cases hgt
    simp only [List.mem_cons, List.not_mem_nil, or_false, forall_eq_or_imp, forall_eq, decide_eq_true_eq] at hc
    obtain ⟨e1, e2, e3, e4⟩ := hc
    clear hg
    subst e1 e4
    refine ⟨(m + 63) / 64, fun r => ([.s (.ptr 0 0), .s (.ptr 1 0), .s (.nat .u64 num), .s (.str xs), .s (.sl .whole 2 0 m 1), .s (.nat .i64 (64 * r))], [some [.ints .u8 32 key], some [.ints .u8 12 nonce], some [.ints .u8 m (ouN opsR.bR key nonce num xs r)]]), .exit 0, rfl, fun r hr => ?_, ?_, rfl⟩
    · simp only [List.length_cons, List.length_nil]
      rw [ri0]
      have h64 : 64 * r < xs.length := by omega
      refine nd_of ?_ (cond_t (decide_eq_true h64) (nd_of ?_ ?_))
      · simp only [List.mem_cons, List.not_mem_nil, or_false, forall_eq_or_imp, forall_eq, decide_eq_true_eq]; omega
      · simp only [List.mem_cons, List.not_mem_nil, or_false, forall_eq_or_imp, forall_eq, decide_eq_true_eq]
        exact ⟨trivial, e2, e3, by omega, by omega⟩
      · rw [show 64 * (r + 1) = 64 * r + 64 by omega, ouN, e2]
    · simp only [List.length_cons, List.length_nil]
      rw [ri0]
      have h64 : ¬ 64 * ((m + 63) / 64) < xs.length := by omega
      refine nd_of ?_ (cond_f (decide_eq_false h64) rfl)
      simp only [List.mem_cons, List.not_mem_nil, or_false, forall_eq_or_imp, forall_eq, decide_eq_true_eq]; omega
  · cases h

theorem loops23 : LoopsOk Try.prog ⟨Try.f23.ntmps, 7, [(0, I0 opsR)]⟩ (bodyOf Try.f23) := by
  refine loopsOk_of ?_
  have e : loopsIn [(0, I0 opsR)] (bodyOf Try.f23) = [(0, .loop (lb 0 Try.f23), I0 opsR)] := by kernel_rfl
  simp only [e]
  intro x hx
  simp only [List.mem_cons, List.not_mem_nil, or_false] at hx
  rcases hx with rfl
  · exact loki0

def mixR (o : OpsR) (key nonce : List Nat) (num : Nat) (s : List Nat) : List Nat := ouN o.bR key nonce num s ((s.length + 63) / 64)

set_option maxRecDepth 100000 in
theorem r23 (o : OpsR) (s key nonce : List Nat) (num : Nat) : runL Try.prog [(21, Y21 o)] [] .nat 7 [(0, I0 o)] Try.f23 [.agg [.ints .u8 32 key], .agg [.ints .u8 12 nonce], .s (.nat .u64 num), .s (.str s)] [] =
    nd [decide (s.length < 9223372036854775808)] (cond (decide (16777216 < s.length)) (some (.tup [.s (.str []), .s (.nat .i64 2)], []))
     (nd [decide (s.length = s.length), decide (s.length = s.length), decide (s.length < 4611686018427387904), decide (s = s), decide (s.length = s.length)] (some (.tup [.s (.str (mixR o key nonce num s)), .s (.nat .i64 0)], [])))) := by kernel_rfl

def F23 : FSem := ⟨false, fun args hin => match args, hin with
  | [.agg [.ints .u8 32 key], .agg [.ints .u8 12 nonce], .s (.nat .u64 num), .s (.str s)], [] =>
    some (.need (decide (s.length < 4611686018427387904)) (.br (decide (16777216 < s.length)) (.leaf (.tup [.s (.str []), .s (.nat .i64 2)], [])) (.leaf (.tup [.s (.str (mixR opsR key nonce num s)), .s (.nat .i64 0)], []))))
  | _, _ => none⟩

theorem ok23 : FOk Try.prog 23 F23 := by
  refine fokL (fs := [(21, Y21 opsR)]) (xs := []) (m := .nat) (fuel := 7) (sums := [(0, I0 opsR)]) (.cons yy21 .nil) fn23 loops23 ?_
  intro args hin t r h hg
  unfold F23 at h
  simp only at h
  split at h
  · rename_i key nonce num s
    simp only [Option.some.injEq] at h
    subst h
    simp only [Tr.get] at hg
    cases hl : decide (s.length < 4611686018427387904) with
    | false => rw [hl] at hg; cases hg
    | true =>
      rw [hl, cond_true] at hg
      have hl := of_decide_eq_true hl
      rw [r23]
      refine nd_of ?_ ?_
      · simp only [List.mem_cons, List.not_mem_nil, or_false, forall_eq, decide_eq_true_eq]; omega
      · by_cases hb : 16777216 < s.length
        · rw [decide_eq_true hb] at hg ⊢
          exact hg
        · rw [decide_eq_false hb, cond_false] at hg ⊢
          refine nd_of ?_ hg
          simp only [List.mem_cons, List.not_mem_nil, or_false, forall_eq_or_imp, forall_eq, decide_eq_true_eq, true_and, and_true]
          exact hl
  · cases h

/-! What it comes to. -/
theorem ouN_get (bR : List Nat → List Nat → Nat → List Nat) (key nonce : List Nat) (num : Nat) (s : List Nat) (j : Nat) : ∀ r, (ouN bR key nonce num s r).getD j 0 =
    if j < 64 * r ∧ j < s.length then s.getD j 0 ^^^ (bR key nonce ((num + j / 64) % 18446744073709551616 % 4294967296)).getD (j % 64) 0 else s.getD j 0
  | 0 => by rw [if_neg (by omega)]; rfl
  | r + 1 => by
    rw [ouN, inN_get, ouN_len, ouN_get bR key nonce num s j r]
    by_cases h1 : 64 * r ≤ j ∧ j < 64 * r + min 64 (s.length - 64 * r) ∧ j < s.length
    · rw [if_pos h1, if_pos (by omega), show 64 * r / 64 = j / 64 by omega, show j - 64 * r = j % 64 by omega]
    · rw [if_neg h1]
      by_cases h2 : j < 64 * r ∧ j < s.length
      · rw [if_pos h2, if_pos (by omega)]
      · rw [if_neg h2, if_neg (by omega)]

theorem mixR_eq {key nonce s : List Nat} {num : Nat} (hk : B8 key) (hn : B8 nonce) (hnum : num < 4294967296) (hs : s.length < 4611686018427387904) : mixR opsR key nonce num s = mixC key nonce num s s.length := by
  apply List.ext_getElem?
  intro i
  have hl1 : (mixR opsR key nonce num s).length = s.length := ouN_len _ _ _ _ _ _
  have hl2 := mixC_len key nonce num s s.length
  by_cases hi : i < s.length
  · have h1 := ouN_get opsR.bR key nonce num s i ((s.length + 63) / 64)
    have h2 := mixC_get key nonce num s hi hi
    rw [if_pos (by omega), opsR_bR, blk_eq hk hn (Nat.mod_lt _ (by decide))] at h1
    have e : (num + i / 64) % 18446744073709551616 % 4294967296 = (num + i / 64 % 4294967296) % 4294967296 := by omega
    rw [e] at h1
    have h3 : (mixR opsR key nonce num s).getD i 0 = (mixC key nonce num s s.length).getD i 0 := by
      rw [h2]
      unfold mixAt mixR
      rw [opsR_bR] at *
      exact h1
    rw [List.getD, List.getD, List.getElem?_eq_getElem (by omega), List.getElem?_eq_getElem (by omega)] at h3
    rw [List.getElem?_eq_getElem (by omega), List.getElem?_eq_getElem (by omega)]
    exact congrArg some h3
  · rw [List.getElem?_eq_none (by omega), List.getElem?_eq_none (by omega)]

end Go.Proofs.Ytgebgjhjegadpaa

namespace Go.Proofs.Ytgebgjhjegadpaa
open Go

/-- Is it 2^130 - 5 or more? -/
def over5 (a b c d e : Nat) : Nat := ct e (ct d (ct c (ct b (ct a 5 / 2 ^ 26) / 2 ^ 26) / 2 ^ 26) / 2 ^ 26) / 2 ^ 26

def carrL (t0 t1 t2 t3 t4 : Nat) : List Nat := [t0 &&& 67108863, t1 &&& 67108863, t2 &&& 67108863, t3 &&& 67108863, t4 &&& 67108863]

def least5 (a b c d e : Nat) : List Nat :=
  (fun t0 => (fun t1 => (fun t2 => (fun t3 => carrL t0 t1 t2 t3 (ct e (t3 / 2 ^ 26))) (ct d (t2 / 2 ^ 26))) (ct c (t1 / 2 ^ 26))) (ct b (t0 / 2 ^ 26)))
    (ct ((a + 5 * over5 a b c d e % 18446744073709551616) % 18446744073709551616) 0)

def least (x : List Nat) : List Nat := least5 (x.getD 0 0) (x.getD 1 0) (x.getD 2 0) (x.getD 3 0) (x.getD 4 0)

/-- The i-th byte of a number of five parts, and what stands above it. -/
def fx (x : List Nat) (i : Nat) : Nat :=
  match decide (18 < 8 * i % 26) && decide (8 * i / 26 < 4) with
  | true => x.getD (8 * i / 26) 0 / 2 ^ (8 * i % 26) ||| x.getD (8 * i / 26 + 1) 0 * 2 ^ (26 - 8 * i % 26) % 18446744073709551616
  | false => x.getD (8 * i / 26) 0 / 2 ^ (8 * i % 26)

/-- What is carried into the i-th byte. -/
def fo (x key : List Nat) : Nat → Nat
  | 0 => 0
  | i + 1 => (fo x key i + (fx x i % 256 + key.getD (16 + i) 0)) / 2 ^ 8

def ft (x key : List Nat) (i : Nat) : Nat := (fo x key i + (fx x i % 256 + key.getD (16 + i) 0)) % 256

def fcs (x key : List Nat) : Nat → Nat → List Bool
  | 0, _ => []
  | n + 1, i => decide (fx x i % 256 + key.getD (16 + i) 0 < 9223372036854775808) :: decide (fo x key i + (fx x i % 256 + key.getD (16 + i) 0) < 9223372036854775808) :: fcs x key n (i + 1)

def fts (x key : List Nat) : Nat → Nat → List Nat
  | 0, _ => []
  | n + 1, i => ft x key i :: fts x key n (i + 1)

def finL (x key : List Nat) : List Nat := fts (least (carr (carr x))) key 16 0

def F38 : FSem := ⟨false, fun args hin => match args, hin with
  | [.agg [.ints .u64 5 x], .agg [.ints .u8 32 key]], [] => some (Tr.needs [decide (x.length = 5), key.all fun k => decide (k < 256)] (.leaf (.agg [.ints .u8 16 (finL x key)], [])))
  | _, _ => none⟩

theorem fn38 : Fn Try.prog 38 Try.f38 := ⟨mixedP, Try.func38, by kernel_rfl, of_decide_eq_true (by kernel_rfl)⟩

set_option maxRecDepth 100000 in
theorem r38 (a b c d e : Nat) (key : List Nat) : runB Try.prog [(46, F46)] [] .nat 17 Try.f38 [.agg [.ints .u64 5 [a, b, c, d, e]], .agg [.ints .u8 32 key]] [] =
    nd (fcs (least (carr (carr [a, b, c, d, e]))) key 16 0) (some (.agg [.ints .u8 16 (finL [a, b, c, d, e] key)], [])) := by kernel_rfl

theorem key_lt {key : List Nat} (h : key.all (fun k => decide (k < 256)) = true) (i : Nat) : key.getD i 0 < 256 := by
  rw [List.getD]
  cases hj : key[i]? with
  | none => simp
  | some p =>
    have := List.all_eq_true.1 h p (List.mem_of_getElem? hj)
    simpa using this

theorem fo_lt {x key : List Nat} (h : key.all (fun k => decide (k < 256)) = true) : ∀ i, fo x key i < 256
  | 0 => by simp [fo]
  | i + 1 => by
    have h1 := fo_lt (x := x) h i
    have h2 := key_lt h (16 + i)
    have h3 : fx x i % 256 < 256 := Nat.mod_lt _ (by omega)
    unfold fo
    omega

theorem fcs_ok {x key : List Nat} (h : key.all (fun k => decide (k < 256)) = true) : ∀ n i, ∀ c ∈ fcs x key n i, c = true
  | 0, i, c, hc => by cases hc
  | n + 1, i, c, hc => by
    have h1 := fo_lt (x := x) h i
    have h2 := key_lt h (16 + i)
    have h3 : fx x i % 256 < 256 := Nat.mod_lt _ (by omega)
    simp only [fcs, List.mem_cons] at hc
    rcases hc with rfl | rfl | hc
    · exact decide_eq_true (by omega)
    · exact decide_eq_true (by omega)
    · exact fcs_ok h n (i + 1) c hc

theorem ok38 : FOk Try.prog 38 F38 := by
  refine fokB (fs := [(46, F46)]) (xs := []) (m := .nat) (fuel := 17) (.cons ok46 .nil) fn38 ?_
  intro args hin t r h hg
  unfold F38 at h
  simp only at h
  split at h
  · rename_i x key
    cases h
    obtain ⟨hc, hgt⟩ := Tr.needs_get hg
    cases hgt
    obtain ⟨a, b, c, d, e, rfl⟩ := five (of_decide_eq_true (hc (decide (x.length = 5)) (by simp)))
    rw [r38]
    exact nd_of (fcs_ok (hc _ (by simp)) 16 0) rfl
  · cases h

end Go.Proofs.Ytgebgjhjegadpaa

namespace Go.Proofs.Ytgebgjhjegadpaa
open Go

/-! One block more. -/
def addL (a x : List Nat) : List Nat := [ct (a.getD 0 0) (x.getD 0 0), ct (a.getD 1 0) (x.getD 1 0), ct (a.getD 2 0) (x.getD 2 0), ct (a.getD 3 0) (x.getD 3 0), ct (a.getD 4 0) (x.getD 4 0)]

def stepC (r a ys : List Nat) : List Nat := carr (carr (timesL (addL a (numb (ys ++ [1]))) r))

def F36 : FSem := ⟨false, fun args hin => match args, hin with
  | [.s (.sl m 0 off len 1), .s (.ptr 1 0), .s (.ptr 2 0)], [[.ints .u8 n xs], [.ints .u64 5 a], [.ints .u64 5 r]] => match rowOf .u8 m off len [.ints .u8 n xs] with
    | some (cs, ys) => some (Tr.needs (cs ++ [decide (ys.length = len), decide (len ≤ 16), decide (a.length = 5), decide (r.length = 5)])
      (.leaf (.tup [], [some [.ints .u8 n xs], some [.ints .u64 5 (stepC r a ys)], some [.ints .u64 5 r]])))
    | none => none
  | _, _ => none⟩

theorem fn36 : Fn Try.prog 36 Try.f36 := ⟨mixedP, Try.func36, by kernel_rfl, of_decide_eq_true (by kernel_rfl)⟩

set_option maxRecDepth 100000 in
theorem r36 {m : LK} {off len n : Nat} {xs ys : List Nat} {cs : List Bool} (a b c d e : Nat) (r : List Nat) (h : rowOf .u8 m off len [.ints .u8 n xs] = some (cs, ys)) :
    runB Try.prog [(35, F35), (37, F37)] [] .nat 7 Try.f36 [.s (.sl m 0 off len 1), .s (.ptr 1 0), .s (.ptr 2 0)] [[.ints .u8 n xs], [.ints .u64 5 [a, b, c, d, e]], [.ints .u64 5 r]] =
    nd (cs ++ [decide (0 + len ≤ 4398046511104), decide (0 + len = 0 + len), decide (0 + len + 1 ≤ 4398046511104), decide (0 + len + 1 = 0 + len + 1), decide ((ys ++ [1]).length ≤ 17), decide (r.length = 5)])
      (some (.tup [], [some [.ints .u8 n xs], some [.ints .u64 5 (stepC r [a, b, c, d, e] ys)], some [.ints .u64 5 r]])) := by
  cases m <;> cases h <;> kernel_rfl

theorem ok36 : FOk Try.prog 36 F36 := by
  refine fokB (fs := [(35, F35), (37, F37)]) (xs := []) (m := .nat) (fuel := 7) (.cons ok35 (.cons ok37 .nil)) fn36 ?_
  intro args hin t r h hg
  unfold F36 at h
  simp only at h
  split at h
  · rename_i m off len n xs a r
    split at h
    · rename_i cs ys hr
      cases h
      obtain ⟨hc, hgt⟩ := Tr.needs_get hg
      cases hgt
      have h1 : ys.length = len := of_decide_eq_true (hc _ (List.mem_append_right _ (by simp)))
      have h2 : len ≤ 16 := of_decide_eq_true (hc (decide (len ≤ 16)) (List.mem_append_right _ (by simp)))
      have h3 : a.length = 5 := of_decide_eq_true (hc (decide (a.length = 5)) (List.mem_append_right _ (by simp)))
      have h4 : r.length = 5 := of_decide_eq_true (hc (decide (r.length = 5)) (List.mem_append_right _ (by simp)))
      obtain ⟨a0, a1, a2, a3, a4, rfl⟩ := five h3
      rw [r36 _ _ _ _ _ _ hr]
      refine nd_of (fun c hm => ?_) rfl
      rcases List.mem_append.1 hm with hm | hm
      · exact hc c (List.mem_append_left _ hm)
      · refine (show ∀ c ∈ [decide (0 + len ≤ 4398046511104), decide (0 + len = 0 + len), decide (0 + len + 1 ≤ 4398046511104), decide (0 + len + 1 = 0 + len + 1), decide ((ys ++ [1]).length ≤ 17), decide (r.length = 5)], c = true from ?_) c hm
        simp only [List.mem_cons, List.not_mem_nil, or_false, forall_eq_or_imp, forall_eq, decide_eq_true_eq, true_and, List.length_append, List.length_cons, List.length_nil]
        omega
    · cases h
  · cases h

end Go.Proofs.Ytgebgjhjegadpaa

namespace Go.Proofs.Ytgebgjhjegadpaa
open Go

def takesC (r a ys : List Nat) : Nat → List Nat
  | 0 => a
  | q + 1 => stepC r (takesC r a ys q) ((ys.drop (16 * q)).take 16)

theorem carr_len (x : List Nat) : (carr x).length = 5 := rfl
theorem stepC_len (r a ys : List Nat) : (stepC r a ys).length = 5 := rfl
theorem takesC_len {r a ys : List Nat} (h : a.length = 5) : ∀ q, (takesC r a ys q).length = 5
  | 0 => h
  | _ + 1 => rfl

def clo6 : AV := .s (.fn 36 [] [(1, 0), (2, 0)])

def S6 : LSem := ⟨[11, 12], [11], fun args hin => match args, hin with
  | [.s (.sl .whole 0 0 l 1), .s (.fn 36 [] [(1, 0), (2, 0)])], [[.ints .u8 n xs], [.ints .u64 5 a], [.ints .u64 5 r]] =>
    some (Tr.needs [decide (n = l), decide (xs.length = l), decide (a.length = 5), decide (r.length = 5), decide (l < 9223372036854775808)]
      (.br (decide (l / 16 = 0)) (.leaf (.normal, [.s (.sl .whole 0 0 l 1)], [some [.ints .u8 l xs], some [.ints .u64 5 a], some [.ints .u64 5 r]]))
        (.leaf (.normal, [.s (.sl .suf 0 (16 * (l / 16)) (l - 16 * (l / 16)) 1)], [some [.ints .u8 l xs], some [.ints .u64 5 (takesC r a xs (l / 16))], some [.ints .u64 5 r]]))))
  | _, _ => none⟩

set_option maxRecDepth 100000 in
theorem rr6w (l : Nat) (xs a r : List Nat) : runR Try.prog [(36, F36)] [] .nat 7 [] Try.f25 6 S6 3 [.s (.sl .whole 0 0 l 1), .s (.fn 36 [] [(1, 0), (2, 0)])] [some [.ints .u8 l xs], some [.ints .u64 5 a], some [.ints .u64 5 r]] =
(nd [decide (l < 9223372036854775808)]
 (cond (decide (16 ≤ l))
 (nd [decide (16 ≤ l), decide (16 ≤ l), decide ((List.take 16 xs).length = 16), decide (a.length = 5), decide (r.length = 5), decide (16 ≤ l)]
 (some (Ex.normal, [AV.s (SV.sl LK.suf 0 16 (l - 16) 1), AV.s (SV.fn 36 [] [(1, 0), (2, 0)])], [some [Ch.ints IntKind.u8 l xs], some [Ch.ints IntKind.u64 5 (stepC r a (List.take 16 xs))], some [Ch.ints IntKind.u64 5 r]])))
 (some (Ex.exit 6, [AV.s (SV.sl LK.whole 0 0 l 1)], [some [Ch.ints IntKind.u8 l xs], some [Ch.ints IntKind.u64 5 a], some [Ch.ints IntKind.u64 5 r]])))) := by kernel_rfl

set_option maxRecDepth 100000 in
theorem rr6s (off len l : Nat) (xs a r : List Nat) : runR Try.prog [(36, F36)] [] .nat 7 [] Try.f25 6 S6 3 [.s (.sl .suf 0 off len 1), .s (.fn 36 [] [(1, 0), (2, 0)])] [some [.ints .u8 l xs], some [.ints .u64 5 a], some [.ints .u64 5 r]] =
(nd [decide (len < 9223372036854775808)]
 (cond (decide (16 ≤ len))
 (nd [decide (16 ≤ len), decide (off + 16 ≤ l), decide ((List.take 16 (List.drop off xs)).length = 16), decide (a.length = 5), decide (r.length = 5), decide (16 ≤ len)]
 (some (Ex.normal, [AV.s (SV.sl LK.suf 0 (addOff off 16) (len - 16) 1), AV.s (SV.fn 36 [] [(1, 0), (2, 0)])], [some [Ch.ints IntKind.u8 l xs], some [Ch.ints IntKind.u64 5 (stepC r a (List.take 16 (List.drop off xs)))], some [Ch.ints IntKind.u64 5 r]])))
 (some (Ex.exit 6, [AV.s (SV.sl LK.suf 0 off len 1)], [some [Ch.ints IntKind.u8 l xs], some [Ch.ints IntKind.u64 5 a], some [Ch.ints IntKind.u64 5 r]])))) := by kernel_rfl

def A6 (xs a r : List Nat) : Nat → List AV × List (Option Blk)
  | 0 => ([.s (.sl .whole 0 0 xs.length 1), clo6], [some [.ints .u8 xs.length xs], some [.ints .u64 5 a], some [.ints .u64 5 r]])
  | i + 1 => ([.s (.sl .suf 0 (16 * (i + 1)) (xs.length - 16 * (i + 1)) 1), clo6], [some [.ints .u8 xs.length xs], some [.ints .u64 5 (takesC r a xs (i + 1))], some [.ints .u64 5 r]])

theorem lok6 : LOk Try.prog Try.f25.ntmps (.block 6 (.loop (lb 6 Try.f25))) S6 := by
  refine lokR (fs := [(36, F36)]) (xs := []) (m := .nat) (fuel := 7) (sums := []) (.cons ok36 .nil) mixedP (loopsOk_none rfl _) ?_
  intro args hin t e vs hout h hg
  unfold S6 at h
  simp only at h
  split at h
  · rename_i l n xs a r
    simp only [Option.some.injEq] at h
    subst h
    obtain ⟨hc, hgt⟩ := Tr.needs_get hg
    clear hg
    have e1 : n = l := of_decide_eq_true (hc _ (by simp))
    have e2 : xs.length = l := of_decide_eq_true (hc (decide (xs.length = l)) (by simp))
    have e3 : a.length = 5 := of_decide_eq_true (hc (decide (a.length = 5)) (by simp))
    have e4 : r.length = 5 := of_decide_eq_true (hc (decide (r.length = 5)) (by simp))
    have e5 : l < 9223372036854775808 := of_decide_eq_true (hc (decide (l < 9223372036854775808)) (by simp))
    clear hc
    subst e1; subst e2
    refine ⟨xs.length / 16, A6 xs a r, .exit 6, rfl, fun i hi => ?_, ?_, ?_⟩
    · cases i with
      | zero =>
        simp only [A6, clo6, List.length_cons, List.length_nil]
        rw [rr6w]
        refine nd_of ?_ (cond_t (decide_eq_true (by omega)) (nd_of ?_ ?_))
        · simp only [List.mem_cons, List.not_mem_nil, or_false, forall_eq, decide_eq_true_eq]; omega
        · simp only [List.mem_cons, List.not_mem_nil, or_false, forall_eq_or_imp, forall_eq, decide_eq_true_eq, List.length_take]; omega
        · simp [takesC]
      | succ i =>
        simp only [A6, clo6, List.length_cons, List.length_nil]
        rw [rr6s]
        refine nd_of ?_ (cond_t (decide_eq_true (by omega)) (nd_of ?_ ?_))
        · simp only [List.mem_cons, List.not_mem_nil, or_false, forall_eq, decide_eq_true_eq]; omega
        · simp only [List.mem_cons, List.not_mem_nil, or_false, forall_eq_or_imp, forall_eq, decide_eq_true_eq, List.length_take, List.length_drop, takesC_len e3, true_and]; omega
        · rw [addOff_eq', show 16 * (i + 1) + 16 = 16 * (i + 1 + 1) by omega, show xs.length - 16 * (i + 1) - 16 = xs.length - 16 * (i + 1 + 1) by omega]
          rfl
    · show _ = some (Ex.exit 6, vs, hout)
      simp only [Tr.get] at hgt
      cases hq : xs.length / 16 with
      | zero =>
        rw [hq] at hgt
        cases hgt
        simp only [A6, clo6, List.length_cons, List.length_nil]
        rw [rr6w]
        refine nd_of ?_ (cond_f (decide_eq_false (by omega)) rfl)
        simp only [List.mem_cons, List.not_mem_nil, or_false, forall_eq, decide_eq_true_eq]; omega
      | succ i =>
        rw [hq] at hgt
        cases hgt
        simp only [A6, clo6, List.length_cons, List.length_nil]
        rw [rr6s]
        refine nd_of ?_ (cond_f (decide_eq_false (by omega)) rfl)
        simp only [List.mem_cons, List.not_mem_nil, or_false, forall_eq, decide_eq_true_eq]; omega
    · simp only [Tr.get] at hgt
      cases hq : decide (xs.length / 16 = 0) <;> rw [hq] at hgt <;> cases hgt <;> rfl
  · cases h

end Go.Proofs.Ytgebgjhjegadpaa

namespace Go.Proofs.Ytgebgjhjegadpaa
open Go

/-- What is left when all whole blocks are taken. -/
def dropQ (y : List Nat) : List Nat := y.drop (16 * (y.length / 16))

def rsN (pss : List (List Nat)) : Nat → List Nat
  | 0 => []
  | i + 1 => dropQ (rsN pss i ++ pss.getD i [])

def yN (pss : List (List Nat)) (i : Nat) : List Nat := rsN pss i ++ pss.getD i []

def asN (r a : List Nat) (pss : List (List Nat)) : Nat → List Nat
  | 0 => a
  | i + 1 => takesC r (asN r a pss i) (yN pss i) ((yN pss i).length / 16)

def ok41 (pss : List (List Nat)) : Bool := pss.all fun p => decide (p.length ≤ 2199023255552)

theorem ok41_get {pss : List (List Nat)} (h : ok41 pss = true) (j : Nat) : (pss.getD j []).length ≤ 2199023255552 := by
  rw [List.getD]
  cases hj : pss[j]? with
  | none => simp
  | some p =>
    have := List.all_eq_true.1 h p (List.mem_of_getElem? hj)
    simpa using this

theorem rsN_len (pss : List (List Nat)) (i : Nat) : (rsN pss i).length < 16 := by
  cases i with
  | zero => simp [rsN]
  | succ i => simp only [rsN, dropQ, List.length_drop]; omega

theorem asN_len {r a : List Nat} {pss : List (List Nat)} (h : a.length = 5) : ∀ i, (asN r a pss i).length = 5
  | 0 => h
  | i + 1 => takesC_len (asN_len h i) _

def slW (b l : Nat) : AV := .s (.sl .whole b 0 l 1)
def slS (b l : Nat) : AV := .s (.sl .suf b (16 * (l / 16)) (l - 16 * (l / 16)) 1)

def slQ (b l : Nat) : AV := cond (decide (l / 16 = 0)) (slW b l) (slS b l)

def S4 : LSem := ⟨[38, 39, 40, 11, 12], [11], fun args hin => match args, hin with
  | [.s (.xsl (.bss pss)), .s (.nat .i64 n), .s (.nat .i64 0), .s .nil, .s (.fn 36 [] [(0, 0), (1, 0)])], [[.ints .u64 5 a], [.ints .u64 5 r]] =>
    some (Tr.needs [decide (n = pss.length), decide (a.length = 5), decide (r.length = 5), decide (n < 9223372036854775808), ok41 pss]
      (.br (decide (n = 0)) (.leaf (.normal, [.s .nil], [some [.ints .u64 5 a], some [.ints .u64 5 r]]))
        (.br (decide ((yN pss (n - 1)).length / 16 = 0))
          (.leaf (.normal, [slW 2 (yN pss (n - 1)).length], [some [.ints .u64 5 (asN r a pss n)], some [.ints .u64 5 r], some [.ints .u8 (yN pss (n - 1)).length (yN pss (n - 1))]]))
          (.leaf (.normal, [slS 2 (yN pss (n - 1)).length], [some [.ints .u64 5 (asN r a pss n)], some [.ints .u64 5 r], some [.ints .u8 (yN pss (n - 1)).length (yN pss (n - 1))]])))))
  | _, _ => none⟩

set_option maxRecDepth 100000 in
theorem rr4n (pss : List (List Nat)) (n j : Nat) (a r : List Nat) : runR Try.prog [(36, F36)] [] .nat 7 [(6, S6)] Try.f25 4 S4 2 [.s (.xsl (.bss pss)), .s (.nat .i64 n), .s (.nat .i64 j), .s .nil, .s (.fn 36 [] [(0, 0), (1, 0)])] [some [.ints .u64 5 a], some [.ints .u64 5 r]] =
(cond (decide (j < n))
 (nd [decide (j < pss.length), decide (j < pss.length), decide ((pss.getD j []).length ≤ 4398046511104), decide ((pss.getD j []).length = (pss.getD j []).length), decide ((pss.getD j []).length = (pss.getD j []).length), decide (a.length = 5), decide (r.length = 5), decide ((pss.getD j []).length < 9223372036854775808)]
 (cond (decide ((pss.getD j []).length / 16 = 0))
 (nd [decide (j + 1 < 9223372036854775808)]
 (some (Ex.normal, [AV.s (SV.xsl (XC.bss pss)), AV.s (SV.nat IntKind.i64 n), AV.s (SV.nat IntKind.i64 (j + 1)), AV.s (SV.sl LK.whole (2) 0 (pss.getD j []).length 1), AV.s (SV.fn 36 [] [(0, 0), (1, 0)])], [some [Ch.ints IntKind.u64 5 a], some [Ch.ints IntKind.u64 5 r], some [Ch.ints IntKind.u8 (pss.getD j []).length (pss.getD j [])]])))
 (nd [decide (j + 1 < 9223372036854775808)]
 (some (Ex.normal, [AV.s (SV.xsl (XC.bss pss)), AV.s (SV.nat IntKind.i64 n), AV.s (SV.nat IntKind.i64 (j + 1)), AV.s (SV.sl LK.suf (2) (16 * ((pss.getD j []).length / 16)) ((pss.getD j []).length - 16 * ((pss.getD j []).length / 16)) 1), AV.s (SV.fn 36 [] [(0, 0), (1, 0)])], [some [Ch.ints IntKind.u64 5 (takesC r a (pss.getD j []) ((pss.getD j []).length / 16))], some [Ch.ints IntKind.u64 5 r], some [Ch.ints IntKind.u8 (pss.getD j []).length (pss.getD j [])]])))))
 (some (Ex.exit 4, [AV.s SV.nil], [some [Ch.ints IntKind.u64 5 a], some [Ch.ints IntKind.u64 5 r]]))) := by kernel_rfl

set_option maxRecDepth 100000 in
theorem rr4w (pss : List (List Nat)) (n j l : Nat) (a r xs : List Nat) : runR Try.prog [(36, F36)] [] .nat 7 [(6, S6)] Try.f25 4 S4 2 [.s (.xsl (.bss pss)), .s (.nat .i64 n), .s (.nat .i64 j), .s (.sl .whole 2 0 l 1), .s (.fn 36 [] [(0, 0), (1, 0)])] [some [.ints .u64 5 a], some [.ints .u64 5 r], some [.ints .u8 l xs]] =
(cond (decide (j < n))
 (nd [decide (j < pss.length), decide (j < pss.length), decide (l = l), decide (l + (pss.getD j []).length ≤ 4398046511104), decide (l + (pss.getD j []).length = l + (pss.getD j []).length), decide ((xs ++ pss.getD j []).length = l + (pss.getD j []).length), decide (a.length = 5), decide (r.length = 5), decide (l + (pss.getD j []).length < 9223372036854775808)]
 (cond (decide ((l + (pss.getD j []).length) / 16 = 0))
 (nd [decide (j + 1 < 9223372036854775808)]
 (some (Ex.normal, [AV.s (SV.xsl (XC.bss pss)), AV.s (SV.nat IntKind.i64 n), AV.s (SV.nat IntKind.i64 (j + 1)), AV.s (SV.sl LK.whole (2) 0 (l + (pss.getD j []).length) 1), AV.s (SV.fn 36 [] [(0, 0), (1, 0)])], [some [Ch.ints IntKind.u64 5 a], some [Ch.ints IntKind.u64 5 r], some [Ch.ints IntKind.u8 (l + (pss.getD j []).length) (xs ++ pss.getD j [])]])))
 (nd [decide (j + 1 < 9223372036854775808)]
 (some (Ex.normal, [AV.s (SV.xsl (XC.bss pss)), AV.s (SV.nat IntKind.i64 n), AV.s (SV.nat IntKind.i64 (j + 1)), AV.s (SV.sl LK.suf (2) (16 * ((l + (pss.getD j []).length) / 16)) (l + (pss.getD j []).length - 16 * ((l + (pss.getD j []).length) / 16)) 1), AV.s (SV.fn 36 [] [(0, 0), (1, 0)])], [some [Ch.ints IntKind.u64 5 (takesC r a (xs ++ pss.getD j []) ((l + (pss.getD j []).length) / 16))], some [Ch.ints IntKind.u64 5 r], some [Ch.ints IntKind.u8 (l + (pss.getD j []).length) (xs ++ pss.getD j [])]])))))
 (some (Ex.exit 4, [AV.s (SV.sl LK.whole (2) 0 l 1)], [some [Ch.ints IntKind.u64 5 a], some [Ch.ints IntKind.u64 5 r], some [Ch.ints IntKind.u8 l xs]]))) := by kernel_rfl

set_option maxRecDepth 100000 in
theorem rr4s (pss : List (List Nat)) (n j l off len : Nat) (a r xs : List Nat) : runR Try.prog [(36, F36)] [] .nat 7 [(6, S6)] Try.f25 4 S4 2 [.s (.xsl (.bss pss)), .s (.nat .i64 n), .s (.nat .i64 j), .s (.sl .suf 2 off len 1), .s (.fn 36 [] [(0, 0), (1, 0)])] [some [.ints .u64 5 a], some [.ints .u64 5 r], some [.ints .u8 l xs]] =
(cond (decide (j < n))
 (nd [decide (j < pss.length), decide (j < pss.length), decide (off + len = l), decide (len + (pss.getD j []).length ≤ 4398046511104), decide (len + (pss.getD j []).length = len + (pss.getD j []).length), decide ((List.drop off xs ++ pss.getD j []).length = len + (pss.getD j []).length), decide (a.length = 5), decide (r.length = 5), decide (len + (pss.getD j []).length < 9223372036854775808)]
 (cond (decide ((len + (pss.getD j []).length) / 16 = 0))
 (nd [decide (j + 1 < 9223372036854775808)]
 (some (Ex.normal, [AV.s (SV.xsl (XC.bss pss)), AV.s (SV.nat IntKind.i64 n), AV.s (SV.nat IntKind.i64 (j + 1)), AV.s (SV.sl LK.whole (2) 0 (len + (pss.getD j []).length) 1), AV.s (SV.fn 36 [] [(0, 0), (1, 0)])], [some [Ch.ints IntKind.u64 5 a], some [Ch.ints IntKind.u64 5 r], some [Ch.ints IntKind.u8 (len + (pss.getD j []).length) (List.drop off xs ++ pss.getD j [])]])))
 (nd [decide (j + 1 < 9223372036854775808)]
 (some (Ex.normal, [AV.s (SV.xsl (XC.bss pss)), AV.s (SV.nat IntKind.i64 n), AV.s (SV.nat IntKind.i64 (j + 1)), AV.s (SV.sl LK.suf (2) (16 * ((len + (pss.getD j []).length) / 16)) (len + (pss.getD j []).length - 16 * ((len + (pss.getD j []).length) / 16)) 1), AV.s (SV.fn 36 [] [(0, 0), (1, 0)])], [some [Ch.ints IntKind.u64 5 (takesC r a (List.drop off xs ++ pss.getD j []) ((len + (pss.getD j []).length) / 16))], some [Ch.ints IntKind.u64 5 r], some [Ch.ints IntKind.u8 (len + (pss.getD j []).length) (List.drop off xs ++ pss.getD j [])]])))))
 (some (Ex.exit 4, [AV.s (SV.sl LK.suf (2) off len 1)], [some [Ch.ints IntKind.u64 5 a], some [Ch.ints IntKind.u64 5 r], some [Ch.ints IntKind.u8 l xs]]))) := by kernel_rfl

def clo4 : AV := .s (.fn 36 [] [(0, 0), (1, 0)])

def A4 (pss : List (List Nat)) (r a : List Nat) : Nat → List AV × List (Option Blk)
  | 0 => ([.s (.xsl (.bss pss)), .s (.nat .i64 pss.length), .s (.nat .i64 0), .s .nil, clo4], [some [.ints .u64 5 a], some [.ints .u64 5 r]])
  | i + 1 => ([.s (.xsl (.bss pss)), .s (.nat .i64 pss.length), .s (.nat .i64 (i + 1)), slQ 2 (yN pss i).length, clo4], [some [.ints .u64 5 (asN r a pss (i + 1))], some [.ints .u64 5 r], some [.ints .u8 (yN pss i).length (yN pss i)]])

theorem yN_len (pss : List (List Nat)) (i : Nat) : (yN pss i).length = (rsN pss i).length + (pss.getD i []).length := by simp [yN]

theorem yN_small {pss : List (List Nat)} {i : Nat} (h : (yN pss i).length / 16 = 0) : rsN pss (i + 1) = yN pss i := by
  show dropQ (yN pss i) = _
  rw [dropQ, h]
  simp

theorem asN_small {r a : List Nat} {pss : List (List Nat)} {i : Nat} (h : (yN pss i).length / 16 = 0) : asN r a pss (i + 1) = asN r a pss i := by
  rw [asN, h]
  rfl

theorem stepA4 {pss : List (List Nat)} {r a : List Nat} (hn : pss.length < 9223372036854775808) (ha : a.length = 5) (hr : r.length = 5) (hk : ok41 pss = true) (i : Nat) (hi : i < pss.length) :
    runR Try.prog [(36, F36)] [] .nat 7 [(6, S6)] Try.f25 4 S4 2 (A4 pss r a i).1 (A4 pss r a i).2 = some (.normal, A4 pss r a (i + 1)) := by
  have h6 := ok41_get hk i
  have h7 := rsN_len pss i
  have h8 := yN_len pss i
  have h9 := asN_len (r := r) (pss := pss) ha i
  cases i with
  | zero =>
    simp only [A4, clo4]
    rw [rr4n]
    have e : yN pss 0 = pss.getD 0 [] := rfl
    refine cond_t (decide_eq_true hi) (nd_of ?_ ?_)
    · simp only [List.mem_cons, List.not_mem_nil, or_false, forall_eq_or_imp, forall_eq, decide_eq_true_eq, true_and, and_true, List.length_append, List.length_drop]; omega
    · by_cases hq : (pss.getD 0 []).length / 16 = 0
      · refine cond_t (decide_eq_true hq) (nd_of ?_ ?_)
        · simp only [List.mem_cons, List.not_mem_nil, or_false, forall_eq, decide_eq_true_eq]; omega
        · simp only [asN_small (e ▸ hq), e, slQ, decide_eq_true hq, cond_true]
          rfl
      · refine cond_f (decide_eq_false hq) (nd_of ?_ ?_)
        · simp only [List.mem_cons, List.not_mem_nil, or_false, forall_eq, decide_eq_true_eq]; omega
        · simp only [asN, e, slQ, decide_eq_false hq, cond_false]
          rfl
  | succ i =>
    have g1 := yN_len pss i
    have g2 := rsN_len pss i
    have g3 := ok41_get hk i
    simp only [A4, clo4, slQ]
    by_cases hp : (yN pss i).length / 16 = 0
    · rw [decide_eq_true hp, cond_true, slW, rr4w]
      have e : yN pss i ++ pss.getD (i + 1) [] = yN pss (i + 1) := by rw [← yN_small hp]; rfl
      have el : (yN pss i).length + (pss.getD (i + 1) []).length = (yN pss (i + 1)).length := by rw [← e]; simp
      rw [e, el]
      refine cond_t (decide_eq_true hi) (nd_of ?_ ?_)
      · simp only [List.mem_cons, List.not_mem_nil, or_false, forall_eq_or_imp, forall_eq, decide_eq_true_eq, true_and, and_true, List.length_append, List.length_drop]; omega
      · by_cases hq : (yN pss (i + 1)).length / 16 = 0
        · refine cond_t (decide_eq_true hq) (nd_of ?_ ?_)
          · simp only [List.mem_cons, List.not_mem_nil, or_false, forall_eq, decide_eq_true_eq]; omega
          · rw [asN_small hq, decide_eq_true hq, cond_true]
            rfl
        · refine cond_f (decide_eq_false hq) (nd_of ?_ ?_)
          · simp only [List.mem_cons, List.not_mem_nil, or_false, forall_eq, decide_eq_true_eq]; omega
          · rw [decide_eq_false hq, cond_false]
            rfl
    · rw [decide_eq_false hp, cond_false, slS, rr4s]
      have e : List.drop (16 * ((yN pss i).length / 16)) (yN pss i) ++ pss.getD (i + 1) [] = yN pss (i + 1) := rfl
      have el : (yN pss i).length - 16 * ((yN pss i).length / 16) + (pss.getD (i + 1) []).length = (yN pss (i + 1)).length := by rw [← e]; simp
      rw [e, el]
      refine cond_t (decide_eq_true hi) (nd_of ?_ ?_)
      · simp only [List.mem_cons, List.not_mem_nil, or_false, forall_eq_or_imp, forall_eq, decide_eq_true_eq, true_and, and_true, List.length_append, List.length_drop]; omega
      · by_cases hq : (yN pss (i + 1)).length / 16 = 0
        · refine cond_t (decide_eq_true hq) (nd_of ?_ ?_)
          · simp only [List.mem_cons, List.not_mem_nil, or_false, forall_eq, decide_eq_true_eq]; omega
          · rw [asN_small hq, decide_eq_true hq, cond_true]
            rfl
        · refine cond_f (decide_eq_false hq) (nd_of ?_ ?_)
          · simp only [List.mem_cons, List.not_mem_nil, or_false, forall_eq, decide_eq_true_eq]; omega
          · rw [decide_eq_false hq, cond_false]
            rfl

theorem loops6 : LoopsOk Try.prog ⟨Try.f25.ntmps, 7, [(6, S6)]⟩ (lb 4 Try.f25) := by
  refine loopsOk_of ?_
  have e : loopsIn [(6, S6)] (lb 4 Try.f25) = [(6, .loop (lb 6 Try.f25), S6)] := by kernel_rfl
  simp only [e]
  intro x hx
  simp only [List.mem_cons, List.not_mem_nil, or_false] at hx
  subst hx
  exact lok6

theorem lok4 : LOk Try.prog Try.f25.ntmps (.block 4 (.loop (lb 4 Try.f25))) S4 := by
  refine lokR (fs := [(36, F36)]) (xs := []) (m := .nat) (fuel := 7) (sums := [(6, S6)]) (.cons ok36 .nil) mixedP loops6 ?_
  intro args hin t e vs hout h hg
  unfold S4 at h
  simp only at h
  split at h
  · rename_i pss n a r
    simp only [Option.some.injEq] at h
    subst h
    obtain ⟨hc, hgt⟩ := Tr.needs_get hg
    clear hg
    have e1 : n = pss.length := of_decide_eq_true (hc _ (by simp))
    have e3 : a.length = 5 := of_decide_eq_true (hc (decide (a.length = 5)) (by simp))
    have e4 : r.length = 5 := of_decide_eq_true (hc (decide (r.length = 5)) (by simp))
    have e5 : n < 9223372036854775808 := of_decide_eq_true (hc (decide (n < 9223372036854775808)) (by simp))
    have e6 : ok41 pss = true := hc _ (by simp)
    clear hc
    subst e1
    refine ⟨pss.length, A4 pss r a, .exit 4, rfl, fun i hi => stepA4 e5 e3 e4 e6 i hi, ?_, ?_⟩
    · show _ = some (Ex.exit 4, vs, hout)
      simp only [Tr.get] at hgt
      cases hl : pss.length with
      | zero =>
        rw [hl] at hgt
        cases hgt
        simp only [A4, clo4, hl, List.length_cons, List.length_nil]
        rw [rr4n]
        exact cond_f rfl rfl
      | succ i =>
        rw [hl] at hgt
        rw [decide_eq_false (by omega : ¬ i + 1 = 0), cond_false, Nat.add_sub_cancel] at hgt
        simp only [A4, clo4, hl, slQ, List.length_cons, List.length_nil]
        cases hq : decide ((yN pss i).length / 16 = 0) with
        | true =>
          rw [hq] at hgt
          cases hgt
          rw [cond_true, slW, rr4w]
          exact cond_f (decide_eq_false (Nat.lt_irrefl _)) rfl
        | false =>
          rw [hq] at hgt
          cases hgt
          rw [cond_false, slS, rr4s]
          exact cond_f (decide_eq_false (Nat.lt_irrefl _)) rfl
    · simp only [Tr.get] at hgt
      cases hz : decide (pss.length = 0) <;> rw [hz] at hgt
      · cases hq : decide ((yN pss (pss.length - 1)).length / 16 = 0) <;> rw [hq] at hgt <;> cases hgt <;> rfl
      · cases hgt; rfl
  · cases h

end Go.Proofs.Ytgebgjhjegadpaa

namespace Go.Proofs.Ytgebgjhjegadpaa
open Go

def clampM (key : List Nat) (i m : Nat) : List Nat := key.set i (key.getD i 0 &&& m)
def clampK (key : List Nat) : List Nat := clampM (clampM (clampM (clampM (clampM (clampM (clampM key 3 15) 7 15) 11 15) 15 15) 4 252) 8 252) 12 252

theorem fn25 : Fn Try.prog 25 Try.f25 := ⟨mixedP, Try.func25, by kernel_rfl, of_decide_eq_true (by kernel_rfl)⟩

theorem loops25 : LoopsOk Try.prog ⟨Try.f25.ntmps, 7, [(4, S4)]⟩ (bodyOf Try.f25) := by
  refine loopsOk_of ?_
  have e : loopsIn [(4, S4)] (bodyOf Try.f25) = [(4, .loop (lb 4 Try.f25), S4)] := by kernel_rfl
  simp only [e]
  intro x hx
  simp only [List.mem_cons, List.not_mem_nil, or_false] at hx
  subst hx
  exact lok4

set_option maxRecDepth 100000 in
theorem r25 (pss : List (List Nat)) (key : List Nat) : runL Try.prog [(35, F35), (36, F36), (38, F38)] [] .nat 7 [(4, S4)] Try.f25 [.agg [.ints .u8 32 key], .s (.xsl (.bss pss))] [] =
(nd [decide ((List.take 16 (clampK key)).length ≤ 17), decide (pss.length < 9223372036854775808), decide (pss.length = pss.length), decide ((numb (List.take 16 (clampK key))).length = 5), decide (pss.length < 9223372036854775808), ok41 pss]
 (cond (decide (pss.length = 0))
 (nd [(clampK key).all fun k => decide (k < 256)]
 (some (AV.agg [Ch.ints IntKind.u8 16 (finL [0, 0, 0, 0, 0] (clampK key))], [])))
 (cond (decide ((yN pss (pss.length - 1)).length / 16 = 0))
 (nd [decide ((yN pss (pss.length - 1)).length < 9223372036854775808)]
 (cond (decide (0 < (yN pss (pss.length - 1)).length))
 (nd [decide ((yN pss (pss.length - 1)).length = (yN pss (pss.length - 1)).length), decide ((yN pss (pss.length - 1)).length = (yN pss (pss.length - 1)).length), decide ((yN pss (pss.length - 1)).length ≤ 16), decide ((asN (numb (List.take 16 (clampK key))) [0, 0, 0, 0, 0] pss pss.length).length = 5), decide ((numb (List.take 16 (clampK key))).length = 5), (clampK key).all fun k => decide (k < 256)]
 (some (AV.agg [Ch.ints IntKind.u8 16 (finL (stepC (numb (List.take 16 (clampK key))) (asN (numb (List.take 16 (clampK key))) [0, 0, 0, 0, 0] pss pss.length) (yN pss (pss.length - 1))) (clampK key))], [])))
 (nd [decide ((asN (numb (List.take 16 (clampK key))) [0, 0, 0, 0, 0] pss pss.length).length = 5), (clampK key).all fun k => decide (k < 256)]
 (some (AV.agg [Ch.ints IntKind.u8 16 (finL (asN (numb (List.take 16 (clampK key))) [0, 0, 0, 0, 0] pss pss.length) (clampK key))], [])))))
 (nd [decide ((yN pss (pss.length - 1)).length - 16 * ((yN pss (pss.length - 1)).length / 16) < 9223372036854775808)]
 (cond (decide (0 < (yN pss (pss.length - 1)).length - 16 * ((yN pss (pss.length - 1)).length / 16)))
 (nd [decide (16 * ((yN pss (pss.length - 1)).length / 16) + ((yN pss (pss.length - 1)).length - 16 * ((yN pss (pss.length - 1)).length / 16)) = (yN pss (pss.length - 1)).length), decide ((List.drop (16 * ((yN pss (pss.length - 1)).length / 16)) (yN pss (pss.length - 1))).length = (yN pss (pss.length - 1)).length - 16 * ((yN pss (pss.length - 1)).length / 16)), decide ((yN pss (pss.length - 1)).length - 16 * ((yN pss (pss.length - 1)).length / 16) ≤ 16), decide ((asN (numb (List.take 16 (clampK key))) [0, 0, 0, 0, 0] pss pss.length).length = 5), decide ((numb (List.take 16 (clampK key))).length = 5), (clampK key).all fun k => decide (k < 256)]
 (some (AV.agg [Ch.ints IntKind.u8 16 (finL (stepC (numb (List.take 16 (clampK key))) (asN (numb (List.take 16 (clampK key))) [0, 0, 0, 0, 0] pss pss.length) (List.drop (16 * ((yN pss (pss.length - 1)).length / 16)) (yN pss (pss.length - 1)))) (clampK key))], [])))
 (nd [decide ((asN (numb (List.take 16 (clampK key))) [0, 0, 0, 0, 0] pss pss.length).length = 5), (clampK key).all fun k => decide (k < 256)]
 (some (AV.agg [Ch.ints IntKind.u8 16 (finL (asN (numb (List.take 16 (clampK key))) [0, 0, 0, 0, 0] pss pss.length) (clampK key))], [])))))))) := by kernel_rfl

def rK (key : List Nat) : List Nat := numb ((clampK key).take 16)

def lastC (r a y : List Nat) : List Nat := if 0 < y.length then stepC r a y else a

def tagC (key : List Nat) (pss : List (List Nat)) : List Nat :=
  finL (lastC (rK key) (asN (rK key) [0, 0, 0, 0, 0] pss pss.length) (rsN pss pss.length)) (clampK key)

def okKey (key : List Nat) : Bool := key.all fun k => decide (k < 256)

def F25 : FSem := ⟨true, fun args hin => match args, hin with
  | [.agg [.ints .u8 32 key], .s (.xsl (.bss pss))], [] => some (Tr.needs [decide (pss.length < 9223372036854775808), ok41 pss, okKey key] (.leaf (.agg [.ints .u8 16 (tagC key pss)], [])))
  | _, _ => none⟩

theorem numStep_len (x : List Nat) (j v : Nat) : (numStep x j v).length = x.length := by
  unfold numStep numStep2 numStep1
  split <;> simp

theorem numN_len (xs : List Nat) : ∀ j, (numN xs j).length = 5
  | 0 => rfl
  | j + 1 => by rw [numN, numStep_len, numN_len xs j]

theorem numb_len (xs : List Nat) : (numb xs).length = 5 := numN_len xs _

theorem okKey_set {key : List Nat} (h : okKey key = true) (i : Nat) {v : Nat} (hv : v < 256) : okKey (key.set i v) = true := by
  refine List.all_eq_true.2 fun x hx => ?_
  rcases List.mem_or_eq_of_mem_set hx with h' | h'
  · exact List.all_eq_true.1 h x h'
  · subst h'; exact decide_eq_true hv

theorem okKey_clampM {key : List Nat} (h : okKey key = true) (i m : Nat) : okKey (clampM key i m) = true :=
  okKey_set h i (Nat.lt_of_le_of_lt Nat.and_le_left (key_lt h i))

theorem okKey_clamp {key : List Nat} (h : okKey key = true) : okKey (clampK key) = true :=
  okKey_clampM (okKey_clampM (okKey_clampM (okKey_clampM (okKey_clampM (okKey_clampM (okKey_clampM h _ _) _ _) _ _) _ _) _ _) _ _) _ _

theorem ok25 : FOk Try.prog 25 F25 := by
  refine fokL (fs := [(35, F35), (36, F36), (38, F38)]) (xs := []) (m := .nat) (fuel := 7) (sums := [(4, S4)]) (.cons ok35 (.cons ok36 (.cons ok38 .nil))) fn25 loops25 ?_
  intro args hin t r h hg
  unfold F25 at h
  simp only at h
  split at h
  · rename_i key pss
    cases h
    obtain ⟨hc, hgt⟩ := Tr.needs_get hg
    cases hgt
    have h1 : pss.length < 9223372036854775808 := of_decide_eq_true (hc _ (by simp))
    have h2 : ok41 pss = true := hc _ (by simp)
    have h3 : okKey key = true := hc (okKey key) (by simp)
    clear hc hg
    have hK : ((clampK key).all fun k => decide (k < 256)) = true := okKey_clamp h3
    rw [r25]
    unfold tagC rK
    have hnl := numb_len (List.take 16 (clampK key))
    have hal := asN_len (r := numb (List.take 16 (clampK key))) (a := [0, 0, 0, 0, 0]) (pss := pss) rfl pss.length
    refine nd_of ?_ ?_
    · simp only [List.mem_cons, List.not_mem_nil, or_false, forall_eq_or_imp, forall_eq, decide_eq_true_eq, true_and, hnl, h2, List.length_take, and_true]; omega
    by_cases hz : pss.length = 0
    · refine cond_t (decide_eq_true hz) (nd_of ?_ ?_)
      · simp only [List.mem_cons, List.not_mem_nil, or_false, forall_eq, hK]
      · rw [hz]; rfl
    · refine cond_f (decide_eq_false hz) ?_
      obtain ⟨i, hi⟩ : ∃ i, pss.length = i + 1 := ⟨pss.length - 1, by omega⟩
      have hl : (yN pss i).length < 16 + 2199023255552 := by
        have := rsN_len pss i
        have := ok41_get h2 i
        rw [yN_len]; omega
      rw [hi] at hal
      rw [hi, Nat.add_sub_cancel]
      by_cases hq : (yN pss i).length / 16 = 0
      · refine cond_t (decide_eq_true hq) (nd_of ?_ ?_)
        · simp only [List.mem_cons, List.not_mem_nil, or_false, forall_eq, decide_eq_true_eq]; omega
        · rw [yN_small hq]
          by_cases hp : 0 < (yN pss i).length
          · refine cond_t (decide_eq_true hp) (nd_of ?_ ?_)
            · simp only [List.mem_cons, List.not_mem_nil, or_false, forall_eq_or_imp, forall_eq, decide_eq_true_eq, true_and, and_true, List.length_drop, hnl, hal, hK]; omega
            · rw [lastC, if_pos hp]
          · refine cond_f (decide_eq_false hp) (nd_of ?_ ?_)
            · simp only [List.mem_cons, List.not_mem_nil, or_false, forall_eq_or_imp, forall_eq, decide_eq_true_eq, hal, hK, and_self]
            · rw [lastC, if_neg hp]
      · have e : rsN pss (i + 1) = List.drop (16 * ((yN pss i).length / 16)) (yN pss i) := rfl
        have el : (rsN pss (i + 1)).length = (yN pss i).length - 16 * ((yN pss i).length / 16) := by rw [e, List.length_drop]
        refine cond_f (decide_eq_false hq) (nd_of ?_ ?_)
        · simp only [List.mem_cons, List.not_mem_nil, or_false, forall_eq, decide_eq_true_eq]; omega
        · rw [← e, ← el]
          by_cases hp : 0 < (rsN pss (i + 1)).length
          · refine cond_t (decide_eq_true hp) (nd_of ?_ ?_)
            · simp only [List.mem_cons, List.not_mem_nil, or_false, forall_eq_or_imp, forall_eq, decide_eq_true_eq, true_and, and_true, List.length_drop, hnl, hal, hK]; omega
            · rw [lastC, if_pos hp]
          · refine cond_f (decide_eq_false hp) (nd_of ?_ ?_)
            · simp only [List.mem_cons, List.not_mem_nil, or_false, forall_eq_or_imp, forall_eq, decide_eq_true_eq, hal, hK, and_self]
            · rw [lastC, if_neg hp]
  · cases h

end Go.Proofs.Ytgebgjhjegadpaa

/-
  Part 3 of what the last text stands on: The abstract machine: regions, sound: in order, and in any order.
-/
import Derived.Test.YtgebgjhjegadpaaB2
import Derived.LoopN
import Derived.ProofKit
import Derived.OpenShut
import Derived.Test.YtgebgjhjegadpaaRows

set_option linter.unusedSimpArgs false
set_option linter.unusedVariables false

namespace Go.Proofs.Ytgebgjhjegadpaa
open Go

section
variable {X : Kit} {C : C0} {ops : Array Oper} {T : Nat → AV} {H : Nat → Option Blk} {a : Act} {w : World}

theorem zip_get {os : List Oper} {rs : List Did} (hlen : rs.length = os.length) {j : Nat} {o : Oper} (ho : os[j]? = some o) : ∃ r, rs[j]? = some r ∧ (os.zip rs)[j]? = some (o, r) := by
  have hj := (List.getElem?_eq_some_iff.1 ho).1
  refine ⟨rs[j]'(by omega), List.getElem?_eq_getElem _, ?_⟩
  rw [List.getElem?_zip_eq_some]
  exact ⟨ho, List.getElem?_eq_getElem _⟩

theorem zip_get' {os : List Oper} {rs : List Did} {j : Nat} {p : Pr} (h : (os.zip rs)[j]? = some p) : os[j]? = some p.1 ∧ rs[j]? = some p.2 := by
  obtain ⟨o, r⟩ := p
  rw [List.getElem?_zip_eq_some] at h
  exact h

theorem fresh_at {os : List Oper} {rs : List Did} {nx j nxj : Nat} {o : Oper} {r : Did} {S : Nat → Bool} (hSj : S j = false) (hp : (os.zip rs)[j]? = some (o, r)) (hst : ∀ n, (lkF r.out.nw n).isSome = true → nxj ≤ n ∧ n < nxj + r.out.nw.length) (hnx : nx ≤ nxj)
    (h3 : ∀ (k : Nat) (p : Pr) (n : Nat), (os.zip rs)[k]? = some p → (lkF p.2.out.nw n).isSome = true → nx ≤ n ∧ (k < j → n < nxj) ∧ (j < k → nxj + r.out.nw.length ≤ n)) :
    ∀ n, (lkF r.out.nw n).isSome = true → ¬ selD S (os.zip rs) (fun n => n < nx) n := by
  intro n hn h
  have hr := hst n hn
  rcases h with h | ⟨k, p, e1, e2, e3⟩
  · omega
  · have := h3 k p n e1 e3
    rcases Nat.lt_trichotomy k j with h | h | h
    · have := this.2.1 h; omega
    · subst h; rw [hSj] at e2; cases e2
    · have := this.2.2 h; omega

theorem selD_end {os : List Oper} {rs : List Did} {nx : Nat} {S : Nat → Bool} (ht : TraceP X ops os rs T H nx) (n : Nat) (h : selD S (os.zip rs) (fun n => n < nx) n) : n < nx + ((os.zip rs).map (·.2.out.nw.length)).sum := by
  rcases h with h | ⟨k, p, e1, e2, e3⟩
  · omega
  · clear e2
    induction os generalizing rs T H nx k with
    | nil => simp at e1
    | cons o os ih =>
      cases rs with
      | nil => simp at e1
      | cons r rs =>
        obtain ⟨hs, ht⟩ := ht
        cases k with
        | zero =>
          simp only [List.zip_cons_cons, List.getElem?_cons_zero, Option.some.injEq] at e1
          subst e1
          have := (hs.names e3).2
          simp only [List.zip_cons_cons, List.map_cons, List.sum_cons]
          omega
        | succ k =>
          have := ih ht k (by simpa using e1)
          simp only [List.zip_cons_cons, List.map_cons, List.sum_cons]
          omega

theorem region_seq (hX : KitOk X C) {rs : List Did} {nx : Nat} {Q : Exit → Act → World → Prop} (hlen : rs.length = ops.toList.length) (ht : TraceP X ops ops.toList rs T H nx) (hI : RelA C T H (fun n => n < nx) a w)
    (hQ : ∀ a' w', RelA C (selT (fun _ => true) 0 (ops.toList.zip rs) T) (selH (fun _ => true) 0 (ops.toList.zip rs) H) (fun n => n < nx + ((ops.toList.zip rs).map (·.2.out.nw.length)).sum) a' w' → Q .normal a' w') :
    wpOps X.E.P ops Q (List.range ops.size) a w := by
  have key : ∀ (m j : Nat) (a : Act) (w : World), j + m = ops.size → RelA C (selT (fun k => decide (k < j)) 0 (ops.toList.zip rs) T) (selH (fun k => decide (k < j)) 0 (ops.toList.zip rs) H) (selD (fun k => decide (k < j)) (ops.toList.zip rs) (fun n => n < nx)) a w →
      wpOps X.E.P ops Q (List.range' j m) a w := by
    intro m
    induction m with
    | zero =>
      intro j a w hj hI
      simp only [List.range'_zero, wpOps]
      refine hQ a w ?_
      have e1 : selT (fun k => decide (k < j)) 0 (ops.toList.zip rs) T = selT (fun _ => true) 0 (ops.toList.zip rs) T := by
        funext t
        rw [selT_get, selT_get]
        refine selV_congr fun k u hu => ?_
        have := (List.getElem?_eq_some_iff.1 hu).1
        simp at this
        simp; omega
      have e2 : selH (fun k => decide (k < j)) 0 (ops.toList.zip rs) H = selH (fun _ => true) 0 (ops.toList.zip rs) H := by
        funext t
        rw [selH_get, selH_get]
        refine selV_congr fun k u hu => ?_
        have := (List.getElem?_eq_some_iff.1 hu).1
        simp at this
        simp; omega
      rw [e1, e2] at hI
      exact hI.weaken fun n hn => selD_end ht n hn
    | succ m ih =>
      intro j a w hj hI
      rw [List.range'_succ, wpOps_cons]
      have hlt : j < ops.size := by omega
      have ho : ops[j]? = some ops[j] := Array.getElem?_eq_getElem hlt
      obtain ⟨r, hr, hp⟩ := zip_get hlen (j := j) (o := ops[j]) (by rw [Array.getElem?_toList]; exact ho)
      obtain ⟨nxj, h1, h2, h3⟩ := TraceP_get (i := 0) ht hp
      rw [Nat.zero_add] at h1
      refine step_at hX ho hp (by simp) h1 (fun _ _ => rfl) (fun _ _ => rfl) (fresh_at (by simp) hp (fun n hn => h1.names hn) h2 h3) (fun t _ k p hk _ hS => ?_) (fun n _ k p hk _ hS => ?_) hI (fun S' a' w' hS' hI' => ?_)
      · simp at hS; omega
      · simp at hS; omega
      · have : S' = fun k => decide (k < j + 1) := by
          funext k
          rw [hS' k]
          by_cases h : k = j
          · subst h; simp
          · have : (k == j) = false := by simp [h]
            rw [this, Bool.or_false]
            by_cases h' : k < j
            · simp [h']; omega
            · simp [h']; omega
        subst this
        exact ih (j + 1) a' w' (by omega) hI'
  rw [List.range_eq_range']
  refine key ops.size 0 a w (by omega) ?_
  have e1 : selT (fun k => decide (k < 0)) 0 (ops.toList.zip rs) T = T := by
    funext t; rw [selT_get]; exact selV_none fun k u _ => by simp
  have e2 : selH (fun k => decide (k < 0)) 0 (ops.toList.zip rs) H = H := by
    funext t; rw [selH_get]; exact selV_none fun k u _ => by simp
  rw [e1, e2]
  exact hI.weaken fun n hn => .inl hn

/-! Which come before which. -/
theorem hasBit_lor (a b x : Nat) : hasBit (Nat.lor a b) x = (hasBit a x || hasBit b x) := Nat.testBit_or a b x
theorem hasBit_pow (t x : Nat) : hasBit (Nat.pow 2 t) x = decide (t = x) := Nat.testBit_two_pow
theorem hasBit_zero (x : Nat) : hasBit 0 x = false := Nat.zero_testBit x

theorem bindE_eq (e : Edge) : Region.binds .any e = bindE e := by
  unfold Region.binds bindE
  cases e.ground <;> rfl

theorem ancE_spec {j : Nat} {anc : List Nat} : ∀ {es : List Edge} {m : Nat}, ancE j anc es = some m → (∀ e ∈ es, bindE e = true → e.on < j) ∧
    ∀ x, hasBit m x = true → ∃ e ∈ es, bindE e = true ∧ (x = e.on ∨ ∃ m', anc[e.on]? = some m' ∧ hasBit m' x = true)
  | [], m, h => by
    simp only [ancE, Option.some.injEq] at h
    subst h
    exact ⟨by simp, fun x hx => by rw [hasBit_zero] at hx; cases hx⟩
  | e :: es, m, h => by
    unfold ancE at h
    split at h
    · rename_i hb
      obtain ⟨h1, h2⟩ := ancE_spec h
      refine ⟨fun e' he' hb' => ?_, fun x hx => ?_⟩
      · rcases List.mem_cons.1 he' with rfl | he'
        · rw [hb] at hb'; cases hb'
        · exact h1 e' he' hb'
      · obtain ⟨e', he', h3⟩ := h2 x hx
        exact ⟨e', List.mem_cons_of_mem _ he', h3⟩
    · rename_i hb
      split at h
      · rename_i m0 r hlt hm0 hr
        simp only [Option.some.injEq] at h
        subst h
        obtain ⟨h1, h2⟩ := ancE_spec hr
        refine ⟨fun e' he' hb' => ?_, fun x hx => ?_⟩
        · rcases List.mem_cons.1 he' with rfl | he'
          · exact Nat.le_of_ble_eq_true hlt
          · exact h1 e' he' hb'
        · rw [hasBit_lor, hasBit_lor, hasBit_pow] at hx
          simp only [Bool.or_eq_true, decide_eq_true_eq] at hx
          rcases hx with (hx | hx) | hx
          · exact ⟨e, List.mem_cons_self, hb, .inl hx.symm⟩
          · exact ⟨e, List.mem_cons_self, hb, .inr ⟨m0, hm0, hx⟩⟩
          · obtain ⟨e', he', h3⟩ := h2 x hx
            exact ⟨e', List.mem_cons_of_mem _ he', h3⟩
      · cases h

theorem ancs_spec : ∀ {os : List Oper} {acc ms : List Nat}, ancs os acc = some ms → (∃ l, ms = acc ++ l ∧ l.length = os.length) ∧
    ∀ (i : Nat) (o : Oper), os[i]? = some o → ∃ m, ms[acc.length + i]? = some m ∧ (∀ e ∈ o.after, bindE e = true → e.on < acc.length + i) ∧
      ∀ x, hasBit m x = true → ∃ e ∈ o.after, bindE e = true ∧ (x = e.on ∨ ∃ m', ms[e.on]? = some m' ∧ hasBit m' x = true)
  | [], acc, ms, h => by
    simp only [ancs, Option.some.injEq] at h
    subst h
    exact ⟨⟨[], by simp, rfl⟩, fun i o e => by simp at e⟩
  | o :: os, acc, ms, h => by
    unfold ancs at h
    split at h
    · rename_i m hm
      obtain ⟨⟨l, hl, hll⟩, h2⟩ := ancs_spec h
      obtain ⟨h3, h4⟩ := ancE_spec hm
      refine ⟨⟨m :: l, by rw [hl]; simp, by simp [hll]⟩, fun i o' e => ?_⟩
      cases i with
      | zero =>
        simp only [List.getElem?_cons_zero, Option.some.injEq] at e
        subst e
        refine ⟨m, by rw [hl]; simp, fun e he hb => h3 e (by simpa using he) hb, fun x hx => ?_⟩
        obtain ⟨e, he, hb, h5⟩ := h4 x hx
        refine ⟨e, by simpa using he, hb, h5.imp id fun ⟨m', h6, h7⟩ => ⟨m', ?_, h7⟩⟩
        have hlt := (List.getElem?_eq_some_iff.1 h6).1
        rw [hl, List.append_assoc, List.getElem?_append_left hlt]
        exact h6
      | succ i =>
        obtain ⟨m', h5, h6, h7⟩ := h2 i o' (by simpa using e)
        simp only [List.length_append, List.length_singleton] at h5 h6
        rw [show acc.length + 1 + i = acc.length + (i + 1) by omega] at h5 h6
        exact ⟨m', h5, h6, h7⟩
    · cases h

theorem stas_spec : ∀ {os : List Oper} {ms : List Nat} {st : List Sta}, stas ops os ms = some st → st.length = os.length ∧ ms.length = os.length ∧ ∀ (i : Nat) (o : Oper) (m : Nat), os[i]? = some o → ms[i]? = some m → st[i]? = some ⟨o.dst, lookMask ops o, m⟩
  | [], [], st, h => by simp only [stas, Option.some.injEq] at h; subst h; exact ⟨rfl, rfl, fun i o m e => by simp at e⟩
  | [], _ :: _, st, h => by simp [stas] at h
  | _ :: _, [], st, h => by simp [stas] at h
  | o :: os, m :: ms, st, h => by
    unfold stas at h
    split at h
    · rename_i r hr
      simp only [Option.some.injEq] at h
      subst h
      obtain ⟨h1, h2, h3⟩ := stas_spec hr
      refine ⟨by simp [h1], by simp [h2], fun i o' m' e1 e2 => ?_⟩
      cases i with
      | zero => simp only [List.getElem?_cons_zero, Option.some.injEq] at e1 e2 ⊢; subst e1; subst e2; rfl
      | succ i => simpa using h3 i o' m' (by simpa using e1) (by simpa using e2)
    · cases h

theorem tmpMask_spec : ∀ {l : List Operand} {t : Nat}, .tmp t ∈ l → hasBit (tmpMask l) t = true
  | [], t, h => by cases h
  | x :: l, t, h => by
    rcases List.mem_cons.1 h with e | h
    · subst e; simp only [tmpMask, hasBit_lor, hasBit_pow, decide_true, Bool.true_or]
    · have := tmpMask_spec h
      cases x <;> simp only [tmpMask, hasBit_lor, this, Bool.or_true]

theorem lookMask_spec {o : Oper} {t : Nat} (h : Looks ops o t) : hasBit (lookMask ops o) t = true := by
  unfold lookMask
  rcases h with h | h
  · have := tmpMask_spec (Array.mem_toList_iff.2 h)
    split
    · rw [hasBit_lor, this, Bool.or_true]
    · exact this
  · rw [h]; simp only [hasBit_lor, hasBit_pow, decide_true, Bool.true_or]

theorem staAgainst_spec {i : Nat} {x : Sta} : ∀ {ys : List Sta}, staAgainst i x ys = true → ∀ (q : Nat) (y : Sta), ys[q]? = some y → staPair i x y = true
  | [], _, q, y, e => by simp at e
  | z :: ys, h, q, y, e => by
    unfold staAgainst at h
    split at h
    · rename_i hz
      cases q with
      | zero => simp only [List.getElem?_cons_zero, Option.some.injEq] at e; subst e; exact hz
      | succ q => exact staAgainst_spec h q y (by simpa using e)
    · cases h

theorem staAll_spec : ∀ {xs : List Sta} {i : Nat}, staAll i xs = true → ∀ (p q : Nat) (x y : Sta), p < q → xs[p]? = some x → xs[q]? = some y → staPair (i + p) x y = true
  | [], i, _, p, q, x, y, _, e, _ => by simp at e
  | z :: xs, i, h, p, q, x, y, hpq, e1, e2 => by
    unfold staAll at h
    split at h
    · rename_i hz
      obtain ⟨q, rfl⟩ : ∃ q', q = q' + 1 := ⟨q - 1, by omega⟩
      cases p with
      | zero =>
        simp only [List.getElem?_cons_zero, Option.some.injEq] at e1
        subst e1
        exact staAgainst_spec hz q y (by simpa using e2)
      | succ p =>
        have := staAll_spec h p q x y (by omega) (by simpa using e1) (by simpa using e2)
        rw [show i + (p + 1) = i + 1 + p by omega]; exact this
    · cases h

theorem didFwd_spec {i : Nat} {ts : List Nat} : ∀ {ys : List Sta} {rs : List Did}, didFwd i ts ys rs = true → ∀ (q : Nat) (y : Sta) (r : Did), ys[q]? = some y → rs[q]? = some r → hasBit y.anc i = true ∨ (disjN ts r.rd = true ∧ disjN ts r.tch = true)
  | [], rs, _, q, y, r, e, _ => by simp at e
  | _ :: _, [], _, q, y, r, _, e => by simp at e
  | z :: ys, s :: rs, h, q, y, r, e1, e2 => by
    unfold didFwd at h
    split at h
    · rename_i hz
      cases q with
      | zero =>
        simp only [List.getElem?_cons_zero, Option.some.injEq] at e1 e2
        subst e1; subst e2
        simpa [Bool.or_eq_true, Bool.and_eq_true] using hz
      | succ q => exact didFwd_spec h q y r (by simpa using e1) (by simpa using e2)
    · cases h

theorem didBwd_spec {i : Nat} {rd : List Nat} : ∀ {ys : List Sta} {rs : List Did}, didBwd i rd ys rs = true → ∀ (q : Nat) (y : Sta) (r : Did), ys[q]? = some y → rs[q]? = some r → r.tch = [] ∨ hasBit y.anc i = true ∨ disjN r.tch rd = true
  | [], rs, _, q, y, r, e, _ => by simp at e
  | _ :: _, [], _, q, y, r, _, e => by simp at e
  | z :: ys, s :: rs, h, q, y, r, e1, e2 => by
    unfold didBwd at h
    split at h
    · rename_i hz
      cases q with
      | zero =>
        simp only [List.getElem?_cons_zero, Option.some.injEq] at e1 e2
        subst e1; subst e2
        simp only [Bool.or_eq_true] at hz
        refine hz.imp (fun h => ?_) id
        cases ht : s.tch with
        | nil => rfl
        | cons _ _ => rw [ht] at h; cases h
      | succ q => exact didBwd_spec h q y r (by simpa using e1) (by simpa using e2)
    · cases h

theorem didAll_spec : ∀ {ys : List Sta} {rs : List Did} {i : Nat}, didAll i ys rs = true → ∀ (p q : Nat) (x y : Did) (z : Sta), p < q → ys.length = rs.length → rs[p]? = some x → rs[q]? = some y → ys[q]? = some z →
    (x.tch = [] ∨ hasBit z.anc (i + p) = true ∨ (disjN x.tch y.rd = true ∧ disjN x.tch y.tch = true)) ∧ (y.tch = [] ∨ hasBit z.anc (i + p) = true ∨ disjN y.tch x.rd = true)
  | [], rs, i, _, p, q, x, y, z, _, _, _, _, e => by simp at e
  | _ :: _, [], i, _, p, q, x, y, z, _, _, e, _, _ => by simp at e
  | s :: ys, r :: rs, i, h, p, q, x, y, z, hpq, hl, e1, e2, e3 => by
    unfold didAll at h
    split at h
    · rename_i hz
      rw [Bool.and_eq_true, Bool.or_eq_true] at hz
      obtain ⟨q, rfl⟩ : ∃ q', q = q' + 1 := ⟨q - 1, by omega⟩
      have e2 : rs[q]? = some y := by simpa using e2
      have e3 : ys[q]? = some z := by simpa using e3
      cases p with
      | zero =>
        simp only [List.getElem?_cons_zero, Option.some.injEq] at e1
        subst e1
        refine ⟨?_, didBwd_spec hz.2 q z y e3 e2⟩
        rcases hz.1 with h1 | h1
        · left
          cases ht : r.tch with
          | nil => rfl
          | cons _ _ => rw [ht] at h1; cases h1
        · exact .inr (didFwd_spec h1 q z y e3 e2)
      | succ p =>
        have := didAll_spec h p q x y z (by omega) (by simpa using hl) (by simpa using e1) e2 e3
        rw [show i + (p + 1) = i + 1 + p by omega]; exact this
    · cases h

end
end Go.Proofs.Ytgebgjhjegadpaa

namespace Go.Proofs.Ytgebgjhjegadpaa
open Go

section
variable {X : Kit} {C : C0} {ops : Array Oper} {T : Nat → AV} {H : Nat → Option Blk} {a : Act} {w : World}

def lst (listed : Array Bool) : Nat → Bool := fun k => listed.getD k false

/-- Each listed operation's grounds are listed. -/
def Closed (ops : Array Oper) (S : Nat → Bool) : Prop := ∀ (k : Nat) (o : Oper), ops[k]? = some o → S k = true → ∀ e ∈ o.after, bindE e = true → S e.on = true

theorem anc_in {S : Nat → Bool} (hS : Closed ops S) {ms : List Nat} (hms : ∀ (i : Nat) (o : Oper), ops[i]? = some o → ∃ m, ms[i]? = some m ∧ (∀ e ∈ o.after, bindE e = true → e.on < i) ∧
    ∀ x, hasBit m x = true → ∃ e ∈ o.after, bindE e = true ∧ (x = e.on ∨ ∃ m', ms[e.on]? = some m' ∧ hasBit m' x = true)) :
    ∀ (j : Nat) (o : Oper) (m x : Nat), ops[j]? = some o → (∀ e ∈ o.after, bindE e = true → S e.on = true) → ms[j]? = some m → hasBit m x = true → S x = true := by
  intro j
  induction j using Nat.strongRecOn with
  | _ j ih =>
    intro o m x ho hd hm hx
    obtain ⟨m1, h1, h2, h3⟩ := hms j o ho
    rw [hm] at h1
    cases h1
    obtain ⟨e, he, hb, h4⟩ := h3 x hx
    have hlt := h2 e he hb
    have hSe := hd e he hb
    rcases h4 with rfl | ⟨m', h5, h6⟩
    · exact hSe
    · have hj := (Array.getElem?_eq_some_iff.1 ho).1
      have hoe : ops[e.on]? = some ops[e.on] := Array.getElem?_eq_getElem (by omega)
      exact ih e.on hlt _ m' x hoe (hS e.on _ hoe hSe) h5 h6

theorem region_any (hX : KitOk X C) {rs : List Did} {st : List Sta} {nx : Nat} {Q : Exit → Act → World → Prop} (hst : stasOf ops = some st) (hall : staAll 0 st = true) (hdid : didAll 0 st rs = true) (hlen : rs.length = ops.toList.length)
    (ht : TraceP X ops ops.toList rs T H nx) (hI : RelA C T H (fun n => n < nx) a w)
    (hQ : ∀ a' w', RelA C (selT (fun _ => true) 0 (ops.toList.zip rs) T) (selH (fun _ => true) 0 (ops.toList.zip rs) H) (fun n => n < nx + ((ops.toList.zip rs).map (·.2.out.nw.length)).sum) a' w' → Q .normal a' w') :
    wpAny X.E.P .any ops Q ops.size (Array.replicate ops.size false) a w := by
  -- the static side
  unfold stasOf at hst
  split at hst
  rotate_left
  · cases hst
  rename_i ms hms
  obtain ⟨⟨l, hl, _⟩, hanc⟩ := ancs_spec hms
  obtain ⟨hsl, _, hsg⟩ := stas_spec hst
  have hms' : ∀ (i : Nat) (o : Oper), ops[i]? = some o → ∃ m, ms[i]? = some m ∧ (∀ e ∈ o.after, bindE e = true → e.on < i) ∧
      ∀ x, hasBit m x = true → ∃ e ∈ o.after, bindE e = true ∧ (x = e.on ∨ ∃ m', ms[e.on]? = some m' ∧ hasBit m' x = true) := fun i o ho => by
    have := hanc i o (by rw [Array.getElem?_toList]; exact ho)
    simpa using this
  -- two operations, the one in front of the other: ordered, or apart
  have hpair : ∀ {i j : Nat} {oi oj : Oper} {ri rj : Did}, i < j → (ops.toList.zip rs)[i]? = some (oi, ri) → (ops.toList.zip rs)[j]? = some (oj, rj) →
      (∃ m, ms[j]? = some m ∧ hasBit m i = true) ∨
      ((∀ t, oi.dst = some t → ¬ Looks ops oj t) ∧ (∀ t, oi.dst = some t → oj.dst ≠ some t) ∧ (∀ t, oj.dst = some t → ¬ Looks ops oi t) ∧
        (∀ n, n ∈ ri.tch → n ∉ rj.rd) ∧ (∀ n, n ∈ ri.tch → n ∉ rj.tch) ∧ (∀ n, n ∈ rj.tch → n ∉ ri.rd)) := by
    intro i j oi oj ri rj hij hi hj
    obtain ⟨hoi, hri⟩ := zip_get' hi
    obtain ⟨hoj, hrj⟩ := zip_get' hj
    obtain ⟨mi, hmi, _⟩ := hanc i oi hoi
    obtain ⟨mj, hmj, _⟩ := hanc j oj hoj
    simp only [List.length_nil, Nat.zero_add] at hmi hmj
    have hsi := hsg i oi mi hoi hmi
    have hsj := hsg j oj mj hoj hmj
    have h1 := staAll_spec hall i j _ _ hij hsi hsj
    have h2 := didAll_spec hdid i j _ _ _ hij (by omega) hri hrj hsj
    simp only [Nat.zero_add, staPair, Bool.or_eq_true, Bool.and_eq_true] at h1 h2
    by_cases hb : hasBit mj i = true
    · exact .inl ⟨mj, hmj, hb⟩
    · right
      rcases h1 with h1 | ⟨⟨h1, h3⟩, h4⟩
      · exact absurd h1 hb
      · refine ⟨fun t e hl => ?_, fun t e e' => ?_, fun t e hl => ?_, fun n hn => ?_, fun n hn => ?_, fun n hn => ?_⟩
        · rw [e] at h1; simp only [dstNot, lookMask_spec hl] at h1; cases h1
        · rw [e, e'] at h3; simp [dstNe] at h3
        · rw [e] at h4; simp only [dstNot, lookMask_spec hl] at h4; cases h4
        · rcases h2.1 with h | h | h
          · rw [h] at hn; cases hn
          · exact absurd h hb
          · exact fun h' => disjN_spec h.1 n h' hn
        · rcases h2.1 with h | h | h
          · rw [h] at hn; cases hn
          · exact absurd h hb
          · exact fun h' => disjN_spec h.2 n h' hn
        · rcases h2.2 with h | h | h
          · rw [h] at hn; cases hn
          · exact absurd h hb
          · exact fun h' => disjN_spec h n h' hn
  have key : ∀ (fuel : Nat) (listed : Array Bool) (a : Act) (w : World) (un : List Nat), listed.size = ops.size → un.length ≤ fuel → (∀ k, k < ops.size → lst listed k = false → k ∈ un) → Closed ops (lst listed) →
      RelA C (selT (lst listed) 0 (ops.toList.zip rs) T) (selH (lst listed) 0 (ops.toList.zip rs) H) (selD (lst listed) (ops.toList.zip rs) (fun n => n < nx)) a w → wpAny X.E.P .any ops Q fuel listed a w := by
    -- once all are listed
    have hdone : ∀ (listed : Array Bool) (a : Act) (w : World), listed.size = ops.size → (∀ k, k < ops.size → lst listed k = true) →
        RelA C (selT (lst listed) 0 (ops.toList.zip rs) T) (selH (lst listed) 0 (ops.toList.zip rs) H) (selD (lst listed) (ops.toList.zip rs) (fun n => n < nx)) a w → Region.ready .any ops listed = [] ∧ Q .normal a w := by
      intro listed a w hsz hl hI
      refine ⟨?_, hQ a w ?_⟩
      · rw [List.eq_nil_iff_forall_not_mem]
        intro j hj
        obtain ⟨h0, o, ho, _⟩ := mem_ready.1 hj
        have hlt := (Array.getElem?_eq_some_iff.1 ho).1
        have := hl j hlt
        unfold lst at this
        rw [Array.getD_eq_getD_getElem?, Array.getElem?_eq_getElem (by omega)] at this h0
        simp only [Option.getD_some] at this h0
        rw [h0] at this
        cases this
      · have e1 : selT (lst listed) 0 (ops.toList.zip rs) T = selT (fun _ => true) 0 (ops.toList.zip rs) T := by
          funext t
          rw [selT_get, selT_get]
          refine selV_congr fun k u hu => ?_
          have := (List.getElem?_eq_some_iff.1 hu).1
          simp at this
          rw [Nat.zero_add]
          exact hl k (by omega)
        have e2 : selH (lst listed) 0 (ops.toList.zip rs) H = selH (fun _ => true) 0 (ops.toList.zip rs) H := by
          funext t
          rw [selH_get, selH_get]
          refine selV_congr fun k u hu => ?_
          have := (List.getElem?_eq_some_iff.1 hu).1
          simp at this
          rw [Nat.zero_add]
          exact hl k (by omega)
        rw [e1, e2] at hI
        exact hI.weaken fun n hn => selD_end ht n hn
    -- if none is ready, all are listed
    have hprog : ∀ (listed : Array Bool), listed.size = ops.size → Region.ready .any ops listed = [] → ∀ k, k < ops.size → lst listed k = true := by
      intro listed hsz hr k
      induction k using Nat.strongRecOn with
      | _ k ih =>
        intro hk
        cases hl : lst listed k with
        | true => rfl
        | false =>
          exfalso
          have ho : ops[k]? = some ops[k] := Array.getElem?_eq_getElem hk
          have : k ∈ Region.ready .any ops listed := by
            rw [mem_ready]
            refine ⟨?_, _, ho, fun e he hb => ?_⟩
            · unfold lst at hl
              rw [Array.getD_eq_getD_getElem?, Array.getElem?_eq_getElem (by omega)] at hl ⊢
              exact hl
            · rw [bindE_eq] at hb
              obtain ⟨m, _, h2, _⟩ := hms' k _ ho
              have := h2 e he hb
              exact ih e.on this (by omega)
          rw [hr] at this
          cases this
    intro fuel
    induction fuel with
    | zero =>
      intro listed a w un hsz hun hcov hcl hI
      have : un = [] := List.length_eq_zero_iff.1 (by omega)
      subst this
      exact hdone listed a w hsz (fun k hk => by cases h : lst listed k with
        | true => rfl
        | false => exact absurd (hcov k hk h) (by simp)) hI
    | succ fuel ih =>
      intro listed a w un hsz hun hcov hcl hI
      refine ⟨fun hr => (hdone listed a w hsz (hprog listed hsz hr) hI).2, fun j hj => ?_⟩
      obtain ⟨h0, o, ho, hedge⟩ := mem_ready.1 hj
      have hlt := (Array.getElem?_eq_some_iff.1 ho).1
      have hSj : lst listed j = false := by
        unfold lst
        rw [Array.getD_eq_getD_getElem?, Array.getElem?_eq_getElem (by omega)] at h0 ⊢
        exact h0
      have hedge' : ∀ e ∈ o.after, bindE e = true → lst listed e.on = true := fun e he hb => hedge e he (by rw [bindE_eq]; exact hb)
      obtain ⟨r, hr, hp⟩ := zip_get hlen (j := j) (o := o) (by rw [Array.getElem?_toList]; exact ho)
      obtain ⟨nxj, h1, h2, h3⟩ := TraceP_get (i := 0) ht hp
      rw [Nat.zero_add] at h1
      -- one in front of j that is not listed yet; one behind it that is: both apart from it
      have hfront : ∀ {k : Nat} {p : Pr}, k < j → lst listed k = false → (ops.toList.zip rs)[k]? = some p → (∀ t, p.1.dst = some t → ¬ Looks ops o t) ∧ (∀ n, n ∈ p.2.tch → n ∉ r.rd) := by
        intro k p hk hS hpk
        rcases hpair hk hpk hp with ⟨m, hm, hb⟩ | h
        · have := anc_in hcl hms' j o m k ho hedge' hm hb
          rw [hS] at this; cases this
        · exact ⟨h.1, h.2.2.2.1⟩
      have hback : ∀ {k : Nat} {p : Pr}, j < k → lst listed k = true → (ops.toList.zip rs)[k]? = some p → (∀ t, p.1.dst = some t → ¬ Looks ops o t) ∧ (∀ n, n ∈ p.2.tch → n ∉ r.rd) ∧ (∀ t, o.dst = some t → p.1.dst ≠ some t) ∧ (∀ n, n ∈ r.tch → n ∉ p.2.tch) := by
        intro k p hk hS hpk
        rcases hpair hk hp hpk with ⟨m, hm, hb⟩ | h
        · have hok : ops[k]? = some p.1 := by rw [← Array.getElem?_toList]; exact (zip_get' hpk).1
          have := anc_in hcl hms' k p.1 m j hok (hcl k p.1 hok hS) hm hb
          rw [hSj] at this; cases this
        · exact ⟨h.2.2.1, h.2.2.2.2.2, h.2.1, h.2.2.2.2.1⟩
      refine step_at hX ho hp hSj h1 (fun t htl => ?_) (fun n hn => ?_) (fresh_at hSj hp (fun n hn => h1.names hn) h2 h3) (fun t e k p hk hpk hS => (hback hk hS hpk).2.2.1 t e) (fun n hn k p hk hpk hS => (hback hk hS hpk).2.2.2 n hn) hI ?_
      · rw [selT_get, selT_get]
        refine selV_congr fun k u hu => ?_
        rw [List.getElem?_map, Option.map_eq_some_iff] at hu
        obtain ⟨p, hpk, hu⟩ := hu
        have hd : p.1.dst = some t := by
          unfold updT at hu
          split at hu
          · assumption
          · cases hu
        rw [Nat.zero_add]
        rcases Nat.lt_trichotomy k j with h | h | h
        · cases hS : lst listed k with
          | true => simp [h]
          | false => exact absurd htl ((hfront h hS hpk).1 t hd)
        · subst h; simp [hSj]
        · cases hS : lst listed k with
          | true => exact absurd htl ((hback h hS hpk).1 t hd)
          | false => simp; omega
      · rw [selH_get, selH_get]
        refine selV_congr fun k u hu => ?_
        rw [List.getElem?_map, Option.map_eq_some_iff] at hu
        obtain ⟨p, hpk, hu⟩ := hu
        have hd : n ∈ p.2.tch := updH_touch (by rw [hu]; rfl)
        rw [Nat.zero_add]
        rcases Nat.lt_trichotomy k j with h | h | h
        · cases hS : lst listed k with
          | true => simp [h]
          | false => exact absurd hn ((hfront h hS hpk).2 n hd)
        · subst h; simp [hSj]
        · cases hS : lst listed k with
          | true => exact absurd hn ((hback h hS hpk).2.1 n hd)
          | false => simp; omega
      · intro S' a' w' hS' hI'
        have hlset : lst (listed.setIfInBounds j true) = S' := by
          funext k
          rw [hS' k]
          unfold lst
          by_cases hkj : k = j
          · subst hkj
            have : k < listed.size := by omega
            simp [this]
          · have : (k == j) = false := by simp [hkj]
            rw [this, Bool.or_false]
            exact getD_set_ne false (fun e => hkj e.symm)
        rw [← hlset] at hI'
        refine ih _ a' w' (un.erase j) (by simp [hsz]) ?_ (fun k hk hS => ?_) (fun k ok hok hS e he hb => ?_) hI'
        · have := List.length_erase_of_mem (hcov j hlt hSj)
          omega
        · rw [hlset, hS' k] at hS
          simp only [Bool.or_eq_false_iff, beq_eq_false_iff_ne] at hS
          exact (List.mem_erase_of_ne hS.2).2 (hcov k hk hS.1)
        · rw [hlset] at hS ⊢
          rw [hS'] at hS ⊢
          rw [Bool.or_eq_true] at hS
          rcases hS with hS | hS
          · rw [hcl k ok hok hS e he hb]; rfl
          · have hkj : k = j := by simpa using hS
            subst hkj
            rw [ho] at hok
            cases hok
            rw [hedge' e he hb]; rfl
  refine key ops.size _ a w (List.range ops.size) (by simp) (by simp) (fun k hk _ => by simpa using hk) (fun k o ho hS => ?_) ?_
  · exfalso
    unfold lst at hS
    have hk := (Array.getElem?_eq_some_iff.1 ho).1
    simp [Array.getD_eq_getD_getElem?, hk] at hS
  · have hno : ∀ k, lst (Array.replicate ops.size false) k = false := fun k => by
      unfold lst
      by_cases hk : k < ops.size <;> simp [Array.getD_eq_getD_getElem?, hk]
    have e1 : selT (lst (Array.replicate ops.size false)) 0 (ops.toList.zip rs) T = T := by
      funext t; rw [selT_get]; exact selV_none fun k u _ => hno _
    have e2 : selH (lst (Array.replicate ops.size false)) 0 (ops.toList.zip rs) H = H := by
      funext t; rw [selH_get]; exact selV_none fun k u _ => hno _
    rw [e1, e2]
    exact hI.weaken fun n hn => .inl hn

/-- A state of the evaluator. -/
abbrev RelSt (C : C0) (s : St) (a : Act) (w : World) : Prop := RelA C (lkT s.T) (lkF s.H) (fun n => n < s.nx) a w

theorem evRegion_sound {R : Type} {id : Nat} {draw : Bool} {s : St} {K : St → Option R} {res : R} {Q : Exit → Act → World → Prop} (hX : KitOk X C) (hm : X.E.P.follows .mixedOrders = true) (h : evRegion X ops draw s K = some res) (hI : RelSt C s a w)
    (hQ : ∀ s' a' w', K s' = some res → RelSt C s' a' w' → Q .normal a' w') : (Code.region id ops draw).wp X.E.P Q a w := by
  unfold evRegion at h
  split at h
  · obtain ⟨rs, s', h1, h2, h3, h4⟩ := evOps_trace h
    refine wp_region (region_seq hX h2 h3 hI fun a' w' hI' => hQ s' a' w' h1 ?_)
    unfold RelSt
    rw [h4.T, h4.H, h4.nx]
    exact hI'
  · split at h
    · rename_i st hst
      split at h
      · rename_i hall
        obtain ⟨rs, s', h1, h2, h3, h4⟩ := evOps_trace h
        split at h1
        · rename_i hdid
          rw [List.append_nil, List.reverse_reverse] at hdid
          refine wp_region_any hm ?_
          refine region_any hX hst hall hdid h2 h3 (RelA.drew hI) fun a' w' hI' => hQ s' a' w' h1 ?_
          unfold RelSt
          rw [h4.T, h4.H, h4.nx]
          exact hI'
        · cases h1
      · cases h
    · cases h

end
end Go.Proofs.Ytgebgjhjegadpaa

namespace Go.Proofs.Ytgebgjhjegadpaa
open Go

def exOf : Ex → Exit
  | .normal => .normal
  | .exit id => .exit id
  | .ret => .ret

/-- What is known of a loop as a whole. -/
def LOk (P : Program) (N : Nat) (c : Code) (L : LSem) : Prop :=
  ∀ args hin t e vs hout, L.run args hin = some t → t.get = some (e, vs, hout) →
    ∀ (w : World) (X Wr : Nat → Prop) (β : Bm) (a : Act) (Q : Exit → Act → World → Prop), RelH (now w X) Wr β (hinF hin) (fun n => n < hin.length) w → RelL (now w X) β args (L.tin.map fun t => a.tmps.getD t undef) → a.defers = [] → a.tmps.size = N →
      (∀ β' a' w', Ext β β' → RelH (now w X) Wr β' (houtF hout) (fun n => n < hout.length) w' → RelL (now w X) β' vs (L.tout.map fun t => a'.tmps.getD t undef) → a'.defers = [] → a'.tmps.size = N →
        (∀ t, hasBit (wrCode c) t = false → a'.tmps.getD t undef = a.tmps.getD t undef) → Q (exOf e) a' w') → c.wp P Q a w

def LoopsOk (P : Program) (L : Lps) : Code → Prop
  | .seq a b => LoopsOk P L a ∧ LoopsOk P L b
  | .cond _ a b => LoopsOk P L a ∧ LoopsOk P L b
  | .block id body => match lkF L.sums id with
    | some S => LOk P L.N (.block id body) S
    | none => LoopsOk P L body
  | .loop body => LoopsOk P L body
  | _ => True

theorem valsT_map {cx : Cx} {β : Bm} {T : List (Nat × AV)} {f : Nat → Value} (h : ∀ t, RelV cx β (lkT T t) (f t)) : ∀ (ts : List Nat), RelL cx β (valsT T ts) (ts.map f)
  | [] => ⟨rfl, fun j v cv e => by simp [valsT] at e⟩
  | t :: ts => by
    obtain ⟨h1, h2⟩ := valsT_map h ts
    refine ⟨by simp [valsT, h1], fun j v cv e1 e2 => ?_⟩
    cases j with
    | zero =>
      simp only [valsT, List.map_cons, List.getElem?_cons_zero, Option.some.injEq] at e1 e2
      subst e1; subst e2
      exact h t
    | succ j => exact h2 j v cv (by simpa [valsT] using e1) (by simpa using e2)

theorem putTs_rel {cx : Cx} {β : Bm} {f : Nat → Value} : ∀ {ts : List Nat} {vs : List AV} {T : List (Nat × AV)}, (∀ t, RelV cx β (lkT T t) (f t)) → RelL cx β vs (ts.map f) → ∀ t, RelV cx β (lkT (putTs ts vs T) t) (f t)
  | [], vs, T, h, _, t => by cases vs <;> exact h t
  | u :: ts, [], T, h, _, t => h t
  | u :: ts, v :: vs, T, h, ⟨h1, h2⟩, t => by
    refine putTs_rel (ts := ts) (vs := vs) (fun t => ?_) ⟨by simpa using h1, fun j v cv e1 e2 => h2 (j + 1) v cv (by simpa using e1) (by simpa using e2)⟩ t
    rw [lkT_up]
    split
    · rename_i e; subst e; exact h2 0 v (f u) rfl rfl
    · exact h t

theorem forgetT_get (dk : Nat → Bool) : ∀ (T : List (Nat × AV)) (t : Nat), lkT (forgetT dk T) t = if dk t then .any else lkT T t
  | [], t => by simp [forgetT, lkT]
  | (u, v) :: T, t => by
    unfold forgetT
    split
    · rename_i hu
      rw [forgetT_get dk T t]
      by_cases h : u = t
      · subst h; simp [hu]
      · simp [lkT, beq_false h]
    · rename_i hu
      by_cases h : u = t
      · subst h; simp [lkT, hu]
      · simp only [lkT, beq_false h]; exact forgetT_get dk T t

theorem maskOk_spec {dk : Nat → Bool} : ∀ {n m : Nat}, maskOk dk n m = true → ∀ t, t < n → hasBit m t = true → dk t = true
  | 0, m, _, t, h, _ => by omega
  | n + 1, m, h, t, ht, hb => by
    unfold maskOk at h
    split at h
    · rename_i hn
      by_cases e : t = n
      · subst e; simpa [hb] using hn
      · exact maskOk_spec h t (by omega) hb
    · cases h

theorem RelL1.of {cx : Cx} {β : Bm} : ∀ {vs : List AV} {l : List Value}, noTup vs = true → RelL cx β vs l → RelL1 cx β vs l
  | [], l, _, h => by
    have := h.1
    simp at this
    exact List.length_eq_zero_iff.1 this.symm
  | v :: vs, [], _, h => by have := h.1; simp at this
  | v :: vs, cv :: l, hn, h => by
    have h0 := h.2 0 v cv rfl rfl
    have hr : RelL cx β vs l := ⟨by simpa using h.1, fun j u cu e1 e2 => h.2 (j + 1) u cu (by simpa using e1) (by simpa using e2)⟩
    cases v with
    | tup _ => cases hn
    | any => exact ⟨cv, l, rfl, h0, RelL1.of hn hr⟩
    | s _ => exact ⟨cv, l, rfl, h0, RelL1.of hn hr⟩
    | agg _ => exact ⟨cv, l, rfl, h0, RelL1.of hn hr⟩

theorem RelL.of1 {cx : Cx} {β : Bm} : ∀ {vs : List AV} {l : List Value}, RelL1 cx β vs l → RelL cx β vs l
  | [], l, h => by have h : l = [] := h; subst h; exact ⟨rfl, fun j v cv e => by simp at e⟩
  | v :: vs, l, ⟨cv, l', e, h1, h2⟩ => by
    subst e
    obtain ⟨a1, a2⟩ := RelL.of1 h2
    refine ⟨by simp [a1], fun j u cu e1 e2 => ?_⟩
    cases j with
    | zero =>
      simp only [List.getElem?_cons_zero, Option.some.injEq] at e1 e2
      subst e1; subst e2
      exact RelV.of1 h1
    | succ j => exact a2 j u cu (by simpa using e1) (by simpa using e2)

section
variable {X : Kit} {C : C0} {a : Act} {w : World}

theorem evSum_sound {R : Type} {N id : Nat} {body : Code} {L : LSem} {s : St} {K : Ex → St → Option R} {res : R} {Q : Exit → Act → World → Prop} (hX : KitOk X C) (hN : N = C.N) (hL : LOk X.E.P N (.block id body) L) (h : evSum X N (wrCode body) L s K = some res) (hI : RelSt C s a w)
    (hQ : ∀ e s' a' w', K e s' = some res → RelSt C s' a' w' → Q (exOf e) a' w') : (Code.block id body).wp X.E.P Q a w := by
  subst hN
  unfold evSum at h
  split at h
  rotate_left
  · cases h
  rename_i hmask
  rw [Bool.and_eq_true] at hmask
  obtain ⟨hmask, hbig⟩ := hmask
  have hbig : wrCode body < 2 ^ C.N := Nat.le_of_ble_eq_true hbig
  split at h
  rotate_left
  · cases h
  rename_i c rd hcan
  obtain ⟨ns, vs', bs'⟩ := c
  split at h
  rotate_left
  · cases h
  rename_i tr htr
  obtain ⟨⟨e, s'⟩, hg, hk⟩ := cps_get h
  obtain ⟨⟨e1, vs, hout⟩, hg1, hg2⟩ := Tr.map_get hg
  have hrun := hL _ _ _ _ _ _ htr hg1
  obtain ⟨β, h0, hH, hT, h3, h4, h5⟩ := hI
  obtain ⟨_, hnd, hvs, bs, hbl, hbs, hbg⟩ := canon_spec hcan
  have hnd := hnd List.nodup_nil
  have hns : ∀ n ∈ ns, ∃ b, lkF s.H n = some b := fun n hn => by
    obtain ⟨i, hi, e⟩ := List.getElem_of_mem hn
    obtain ⟨b, hb, _⟩ := hbg i n (by rw [List.getElem?_eq_getElem hi, e])
    exact ⟨b, hb⟩
  have hXno : ∀ b, C.cx.X b → b < w.heap.size ∧ ¬ Wc ns β b := fun b hb => by
    obtain ⟨h1, h2⟩ := hH.xok b hb
    refine ⟨by have := hH.size; omega, fun hW => ?_⟩
    obtain ⟨n, p, _, h3, h4⟩ := Wc_of hW
    rcases (hH.dom n p h3).2.2 with h5 | h5
    · omega
    · exact h2 (h4 ▸ h5)
  have hin := hH.canon hnd hbl hbs hbg
  obtain ⟨hbl', hbg'⟩ := renBs_get hbs
  have hin' : RelH (now w C.cx.X) (Wc ns β) (subM ns β) (hinF bs') (fun n => n < bs'.length) w := by
    refine ⟨Nat.le_refl _, fun _ _ _ => rfl, hXno, fun n p e => ?_, fun n p cs e hc => ?_, hin.wf, fun n cs e => (List.getElem?_eq_some_iff.1 e).1, hin.inj, rfl, rfl, rfl⟩
    · obtain ⟨h1, h2, h3⟩ := hin.dom n p e
      exact ⟨by rw [hbl', hbl]; exact h1, h2, .inr ⟨n, p, e, rfl⟩⟩
    · obtain ⟨c, T, fr, g1, g2, g3, l, g4, g5⟩ := hin.held n p cs e hc
      exact ⟨c, T, fr, g1, g2, g3, l, g4.to (.inr (hH.imp fun _ h => h)), g5⟩
  refine hrun w C.cx.X (Wc ns β) (subM ns β) a Q hin' (renL_rel (subM_ren ns β) hvs ((valsT_map hT L.tin).to (hH.imp fun _ h => h))) h3 h4 ?_
  intro β1 a' w' g1 g2 g3 g4 g5 g6
  unfold afterLoop at hg2
  split at hg2
  rotate_left
  · cases hg2
  rename_i o ho
  split at hg2
  rotate_left
  · cases hg2
  rename_i vs2 hov
  split at hg2
  rotate_left
  · cases hg2
  rename_i hlv hnew
  simp only [Option.some.injEq, Prod.mk.injEq] at hg2
  obtain ⟨rfl, rfl⟩ := hg2
  rw [Bool.and_eq_true] at hlv
  have hfr : Fresh (fun n => n < s.nx) o := fun n hn => by have := newOk_spec hnew hn; omega
  have hnt : RelV (now w C.cx.X) β1 (.tup vs) (.tuple (L.tout.map fun t => a'.tmps.getD t undef).toArray) := by
    -- the values that come back are no tuples: their renamed forms are none
    have hren : ∃ r, renL r vs = some vs2 := by
      unfold callOut at ho
      split at ho
      · split at ho
        · rename_i v1 bs1 hv1 hb1
          split at ho
          · simp only [Option.some.injEq] at ho
            subst ho
            simp only at hov
            subst hov
            simp only [AV.ren] at hv1
            split at hv1
            · rename_i r hr
              simp only [Option.some.injEq, AV.tup.injEq] at hv1
              subst hv1
              exact ⟨_, hr⟩
            · cases hv1
          · cases ho
        · cases ho
      · cases ho
    obtain ⟨r, hr⟩ := hren
    have : ∀ {vs vs2 : List AV}, renL r vs = some vs2 → noTup vs2 = true → noTup vs = true := by
      intro vs
      induction vs with
      | nil => intro _ _ _; rfl
      | cons v vs ih =>
        intro vs2 h hn
        unfold renL at h
        split at h
        · rename_i v1 r1 hv hr1
          cases h
          cases v with
          | tup us =>
            simp only [AV.ren] at hv
            split at hv
            · cases hv; cases hn
            · cases hv
          | any => simp only [AV.ren, Option.some.injEq] at hv; subst hv; exact ih hr1 hn
          | s u =>
            simp only [AV.ren] at hv
            split at hv
            · cases hv; exact ih hr1 hn
            · cases hv
          | agg u =>
            simp only [AV.ren] at hv
            split at hv
            · cases hv; exact ih hr1 hn
            · cases hv
        · cases h
    exact ⟨_, rfl, RelL1.of (this hr hlv.2) g3⟩
  obtain ⟨β2, k1, k2, k3⟩ := call_post hH hnd hns (ro := false) (fun _ h => h) (fun _ => rfl) g1 hnt g2 ho hfr
  rw [hov] at k2
  obtain ⟨l, hl, k2⟩ := k2
  have hl : l = L.tout.map fun t => a'.tmps.getD t undef := by
    have := Value.tuple.inj hl
    exact (List.toArray_inj this).symm
  subst hl
  refine hQ _ _ a' w' hk ⟨β2, h0.trans k1, ?_, fun t => ?_, g4, g5, fun t ht => ?_⟩
  · have e1 : lkF (o.nw ++ upHs o.wr s.H) = happ o (lkF s.H) := by
      funext n
      simp only [lkF_append, happ, lkF_upHs]
      cases lkF o.nw n <;> rfl
    rw [e1]
    refine k3.mono (fun n hn => ?_) (fun _ _ h => h)
    show n < s.nx + o.nw.length
    rcases hn with hn | hn
    · have hn : n < s.nx := hn
      omega
    · have := newOk_spec hnew hn; omega
  · refine putTs_rel (f := fun t => a'.tmps.getD t undef) (fun t => ?_) (RelL.of1 k2) t
    rw [forgetT_get]
    split
    · trivial
    · rename_i hb
      rw [g6 t (by simpa [wrCode] using hb)]
      exact (hT t).ext k1
  · rw [g6 t ?_]
    · exact h5 t ht
    · show hasBit (wrCode body) t = false
      cases hb : hasBit (wrCode body) t with
      | false => rfl
      | true =>
        have hlt : t < C.N := by
          rcases Nat.lt_or_ge t C.N with h | h
          · exact h
          · have : wrCode body < 2 ^ t := Nat.lt_of_lt_of_le hbig (Nat.pow_le_pow_right (by omega) h)
            unfold hasBit at hb
            rw [Nat.testBit_lt_two_pow this] at hb
            cases hb
        rw [(hX.dst t (maskOk_spec hmask t hlt hb)).1] at ht
        cases ht

theorem ev_sound {R : Type} {L : Lps} {res : R} (hX : KitOk X C) (hm : X.E.P.follows .mixedOrders = true) (hN : L.N = C.N) : ∀ (c : Code), LoopsOk X.E.P L c → ∀ {s : St} {K : Ex → St → Option R} {a : Act} {w : World} {Q : Exit → Act → World → Prop}, ev X L c s K = some res → RelSt C s a w →
    (∀ e s' a' w', K e s' = some res → RelSt C s' a' w' → Q (exOf e) a' w') → c.wp X.E.P Q a w := by
  intro c
  induction c with
  | skip => intro _ s K a w Q h hI hQ; exact wp_skip (hQ .normal s a w h hI)
  | region id ops draw =>
    intro _ s K a w Q h hI hQ
    exact evRegion_sound hX hm h hI fun s' a' w' h1 h2 => hQ .normal s' a' w' h1 h2
  | seq x y ihx ihy =>
    intro hL s K a w Q h hI hQ
    refine wp_seq (ihx hL.1 (K := _) h hI ?_)
    intro e s' a' w' h1 h2
    cases e with
    | normal => exact ihy hL.2 h1 h2 hQ
    | exit id => exact hQ _ s' a' w' h1 h2
    | ret => exact hQ _ s' a' w' h1 h2
  | cond o x y ihx ihy =>
    intro hL s K a w Q h hI hQ
    unfold ev at h
    split at h
    · rename_i t ht
      have hc : a.eval o = .bool t := by
        obtain ⟨β, _, _, hT, _⟩ := hI
        have := valF_rel hT o
        rw [← St.val_eq, ht] at this
        exact this
      refine wp_cond_split hc (fun e => ?_) (fun e => ?_)
      · subst e; exact ihx hL.1 h hI hQ
      · subst e; exact ihy hL.2 h hI hQ
    · cases h
  | block id body ih =>
    intro hL s K a w Q h hI hQ
    unfold ev at h
    unfold LoopsOk at hL
    split at h
    · rename_i S hS
      rw [hS] at hL
      exact evSum_sound hX hN hL h hI hQ
    · rename_i hS
      rw [hS] at hL
      refine wp_block (ih hL h hI ?_)
      intro e s' a' w' h1 h2
      cases e with
      | normal => exact hQ .normal s' a' w' h1 h2
      | ret => exact hQ .ret s' a' w' h1 h2
      | exit id' =>
        simp only [exOf, Exit.inBlock]
        by_cases e : id' = id
        · subst e
          rw [if_pos rfl]
          simp only [Nat.beq_refl] at h1
          exact hQ .normal s' a' w' h1 h2
        · rw [if_neg e]
          simp only [beq_false e] at h1
          exact hQ (.exit id') s' a' w' h1 h2
  | loop body ih =>
    intro hL s K a w Q h hI hQ
    have key : ∀ (n : Nat) (s : St) (a : Act) (w : World), iterL (ev X L body) n s K = some res → RelSt C s a w → Code.rounds X.E.P body Q n a w := by
      intro n
      induction n with
      | zero => intro s a w h _; cases h
      | succ n ihn =>
        intro s a w h hI
        refine ih hL (K := _) h hI ?_
        intro e s' a' w' h1 h2
        cases e with
        | normal => exact ihn s' a' w' h1 h2
        | exit id => exact hQ _ s' a' w' h1 h2
        | ret => exact hQ _ s' a' w' h1 h2
    exact wp_loop_rounds L.fuel (key L.fuel s a w h hI)
  | exit id => intro _ s K a w Q h hI hQ; exact wp_exit (hQ (.exit id) s a w h hI)
  | ret => intro _ s K a w Q h hI hQ; exact wp_ret (hQ .ret s a w h hI)
  | _ => intro _ s K a w Q h hI hQ; cases h

end
end Go.Proofs.Ytgebgjhjegadpaa

namespace Go.Proofs.Ytgebgjhjegadpaa
open Go

section
variable {cx : Cx} {Wr : Nat → Prop} {β : Bm} {H : Nat → Option Blk} {D : Nat → Prop} {w : World} {P : Program}

theorem closeO_spec : ∀ {f i : Nat} {ns ns' : List Nat} {bs : List (Option Blk)}, closeO H f i ns = some (ns', bs) → i ≤ ns.length →
    (∃ s, ns' = ns ++ s) ∧ (ns.Nodup → ns'.Nodup) ∧ i + bs.length = ns'.length ∧ ∀ (j n : Nat), ns'[i + j]? = some n → bs[j]? = some (H n) := by
  intro f
  induction f with
  | zero => intro i ns ns' bs h; cases h
  | succ f ih =>
    intro i ns ns' bs h hi
    unfold closeO at h
    split at h
    · rename_i hn
      simp only [Option.some.injEq, Prod.mk.injEq] at h
      obtain ⟨e1, e2⟩ := h
      subst e2
      have hlen : ns.length ≤ i := List.getElem?_eq_none_iff.1 hn
      refine ⟨⟨[], by simp [e1]⟩, fun h => e1 ▸ h, by rw [← e1]; simp; omega, fun j n e => ?_⟩
      rw [← e1, List.getElem?_eq_none (by omega)] at e
      cases e
    · rename_i n hn
      have hlt := (List.getElem?_eq_some_iff.1 hn).1
      split at h
      · rename_i b hb
        split at h
        · rename_i r hr
          obtain ⟨ns2, bs2⟩ := r
          simp only [Option.some.injEq, Prod.mk.injEq] at h
          obtain ⟨e1, e2⟩ := h
          subst e1; subst e2
          obtain ⟨⟨s, hs⟩, hnd⟩ := insL_spec (refsB b) ns
          obtain ⟨⟨s2, h3⟩, h4, h5, h6⟩ := ih hr (by rw [hs]; simp; omega)
          refine ⟨⟨s ++ s2, by rw [h3, hs, List.append_assoc]⟩, fun h => h4 (hnd h), by simp; omega, fun j m e => ?_⟩
          cases j with
          | zero =>
            rw [h3, hs, List.append_assoc, Nat.add_zero, List.getElem?_append_left hlt, hn] at e
            cases e
            simp [hb]
          | succ j => simpa using h6 j m (by rw [← e]; congr 1; omega)
        · cases h
      · rename_i hb
        split at h
        · rename_i r hr
          obtain ⟨ns2, bs2⟩ := r
          simp only [Option.some.injEq, Prod.mk.injEq] at h
          obtain ⟨e1, e2⟩ := h
          subst e1; subst e2
          obtain ⟨⟨s2, h3⟩, h4, h5, h6⟩ := ih hr (by omega)
          refine ⟨⟨s2, h3⟩, h4, by simp; omega, fun j m e => ?_⟩
          cases j with
          | zero =>
            rw [h3, Nat.add_zero, List.getElem?_append_left hlt, hn] at e
            cases e
            simp [hb]
          | succ j => simpa using h6 j m (by rw [← e]; congr 1; omega)
        · cases h

theorem canonO_rel (hH : RelH cx Wr β H D w) {k : Nat} {vs vs' : List AV} {bs' : List (Option Blk)} {l : List Value} (h : canonO k vs H = some (vs', bs')) (hl : RelL cx β vs l) :
    ∃ β', (∀ i, i < k → β' i = β i) ∧ RelH cx Wr β' (houtF bs') (fun n => n < bs'.length) w ∧ RelL cx β' vs' l := by
  unfold canonO at h
  split at h
  rotate_left
  · cases h
  rename_i r hr
  obtain ⟨ns, bs⟩ := r
  split at h
  rotate_left
  · cases h
  rename_i vs1 bs1 hvs hbs
  simp only [Option.some.injEq, Prod.mk.injEq] at h
  obtain ⟨rfl, rfl⟩ := h
  simp only at hvs hbs
  obtain ⟨⟨s, hs⟩, hnd⟩ := insL_spec (refsL vs) (freshN 0 k)
  obtain ⟨⟨s2, h3⟩, h4, h5, h6⟩ := closeO_spec hr (Nat.zero_le _)
  have hnd := h4 (hnd (freshN_nodup _ _))
  obtain ⟨hbl, hbg⟩ := renOs_get hbs
  have hsub : ∀ {i : Nat} {p : Pl}, subM ns β i = some p → ∃ n, ns[i]? = some n ∧ β n = some p := fun e => subM_get e
  have hlive : ∀ {i : Nat} {c : Blk}, houtF bs1 i = some c → ∃ n b, ns[i]? = some n ∧ H n = some b ∧ renB (idxN ns) b = some c := by
    intro i c hc
    obtain ⟨b, hb, hrb⟩ := hbg i c (houtF_some.1 hc)
    have hi := (List.getElem?_eq_some_iff.1 hb).1
    have hn : ns[i]? = some (ns[i]'(by omega)) := List.getElem?_eq_getElem _
    have := h6 i _ (by rw [Nat.zero_add]; exact hn)
    rw [hb] at this
    exact ⟨_, b, hn, (Option.some.inj this).symm, hrb⟩
  refine ⟨subM ns β, fun i hi => ?_, ⟨hH.size, hH.frame, hH.xok, fun i p e => ?_, fun i p cs e hc => ?_, fun i cs hc => ?_, fun i cs hc => ?_, fun i j p q e1 e2 l1 l2 hpq => ?_, hH.os, hH.tape, hH.output⟩, renL_rel (subM_ren ns β) hvs hl⟩
  · have : ns[i]? = some i := by
      rw [h3, hs, List.append_assoc, List.getElem?_append_left (by rw [freshN_length]; exact hi), freshN_get _ _ _ hi]
      simp
    simp only [subM, this]
  · obtain ⟨n, hn, hp⟩ := hsub e
    have := (List.getElem?_eq_some_iff.1 hn).1
    exact ⟨by omega, (hH.dom n p hp).2⟩
  · obtain ⟨n, hn, hp⟩ := hsub e
    obtain ⟨n', b, hn', hb, hrb⟩ := hlive hc
    rw [hn] at hn'
    cases hn'
    exact (hH.held n p b hp hb).ren (subM_ren ns β) hrb
  · obtain ⟨n', b, hn', hb, hrb⟩ := hlive hc
    exact renB_wf hrb (hH.wf _ _ hb)
  · exact (List.getElem?_eq_some_iff.1 (houtF_some.1 hc)).1
  · obtain ⟨n, hn, hp⟩ := hsub e1
    obtain ⟨m, hm, hq⟩ := hsub e2
    obtain ⟨c1, l1⟩ := Option.isSome_iff_exists.1 l1
    obtain ⟨c2, l2⟩ := Option.isSome_iff_exists.1 l2
    obtain ⟨n', b, hn', hb, _⟩ := hlive l1
    obtain ⟨m', c, hm', hc, _⟩ := hlive l2
    rw [hn] at hn'; cases hn'
    rw [hm] at hm'; cases hm'
    have : n = m := hH.inj n m p q hp hq (by rw [hb]; rfl) (by rw [hc]; rfl) hpq
    subst this
    obtain ⟨a1, a2⟩ := List.getElem?_eq_some_iff.1 hn
    obtain ⟨a3, a4⟩ := List.getElem?_eq_some_iff.1 hm
    exact (List.getElem_inj hnd).1 (a2.trans a4.symm)

theorem zipT_get : ∀ (vs : List AV) (i t : Nat), lkT (zipT i vs) t = if i ≤ t then vs.getD (t - i) .any else .any
  | [], i, t => by simp [zipT, lkT]
  | v :: vs, i, t => by
    simp only [zipT, lkT]
    by_cases h : i = t
    · subst h; simp
    · simp only [beq_false h]
      rw [zipT_get vs (i + 1) t]
      by_cases h' : i ≤ t
      · rw [if_pos (by omega), if_pos h', show t - i = (t - (i + 1)) + 1 by omega]
        simp
      · rw [if_neg (by omega), if_neg h']

theorem zipH_get : ∀ (bs : List (Option Blk)) (i n : Nat), lkF (zipH i bs) n = if i ≤ n then houtF bs (n - i) else none
  | [], i, n => by simp [zipH, lkF, houtF]
  | some b :: bs, i, n => by
    simp only [zipH, lkF]
    by_cases h : i = n
    · subst h; simp [houtF]
    · simp only [beq_false h]
      rw [zipH_get bs (i + 1) n]
      by_cases h' : i ≤ n
      · rw [if_pos (by omega), if_pos h', show n - i = (n - (i + 1)) + 1 by omega]
        simp [houtF]
      · rw [if_neg (by omega), if_neg h']
  | none :: bs, i, n => by
    simp only [zipH]
    rw [zipH_get bs (i + 1) n]
    by_cases h : i = n
    · subst h; rw [if_neg (by omega), if_pos (Nat.le_refl _)]; simp [houtF]
    · by_cases h' : i ≤ n
      · rw [if_pos (by omega), if_pos h', show n - i = (n - (i + 1)) + 1 by omega]
        simp [houtF]
      · rw [if_neg (by omega), if_neg h']

theorem someL_map : ∀ (bs : List Blk), someL bs = bs.map some
  | [] => rfl
  | b :: bs => by simp [someL, someL_map bs]

theorem houtF_someL (bs : List Blk) : houtF (someL bs) = hinF bs := by
  funext n
  unfold houtF hinF
  rw [someL_map, List.getElem?_map]
  cases bs[n]? <;> rfl

theorem zipH_fun (bs : List (Option Blk)) : lkF (zipH 0 bs) = houtF bs := by
  funext n
  rw [zipH_get, if_pos (Nat.zero_le _), Nat.sub_zero]

/-! Results. -/
def resF (tm : Array Value) : ResultVar → Sem Value
  | .tmp t => pure (tm.getD t undef)
  | .cell a t => do loadVar t (← asAddr (tm.getD a undef))

theorem results_eq (fn : Func) (tm : Array Value) : results fn tm = (do
    let vs ← fn.results.mapM (resF tm)
    pure (if h : vs.size = 1 then vs[0] else .tuple vs)) := by
  rfl

theorem resOne_sound {E : Env} {s : St} {tm : Array Value} {r : ResultVar} {tr : Tr AV} {v : AV} (h : resOne E s r = some tr) (hg : tr.get = some v) (hH : RelH cx Wr β (lkF s.H) D w) (hT : ∀ t, RelV cx β (lkT s.T t) (tm.getD t undef)) :
    ∃ β' cv, Ext β β' ∧ RelH cx Wr β' (lkF s.H) D w ∧ RelV cx β' v cv ∧ (resF tm r).run E.P w = .ok cv w := by
  cases r with
  | tmp t =>
    simp only [resOne, Option.some.injEq] at h
    subst h
    simp only [Tr.get, Option.some.injEq] at hg
    subst hg
    exact ⟨β, _, Ext.refl β, hH, hT t, by simp [resF]⟩
  | cell a t =>
    simp only [resOne] at h
    cases hrun : (loadSem E.P t (lkT s.T a)).run (lkF s.H) with
    | none => rw [hrun] at h; cases h
    | some q =>
      obtain ⟨tr0, rd⟩ := q
      rw [hrun] at h
      simp only [Option.some.injEq] at h
      subst h
      obtain ⟨o, ho, hov⟩ := Tr.map_get hg
      split at hov
      · rename_i hw hn
        simp only [Option.some.injEq] at hov
        subst hov
        obtain ⟨cv, h1, β', h2, h3, h4⟩ := loadSem_run (P := E.P) hrun ho hH (hT a)
        have e1 : happ o (lkF s.H) = lkF s.H := by funext n; simp [happ, hn, hw, lkF, wrF]
        have e2 : dapp o D = D := by funext n; simp [dapp, hn, lkF]
        rw [e1, e2] at h4
        refine ⟨β', cv, h2, h4, h3, ?_⟩
        have hp : ∃ p, tm.getD a undef = .pointer (some p) := by
          have hv := hT a
          unfold loadSem at hrun
          split at hrun
          · rename_i b off he
            rw [he] at hv
            obtain ⟨q, _, hv⟩ := hv
            exact ⟨_, hv⟩
          · rename_i c i he
            rw [he] at hv
            obtain ⟨b, o', hv, _⟩ := hv
            exact ⟨_, hv⟩
          · exact (fail_run hrun).elim
        obtain ⟨p, hp⟩ := hp
        rw [hp] at h1
        simp only [resF, hp]
        simpa [Instr.loadAt, Instr.sureAddr, asAddr] using h1
      · cases hov

theorem resAll_sound {R : Type} {E : Env} {s : St} {tm : Array Value} {res : R} : ∀ {rs : List ResultVar} {acc : List AV} {K : List AV → Option R} {β : Bm}, resAll E s rs acc K = some res → RelH cx Wr β (lkF s.H) D w → (∀ t, RelV cx β (lkT s.T t) (tm.getD t undef)) →
    ∃ β' vs cvs, Ext β β' ∧ RelH cx Wr β' (lkF s.H) D w ∧ K (acc ++ vs) = some res ∧ RelL cx β' vs cvs ∧ (rs.mapM (resF tm)).run E.P w = .ok cvs w
  | [], acc, K, β, h, hH, hT => ⟨β, [], [], Ext.refl β, hH, by simpa [resAll] using h, ⟨rfl, fun j v cv e => by simp at e⟩, by simp⟩
  | r :: rs, acc, K, β, h, hH, hT => by
    simp only [resAll] at h
    cases htr : resOne E s r with
    | none => rw [htr] at h; cases h
    | some tr =>
      rw [htr] at h
      obtain ⟨v, hv, hk⟩ := cps_get h
      obtain ⟨β1, cv, h1, h2, h3, h4⟩ := resOne_sound htr hv hH hT
      obtain ⟨β2, vs, cvs, g1, g2, g3, g4, g5⟩ := resAll_sound hk h2 (fun t => (hT t).ext h1)
      refine ⟨β2, v :: vs, cv :: cvs, h1.trans g1, g2, by simpa using g3, ⟨by simp [g4.1], fun j u cu e1 e2 => ?_⟩, ?_⟩
      · cases j with
        | zero =>
          simp only [List.getElem?_cons_zero, Option.some.injEq] at e1 e2
          subst e1; subst e2
          exact h3.ext g1
        | succ j => exact g4.2 j u cu (by simpa using e1) (by simpa using e2)
      · simp [List.mapM_cons, h4, g5]

theorem tupV_rel {vs : List AV} {cvs : List Value} (hn : noTup vs = true) (h : RelL cx β vs cvs) : RelV cx β (tupV vs) (if h : cvs.toArray.size = 1 then cvs.toArray[0] else .tuple cvs.toArray) := by
  have hl := h.1
  rcases vs with _ | ⟨v, _ | ⟨u, vs⟩⟩
  · rw [dif_neg (by simp at hl ⊢; omega)]
    exact ⟨cvs, rfl, RelL1.of hn h⟩
  · rcases cvs with _ | ⟨c, _ | ⟨d, cvs⟩⟩
    · simp at hl
    · exact h.2 0 v c rfl rfl
    · simp at hl
  · rw [dif_neg (by simp at hl ⊢; omega)]
    exact ⟨cvs, rfl, RelL1.of hn h⟩

theorem RelL.one {v : AV} {cv : Value} (h : RelV cx β v cv) : RelL cx β [v] [cv] :=
  ⟨rfl, fun j u cu e1 e2 => by
    cases j with
    | zero =>
      simp only [List.getElem?_cons_zero, Option.some.injEq] at e1 e2
      subst e1; subst e2
      exact h
    | succ j => simp at e1⟩

theorem evBody_sound {X : Kit} {L : Lps} {fn : Func} {c : Code} {f : Nat} {args : List AV} {hin : List Blk} {v : AV} {hout : List (Option Blk)} (hE : EnvOk X.E) (hdk : X.dk = fun d => Nat.blt d fn.ntmps) (hN : L.N = fn.ntmps) (hm : X.E.P.follows .mixedOrders = true)
    (hL : LoopsOk X.E.P L c) (hf : X.E.P.funcs[f]? = some fn) (hb : fn.body = some c) (h : evBody X L fn c args hin = some (v, hout)) : Ctr X.E.P f args hin v hout := by
  intro w Xr Wr β cargs hH hA
  unfold evBody at h
  split at h
  rotate_left
  · cases h
  rename_i hle
  have hle : args.length ≤ fn.ntmps := by rw [← hN]; exact Nat.le_of_ble_eq_true hle
  have hX : KitOk X ⟨now w Xr, Wr, β, fn.ntmps, fun _ => true, fun _ => undef⟩ := ⟨hE, fun d hd => by rw [hdk] at hd; exact ⟨rfl, Nat.le_of_ble_eq_true hd⟩⟩
  have hlen := hA.1
  refine calls_of_wp hf hb (ev_sound hX hm hN c hL h (a := _) ?_ ?_)
  · refine ⟨β, Ext.refl β, ?_, fun t => ?_, rfl, by simp; omega, fun t ht => by cases ht⟩
    · simp only [zipH_fun, houtF_someL]; exact hH
    · simp only [zipT_get, Nat.zero_le, if_true, Nat.sub_zero]
      by_cases ht : t < args.length
      · have h1 : args[t]? = some args[t] := List.getElem?_eq_getElem ht
        have h2 : cargs[t]? = some (cargs[t]'(by omega)) := List.getElem?_eq_getElem _
        have := hA.2 t _ _ h1 h2
        rw [List.getD, h1, Option.getD_some]
        have e : (cargs.toArray ++ Array.replicate (fn.ntmps - cargs.toArray.size) undef).getD t undef = cargs[t]'(by omega) := by
          have : t < cargs.length := by omega
          simp [Array.getD_eq_getD_getElem?, Array.getElem?_append, this]
        rw [e]
        exact this
      · rw [List.getD, List.getElem?_eq_none (by omega), Option.getD_none]
        trivial
  · intro e s a' w' h1 h2
    have key : resAll X.E s fn.results.toList [] (fun vs => match noTup vs with
        | true => match canonO hin.length [tupV vs] (lkF s.H) with
          | some ([v], bs) => some (v, bs)
          | _ => none
        | false => none) = some (v, hout) ∧ (exOf e = .normal ∨ exOf e = .ret) := by
      cases e with
      | normal => exact ⟨h1, .inl rfl⟩
      | ret => exact ⟨h1, .inr rfl⟩
      | exit id => cases h1
    obtain ⟨h1, he⟩ := key
    obtain ⟨β1, g0, gH, gT, g3, _, _⟩ := h2
    obtain ⟨β2, vs, cvs, k1, k2, k3, k4, k5⟩ := resAll_sound (tm := a'.tmps) h1 gH gT
    rw [List.nil_append] at k3
    split at k3
    rotate_left
    · cases k3
    rename_i hnt
    split at k3
    rotate_left
    · cases k3
    rename_i v1 bs1 hcan
    simp only [Option.some.injEq, Prod.mk.injEq] at k3
    obtain ⟨rfl, rfl⟩ := k3
    obtain ⟨β3, q1, q2, q3⟩ := canonO_rel k2 hcan (RelL.one (tupV_rel hnt k4))
    have hres : (results fn a'.tmps).run X.E.P w' = .ok (if h : cvs.toArray.size = 1 then cvs.toArray[0] else .tuple cvs.toArray) w' := by
      rw [results_eq, Array.mapM_eq_mapM_toList]
      simp [k5]
    have hR : ∃ v, (results fn a'.tmps).run X.E.P w' = .ok v w' ∧ (∃ cv β', Ending.returned v = .returned cv ∧ Ext β β' ∧ RelV (now w Xr) β' v1 cv ∧ RelH (now w Xr) Wr β' (houtF bs1) (fun n => n < bs1.length) w') := by
      refine ⟨_, hres, _, β3, rfl, fun n p hn => ?_, q3.2 0 _ _ rfl rfl, q2⟩
      have hlt := (hH.dom n p hn).1
      rw [q1 n hlt]
      exact (g0.trans k1) n p hn
    rcases he with he | he <;> rw [he] <;> exact ⟨g3, hR⟩

/-- A function by what the evaluator says. -/
theorem fok {X : Kit} {L : Lps} {fn : Func} {c : Code} {f : Nat} {F : FSem} (hE : EnvOk X.E) (hdk : X.dk = fun d => Nat.blt d fn.ntmps) (hN : L.N = fn.ntmps) (hm : X.E.P.follows .mixedOrders = true)
    (hL : LoopsOk X.E.P L c) (hf : X.E.P.funcs[f]? = some fn) (hb : fn.body = some c) (hn : fn.name ≠ "runtime.NumGoroutine")
    (h : ∀ args hin t r, F.run args hin = some t → t.get = some r → evBody X L fn c args hin = some r) : FOk X.E.P f F :=
  ⟨⟨fn, c, hf, hb, hn⟩, fun args hin t v hout h1 h2 => evBody_sound hE hdk hN hm hL hf hb (h args hin t (v, hout) h1 h2)⟩

/-! Loops. -/
def exB (id : Nat) : Ex → Option Ex
  | .normal => none
  | .exit j => match Nat.beq j id with
    | true => some .normal
    | false => some (.exit j)
  | .ret => some .ret

theorem loop_ok {X : Kit} {Lp : Lps} {L : LSem} {id N : Nat} {body : Code} (hE : EnvOk X.E) (hdk : ∀ d, X.dk d = true → hasBit (wrCode body) d = true ∧ d < N) (hN : Lp.N = N) (hm : X.E.P.follows .mixedOrders = true) (hLo : LoopsOk X.E.P Lp body)
    (h : ∀ args hin t e vs hout, L.run args hin = some t → t.get = some (e, vs, hout) → ∃ (n : Nat) (A : Nat → List AV × List (Option Blk)) (e' : Ex), A 0 = (args, someL hin) ∧
      (∀ i, i < n → evRound X Lp L hin.length body (A i).1 (A i).2 = some (.normal, A (i + 1))) ∧ evRound X Lp L hin.length body (A n).1 (A n).2 = some (e', vs, hout) ∧ exB id e' = some e) :
    LOk X.E.P N (.block id (.loop body)) L := by
  intro args hin t e vs hout h1 h2 w Xr Wr β a Q hH hA hd hsz hQ
  obtain ⟨n, A, e', hA0, hstep, hlast, hex⟩ := h args hin t e vs hout h1 h2
  refine wp_block (wp_loop_rounds (n + 1) ?_)
  let C : C0 := ⟨now w Xr, Wr, β, N, hasBit (wrCode body), fun t => a.tmps.getD t undef⟩
  have hX : KitOk X C := ⟨hE, hdk⟩
  -- the state at the head of a round
  have hhead : ∀ (i : Nat) (a' : Act) (w' : World) (β' : Bm), Ext β β' → RelH (now w Xr) Wr β' (houtF (A i).2) (fun n => n < (A i).2.length) w' → RelL (now w Xr) β' (A i).1 (L.tin.map fun t => a'.tmps.getD t undef) → a'.defers = [] → a'.tmps.size = N →
      (∀ t, hasBit (wrCode body) t = false → a'.tmps.getD t undef = a.tmps.getD t undef) → RelSt C ⟨putTs L.tin (A i).1 [], zipH 0 (A i).2, (A i).2.length⟩ a' w' := by
    intro i a' w' β' k1 k2 k3 k4 k5 k6
    refine ⟨β', k1, ?_, fun t => ?_, k4, k5, k6⟩
    · simp only [zipH_fun]; exact k2
    · exact putTs_rel (f := fun t => a'.tmps.getD t undef) (fun t => by simp only [lkT]; trivial) k3 t
  have key : ∀ (m i : Nat) (a' : Act) (w' : World) (β' : Bm), i + m = n → Ext β β' → RelH (now w Xr) Wr β' (houtF (A i).2) (fun n => n < (A i).2.length) w' → RelL (now w Xr) β' (A i).1 (L.tin.map fun t => a'.tmps.getD t undef) → a'.defers = [] → a'.tmps.size = N →
      (∀ t, hasBit (wrCode body) t = false → a'.tmps.getD t undef = a.tmps.getD t undef) → Code.rounds X.E.P body (Exit.inBlock id Q) (m + 1) a' w' := by
    have hβ : ∀ n p, β n = some p → n < hin.length := fun n p hn => (hH.dom n p hn).1
    intro m
    induction m with
    | zero =>
      intro i a' w' β' hi k1 k2 k3 k4 k5 k6
      have hi : i = n := by omega
      subst hi
      refine ev_sound hX hm hN body hLo hlast (hhead i a' w' β' k1 k2 k3 k4 k5 k6) ?_
      intro e2 s a2 w2 g1 g2
      split at g1
      rotate_left
      · cases g1
      rename_i r hr
      simp only [Option.some.injEq, Prod.mk.injEq] at g1
      obtain ⟨rfl, rfl, rfl⟩ := g1
      obtain ⟨β2, b0, b1, b2, b3, b4, b5⟩ := g2
      cases e2 with
      | normal => cases hex
      | ret =>
        cases hex
        obtain ⟨β3, q1, q2, q3⟩ := canonO_rel b1 hr (valsT_map b2 L.tout)
        exact hQ β3 a2 w2 (fun n p hn => by rw [q1 n (hβ n p hn)]; exact b0 n p hn) q2 q3 b3 b4 b5
      | exit j =>
        obtain ⟨β3, q1, q2, q3⟩ := canonO_rel b1 hr (valsT_map b2 L.tout)
        have hQ2 := hQ β3 a2 w2 (fun n p hn => by rw [q1 n (hβ n p hn)]; exact b0 n p hn) q2 q3 b3 b4 b5
        unfold exB at hex
        show Exit.inBlock id Q (.exit j) a2 w2
        unfold Exit.inBlock
        by_cases hj : j = id
        · subst hj
          simp only [Nat.beq_refl, Option.some.injEq] at hex
          subst hex
          simp only [if_true]
          exact hQ2
        · simp only [beq_false hj, Option.some.injEq] at hex
          subst hex
          simp only [hj, if_false]
          exact hQ2
    | succ m ih =>
      intro i a' w' β' hi k1 k2 k3 k4 k5 k6
      refine ev_sound hX hm hN body hLo (hstep i (by omega)) (hhead i a' w' β' k1 k2 k3 k4 k5 k6) ?_
      intro e2 s a2 w2 g1 g2
      split at g1
      rotate_left
      · cases g1
      rename_i r hr
      simp only [Option.some.injEq, Prod.mk.injEq] at g1
      obtain ⟨rfl, hr2⟩ := g1
      obtain ⟨β2, b0, b1, b2, b3, b4, b5⟩ := g2
      obtain ⟨β3, q1, q2, q3⟩ := canonO_rel b1 hr (valsT_map b2 L.tin)
      have r1 : (A (i + 1)).1 = r.1 := by rw [← hr2]
      have r2 : (A (i + 1)).2 = r.2 := by rw [← hr2]
      exact ih (i + 1) a2 w2 β3 (by omega) (fun n p hn => by rw [q1 n (hβ n p hn)]; exact b0 n p hn) (by rw [r2]; exact q2) (by rw [r1]; exact q3) b3 b4 b5
  refine key n 0 a w β (by omega) (Ext.refl β) ?_ ?_ hd hsz (fun _ _ => rfl)
  · rw [hA0]; simp only [someL_map, List.length_map]; rw [← someL_map, houtF_someL]; exact hH
  · rw [hA0]; exact hA

end
end Go.Proofs.Ytgebgjhjegadpaa

namespace Go.Proofs.Ytgebgjhjegadpaa
open Go Go.ChangeShapes Go.WideShapes Go.RowKit

section
variable {H : Type} {enc : TypeId × Value → H} {P : Program} {W : World} {r : Reach} {b0 base : Nat} {spare : Nat → Bool} {held : Bool} {t e : TypeId} {k : IntKind} {v : Value} {d : DataW H} {ps : List MemPlace}

theorem wf_u (hk : isU k = true) {n : Int} (h : (Lit.int k n).wf = true) : 0 ≤ n ∧ n.toNat < lim k := by
  cases k <;> simp [isU] at hk <;> simp [Lit.wf, IntKind.min, IntKind.max, IntKind.signed, IntKind.bits, lim] at h ⊢ <;> omega

theorem open_uintV (ht : P.underlying t = some (.int k)) (hk : isU k = true) (hval : Value.okWide P W r b0 t v) (hd : DataW.Trod enc P W base spare held t v d ps) : ∃ x : Nat, x < lim k ∧ v = .int k x := by
  obtain ⟨n, rfl, _, _, hw⟩ := open_int ht hval hd
  obtain ⟨h1, h2⟩ := wf_u hk hw
  exact ⟨n.toNat, h2, by rw [Int.toNat_of_nonneg h1]⟩

theorem open_i64V (ht : P.underlying t = some (.int .i64)) (hval : Value.okWide P W r b0 t v) (hd : DataW.Trod enc P W base spare held t v d ps) : ∃ z : Int, -9223372036854775808 ≤ z ∧ z < 9223372036854775808 ∧ v = .int .i64 z := by
  obtain ⟨n, rfl, _, _, hw⟩ := open_int ht hval hd
  refine ⟨n, ?_, ?_, rfl⟩ <;> simp [Lit.wf, IntKind.min, IntKind.max, IntKind.signed, IntKind.bits] at hw <;> omega

theorem open_arrC {n : Nat} (hk : isU k = true) (he : P.underlying e = some (.int k)) (hce : P.cellsOf e = 1) (ht : P.underlying t = some (.array n e)) (hct : P.cellsOf t = n) {fuel : Nat} {cs : List Value} {x : DataW H × List MemPlace}
    (hd : DataW.trod enc P W base spare held fuel t cs = some x) : ∃ xs : List Nat, xs.length = n ∧ (∀ x ∈ xs, x < lim k) ∧ cs = xs.map (fun x : Nat => Value.int k x) := by
  obtain ⟨ys, m, _, _, hlen, hyl, hget⟩ := DataW.trod_array ht hd
  rw [hct] at hlen
  have key : ∀ i, i < n → ∃ z : Nat, z < lim k ∧ cs[i]? = some (.int k z) := by
    intro i hi
    have h1 := hget i hi
    rw [hce, Nat.mul_one] at h1
    have hy : ys[i]? = some (ys[i]'(by omega)) := List.getElem?_eq_getElem _
    rw [hy] at h1
    have hc : cs[i]? = some (cs[i]'(by omega)) := List.getElem?_eq_getElem _
    have hcs : (cs.drop i).take 1 = [cs[i]'(by omega)] := by
      rw [List.take_one, List.head?_drop, hc]; rfl
    rw [hcs] at h1
    obtain ⟨z, hz1, _, hz3⟩ := DataW.trod_int he h1
    obtain ⟨g1, g2⟩ := wf_u hk hz3
    refine ⟨z.toNat, g2, ?_⟩
    rw [hc, Int.toNat_of_nonneg g1]
    simp only [List.cons.injEq] at hz1
    rw [hz1.1]
  refine ⟨cs.map fun v => match v with
    | .int _ z => z.toNat
    | _ => 0, by simpa using hlen, fun x hx => ?_, ?_⟩
  · obtain ⟨v, hv, rfl⟩ := List.mem_map.1 hx
    obtain ⟨i, hi, rfl⟩ := List.getElem_of_mem hv
    obtain ⟨z, hz, hz2⟩ := key i (by omega)
    rw [List.getElem?_eq_getElem hi] at hz2
    rw [Option.some.inj hz2]
    simpa using hz
  · apply List.ext_getElem?
    intro i
    by_cases hi : i < cs.length
    · obtain ⟨z, hz, hz2⟩ := key i (by omega)
      simp only [List.map_map, List.getElem?_map, hz2, Option.map_some, Function.comp]
      simp
    · simp [List.getElem?_eq_none (Nat.le_of_not_lt hi)]

theorem open_arrV {n : Nat} (hk : isU k = true) (he : P.underlying e = some (.int k)) (hce : P.cellsOf e = 1) (ht : P.underlying t = some (.array n e)) (hct : P.cellsOf t = n) (hval : Value.okWide P W r b0 t v) (hd : DataW.Trod enc P W base spare held t v d ps) :
    ∃ xs : List Nat, xs.length = n ∧ (∀ x ∈ xs, x < lim k) ∧ v = .agg (xs.map (fun x : Nat => Value.int k x)).toArray := by
  obtain ⟨fuel, hd⟩ := hd
  simp only [Value.okWide, ht] at hval
  obtain ⟨cs, rfl, _, _⟩ := hval
  obtain ⟨xs, h1, h2, h3⟩ := open_arrC hk he hce ht hct hd
  refine ⟨xs, h1, h2, ?_⟩
  congr 1
  apply Array.ext'
  simpa [Value.cells] using h3

theorem relAgg {cx : Cx} {β : Bm} {n : Nat} {xs : List Nat} (h1 : xs.length = n) (h2 : ∀ x ∈ xs, x < lim k) : RelV cx β (.agg [.ints k n xs]) (.agg (xs.map (fun x : Nat => Value.int k x)).toArray) :=
  ⟨_, rfl, h1, h2, [], by simp, rfl⟩

theorem relNat {cx : Cx} {β : Bm} {x : Nat} (h : x < lim k) : RelV cx β (.s (.nat k x)) (.int k x) := ⟨rfl, h⟩

theorem relInt {cx : Cx} {β : Bm} {z : Int} (h1 : -9223372036854775808 ≤ z) (h2 : z < 9223372036854775808) : RelV cx β (.s (.int z)) (.int .i64 z) := ⟨rfl, h1, h2⟩

theorem relNil {cx : Cx} {β : Bm} : RelL cx β [] [] := ⟨rfl, fun j v cv e => by simp at e⟩

theorem relCons {cx : Cx} {β : Bm} {v : AV} {vs : List AV} {cv : Value} {l : List Value} (h : RelV cx β v cv) (hr : RelL cx β vs l) : RelL cx β (v :: vs) (cv :: l) :=
  ⟨by simp [hr.1], fun j u cu e1 e2 => by
    cases j with
    | zero =>
      simp only [List.getElem?_cons_zero, Option.some.injEq] at e1 e2
      subst e1; subst e2
      exact h
    | succ j => exact hr.2 j u cu (by simpa using e1) (by simpa using e2)⟩

/-- All that stands at the start, to be read. -/
def allX (W : World) : Nat → Prop := fun b => b < W.heap.size

theorem cell_lt {a : Addr} {u : Value} (h : W.cell? a = some u) : a.block < W.heap.size := by
  unfold World.cell? at h
  rcases Nat.lt_or_ge a.block W.heap.size with hl | hl
  · exact hl
  · simp [Array.getElem?_eq_none hl] at h

theorem relXs {cx : Cx} {β : Bm} {c : XC} {cv : Value} (h : RelX cx c cv) : RelV cx β (.s (.xsl c)) cv := h

/-- A slice of numbers, by value. -/
theorem open_rowV (hk : isU k = true) (he : P.underlying e = some (.int k)) (hce : P.cellsOf e = 1) (ht : P.underlying t = some (.slice e)) (hval : Value.okWide P W r b0 t v) (hd : DataW.Trod enc P W base spare held t v d ps) :
    ∃ xs : List Nat, xs.length ≤ 9223372036854775807 ∧ (∀ x ∈ xs, x < lim k) ∧ RelX (now W (allX W)) (.ints k xs) v := by
  obtain ⟨fuel, hd⟩ := hd
  have hok := hval
  simp only [Value.okWide, ht, Cell.okWide, Cell.ok] at hok
  have hcell : v.cells.toList = [v] := by
    cases v <;> simp_all [Value.cells]
  rw [hcell] at hd
  rcases open_ints ht he hce hd with ⟨h1, _⟩ | ⟨a, len, cap, zs, h1, _, h2, h3, h4, _, h6, h7⟩
  · simp only [List.cons.injEq, and_true] at h1
    subst h1
    exact ⟨[], by simp, by simp, .inl ⟨rfl, rfl⟩⟩
  · simp only [List.cons.injEq, and_true] at h1
    subst h1
    simp only [World.has] at hok
    obtain ⟨_, _, _, hspot, _⟩ := hok
    have hlen : len ≤ zs.length := by rw [h4]; split <;> omega
    obtain ⟨b, o, sp⟩ := a
    simp only at hspot
    subst hspot
    have hx : ∀ i, i < len → ∃ z : Nat, z < lim k ∧ zs[i]? = some (z : Int) ∧ W.cell? ⟨b, o + i, none⟩ = some (.int k z) := by
      intro i hi
      have hz : zs[i]? = some (zs[i]'(by omega)) := List.getElem?_eq_getElem _
      obtain ⟨g1, g2⟩ := wf_u hk (h7 _ (List.getElem_mem (by omega : i < zs.length)))
      refine ⟨(zs[i]'(by omega)).toNat, g2, by rw [hz, Int.toNat_of_nonneg g1], ?_⟩
      have := h6 i (by omega)
      rw [addr_add] at this
      rw [this, List.getD, hz, Option.getD_some, Int.toNat_of_nonneg g1]
    refine ⟨(zs.take len).map Int.toNat, by simp [maxLen] at h3 ⊢; omega, fun x hx' => ?_, .inr ⟨b, o, cap, by simp [XC.len]; omega, by simp [XC.len]; omega, fun i x e => ?_⟩⟩
    · obtain ⟨z, hz, rfl⟩ := List.mem_map.1 hx'
      exact (wf_u hk (h7 z (List.mem_of_mem_take hz))).2
    · rw [List.getElem?_map, Option.map_eq_some_iff] at e
      obtain ⟨z, hz, rfl⟩ := e
      have hi : i < len := by have := (List.getElem?_eq_some_iff.1 hz).1; simp at this; omega
      rw [List.getElem?_take_of_lt hi] at hz
      obtain ⟨z', g1, g2, g3⟩ := hx i hi
      rw [hz] at g2
      have : z = (z' : Int) := Option.some.inj g2
      subst this
      simp only [Int.toNat_natCast]
      exact ⟨cell_lt g3, g3, g1⟩

/-! The end. -/
theorem trodAll_stays (hl : laidOutB P = true) {W' : World} (hb : Below W.heap.size W W') {sp : Nat → Bool} : ∀ {ts : List TypeId} {vs : List Value} {ds : List (DataW H)} {ps : List MemPlace}, (∀ t ∈ ts, P.readableRec t = true ∧ t < P.types.size) →
    DataW.TrodAll enc P W 0 (fun _ => true) true ts vs ds ps → (∀ p ∈ ps, p.block < W.heap.size) → (∀ p ∈ ps, sp p.block = true) → DataW.TrodAll enc P W' 0 sp true ts vs ds ps
  | [], vs, ds, ps, _, h, _, _ => by
    obtain ⟨rfl, rfl, rfl⟩ := trodAll_nil h
    exact rfl
  | t :: ts, vs, ds, ps, hts, h, hlt, hsp => by
    obtain ⟨v, vs1, d, ds1, a, b, rfl, rfl, rfl, h1, h2⟩ := trodAll_cons h
    have ht := hts t List.mem_cons_self
    exact ⟨a, b, WideElems.Trod_stays hl ht.1 ht.2 h1 (fun x hx => hb.same (hlt x (List.mem_append_left _ hx))) (fun x hx => hsp x (List.mem_append_left _ hx)),
      trodAll_stays hl hb (fun t h => hts t (List.mem_cons_of_mem _ h)) h2 (fun p hp => hlt p (List.mem_append_right _ hp)) (fun p hp => hsp p (List.mem_append_right _ hp)), rfl⟩

theorem below_of {X : Nat → Prop} {β : Bm} {Hf : Nat → Option Blk} {D : Nat → Prop} {w' : World} (h : RelH (now W X) (fun _ => False) β Hf D w') : Below W.heap.size W w' :=
  ⟨h.os, h.tape, h.output, h.size, fun k hk => h.frame k hk (fun h => h)⟩

theorem relH_start (W : World) : RelH (now W (allX W)) (fun _ => False) (fun _ => none) (hinF []) (fun n => n < 0) W where
  size := Nat.le_refl _
  frame := fun _ _ _ => rfl
  xok := fun _ h => ⟨h, fun h => h⟩
  dom := fun _ _ h => by cases h
  held := fun _ _ _ h => by cases h
  wf := fun _ _ h => by simp [hinF] at h
  hd := fun _ _ h => by simp [hinF] at h
  inj := fun _ _ _ _ h => by cases h
  os := rfl
  tape := rfl
  output := rfl

/-- A law: it returns true, and what it was given reads as before. -/
def Law (s : ChangeSpec) (n : Nat) : Prop := s.vars = [] ∧ ∀ (H : Type) (ds : List (DataW H)), ds.length = n → (s.fn H ds).results = [.lit (.bool true)] ∧ (s.fn H ds).args = ds ∧ (s.fn H ds).vars = []

theorem trodAll_len {w : World} : ∀ {ts : List TypeId} {vs : List Value} {ds : List (DataW H)} {ps : List MemPlace}, DataW.TrodAll enc P w base spare held ts vs ds ps → ds.length = ts.length
  | [], vs, ds, ps, h => by obtain ⟨_, rfl, _⟩ := trodAll_nil h; rfl
  | t :: ts, vs, ds, ps, h => by
    obtain ⟨v, vs1, d, ds1, a, b, rfl, rfl, rfl, h1, h2⟩ := trodAll_cons h
    simp [trodAll_len h2]

theorem law_post {fn : Func} {s : ChangeSpec} {tb : TypeId} (hl : laidOutB P = true) (hs : Law s fn.params.toList.length) (hts : ∀ t ∈ fn.params.toList, P.readableRec t = true ∧ t < P.types.size) (hres : fn.resultTypes = #[tb]) (htb : P.underlying tb = some .bool)
    {W' : World} {args : Array Value} {ds gs : List (DataW H)} {before : List MemPlace} (hW : DataW.Whole enc P fn.params.toList s.vars false W args.toList ds gs before) (hb : Below W.heap.size W W') :
    s.post enc P fn false true false false W args (.bool true) W' := by
  have hlt := hW.lt
  have hW2 := hW
  obtain ⟨p, q, hA, hV, rfl, _, _⟩ := hW2
  rw [hs.1] at hV
  obtain ⟨rfl, rfl⟩ := trodVars_none hV
  obtain ⟨h1, h2, h3⟩ := hs.2 H ds (trodAll_len hA)
  refine ⟨ds, [], p ++ [], [], p, [], hW, ?_, ?_, ?_, hb.frame _, fun h => by cases h⟩
  · rw [List.append_nil, h1, hres]
    exact trodAll_mk1 (shut_bool htb true)
  · rw [List.append_nil, h2]
    exact trodAll_stays hl hb hts hA (fun x hx => hlt x (List.mem_append_left _ hx)) (fun x hx => by simpa using hlt x (List.mem_append_left _ hx))
  · rw [List.append_nil, h3, hs.1]
    rfl

theorem law_calls {E : Env} {f : Nat} {fn : Func} {s : ChangeSpec} {tb : TypeId} (hl : laidOutB E.P = true) (hs : Law s fn.params.toList.length) (hts : ∀ t ∈ fn.params.toList, E.P.readableRec t = true ∧ t < E.P.types.size) (hres : fn.resultTypes = #[tb]) (htb : E.P.underlying tb = some .bool)
    {args : Array Value} {ds gs : List (DataW H)} {before : List MemPlace} (hW : DataW.Whole enc E.P fn.params.toList s.vars false W args.toList ds gs before)
    {avs : List AV} {hout : List (Option Blk)} (hrel : RelL (now W (allX W)) (fun _ => none) avs args.toList) (hc : Ctr E.P f avs [] (.s (.bool true)) hout) :
    Calls E.P f args W fun e W' => ∃ v, e = .returned v ∧ s.post enc E.P fn false true false false W args v W' := by
  have := hc W (allX W) (fun _ => False) (fun _ => none) args.toList (relH_start W) hrel
  rw [Array.toArray_toList] at this
  refine this.mono ?_
  rintro e W' ⟨cv, β', rfl, _, h2, h3⟩
  have h2 : cv = .bool true := h2
  subst h2
  exact ⟨_, rfl, law_post hl hs hts hres htb hW (below_of h3)⟩

end
end Go.Proofs.Ytgebgjhjegadpaa

namespace Go.Proofs.Ytgebgjhjegadpaa
open Go

def bodyOf (f : Func) : Code := match f.body with
  | some c => c
  | none => .skip

theorem loopsOk_none {P : Program} {L : Lps} (h : L.sums = []) : ∀ c : Code, LoopsOk P L c := by
  intro c
  induction c with
  | seq a b iha ihb => exact ⟨iha, ihb⟩
  | cond o a b iha ihb => exact ⟨iha, ihb⟩
  | block id body ih => unfold LoopsOk; rw [h]; exact ih
  | loop body ih => exact ih
  | _ => trivial

def kitOf (P : Program) (fs : List (Nat × FSem)) (xs : List (Nat × (List AV → Option (Tr AV)))) (m : SubMode) (fn : Func) : Kit := ⟨⟨P, fs, xs⟩, m, fun d => Nat.blt d fn.ntmps⟩

def runB (P : Program) (fs : List (Nat × FSem)) (xs : List (Nat × (List AV → Option (Tr AV)))) (m : SubMode) (fuel : Nat) (fn : Func) (args : List AV) (hin : List Blk) : Option (AV × List (Option Blk)) :=
  evBody (kitOf P fs xs m fn) ⟨fn.ntmps, fuel, []⟩ fn (bodyOf fn) args hin

def runL (P : Program) (fs : List (Nat × FSem)) (xs : List (Nat × (List AV → Option (Tr AV)))) (m : SubMode) (fuel : Nat) (sums : List (Nat × LSem)) (fn : Func) (args : List AV) (hin : List Blk) : Option (AV × List (Option Blk)) :=
  evBody (kitOf P fs xs m fn) ⟨fn.ntmps, fuel, sums⟩ fn (bodyOf fn) args hin

structure Fn (P : Program) (f : Nat) (fn : Func) : Prop where
  mixed : P.follows .mixedOrders = true
  at_ : P.funcs[f]? = some fn
  body : fn.body = some (bodyOf fn)
  name : fn.name ≠ "runtime.NumGoroutine"

theorem EnvOk.nil {P : Program} : EnvOk ⟨P, [], []⟩ := ⟨fun f F h => by simp [lkF] at h, fun f F h => by simp [lkF] at h⟩

theorem EnvOk.cons {P : Program} {fs : List (Nat × FSem)} {xs : List (Nat × (List AV → Option (Tr AV)))} {f : Nat} {F : FSem} (h : FOk P f F) (hr : EnvOk ⟨P, fs, xs⟩) : EnvOk ⟨P, (f, F) :: fs, xs⟩ := by
  refine ⟨fun g G hg => ?_, hr.xs⟩
  by_cases e : f = g
  · subst e
    simp only [lkF, Nat.beq_refl, Option.some.injEq] at hg
    subst hg
    exact h
  · simp only [lkF, beq_false e] at hg
    exact hr.fs g G hg

theorem EnvOk.consX {P : Program} {xs : List (Nat × (List AV → Option (Tr AV)))} {f : Nat} {F : List AV → Option (Tr AV)} (h : XOk P f F) (hr : EnvOk ⟨P, [], xs⟩) : EnvOk ⟨P, [], (f, F) :: xs⟩ := by
  refine ⟨fun g G hg => by simp [lkF] at hg, fun g G hg => ?_⟩
  by_cases e : f = g
  · subst e
    simp only [lkF, Nat.beq_refl, Option.some.injEq] at hg
    subst hg
    exact h
  · simp only [lkF, beq_false e] at hg
    exact hr.xs g G hg

theorem fokB {P : Program} {fs : List (Nat × FSem)} {xs : List (Nat × (List AV → Option (Tr AV)))} {m : SubMode} {fuel : Nat} {f : Nat} {fn : Func} {F : FSem} (hE : EnvOk ⟨P, fs, xs⟩) (hF : Fn P f fn)
    (h : ∀ args hin t r, F.run args hin = some t → t.get = some r → runB P fs xs m fuel fn args hin = some r) : FOk P f F :=
  fok (X := kitOf P fs xs m fn) (L := ⟨fn.ntmps, fuel, []⟩) hE rfl rfl hF.mixed (loopsOk_none rfl _) hF.at_ hF.body hF.name h

theorem fokL {P : Program} {fs : List (Nat × FSem)} {xs : List (Nat × (List AV → Option (Tr AV)))} {m : SubMode} {fuel : Nat} {sums : List (Nat × LSem)} {f : Nat} {fn : Func} {F : FSem} (hE : EnvOk ⟨P, fs, xs⟩) (hF : Fn P f fn)
    (hL : LoopsOk P ⟨fn.ntmps, fuel, sums⟩ (bodyOf fn))
    (h : ∀ args hin t r, F.run args hin = some t → t.get = some r → runL P fs xs m fuel sums fn args hin = some r) : FOk P f F :=
  fok (X := kitOf P fs xs m fn) (L := ⟨fn.ntmps, fuel, sums⟩) hE rfl rfl hF.mixed hL hF.at_ hF.body hF.name h

theorem ctrB {P : Program} {fs : List (Nat × FSem)} {xs : List (Nat × (List AV → Option (Tr AV)))} {m : SubMode} {fuel : Nat} {f : Nat} {fn : Func} (hE : EnvOk ⟨P, fs, xs⟩) (hF : Fn P f fn) {args : List AV} {hin : List Blk} {v : AV} {hout : List (Option Blk)}
    (h : runB P fs xs m fuel fn args hin = some (v, hout)) : Ctr P f args hin v hout :=
  evBody_sound (X := kitOf P fs xs m fn) (L := ⟨fn.ntmps, fuel, []⟩) hE rfl rfl hF.mixed (loopsOk_none rfl _) hF.at_ hF.body h

theorem ctrL {P : Program} {fs : List (Nat × FSem)} {xs : List (Nat × (List AV → Option (Tr AV)))} {m : SubMode} {fuel : Nat} {sums : List (Nat × LSem)} {f : Nat} {fn : Func} (hE : EnvOk ⟨P, fs, xs⟩) (hF : Fn P f fn) {args : List AV} {hin : List Blk} {v : AV} {hout : List (Option Blk)}
    (hL : LoopsOk P ⟨fn.ntmps, fuel, sums⟩ (bodyOf fn)) (h : runL P fs xs m fuel sums fn args hin = some (v, hout)) : Ctr P f args hin v hout :=
  evBody_sound (X := kitOf P fs xs m fn) (L := ⟨fn.ntmps, fuel, sums⟩) hE rfl rfl hF.mixed hL hF.at_ hF.body h

/-- What must hold, one after the other. -/
def nd {α : Type} : List Bool → Option α → Option α
  | [], x => x
  | c :: cs, x => cond c (nd cs x) none

theorem nd_true {α : Type} {x : Option α} : ∀ {cs : List Bool}, (∀ c ∈ cs, c = true) → nd cs x = x
  | [], _ => rfl
  | c :: cs, h => by
    have hc : c = true := h c List.mem_cons_self
    subst hc
    exact nd_true (cs := cs) fun d hd => h d (List.mem_cons_of_mem _ hd)

theorem addOff_eq' (a b : Nat) : addOff a b = a + b := by cases a <;> simp [addOff]

end Go.Proofs.Ytgebgjhjegadpaa

namespace Go.Proofs.Ytgebgjhjegadpaa
open Go

def loopsIn (sums : List (Nat × LSem)) : Code → List (Nat × Code × LSem)
  | .seq a b => loopsIn sums a ++ loopsIn sums b
  | .cond _ a b => loopsIn sums a ++ loopsIn sums b
  | .block id body => match lkF sums id with
    | some S => [(id, body, S)]
    | none => loopsIn sums body
  | .loop body => loopsIn sums body
  | _ => []

theorem loopsOk_of {P : Program} {L : Lps} : ∀ {c : Code}, (∀ x ∈ loopsIn L.sums c, LOk P L.N (.block x.1 x.2.1) x.2.2) → LoopsOk P L c := by
  intro c
  induction c with
  | seq a b iha ihb => intro h; exact ⟨iha fun x hx => h x (List.mem_append_left _ hx), ihb fun x hx => h x (List.mem_append_right _ hx)⟩
  | cond o a b iha ihb => intro h; exact ⟨iha fun x hx => h x (List.mem_append_left _ hx), ihb fun x hx => h x (List.mem_append_right _ hx)⟩
  | block id body ih =>
    intro h
    unfold LoopsOk
    unfold loopsIn at h
    cases hl : lkF L.sums id with
    | some S => rw [hl] at h; exact h _ (List.mem_singleton.2 rfl)
    | none => rw [hl] at h; exact ih h
  | loop body ih => intro h; exact ih h
  | _ => intro _; trivial

def findB (id : Nat) : Code → Option Code
  | .seq a b => match findB id a with
    | some c => some c
    | none => findB id b
  | .cond _ a b => match findB id a with
    | some c => some c
    | none => findB id b
  | .block j body => match Nat.beq j id with
    | true => some body
    | false => findB id body
  | .loop body => findB id body
  | _ => none

def lb (id : Nat) (f : Func) : Code := match findB id (bodyOf f) with
  | some (.loop b) => b
  | _ => .skip

def kitL (P : Program) (fs : List (Nat × FSem)) (xs : List (Nat × (List AV → Option (Tr AV)))) (m : SubMode) (N : Nat) (msk : Nat) : Kit := ⟨⟨P, fs, xs⟩, m, fun d => hasBit msk d && Nat.blt d N⟩

def runR (P : Program) (fs : List (Nat × FSem)) (xs : List (Nat × (List AV → Option (Tr AV)))) (m : SubMode) (fuel : Nat) (sums : List (Nat × LSem)) (fn : Func) (id : Nat) (S : LSem) (k : Nat) (args : List AV) (hs : List (Option Blk)) : Option (Ex × List AV × List (Option Blk)) :=
  evRound (kitL P fs xs m fn.ntmps (wrCode (lb id fn))) ⟨fn.ntmps, fuel, sums⟩ S k (lb id fn) args hs

theorem lokR {P : Program} {fs : List (Nat × FSem)} {xs : List (Nat × (List AV → Option (Tr AV)))} {m : SubMode} {fuel : Nat} {sums : List (Nat × LSem)} {fn : Func} {id : Nat} {S : LSem} (hE : EnvOk ⟨P, fs, xs⟩) (hm : P.follows .mixedOrders = true)
    (hL : LoopsOk P ⟨fn.ntmps, fuel, sums⟩ (lb id fn))
    (h : ∀ args hin t e vs hout, S.run args hin = some t → t.get = some (e, vs, hout) → ∃ (n : Nat) (A : Nat → List AV × List (Option Blk)) (e' : Ex), A 0 = (args, someL hin) ∧
      (∀ i, i < n → runR P fs xs m fuel sums fn id S hin.length (A i).1 (A i).2 = some (.normal, A (i + 1))) ∧ runR P fs xs m fuel sums fn id S hin.length (A n).1 (A n).2 = some (e', vs, hout) ∧ exB id e' = some e) :
    LOk P fn.ntmps (.block id (.loop (lb id fn))) S :=
  loop_ok (X := kitL P fs xs m fn.ntmps (wrCode (lb id fn))) (Lp := ⟨fn.ntmps, fuel, sums⟩) hE (fun d hd => by
    have hd : (hasBit (wrCode (lb id fn)) d && Nat.blt d fn.ntmps) = true := hd
    rw [Bool.and_eq_true] at hd
    exact ⟨hd.1, Nat.le_of_ble_eq_true hd.2⟩) rfl hm hL h

end Go.Proofs.Ytgebgjhjegadpaa

namespace Go.Proofs.Ytgebgjhjegadpaa
open Go

theorem mixedP : Try.prog.follows .mixedOrders = true := by kernel_rfl

def ct (x c : Nat) : Nat := (x + c) % 18446744073709551616

def carrO (t0 t1 t2 t3 t4 : Nat) : List Nat :=
  [((t0 &&& 67108863) + 5 * (t4 / 2 ^ 26) % 18446744073709551616) % 18446744073709551616, t1 &&& 67108863, t2 &&& 67108863, t3 &&& 67108863, t4 &&& 67108863]

def carr5 (a b c d e : Nat) : List Nat :=
  (fun t0 => (fun t1 => (fun t2 => (fun t3 => carrO t0 t1 t2 t3 (ct e (t3 / 2 ^ 26))) (ct d (t2 / 2 ^ 26))) (ct c (t1 / 2 ^ 26))) (ct b (t0 / 2 ^ 26))) (ct a 0)

def carr (x : List Nat) : List Nat := carr5 (x.getD 0 0) (x.getD 1 0) (x.getD 2 0) (x.getD 3 0) (x.getD 4 0)

theorem five {x : List Nat} (h : x.length = 5) : ∃ a b c d e, x = [a, b, c, d, e] := by
  match x, h with
  | [a, b, c, d, e], _ => exact ⟨a, b, c, d, e, rfl⟩

def F46 : FSem := ⟨false, fun args hin => match args, hin with
  | [.agg [.ints .u64 5 x]], [] => some (.need (decide (x.length = 5)) (.leaf (.agg [.ints .u64 5 (carr x)], [])))
  | _, _ => none⟩

theorem fn46 : Fn Try.prog 46 Try.f46 := ⟨mixedP, Try.func46, by kernel_rfl, of_decide_eq_true (by kernel_rfl)⟩

set_option maxRecDepth 100000 in
theorem r46 (a b c d e : Nat) : runB Try.prog [] [] .nat 7 Try.f46 [.agg [.ints .u64 5 [a, b, c, d, e]]] [] = some (.agg [.ints .u64 5 (carr [a, b, c, d, e])], []) := by kernel_rfl

theorem ok46 : FOk Try.prog 46 F46 := by
  refine fokB (fs := []) (xs := []) (m := .nat) (fuel := 7) EnvOk.nil fn46 ?_
  intro args hin t r h hg
  unfold F46 at h
  simp only at h
  split at h
  · rename_i x
    cases h
    simp only [Tr.get] at hg
    cases hl : decide (x.length = 5) with
    | false => rw [hl] at hg; cases hg
    | true =>
      rw [hl] at hg; cases hg
      obtain ⟨a, b, c, d, e, rfl⟩ := five (of_decide_eq_true hl)
      exact r46 a b c d e
  · cases h

def ad (o t : Nat) : Nat := (o + t) % 18446744073709551616
def pl (a b : Nat) : Nat := a * b % 18446744073709551616
def p5 (a b : Nat) : Nat := 5 * a % 18446744073709551616 * b % 18446744073709551616

def times5 (x0 x1 x2 x3 x4 y0 y1 y2 y3 y4 : Nat) : List Nat :=
  [ad (ad (ad (ad (ad 0 (pl x0 y0)) (p5 x1 y4)) (p5 x2 y3)) (p5 x3 y2)) (p5 x4 y1),
    ad (ad (ad (ad (ad 0 (pl x0 y1)) (pl x1 y0)) (p5 x2 y4)) (p5 x3 y3)) (p5 x4 y2),
    ad (ad (ad (ad (ad 0 (pl x0 y2)) (pl x1 y1)) (pl x2 y0)) (p5 x3 y4)) (p5 x4 y3),
    ad (ad (ad (ad (ad 0 (pl x0 y3)) (pl x1 y2)) (pl x2 y1)) (pl x3 y0)) (p5 x4 y4),
    ad (ad (ad (ad (ad 0 (pl x0 y4)) (pl x1 y3)) (pl x2 y2)) (pl x3 y1)) (pl x4 y0)]

def timesL (x y : List Nat) : List Nat := times5 (x.getD 0 0) (x.getD 1 0) (x.getD 2 0) (x.getD 3 0) (x.getD 4 0) (y.getD 0 0) (y.getD 1 0) (y.getD 2 0) (y.getD 3 0) (y.getD 4 0)

def F37 : FSem := ⟨false, fun args hin => match args, hin with
  | [.agg [.ints .u64 5 x], .agg [.ints .u64 5 y]], [] => some (.need (decide (x.length = 5)) (.need (decide (y.length = 5)) (.leaf (.agg [.ints .u64 5 (carr (carr (timesL x y)))], []))))
  | _, _ => none⟩

theorem fn37 : Fn Try.prog 37 Try.f37 := ⟨mixedP, Try.func37, by kernel_rfl, of_decide_eq_true (by kernel_rfl)⟩

set_option maxRecDepth 100000 in
theorem r37 (a b c d e a' b' c' d' e' : Nat) : runB Try.prog [(46, F46)] [] .nat 7 Try.f37 [.agg [.ints .u64 5 [a, b, c, d, e]], .agg [.ints .u64 5 [a', b', c', d', e']]] [] = some (.agg [.ints .u64 5 (carr (carr (timesL [a, b, c, d, e] [a', b', c', d', e'])))], []) := by kernel_rfl

theorem ok37 : FOk Try.prog 37 F37 := by
  refine fokB (fs := [(46, F46)]) (xs := []) (m := .nat) (fuel := 7) (.cons ok46 .nil) fn37 ?_
  intro args hin t r h hg
  unfold F37 at h
  simp only at h
  split at h
  · rename_i x y
    cases h
    simp only [Tr.get] at hg
    cases hl : decide (x.length = 5) with
    | false => rw [hl] at hg; cases hg
    | true =>
      rw [hl] at hg
      cases hl2 : decide (y.length = 5) with
      | false => rw [hl2] at hg; cases hg
      | true =>
        rw [hl2] at hg; cases hg
        obtain ⟨a, b, c, d, e, rfl⟩ := five (of_decide_eq_true hl)
        obtain ⟨a', b', c', d', e', rfl⟩ := five (of_decide_eq_true hl2)
        exact r37 a b c d e a' b' c' d' e'
  · cases h

end Go.Proofs.Ytgebgjhjegadpaa

namespace Go.Proofs.Ytgebgjhjegadpaa
open Go

theorem nd_of {α : Type} {cs : List Bool} {x r : Option α} (hc : ∀ c ∈ cs, c = true) (h : x = r) : nd cs x = r := by
  rw [nd_true hc, h]

theorem cond_t {α : Type} {c : Bool} {x y r : Option α} (hc : c = true) (h : x = r) : cond c x y = r := by
  rw [hc, cond_true, h]

theorem cond_f {α : Type} {c : Bool} {x y r : Option α} (hc : c = false) (h : y = r) : cond c x y = r := by
  rw [hc, cond_false, h]

def numStep1 (x : List Nat) (j v : Nat) : List Nat :=
  x.set (8 * j / 26) (x.getD (8 * j / 26) 0 ||| v * 2 ^ (8 * j % 26) % 18446744073709551616 &&& 67108863)

def numStep2 (x : List Nat) (j v : Nat) : List Nat :=
  x.set (8 * j / 26 + 1) (x.getD (8 * j / 26 + 1) 0 ||| v / 2 ^ (26 - 8 * j % 26))

def numStep (x : List Nat) (j v : Nat) : List Nat :=
  if 18 < 8 * j % 26 ∧ 8 * j / 26 < 4 then numStep2 (numStep1 x j v) j v else numStep1 x j v

def numN (xs : List Nat) : Nat → List Nat
  | 0 => [0, 0, 0, 0, 0]
  | j + 1 => numStep (numN xs j) j (xs.getD j 0)

def numb (xs : List Nat) : List Nat := numN xs xs.length

def S35 : LSem := ⟨[2, 3, 6, 7, 8], [2, 3], fun args hin => match args, hin with
  | [.s (.ptr 0 0), .s (.ptr 1 0), .s (.xsl (.ints .u8 xs)), .s (.nat .i64 n), .s (.nat .i64 0)], [[.ints .u64 5 [0, 0, 0, 0, 0]], [.ints .u64 5 [0, 0, 0, 0, 0]]] =>
    some (Tr.needs [decide (n = xs.length), decide (xs.length ≤ 17)]
      (.leaf (.normal, [.s (.ptr 0 0), .s (.ptr 1 0)], [some [.ints .u64 5 [0, 0, 0, 0, 0]], some [.ints .u64 5 (numb xs)]])))
  | _, _ => none⟩

set_option maxRecDepth 100000 in
theorem rr35 (xs zs : List Nat) (n j : Nat) : runR Try.prog [] [] .nat 3 [] Try.f35 0 S35 2 [.s (.ptr 0 0), .s (.ptr 1 0), .s (.xsl (.ints .u8 xs)), .s (.nat .i64 n), .s (.nat .i64 j)] [some [.ints .u64 5 [0,0,0,0,0]], some [.ints .u64 5 zs]] =
(cond (decide (j < n))
 (nd [decide (j < xs.length), decide (j < xs.length), decide (8 * j < 9223372036854775808), decide (8 * j / 26 < 5), decide (8 * j / 26 < 5), decide (8 * j < 9223372036854775808), decide (8 * j / 26 < 5), decide (8 * j / 26 < 5), decide (8 * j < 9223372036854775808)]
 (cond (decide (18 < 8 * j % 26))
 (nd [decide (8 * j < 9223372036854775808)]
 (cond (decide (8 * j / 26 < 4))
 (nd [decide (8 * j < 9223372036854775808), decide (8 * j / 26 + 1 < 9223372036854775808), decide (8 * j / 26 + 1 < 5), decide (8 * j / 26 + 1 < 5), decide (8 * j < 9223372036854775808), decide (8 * j % 26 ≤ 26), decide (8 * j / 26 + 1 < 5), decide (8 * j / 26 + 1 < 5), decide (j + 1 < 9223372036854775808)]
 (some (Ex.normal, [AV.s (SV.ptr 0 0), AV.s (SV.ptr 1 0), AV.s (SV.xsl (XC.ints IntKind.u8 xs)), AV.s (SV.nat IntKind.i64 n), AV.s (SV.nat IntKind.i64 (j + 1))], [some [Ch.ints IntKind.u64 5 [0, 0, 0, 0, 0]], some [Ch.ints IntKind.u64 5 (numStep2 (numStep1 zs j (xs.getD j 0)) j (xs.getD j 0))]])))
 (nd [decide (j + 1 < 9223372036854775808)]
 (some (Ex.normal, [AV.s (SV.ptr 0 0), AV.s (SV.ptr 1 0), AV.s (SV.xsl (XC.ints IntKind.u8 xs)), AV.s (SV.nat IntKind.i64 n), AV.s (SV.nat IntKind.i64 (j + 1))], [some [Ch.ints IntKind.u64 5 [0, 0, 0, 0, 0]], some [Ch.ints IntKind.u64 5 (numStep1 zs j (xs.getD j 0))]])))))
 (nd [decide (j + 1 < 9223372036854775808)]
 (some (Ex.normal, [AV.s (SV.ptr 0 0), AV.s (SV.ptr 1 0), AV.s (SV.xsl (XC.ints IntKind.u8 xs)), AV.s (SV.nat IntKind.i64 n), AV.s (SV.nat IntKind.i64 (j + 1))], [some [Ch.ints IntKind.u64 5 [0, 0, 0, 0, 0]], some [Ch.ints IntKind.u64 5 (numStep1 zs j (xs.getD j 0))]])))))
 (some (Ex.exit 0, [AV.s (SV.ptr 0 0), AV.s (SV.ptr 1 0)], [some [Ch.ints IntKind.u64 5 [0, 0, 0, 0, 0]], some [Ch.ints IntKind.u64 5 zs]]))) := by kernel_rfl

def A35 (xs : List Nat) (i : Nat) : List AV × List (Option Blk) :=
  ([.s (.ptr 0 0), .s (.ptr 1 0), .s (.xsl (.ints .u8 xs)), .s (.nat .i64 xs.length), .s (.nat .i64 i)], [some [.ints .u64 5 [0,0,0,0,0]], some [.ints .u64 5 (numN xs i)]])

theorem lok35 : LOk Try.prog Try.f35.ntmps (.block 0 (.loop (lb 0 Try.f35))) S35 := by
  refine lokR (fs := []) (xs := []) (m := .nat) (fuel := 3) (sums := []) EnvOk.nil mixedP (loopsOk_none rfl _) ?_
  intro args hin t e vs hout h hg
  unfold S35 at h
  simp only at h
  split at h
  · rename_i xs n
    simp only [Option.some.injEq] at h
    subst h
    obtain ⟨hc, hgt⟩ := Tr.needs_get hg
    clear hg
    have e1 : n = xs.length := of_decide_eq_true (hc _ (by simp))
    have hl : xs.length ≤ 17 := of_decide_eq_true (hc (decide (xs.length ≤ 17)) (by simp))
    clear hc
    subst e1
    cases hgt
    refine ⟨xs.length, A35 xs, .exit 0, rfl, fun i hi => ?_, ?_, rfl⟩
    · simp only [A35, List.length_cons, List.length_nil]
      rw [rr35]
      refine cond_t (decide_eq_true hi) (nd_of ?_ ?_)
      · simp only [List.mem_cons, List.not_mem_nil, or_false, forall_eq_or_imp, forall_eq, decide_eq_true_eq]; omega
      · by_cases h1 : 18 < 8 * i % 26
        · refine cond_t (decide_eq_true h1) (nd_of ?_ ?_)
          · simp only [List.mem_cons, List.not_mem_nil, or_false, forall_eq, decide_eq_true_eq]; omega
          · by_cases h2 : 8 * i / 26 < 4
            · refine cond_t (decide_eq_true h2) (nd_of ?_ ?_)
              · simp only [List.mem_cons, List.not_mem_nil, or_false, forall_eq_or_imp, forall_eq, decide_eq_true_eq]; omega
              · simp only [numN, numStep, if_pos (And.intro h1 h2)]
            · refine cond_f (decide_eq_false h2) (nd_of ?_ ?_)
              · simp only [List.mem_cons, List.not_mem_nil, or_false, forall_eq, decide_eq_true_eq]; omega
              · simp only [numN, numStep, if_neg (fun h : 18 < 8 * i % 26 ∧ 8 * i / 26 < 4 => h2 h.2)]
        · refine cond_f (decide_eq_false h1) (nd_of ?_ ?_)
          · simp only [List.mem_cons, List.not_mem_nil, or_false, forall_eq, decide_eq_true_eq]; omega
          · simp only [numN, numStep, if_neg (fun h : 18 < 8 * i % 26 ∧ 8 * i / 26 < 4 => h1 h.1)]
    · simp only [A35, List.length_cons, List.length_nil]
      rw [rr35]
      exact cond_f (decide_eq_false (Nat.lt_irrefl _)) rfl
  · cases h

def F35 : FSem := ⟨true, fun args hin => match args, hin with
  | [.s (.xsl (.ints .u8 xs))], [] => some (.need (decide (xs.length ≤ 17)) (.leaf (.agg [.ints .u64 5 (numb xs)], [])))
  | _, _ => none⟩

theorem fn35 : Fn Try.prog 35 Try.f35 := ⟨mixedP, Try.func35, by kernel_rfl, of_decide_eq_true (by kernel_rfl)⟩

theorem loops35 : LoopsOk Try.prog ⟨Try.f35.ntmps, 3, [(0, S35)]⟩ (bodyOf Try.f35) := by
  refine loopsOk_of ?_
  have e : loopsIn [(0, S35)] (bodyOf Try.f35) = [(0, .loop (lb 0 Try.f35), S35)] := by kernel_rfl
  simp only [e]
  intro x hx
  simp only [List.mem_cons, List.not_mem_nil, or_false] at hx
  subst hx
  exact lok35

set_option maxRecDepth 100000 in
theorem r35 (xs : List Nat) : runL Try.prog [] [] .nat 3 [(0, S35)] Try.f35 [.s (.xsl (.ints .u8 xs))] [] =
    nd [decide (xs.length < 9223372036854775808), decide (xs.length = xs.length), decide (xs.length ≤ 17)] (some (.agg [.ints .u64 5 (numb xs)], [])) := by kernel_rfl

theorem ok35 : FOk Try.prog 35 F35 := by
  refine fokL (fs := []) (xs := []) (m := .nat) (fuel := 3) (sums := [(0, S35)]) EnvOk.nil fn35 loops35 ?_
  intro args hin t r h hg
  unfold F35 at h
  simp only at h
  split at h
  · rename_i xs
    cases h
    simp only [Tr.get] at hg
    cases hl : decide (xs.length ≤ 17) with
    | false => rw [hl] at hg; cases hg
    | true =>
      rw [hl] at hg; cases hg
      have hl := of_decide_eq_true hl
      rw [r35]
      refine nd_of ?_ rfl
      simp only [List.mem_cons, List.not_mem_nil, or_false, forall_eq_or_imp, forall_eq, decide_eq_true_eq, true_and, and_true]; omega
  · cases h

end Go.Proofs.Ytgebgjhjegadpaa

namespace Go.Proofs.Ytgebgjhjegadpaa
open Go

/-- Is it 2^130 - 5 or more? -/
def over5 (a b c d e : Nat) : Nat := ct e (ct d (ct c (ct b (ct a 5 / 2 ^ 26) / 2 ^ 26) / 2 ^ 26) / 2 ^ 26) / 2 ^ 26

def carrL (t0 t1 t2 t3 t4 : Nat) : List Nat := [t0 &&& 67108863, t1 &&& 67108863, t2 &&& 67108863, t3 &&& 67108863, t4 &&& 67108863]

def least5 (a b c d e : Nat) : List Nat :=
  (fun t0 => (fun t1 => (fun t2 => (fun t3 => carrL t0 t1 t2 t3 (ct e (t3 / 2 ^ 26))) (ct d (t2 / 2 ^ 26))) (ct c (t1 / 2 ^ 26))) (ct b (t0 / 2 ^ 26)))
    (ct ((a + 5 * over5 a b c d e % 18446744073709551616) % 18446744073709551616) 0)

def least (x : List Nat) : List Nat := least5 (x.getD 0 0) (x.getD 1 0) (x.getD 2 0) (x.getD 3 0) (x.getD 4 0)

/-- The i-th byte of a number of five parts, and what stands above it. -/
def fx (x : List Nat) (i : Nat) : Nat :=
  match decide (18 < 8 * i % 26) && decide (8 * i / 26 < 4) with
  | true => x.getD (8 * i / 26) 0 / 2 ^ (8 * i % 26) ||| x.getD (8 * i / 26 + 1) 0 * 2 ^ (26 - 8 * i % 26) % 18446744073709551616
  | false => x.getD (8 * i / 26) 0 / 2 ^ (8 * i % 26)

/-- What is carried into the i-th byte. -/
def fo (x key : List Nat) : Nat → Nat
  | 0 => 0
  | i + 1 => (fo x key i + (fx x i % 256 + key.getD (16 + i) 0)) / 2 ^ 8

def ft (x key : List Nat) (i : Nat) : Nat := (fo x key i + (fx x i % 256 + key.getD (16 + i) 0)) % 256

def fcs (x key : List Nat) : Nat → Nat → List Bool
  | 0, _ => []
  | n + 1, i => decide (fx x i % 256 + key.getD (16 + i) 0 < 9223372036854775808) :: decide (fo x key i + (fx x i % 256 + key.getD (16 + i) 0) < 9223372036854775808) :: fcs x key n (i + 1)

def fts (x key : List Nat) : Nat → Nat → List Nat
  | 0, _ => []
  | n + 1, i => ft x key i :: fts x key n (i + 1)

def finL (x key : List Nat) : List Nat := fts (least (carr (carr x))) key 16 0

def F38 : FSem := ⟨false, fun args hin => match args, hin with
  | [.agg [.ints .u64 5 x], .agg [.ints .u8 32 key]], [] => some (Tr.needs [decide (x.length = 5), key.all fun k => decide (k < 256)] (.leaf (.agg [.ints .u8 16 (finL x key)], [])))
  | _, _ => none⟩

theorem fn38 : Fn Try.prog 38 Try.f38 := ⟨mixedP, Try.func38, by kernel_rfl, of_decide_eq_true (by kernel_rfl)⟩

set_option maxRecDepth 100000 in
theorem r38 (a b c d e : Nat) (key : List Nat) : runB Try.prog [(46, F46)] [] .nat 17 Try.f38 [.agg [.ints .u64 5 [a, b, c, d, e]], .agg [.ints .u8 32 key]] [] =
    nd (fcs (least (carr (carr [a, b, c, d, e]))) key 16 0) (some (.agg [.ints .u8 16 (finL [a, b, c, d, e] key)], [])) := by kernel_rfl

theorem key_lt {key : List Nat} (h : key.all (fun k => decide (k < 256)) = true) (i : Nat) : key.getD i 0 < 256 := by
  rw [List.getD]
  cases hj : key[i]? with
  | none => simp
  | some p =>
    have := List.all_eq_true.1 h p (List.mem_of_getElem? hj)
    simpa using this

theorem fo_lt {x key : List Nat} (h : key.all (fun k => decide (k < 256)) = true) : ∀ i, fo x key i < 256
  | 0 => by simp [fo]
  | i + 1 => by
    have h1 := fo_lt (x := x) h i
    have h2 := key_lt h (16 + i)
    have h3 : fx x i % 256 < 256 := Nat.mod_lt _ (by omega)
    unfold fo
    omega

theorem fcs_ok {x key : List Nat} (h : key.all (fun k => decide (k < 256)) = true) : ∀ n i, ∀ c ∈ fcs x key n i, c = true
  | 0, i, c, hc => by cases hc
  | n + 1, i, c, hc => by
    have h1 := fo_lt (x := x) h i
    have h2 := key_lt h (16 + i)
    have h3 : fx x i % 256 < 256 := Nat.mod_lt _ (by omega)
    simp only [fcs, List.mem_cons] at hc
    rcases hc with rfl | rfl | hc
    · exact decide_eq_true (by omega)
    · exact decide_eq_true (by omega)
    · exact fcs_ok h n (i + 1) c hc

theorem ok38 : FOk Try.prog 38 F38 := by
  refine fokB (fs := [(46, F46)]) (xs := []) (m := .nat) (fuel := 17) (.cons ok46 .nil) fn38 ?_
  intro args hin t r h hg
  unfold F38 at h
  simp only at h
  split at h
  · rename_i x key
    cases h
    obtain ⟨hc, hgt⟩ := Tr.needs_get hg
    cases hgt
    obtain ⟨a, b, c, d, e, rfl⟩ := five (of_decide_eq_true (hc (decide (x.length = 5)) (by simp)))
    rw [r38]
    exact nd_of (fcs_ok (hc _ (by simp)) 16 0) rfl
  · cases h

end Go.Proofs.Ytgebgjhjegadpaa

namespace Go.Proofs.Ytgebgjhjegadpaa
open Go

/-! One block more. -/
def addL (a x : List Nat) : List Nat := [ct (a.getD 0 0) (x.getD 0 0), ct (a.getD 1 0) (x.getD 1 0), ct (a.getD 2 0) (x.getD 2 0), ct (a.getD 3 0) (x.getD 3 0), ct (a.getD 4 0) (x.getD 4 0)]

def stepC (r a ys : List Nat) : List Nat := carr (carr (timesL (addL a (numb (ys ++ [1]))) r))

def F36 : FSem := ⟨false, fun args hin => match args, hin with
  | [.s (.sl m 0 off len 1), .s (.ptr 1 0), .s (.ptr 2 0)], [[.ints .u8 n xs], [.ints .u64 5 a], [.ints .u64 5 r]] => match rowOf .u8 m off len [.ints .u8 n xs] with
    | some (cs, ys) => some (Tr.needs (cs ++ [decide (ys.length = len), decide (len ≤ 16), decide (a.length = 5), decide (r.length = 5)])
      (.leaf (.tup [], [some [.ints .u8 n xs], some [.ints .u64 5 (stepC r a ys)], some [.ints .u64 5 r]])))
    | none => none
  | _, _ => none⟩

theorem fn36 : Fn Try.prog 36 Try.f36 := ⟨mixedP, Try.func36, by kernel_rfl, of_decide_eq_true (by kernel_rfl)⟩

set_option maxRecDepth 100000 in
theorem r36 {m : LK} {off len n : Nat} {xs ys : List Nat} {cs : List Bool} (a b c d e : Nat) (r : List Nat) (h : rowOf .u8 m off len [.ints .u8 n xs] = some (cs, ys)) :
    runB Try.prog [(35, F35), (37, F37)] [] .nat 7 Try.f36 [.s (.sl m 0 off len 1), .s (.ptr 1 0), .s (.ptr 2 0)] [[.ints .u8 n xs], [.ints .u64 5 [a, b, c, d, e]], [.ints .u64 5 r]] =
    nd (cs ++ [decide (0 + len ≤ 4398046511104), decide (0 + len = 0 + len), decide (0 + len + 1 ≤ 4398046511104), decide (0 + len + 1 = 0 + len + 1), decide ((ys ++ [1]).length ≤ 17), decide (r.length = 5)])
      (some (.tup [], [some [.ints .u8 n xs], some [.ints .u64 5 (stepC r [a, b, c, d, e] ys)], some [.ints .u64 5 r]])) := by
  cases m <;> cases h <;> kernel_rfl

theorem ok36 : FOk Try.prog 36 F36 := by
  refine fokB (fs := [(35, F35), (37, F37)]) (xs := []) (m := .nat) (fuel := 7) (.cons ok35 (.cons ok37 .nil)) fn36 ?_
  intro args hin t r h hg
  unfold F36 at h
  simp only at h
  split at h
  · rename_i m off len n xs a r
    split at h
    · rename_i cs ys hr
      cases h
      obtain ⟨hc, hgt⟩ := Tr.needs_get hg
      cases hgt
      have h1 : ys.length = len := of_decide_eq_true (hc _ (List.mem_append_right _ (by simp)))
      have h2 : len ≤ 16 := of_decide_eq_true (hc (decide (len ≤ 16)) (List.mem_append_right _ (by simp)))
      have h3 : a.length = 5 := of_decide_eq_true (hc (decide (a.length = 5)) (List.mem_append_right _ (by simp)))
      have h4 : r.length = 5 := of_decide_eq_true (hc (decide (r.length = 5)) (List.mem_append_right _ (by simp)))
      obtain ⟨a0, a1, a2, a3, a4, rfl⟩ := five h3
      rw [r36 _ _ _ _ _ _ hr]
      refine nd_of (fun c hm => ?_) rfl
      rcases List.mem_append.1 hm with hm | hm
      · exact hc c (List.mem_append_left _ hm)
      · refine (show ∀ c ∈ [decide (0 + len ≤ 4398046511104), decide (0 + len = 0 + len), decide (0 + len + 1 ≤ 4398046511104), decide (0 + len + 1 = 0 + len + 1), decide ((ys ++ [1]).length ≤ 17), decide (r.length = 5)], c = true from ?_) c hm
        simp only [List.mem_cons, List.not_mem_nil, or_false, forall_eq_or_imp, forall_eq, decide_eq_true_eq, true_and, List.length_append, List.length_cons, List.length_nil]
        omega
    · cases h
  · cases h

end Go.Proofs.Ytgebgjhjegadpaa

namespace Go.Proofs.Ytgebgjhjegadpaa
open Go

def takesC (r a ys : List Nat) : Nat → List Nat
  | 0 => a
  | q + 1 => stepC r (takesC r a ys q) ((ys.drop (16 * q)).take 16)

theorem carr_len (x : List Nat) : (carr x).length = 5 := rfl
theorem stepC_len (r a ys : List Nat) : (stepC r a ys).length = 5 := rfl
theorem takesC_len {r a ys : List Nat} (h : a.length = 5) : ∀ q, (takesC r a ys q).length = 5
  | 0 => h
  | _ + 1 => rfl

def clo6 : AV := .s (.fn 36 [] [(1, 0), (2, 0)])

def S6 : LSem := ⟨[11, 12], [11], fun args hin => match args, hin with
  | [.s (.sl .whole 0 0 l 1), .s (.fn 36 [] [(1, 0), (2, 0)])], [[.ints .u8 n xs], [.ints .u64 5 a], [.ints .u64 5 r]] =>
    some (Tr.needs [decide (n = l), decide (xs.length = l), decide (a.length = 5), decide (r.length = 5), decide (l < 9223372036854775808)]
      (.br (decide (l / 16 = 0)) (.leaf (.normal, [.s (.sl .whole 0 0 l 1)], [some [.ints .u8 l xs], some [.ints .u64 5 a], some [.ints .u64 5 r]]))
        (.leaf (.normal, [.s (.sl .suf 0 (16 * (l / 16)) (l - 16 * (l / 16)) 1)], [some [.ints .u8 l xs], some [.ints .u64 5 (takesC r a xs (l / 16))], some [.ints .u64 5 r]]))))
  | _, _ => none⟩

set_option maxRecDepth 100000 in
theorem rr6w (l : Nat) (xs a r : List Nat) : runR Try.prog [(36, F36)] [] .nat 7 [] Try.f25 6 S6 3 [.s (.sl .whole 0 0 l 1), .s (.fn 36 [] [(1, 0), (2, 0)])] [some [.ints .u8 l xs], some [.ints .u64 5 a], some [.ints .u64 5 r]] =
(nd [decide (l < 9223372036854775808)]
 (cond (decide (16 ≤ l))
 (nd [decide (16 ≤ l), decide (16 ≤ l), decide ((List.take 16 xs).length = 16), decide (a.length = 5), decide (r.length = 5), decide (16 ≤ l)]
 (some (Ex.normal, [AV.s (SV.sl LK.suf 0 16 (l - 16) 1), AV.s (SV.fn 36 [] [(1, 0), (2, 0)])], [some [Ch.ints IntKind.u8 l xs], some [Ch.ints IntKind.u64 5 (stepC r a (List.take 16 xs))], some [Ch.ints IntKind.u64 5 r]])))
 (some (Ex.exit 6, [AV.s (SV.sl LK.whole 0 0 l 1)], [some [Ch.ints IntKind.u8 l xs], some [Ch.ints IntKind.u64 5 a], some [Ch.ints IntKind.u64 5 r]])))) := by kernel_rfl

set_option maxRecDepth 100000 in
theorem rr6s (off len l : Nat) (xs a r : List Nat) : runR Try.prog [(36, F36)] [] .nat 7 [] Try.f25 6 S6 3 [.s (.sl .suf 0 off len 1), .s (.fn 36 [] [(1, 0), (2, 0)])] [some [.ints .u8 l xs], some [.ints .u64 5 a], some [.ints .u64 5 r]] =
(nd [decide (len < 9223372036854775808)]
 (cond (decide (16 ≤ len))
 (nd [decide (16 ≤ len), decide (off + 16 ≤ l), decide ((List.take 16 (List.drop off xs)).length = 16), decide (a.length = 5), decide (r.length = 5), decide (16 ≤ len)]
 (some (Ex.normal, [AV.s (SV.sl LK.suf 0 (addOff off 16) (len - 16) 1), AV.s (SV.fn 36 [] [(1, 0), (2, 0)])], [some [Ch.ints IntKind.u8 l xs], some [Ch.ints IntKind.u64 5 (stepC r a (List.take 16 (List.drop off xs)))], some [Ch.ints IntKind.u64 5 r]])))
 (some (Ex.exit 6, [AV.s (SV.sl LK.suf 0 off len 1)], [some [Ch.ints IntKind.u8 l xs], some [Ch.ints IntKind.u64 5 a], some [Ch.ints IntKind.u64 5 r]])))) := by kernel_rfl

def A6 (xs a r : List Nat) : Nat → List AV × List (Option Blk)
  | 0 => ([.s (.sl .whole 0 0 xs.length 1), clo6], [some [.ints .u8 xs.length xs], some [.ints .u64 5 a], some [.ints .u64 5 r]])
  | i + 1 => ([.s (.sl .suf 0 (16 * (i + 1)) (xs.length - 16 * (i + 1)) 1), clo6], [some [.ints .u8 xs.length xs], some [.ints .u64 5 (takesC r a xs (i + 1))], some [.ints .u64 5 r]])

theorem lok6 : LOk Try.prog Try.f25.ntmps (.block 6 (.loop (lb 6 Try.f25))) S6 := by
  refine lokR (fs := [(36, F36)]) (xs := []) (m := .nat) (fuel := 7) (sums := []) (.cons ok36 .nil) mixedP (loopsOk_none rfl _) ?_
  intro args hin t e vs hout h hg
  unfold S6 at h
  simp only at h
  split at h
  · rename_i l n xs a r
    simp only [Option.some.injEq] at h
    subst h
    obtain ⟨hc, hgt⟩ := Tr.needs_get hg
    clear hg
    have e1 : n = l := of_decide_eq_true (hc _ (by simp))
    have e2 : xs.length = l := of_decide_eq_true (hc (decide (xs.length = l)) (by simp))
    have e3 : a.length = 5 := of_decide_eq_true (hc (decide (a.length = 5)) (by simp))
    have e4 : r.length = 5 := of_decide_eq_true (hc (decide (r.length = 5)) (by simp))
    have e5 : l < 9223372036854775808 := of_decide_eq_true (hc (decide (l < 9223372036854775808)) (by simp))
    clear hc
    subst e1; subst e2
    refine ⟨xs.length / 16, A6 xs a r, .exit 6, rfl, fun i hi => ?_, ?_, ?_⟩
    · cases i with
      | zero =>
        simp only [A6, clo6, List.length_cons, List.length_nil]
        rw [rr6w]
        refine nd_of ?_ (cond_t (decide_eq_true (by omega)) (nd_of ?_ ?_))
        · simp only [List.mem_cons, List.not_mem_nil, or_false, forall_eq, decide_eq_true_eq]; omega
        · simp only [List.mem_cons, List.not_mem_nil, or_false, forall_eq_or_imp, forall_eq, decide_eq_true_eq, List.length_take]; omega
        · simp [takesC]
      | succ i =>
        simp only [A6, clo6, List.length_cons, List.length_nil]
        rw [rr6s]
        refine nd_of ?_ (cond_t (decide_eq_true (by omega)) (nd_of ?_ ?_))
        · simp only [List.mem_cons, List.not_mem_nil, or_false, forall_eq, decide_eq_true_eq]; omega
        · simp only [List.mem_cons, List.not_mem_nil, or_false, forall_eq_or_imp, forall_eq, decide_eq_true_eq, List.length_take, List.length_drop, takesC_len e3, true_and]; omega
        · rw [addOff_eq', show 16 * (i + 1) + 16 = 16 * (i + 1 + 1) by omega, show xs.length - 16 * (i + 1) - 16 = xs.length - 16 * (i + 1 + 1) by omega]
          rfl
    · show _ = some (Ex.exit 6, vs, hout)
      simp only [Tr.get] at hgt
      cases hq : xs.length / 16 with
      | zero =>
        rw [hq] at hgt
        cases hgt
        simp only [A6, clo6, List.length_cons, List.length_nil]
        rw [rr6w]
        refine nd_of ?_ (cond_f (decide_eq_false (by omega)) rfl)
        simp only [List.mem_cons, List.not_mem_nil, or_false, forall_eq, decide_eq_true_eq]; omega
      | succ i =>
        rw [hq] at hgt
        cases hgt
        simp only [A6, clo6, List.length_cons, List.length_nil]
        rw [rr6s]
        refine nd_of ?_ (cond_f (decide_eq_false (by omega)) rfl)
        simp only [List.mem_cons, List.not_mem_nil, or_false, forall_eq, decide_eq_true_eq]; omega
    · simp only [Tr.get] at hgt
      cases hq : decide (xs.length / 16 = 0) <;> rw [hq] at hgt <;> cases hgt <;> rfl
  · cases h

end Go.Proofs.Ytgebgjhjegadpaa

namespace Go.Proofs.Ytgebgjhjegadpaa
open Go

/-- What is left when all whole blocks are taken. -/
def dropQ (y : List Nat) : List Nat := y.drop (16 * (y.length / 16))

def rsN (pss : List (List Nat)) : Nat → List Nat
  | 0 => []
  | i + 1 => dropQ (rsN pss i ++ pss.getD i [])

def yN (pss : List (List Nat)) (i : Nat) : List Nat := rsN pss i ++ pss.getD i []

def asN (r a : List Nat) (pss : List (List Nat)) : Nat → List Nat
  | 0 => a
  | i + 1 => takesC r (asN r a pss i) (yN pss i) ((yN pss i).length / 16)

/-- The first part may be as long as anything that is read; the others may not. -/
def ok41 (pss : List (List Nat)) : Bool := (pss.drop 1).all (fun p => decide (p.length ≤ 2199023255552)) && pss.all (fun p => decide (p.length ≤ 140737488355328))

theorem all_len {pss : List (List Nat)} {m : Nat} (h : pss.all (fun p => decide (p.length ≤ m)) = true) (j : Nat) : (pss.getD j []).length ≤ m := by
  rw [List.getD]
  cases hj : pss[j]? with
  | none => simp
  | some p =>
    have := List.all_eq_true.1 h p (List.mem_of_getElem? hj)
    simpa using this
theorem ok41_get {pss : List (List Nat)} (h : ok41 pss = true) (j : Nat) : (pss.getD j []).length ≤ 140737488355328 := by
  rw [ok41, Bool.and_eq_true] at h
  exact all_len h.2 j
theorem ok41_tl {pss : List (List Nat)} (h : ok41 pss = true) (j : Nat) : (pss.getD (j + 1) []).length ≤ 2199023255552 := by
  rw [ok41, Bool.and_eq_true] at h
  have := all_len h.1 j
  rw [List.getD, List.getElem?_drop, Nat.add_comm] at this
  exact this
theorem ok41_one {xs : List Nat} (h : xs.length ≤ 140737488355328) : ok41 [xs] = true := by
  simp only [ok41, List.drop_succ_cons, List.drop_zero, List.all_nil, List.all_cons, Bool.and_true, Bool.true_and]
  exact decide_eq_true h

theorem rsN_len (pss : List (List Nat)) (i : Nat) : (rsN pss i).length < 16 := by
  cases i with
  | zero => simp [rsN]
  | succ i => simp only [rsN, dropQ, List.length_drop]; omega

theorem asN_len {r a : List Nat} {pss : List (List Nat)} (h : a.length = 5) : ∀ i, (asN r a pss i).length = 5
  | 0 => h
  | i + 1 => takesC_len (asN_len h i) _

def slW (b l : Nat) : AV := .s (.sl .whole b 0 l 1)
def slS (b l : Nat) : AV := .s (.sl .suf b (16 * (l / 16)) (l - 16 * (l / 16)) 1)

def slQ (b l : Nat) : AV := cond (decide (l / 16 = 0)) (slW b l) (slS b l)

def S4 : LSem := ⟨[38, 39, 40, 11, 12], [11], fun args hin => match args, hin with
  | [.s (.xsl (.bss pss)), .s (.nat .i64 n), .s (.nat .i64 0), .s .nil, .s (.fn 36 [] [(0, 0), (1, 0)])], [[.ints .u64 5 a], [.ints .u64 5 r]] =>
    some (Tr.needs [decide (n = pss.length), decide (a.length = 5), decide (r.length = 5), decide (n < 9223372036854775808), ok41 pss]
      (.br (decide (n = 0)) (.leaf (.normal, [.s .nil], [some [.ints .u64 5 a], some [.ints .u64 5 r]]))
        (.br (decide ((yN pss (n - 1)).length / 16 = 0))
          (.leaf (.normal, [slW 2 (yN pss (n - 1)).length], [some [.ints .u64 5 (asN r a pss n)], some [.ints .u64 5 r], some [.ints .u8 (yN pss (n - 1)).length (yN pss (n - 1))]]))
          (.leaf (.normal, [slS 2 (yN pss (n - 1)).length], [some [.ints .u64 5 (asN r a pss n)], some [.ints .u64 5 r], some [.ints .u8 (yN pss (n - 1)).length (yN pss (n - 1))]])))))
  | _, _ => none⟩

set_option maxRecDepth 100000 in
theorem rr4n (pss : List (List Nat)) (n j : Nat) (a r : List Nat) : runR Try.prog [(36, F36)] [] .nat 7 [(6, S6)] Try.f25 4 S4 2 [.s (.xsl (.bss pss)), .s (.nat .i64 n), .s (.nat .i64 j), .s .nil, .s (.fn 36 [] [(0, 0), (1, 0)])] [some [.ints .u64 5 a], some [.ints .u64 5 r]] =
(cond (decide (j < n))
 (nd [decide (j < pss.length), decide (j < pss.length), decide ((pss.getD j []).length ≤ 140737488355328), decide ((pss.getD j []).length = (pss.getD j []).length), decide ((pss.getD j []).length = (pss.getD j []).length), decide (a.length = 5), decide (r.length = 5), decide ((pss.getD j []).length < 9223372036854775808)]
 (cond (decide ((pss.getD j []).length / 16 = 0))
 (nd [decide (j + 1 < 9223372036854775808)]
 (some (Ex.normal, [AV.s (SV.xsl (XC.bss pss)), AV.s (SV.nat IntKind.i64 n), AV.s (SV.nat IntKind.i64 (j + 1)), AV.s (SV.sl LK.whole (2) 0 (pss.getD j []).length 1), AV.s (SV.fn 36 [] [(0, 0), (1, 0)])], [some [Ch.ints IntKind.u64 5 a], some [Ch.ints IntKind.u64 5 r], some [Ch.ints IntKind.u8 (pss.getD j []).length (pss.getD j [])]])))
 (nd [decide (j + 1 < 9223372036854775808)]
 (some (Ex.normal, [AV.s (SV.xsl (XC.bss pss)), AV.s (SV.nat IntKind.i64 n), AV.s (SV.nat IntKind.i64 (j + 1)), AV.s (SV.sl LK.suf (2) (16 * ((pss.getD j []).length / 16)) ((pss.getD j []).length - 16 * ((pss.getD j []).length / 16)) 1), AV.s (SV.fn 36 [] [(0, 0), (1, 0)])], [some [Ch.ints IntKind.u64 5 (takesC r a (pss.getD j []) ((pss.getD j []).length / 16))], some [Ch.ints IntKind.u64 5 r], some [Ch.ints IntKind.u8 (pss.getD j []).length (pss.getD j [])]])))))
 (some (Ex.exit 4, [AV.s SV.nil], [some [Ch.ints IntKind.u64 5 a], some [Ch.ints IntKind.u64 5 r]]))) := by kernel_rfl

set_option maxRecDepth 100000 in
theorem rr4w (pss : List (List Nat)) (n j l : Nat) (a r xs : List Nat) : runR Try.prog [(36, F36)] [] .nat 7 [(6, S6)] Try.f25 4 S4 2 [.s (.xsl (.bss pss)), .s (.nat .i64 n), .s (.nat .i64 j), .s (.sl .whole 2 0 l 1), .s (.fn 36 [] [(0, 0), (1, 0)])] [some [.ints .u64 5 a], some [.ints .u64 5 r], some [.ints .u8 l xs]] =
(cond (decide (j < n))
 (nd [decide (j < pss.length), decide (j < pss.length), decide (l = l), decide (l + (pss.getD j []).length ≤ 4398046511104), decide (l + (pss.getD j []).length = l + (pss.getD j []).length), decide ((xs ++ pss.getD j []).length = l + (pss.getD j []).length), decide (a.length = 5), decide (r.length = 5), decide (l + (pss.getD j []).length < 9223372036854775808)]
 (cond (decide ((l + (pss.getD j []).length) / 16 = 0))
 (nd [decide (j + 1 < 9223372036854775808)]
 (some (Ex.normal, [AV.s (SV.xsl (XC.bss pss)), AV.s (SV.nat IntKind.i64 n), AV.s (SV.nat IntKind.i64 (j + 1)), AV.s (SV.sl LK.whole (2) 0 (l + (pss.getD j []).length) 1), AV.s (SV.fn 36 [] [(0, 0), (1, 0)])], [some [Ch.ints IntKind.u64 5 a], some [Ch.ints IntKind.u64 5 r], some [Ch.ints IntKind.u8 (l + (pss.getD j []).length) (xs ++ pss.getD j [])]])))
 (nd [decide (j + 1 < 9223372036854775808)]
 (some (Ex.normal, [AV.s (SV.xsl (XC.bss pss)), AV.s (SV.nat IntKind.i64 n), AV.s (SV.nat IntKind.i64 (j + 1)), AV.s (SV.sl LK.suf (2) (16 * ((l + (pss.getD j []).length) / 16)) (l + (pss.getD j []).length - 16 * ((l + (pss.getD j []).length) / 16)) 1), AV.s (SV.fn 36 [] [(0, 0), (1, 0)])], [some [Ch.ints IntKind.u64 5 (takesC r a (xs ++ pss.getD j []) ((l + (pss.getD j []).length) / 16))], some [Ch.ints IntKind.u64 5 r], some [Ch.ints IntKind.u8 (l + (pss.getD j []).length) (xs ++ pss.getD j [])]])))))
 (some (Ex.exit 4, [AV.s (SV.sl LK.whole (2) 0 l 1)], [some [Ch.ints IntKind.u64 5 a], some [Ch.ints IntKind.u64 5 r], some [Ch.ints IntKind.u8 l xs]]))) := by kernel_rfl

set_option maxRecDepth 100000 in
theorem rr4s (pss : List (List Nat)) (n j l off len : Nat) (a r xs : List Nat) : runR Try.prog [(36, F36)] [] .nat 7 [(6, S6)] Try.f25 4 S4 2 [.s (.xsl (.bss pss)), .s (.nat .i64 n), .s (.nat .i64 j), .s (.sl .suf 2 off len 1), .s (.fn 36 [] [(0, 0), (1, 0)])] [some [.ints .u64 5 a], some [.ints .u64 5 r], some [.ints .u8 l xs]] =
(cond (decide (j < n))
 (nd [decide (j < pss.length), decide (j < pss.length), decide (off + len = l), decide (len + (pss.getD j []).length ≤ 4398046511104), decide (len + (pss.getD j []).length = len + (pss.getD j []).length), decide ((List.drop off xs ++ pss.getD j []).length = len + (pss.getD j []).length), decide (a.length = 5), decide (r.length = 5), decide (len + (pss.getD j []).length < 9223372036854775808)]
 (cond (decide ((len + (pss.getD j []).length) / 16 = 0))
 (nd [decide (j + 1 < 9223372036854775808)]
 (some (Ex.normal, [AV.s (SV.xsl (XC.bss pss)), AV.s (SV.nat IntKind.i64 n), AV.s (SV.nat IntKind.i64 (j + 1)), AV.s (SV.sl LK.whole (2) 0 (len + (pss.getD j []).length) 1), AV.s (SV.fn 36 [] [(0, 0), (1, 0)])], [some [Ch.ints IntKind.u64 5 a], some [Ch.ints IntKind.u64 5 r], some [Ch.ints IntKind.u8 (len + (pss.getD j []).length) (List.drop off xs ++ pss.getD j [])]])))
 (nd [decide (j + 1 < 9223372036854775808)]
 (some (Ex.normal, [AV.s (SV.xsl (XC.bss pss)), AV.s (SV.nat IntKind.i64 n), AV.s (SV.nat IntKind.i64 (j + 1)), AV.s (SV.sl LK.suf (2) (16 * ((len + (pss.getD j []).length) / 16)) (len + (pss.getD j []).length - 16 * ((len + (pss.getD j []).length) / 16)) 1), AV.s (SV.fn 36 [] [(0, 0), (1, 0)])], [some [Ch.ints IntKind.u64 5 (takesC r a (List.drop off xs ++ pss.getD j []) ((len + (pss.getD j []).length) / 16))], some [Ch.ints IntKind.u64 5 r], some [Ch.ints IntKind.u8 (len + (pss.getD j []).length) (List.drop off xs ++ pss.getD j [])]])))))
 (some (Ex.exit 4, [AV.s (SV.sl LK.suf (2) off len 1)], [some [Ch.ints IntKind.u64 5 a], some [Ch.ints IntKind.u64 5 r], some [Ch.ints IntKind.u8 l xs]]))) := by kernel_rfl

def clo4 : AV := .s (.fn 36 [] [(0, 0), (1, 0)])

def A4 (pss : List (List Nat)) (r a : List Nat) : Nat → List AV × List (Option Blk)
  | 0 => ([.s (.xsl (.bss pss)), .s (.nat .i64 pss.length), .s (.nat .i64 0), .s .nil, clo4], [some [.ints .u64 5 a], some [.ints .u64 5 r]])
  | i + 1 => ([.s (.xsl (.bss pss)), .s (.nat .i64 pss.length), .s (.nat .i64 (i + 1)), slQ 2 (yN pss i).length, clo4], [some [.ints .u64 5 (asN r a pss (i + 1))], some [.ints .u64 5 r], some [.ints .u8 (yN pss i).length (yN pss i)]])

theorem yN_len (pss : List (List Nat)) (i : Nat) : (yN pss i).length = (rsN pss i).length + (pss.getD i []).length := by simp [yN]

theorem yN_small {pss : List (List Nat)} {i : Nat} (h : (yN pss i).length / 16 = 0) : rsN pss (i + 1) = yN pss i := by
  show dropQ (yN pss i) = _
  rw [dropQ, h]
  simp

theorem asN_small {r a : List Nat} {pss : List (List Nat)} {i : Nat} (h : (yN pss i).length / 16 = 0) : asN r a pss (i + 1) = asN r a pss i := by
  rw [asN, h]
  rfl

theorem stepA4 {pss : List (List Nat)} {r a : List Nat} (hn : pss.length < 9223372036854775808) (ha : a.length = 5) (hr : r.length = 5) (hk : ok41 pss = true) (i : Nat) (hi : i < pss.length) :
    runR Try.prog [(36, F36)] [] .nat 7 [(6, S6)] Try.f25 4 S4 2 (A4 pss r a i).1 (A4 pss r a i).2 = some (.normal, A4 pss r a (i + 1)) := by
  have h6 := ok41_get hk i
  have h7 := rsN_len pss i
  have h8 := yN_len pss i
  have h9 := asN_len (r := r) (pss := pss) ha i
  cases i with
  | zero =>
    simp only [A4, clo4]
    rw [rr4n]
    have e : yN pss 0 = pss.getD 0 [] := rfl
    refine cond_t (decide_eq_true hi) (nd_of ?_ ?_)
    · simp only [List.mem_cons, List.not_mem_nil, or_false, forall_eq_or_imp, forall_eq, decide_eq_true_eq, true_and, and_true, List.length_append, List.length_drop]; omega
    · by_cases hq : (pss.getD 0 []).length / 16 = 0
      · refine cond_t (decide_eq_true hq) (nd_of ?_ ?_)
        · simp only [List.mem_cons, List.not_mem_nil, or_false, forall_eq, decide_eq_true_eq]; omega
        · simp only [asN_small (e ▸ hq), e, slQ, decide_eq_true hq, cond_true]
          rfl
      · refine cond_f (decide_eq_false hq) (nd_of ?_ ?_)
        · simp only [List.mem_cons, List.not_mem_nil, or_false, forall_eq, decide_eq_true_eq]; omega
        · simp only [asN, e, slQ, decide_eq_false hq, cond_false]
          rfl
  | succ i =>
    have g1 := yN_len pss i
    have g2 := rsN_len pss i
    have g3 := ok41_tl hk i
    simp only [A4, clo4, slQ]
    by_cases hp : (yN pss i).length / 16 = 0
    · rw [decide_eq_true hp, cond_true, slW, rr4w]
      have e : yN pss i ++ pss.getD (i + 1) [] = yN pss (i + 1) := by rw [← yN_small hp]; rfl
      have el : (yN pss i).length + (pss.getD (i + 1) []).length = (yN pss (i + 1)).length := by rw [← e]; simp
      rw [e, el]
      refine cond_t (decide_eq_true hi) (nd_of ?_ ?_)
      · simp only [List.mem_cons, List.not_mem_nil, or_false, forall_eq_or_imp, forall_eq, decide_eq_true_eq, true_and, and_true, List.length_append, List.length_drop]; omega
      · by_cases hq : (yN pss (i + 1)).length / 16 = 0
        · refine cond_t (decide_eq_true hq) (nd_of ?_ ?_)
          · simp only [List.mem_cons, List.not_mem_nil, or_false, forall_eq, decide_eq_true_eq]; omega
          · rw [asN_small hq, decide_eq_true hq, cond_true]
            rfl
        · refine cond_f (decide_eq_false hq) (nd_of ?_ ?_)
          · simp only [List.mem_cons, List.not_mem_nil, or_false, forall_eq, decide_eq_true_eq]; omega
          · rw [decide_eq_false hq, cond_false]
            rfl
    · rw [decide_eq_false hp, cond_false, slS, rr4s]
      have e : List.drop (16 * ((yN pss i).length / 16)) (yN pss i) ++ pss.getD (i + 1) [] = yN pss (i + 1) := rfl
      have el : (yN pss i).length - 16 * ((yN pss i).length / 16) + (pss.getD (i + 1) []).length = (yN pss (i + 1)).length := by rw [← e]; simp
      rw [e, el]
      refine cond_t (decide_eq_true hi) (nd_of ?_ ?_)
      · simp only [List.mem_cons, List.not_mem_nil, or_false, forall_eq_or_imp, forall_eq, decide_eq_true_eq, true_and, and_true, List.length_append, List.length_drop]; omega
      · by_cases hq : (yN pss (i + 1)).length / 16 = 0
        · refine cond_t (decide_eq_true hq) (nd_of ?_ ?_)
          · simp only [List.mem_cons, List.not_mem_nil, or_false, forall_eq, decide_eq_true_eq]; omega
          · rw [asN_small hq, decide_eq_true hq, cond_true]
            rfl
        · refine cond_f (decide_eq_false hq) (nd_of ?_ ?_)
          · simp only [List.mem_cons, List.not_mem_nil, or_false, forall_eq, decide_eq_true_eq]; omega
          · rw [decide_eq_false hq, cond_false]
            rfl

theorem loops6 : LoopsOk Try.prog ⟨Try.f25.ntmps, 7, [(6, S6)]⟩ (lb 4 Try.f25) := by
  refine loopsOk_of ?_
  have e : loopsIn [(6, S6)] (lb 4 Try.f25) = [(6, .loop (lb 6 Try.f25), S6)] := by kernel_rfl
  simp only [e]
  intro x hx
  simp only [List.mem_cons, List.not_mem_nil, or_false] at hx
  subst hx
  exact lok6

theorem lok4 : LOk Try.prog Try.f25.ntmps (.block 4 (.loop (lb 4 Try.f25))) S4 := by
  refine lokR (fs := [(36, F36)]) (xs := []) (m := .nat) (fuel := 7) (sums := [(6, S6)]) (.cons ok36 .nil) mixedP loops6 ?_
  intro args hin t e vs hout h hg
  unfold S4 at h
  simp only at h
  split at h
  · rename_i pss n a r
    simp only [Option.some.injEq] at h
    subst h
    obtain ⟨hc, hgt⟩ := Tr.needs_get hg
    clear hg
    have e1 : n = pss.length := of_decide_eq_true (hc _ (by simp))
    have e3 : a.length = 5 := of_decide_eq_true (hc (decide (a.length = 5)) (by simp))
    have e4 : r.length = 5 := of_decide_eq_true (hc (decide (r.length = 5)) (by simp))
    have e5 : n < 9223372036854775808 := of_decide_eq_true (hc (decide (n < 9223372036854775808)) (by simp))
    have e6 : ok41 pss = true := hc _ (by simp)
    clear hc
    subst e1
    refine ⟨pss.length, A4 pss r a, .exit 4, rfl, fun i hi => stepA4 e5 e3 e4 e6 i hi, ?_, ?_⟩
    · show _ = some (Ex.exit 4, vs, hout)
      simp only [Tr.get] at hgt
      cases hl : pss.length with
      | zero =>
        rw [hl] at hgt
        cases hgt
        simp only [A4, clo4, hl, List.length_cons, List.length_nil]
        rw [rr4n]
        exact cond_f rfl rfl
      | succ i =>
        rw [hl] at hgt
        rw [decide_eq_false (by omega : ¬ i + 1 = 0), cond_false, Nat.add_sub_cancel] at hgt
        simp only [A4, clo4, hl, slQ, List.length_cons, List.length_nil]
        cases hq : decide ((yN pss i).length / 16 = 0) with
        | true =>
          rw [hq] at hgt
          cases hgt
          rw [cond_true, slW, rr4w]
          exact cond_f (decide_eq_false (Nat.lt_irrefl _)) rfl
        | false =>
          rw [hq] at hgt
          cases hgt
          rw [cond_false, slS, rr4s]
          exact cond_f (decide_eq_false (Nat.lt_irrefl _)) rfl
    · simp only [Tr.get] at hgt
      cases hz : decide (pss.length = 0) <;> rw [hz] at hgt
      · cases hq : decide ((yN pss (pss.length - 1)).length / 16 = 0) <;> rw [hq] at hgt <;> cases hgt <;> rfl
      · cases hgt; rfl
  · cases h

end Go.Proofs.Ytgebgjhjegadpaa

namespace Go.Proofs.Ytgebgjhjegadpaa
open Go

def clampM (key : List Nat) (i m : Nat) : List Nat := key.set i (key.getD i 0 &&& m)
def clampK (key : List Nat) : List Nat := clampM (clampM (clampM (clampM (clampM (clampM (clampM key 3 15) 7 15) 11 15) 15 15) 4 252) 8 252) 12 252

theorem fn25 : Fn Try.prog 25 Try.f25 := ⟨mixedP, Try.func25, by kernel_rfl, of_decide_eq_true (by kernel_rfl)⟩

theorem loops25 : LoopsOk Try.prog ⟨Try.f25.ntmps, 7, [(4, S4)]⟩ (bodyOf Try.f25) := by
  refine loopsOk_of ?_
  have e : loopsIn [(4, S4)] (bodyOf Try.f25) = [(4, .loop (lb 4 Try.f25), S4)] := by kernel_rfl
  simp only [e]
  intro x hx
  simp only [List.mem_cons, List.not_mem_nil, or_false] at hx
  subst hx
  exact lok4

set_option maxRecDepth 100000 in
theorem r25 (pss : List (List Nat)) (key : List Nat) : runL Try.prog [(35, F35), (36, F36), (38, F38)] [] .nat 7 [(4, S4)] Try.f25 [.agg [.ints .u8 32 key], .s (.xsl (.bss pss))] [] =
(nd [decide ((List.take 16 (clampK key)).length ≤ 17), decide (pss.length < 9223372036854775808), decide (pss.length = pss.length), decide ((numb (List.take 16 (clampK key))).length = 5), decide (pss.length < 9223372036854775808), ok41 pss]
 (cond (decide (pss.length = 0))
 (nd [(clampK key).all fun k => decide (k < 256)]
 (some (AV.agg [Ch.ints IntKind.u8 16 (finL [0, 0, 0, 0, 0] (clampK key))], [])))
 (cond (decide ((yN pss (pss.length - 1)).length / 16 = 0))
 (nd [decide ((yN pss (pss.length - 1)).length < 9223372036854775808)]
 (cond (decide (0 < (yN pss (pss.length - 1)).length))
 (nd [decide ((yN pss (pss.length - 1)).length = (yN pss (pss.length - 1)).length), decide ((yN pss (pss.length - 1)).length = (yN pss (pss.length - 1)).length), decide ((yN pss (pss.length - 1)).length ≤ 16), decide ((asN (numb (List.take 16 (clampK key))) [0, 0, 0, 0, 0] pss pss.length).length = 5), decide ((numb (List.take 16 (clampK key))).length = 5), (clampK key).all fun k => decide (k < 256)]
 (some (AV.agg [Ch.ints IntKind.u8 16 (finL (stepC (numb (List.take 16 (clampK key))) (asN (numb (List.take 16 (clampK key))) [0, 0, 0, 0, 0] pss pss.length) (yN pss (pss.length - 1))) (clampK key))], [])))
 (nd [decide ((asN (numb (List.take 16 (clampK key))) [0, 0, 0, 0, 0] pss pss.length).length = 5), (clampK key).all fun k => decide (k < 256)]
 (some (AV.agg [Ch.ints IntKind.u8 16 (finL (asN (numb (List.take 16 (clampK key))) [0, 0, 0, 0, 0] pss pss.length) (clampK key))], [])))))
 (nd [decide ((yN pss (pss.length - 1)).length - 16 * ((yN pss (pss.length - 1)).length / 16) < 9223372036854775808)]
 (cond (decide (0 < (yN pss (pss.length - 1)).length - 16 * ((yN pss (pss.length - 1)).length / 16)))
 (nd [decide (16 * ((yN pss (pss.length - 1)).length / 16) + ((yN pss (pss.length - 1)).length - 16 * ((yN pss (pss.length - 1)).length / 16)) = (yN pss (pss.length - 1)).length), decide ((List.drop (16 * ((yN pss (pss.length - 1)).length / 16)) (yN pss (pss.length - 1))).length = (yN pss (pss.length - 1)).length - 16 * ((yN pss (pss.length - 1)).length / 16)), decide ((yN pss (pss.length - 1)).length - 16 * ((yN pss (pss.length - 1)).length / 16) ≤ 16), decide ((asN (numb (List.take 16 (clampK key))) [0, 0, 0, 0, 0] pss pss.length).length = 5), decide ((numb (List.take 16 (clampK key))).length = 5), (clampK key).all fun k => decide (k < 256)]
 (some (AV.agg [Ch.ints IntKind.u8 16 (finL (stepC (numb (List.take 16 (clampK key))) (asN (numb (List.take 16 (clampK key))) [0, 0, 0, 0, 0] pss pss.length) (List.drop (16 * ((yN pss (pss.length - 1)).length / 16)) (yN pss (pss.length - 1)))) (clampK key))], [])))
 (nd [decide ((asN (numb (List.take 16 (clampK key))) [0, 0, 0, 0, 0] pss pss.length).length = 5), (clampK key).all fun k => decide (k < 256)]
 (some (AV.agg [Ch.ints IntKind.u8 16 (finL (asN (numb (List.take 16 (clampK key))) [0, 0, 0, 0, 0] pss pss.length) (clampK key))], [])))))))) := by kernel_rfl

def rK (key : List Nat) : List Nat := numb ((clampK key).take 16)

def lastC (r a y : List Nat) : List Nat := if 0 < y.length then stepC r a y else a

def tagC (key : List Nat) (pss : List (List Nat)) : List Nat :=
  finL (lastC (rK key) (asN (rK key) [0, 0, 0, 0, 0] pss pss.length) (rsN pss pss.length)) (clampK key)

def okKey (key : List Nat) : Bool := key.all fun k => decide (k < 256)

def F25 : FSem := ⟨true, fun args hin => match args, hin with
  | [.agg [.ints .u8 32 key], .s (.xsl (.bss pss))], [] => some (Tr.needs [decide (pss.length < 9223372036854775808), ok41 pss, okKey key] (.leaf (.agg [.ints .u8 16 (tagC key pss)], [])))
  | _, _ => none⟩

theorem numStep_len (x : List Nat) (j v : Nat) : (numStep x j v).length = x.length := by
  unfold numStep numStep2 numStep1
  split <;> simp

theorem numN_len (xs : List Nat) : ∀ j, (numN xs j).length = 5
  | 0 => rfl
  | j + 1 => by rw [numN, numStep_len, numN_len xs j]

theorem numb_len (xs : List Nat) : (numb xs).length = 5 := numN_len xs _

theorem okKey_set {key : List Nat} (h : okKey key = true) (i : Nat) {v : Nat} (hv : v < 256) : okKey (key.set i v) = true := by
  refine List.all_eq_true.2 fun x hx => ?_
  rcases List.mem_or_eq_of_mem_set hx with h' | h'
  · exact List.all_eq_true.1 h x h'
  · subst h'; exact decide_eq_true hv

theorem okKey_clampM {key : List Nat} (h : okKey key = true) (i m : Nat) : okKey (clampM key i m) = true :=
  okKey_set h i (Nat.lt_of_le_of_lt Nat.and_le_left (key_lt h i))

theorem okKey_clamp {key : List Nat} (h : okKey key = true) : okKey (clampK key) = true :=
  okKey_clampM (okKey_clampM (okKey_clampM (okKey_clampM (okKey_clampM (okKey_clampM (okKey_clampM h _ _) _ _) _ _) _ _) _ _) _ _) _ _

theorem ok25 : FOk Try.prog 25 F25 := by
  refine fokL (fs := [(35, F35), (36, F36), (38, F38)]) (xs := []) (m := .nat) (fuel := 7) (sums := [(4, S4)]) (.cons ok35 (.cons ok36 (.cons ok38 .nil))) fn25 loops25 ?_
  intro args hin t r h hg
  unfold F25 at h
  simp only at h
  split at h
  · rename_i key pss
    cases h
    obtain ⟨hc, hgt⟩ := Tr.needs_get hg
    cases hgt
    have h1 : pss.length < 9223372036854775808 := of_decide_eq_true (hc _ (by simp))
    have h2 : ok41 pss = true := hc _ (by simp)
    have h3 : okKey key = true := hc (okKey key) (by simp)
    clear hc hg
    have hK : ((clampK key).all fun k => decide (k < 256)) = true := okKey_clamp h3
    rw [r25]
    unfold tagC rK
    have hnl := numb_len (List.take 16 (clampK key))
    have hal := asN_len (r := numb (List.take 16 (clampK key))) (a := [0, 0, 0, 0, 0]) (pss := pss) rfl pss.length
    refine nd_of ?_ ?_
    · simp only [List.mem_cons, List.not_mem_nil, or_false, forall_eq_or_imp, forall_eq, decide_eq_true_eq, true_and, hnl, h2, List.length_take, and_true]; omega
    by_cases hz : pss.length = 0
    · refine cond_t (decide_eq_true hz) (nd_of ?_ ?_)
      · simp only [List.mem_cons, List.not_mem_nil, or_false, forall_eq, hK]
      · rw [hz]; rfl
    · refine cond_f (decide_eq_false hz) ?_
      obtain ⟨i, hi⟩ : ∃ i, pss.length = i + 1 := ⟨pss.length - 1, by omega⟩
      have hl : (yN pss i).length < 17 + 140737488355328 := by
        have := rsN_len pss i
        have := ok41_get h2 i
        rw [yN_len]; omega
      rw [hi] at hal
      rw [hi, Nat.add_sub_cancel]
      by_cases hq : (yN pss i).length / 16 = 0
      · refine cond_t (decide_eq_true hq) (nd_of ?_ ?_)
        · simp only [List.mem_cons, List.not_mem_nil, or_false, forall_eq, decide_eq_true_eq]; omega
        · rw [yN_small hq]
          by_cases hp : 0 < (yN pss i).length
          · refine cond_t (decide_eq_true hp) (nd_of ?_ ?_)
            · simp only [List.mem_cons, List.not_mem_nil, or_false, forall_eq_or_imp, forall_eq, decide_eq_true_eq, true_and, and_true, List.length_drop, hnl, hal, hK]; omega
            · rw [lastC, if_pos hp]
          · refine cond_f (decide_eq_false hp) (nd_of ?_ ?_)
            · simp only [List.mem_cons, List.not_mem_nil, or_false, forall_eq_or_imp, forall_eq, decide_eq_true_eq, hal, hK, and_self]
            · rw [lastC, if_neg hp]
      · have e : rsN pss (i + 1) = List.drop (16 * ((yN pss i).length / 16)) (yN pss i) := rfl
        have el : (rsN pss (i + 1)).length = (yN pss i).length - 16 * ((yN pss i).length / 16) := by rw [e, List.length_drop]
        refine cond_f (decide_eq_false hq) (nd_of ?_ ?_)
        · simp only [List.mem_cons, List.not_mem_nil, or_false, forall_eq, decide_eq_true_eq]; omega
        · rw [← e, ← el]
          by_cases hp : 0 < (rsN pss (i + 1)).length
          · refine cond_t (decide_eq_true hp) (nd_of ?_ ?_)
            · simp only [List.mem_cons, List.not_mem_nil, or_false, forall_eq_or_imp, forall_eq, decide_eq_true_eq, true_and, and_true, List.length_drop, hnl, hal, hK]; omega
            · rw [lastC, if_pos hp]
          · refine cond_f (decide_eq_false hp) (nd_of ?_ ?_)
            · simp only [List.mem_cons, List.not_mem_nil, or_false, forall_eq_or_imp, forall_eq, decide_eq_true_eq, hal, hK, and_self]
            · rw [lastC, if_neg hp]
  · cases h

end Go.Proofs.Ytgebgjhjegadpaa

namespace Go.Proofs.Ytgebgjhjegadpaa
open Go

theorem getD_lt {xs : List Nat} {b : Nat} (hb : 0 < b) (h : ∀ x ∈ xs, x < b) (i : Nat) : xs.getD i 0 < b := by
  rw [List.getD]
  cases hi : xs[i]? with
  | none => exact hb
  | some x => exact h x (List.mem_of_getElem? hi)

/-- The first i parts, and how long they are. -/
def catN (pss : List (List Nat)) : Nat → List Nat
  | 0 => []
  | i + 1 => catN pss i ++ pss.getD i []

def lenN (pss : List (List Nat)) : Nat → Nat
  | 0 => 0
  | i + 1 => lenN pss i + (pss.getD i []).length

/-- How many parts go in, of which the sum is at most m. -/
def badAt (m : Nat) : List (List Nat) → Nat → Nat
  | [], _ => 0
  | p :: ps, l => match decide (m - l < p.length) with
    | true => 0
    | false => badAt m ps (l + p.length) + 1

theorem catN_len (pss : List (List Nat)) : ∀ i, (catN pss i).length = lenN pss i
  | 0 => rfl
  | i + 1 => by simp [catN, lenN, catN_len pss i]

theorem lenN_shift (p : List Nat) (ps : List (List Nat)) : ∀ i, lenN (p :: ps) (i + 1) = p.length + lenN ps i
  | 0 => by simp [lenN]
  | i + 1 => by
    rw [lenN, lenN_shift p ps i, lenN]
    simp; omega

theorem badAt_spec (m : Nat) : ∀ (ps : List (List Nat)) (l : Nat), l ≤ m → badAt m ps l ≤ ps.length ∧ l + lenN ps (badAt m ps l) ≤ m ∧ (badAt m ps l < ps.length → m - (l + lenN ps (badAt m ps l)) < (ps.getD (badAt m ps l) []).length) ∧
    ∀ i, i < badAt m ps l → ¬ (m - (l + lenN ps i) < (ps.getD i []).length)
  | [], l, h => by simp [badAt, lenN, h]
  | p :: ps, l, h => by
    unfold badAt
    split
    · rename_i hd
      have hd : m - l < p.length := of_decide_eq_true hd
      refine ⟨Nat.zero_le _, by simpa [lenN] using h, fun _ => by simpa [lenN] using hd, fun i hi => by omega⟩
    · rename_i hd
      have hd : ¬ m - l < p.length := of_decide_eq_false hd
      obtain ⟨h1, h2, h3, h4⟩ := badAt_spec m ps (l + p.length) (by omega)
      refine ⟨by simp; omega, by rw [lenN_shift]; omega, fun hlt => ?_, fun i hi => ?_⟩
      · rw [lenN_shift]
        have := h3 (by simp at hlt; omega)
        rw [List.getD_cons_succ]
        omega
      · cases i with
        | zero => simpa [lenN] using hd
        | succ i =>
          rw [lenN_shift, List.getD_cons_succ]
          have := h4 i (by omega)
          omega

theorem lenN_mono (ps : List (List Nat)) {i j : Nat} (h : i ≤ j) : lenN ps i ≤ lenN ps j := by
  induction j with
  | zero => have : i = 0 := by omega
            subst this; exact Nat.le_refl _
  | succ j ih =>
    rcases Nat.lt_or_ge i (j + 1) with h' | h'
    · exact Nat.le_trans (ih (by omega)) (by rw [lenN]; omega)
    · have : i = j + 1 := by omega
      subst this; exact Nat.le_refl _

/-- All go in just if their sum is at most m. -/
theorem badAt_all (m : Nat) (ps : List (List Nat)) : badAt m ps 0 = ps.length ↔ lenN ps ps.length ≤ m := by
  obtain ⟨h1, h2, h3, h4⟩ := badAt_spec m ps 0 (Nat.zero_le _)
  constructor
  · intro e; rw [e] at h2; omega
  · intro e
    rcases Nat.lt_or_ge (badAt m ps 0) ps.length with h | h
    · exfalso
      have := h3 h
      have := lenN_mono ps (show badAt m ps 0 + 1 ≤ ps.length by omega)
      rw [lenN] at this
      omega
    · omega

end Go.Proofs.Ytgebgjhjegadpaa

namespace Go.Proofs.Ytgebgjhjegadpaa
open Go

theorem takesC_append {r a X p : List Nat} : ∀ {q : Nat}, 16 * q ≤ X.length → takesC r a (X ++ p) q = takesC r a X q
  | 0, _ => rfl
  | q + 1, h => by
    rw [takesC, takesC, takesC_append (by omega), List.drop_append_of_le_length (by omega), List.take_append_of_le_length (by simp; omega)]

theorem takesC_from {r a Z : List Nat} {q : Nat} : ∀ q', takesC r (takesC r a Z q) (Z.drop (16 * q)) q' = takesC r a Z (q + q')
  | 0 => rfl
  | q' + 1 => by
    rw [takesC, takesC_from q', ← Nat.add_assoc, takesC, List.drop_drop, Nat.mul_add]

theorem parts_eq {r a : List Nat} (pss : List (List Nat)) : ∀ i, asN r a pss i = takesC r a (catN pss i) ((catN pss i).length / 16) ∧ rsN pss i = dropQ (catN pss i)
  | 0 => ⟨by simp [asN, takesC, catN], by simp [rsN, dropQ, catN]⟩
  | i + 1 => by
    obtain ⟨h1, h2⟩ := parts_eq (r := r) (a := a) pss i
    have e : yN pss i = (catN pss (i + 1)).drop (16 * ((catN pss i).length / 16)) := by
      rw [yN, h2, dropQ, catN, List.drop_append_of_le_length (by omega)]
    have el : (catN pss (i + 1)).length / 16 = (catN pss i).length / 16 + (yN pss i).length / 16 := by
      rw [e, List.length_drop]
      have : (catN pss i).length ≤ (catN pss (i + 1)).length := by simp [catN]
      omega
    constructor
    · rw [asN, h1, el, ← takesC_from, ← e]
      congr 1
      rw [catN, takesC_append (by omega)]
    · show dropQ (yN pss i) = _
      rw [dropQ, dropQ, el, Nat.mul_add, ← List.drop_drop, ← e]

/-- All blocks, the last one too. -/
def nBlk (s : List Nat) : Nat := (s.length + 15) / 16

theorem last_eq {r a s : List Nat} : lastC r (takesC r a s (s.length / 16)) (dropQ s) = takesC r a s (nBlk s) := by
  unfold lastC dropQ nBlk
  by_cases h : s.length % 16 = 0
  · rw [if_neg (by simp; omega), show (s.length + 15) / 16 = s.length / 16 by omega]
  · rw [if_pos (by simp; omega), show (s.length + 15) / 16 = s.length / 16 + 1 by omega, takesC, List.take_of_length_le (by simp; omega)]

/-- The sum of bytes. -/
def tagS (key s : List Nat) : List Nat := finL (takesC (rK key) [0, 0, 0, 0, 0] s (nBlk s)) (clampK key)

theorem tagC_eq (key : List Nat) (pss : List (List Nat)) : tagC key pss = tagS key (catN pss pss.length) := by
  obtain ⟨h1, h2⟩ := parts_eq (r := rK key) (a := [0, 0, 0, 0, 0]) pss pss.length
  rw [tagC, h1, h2, last_eq, tagS]

theorem catN_one (s : List Nat) : catN [s] 1 = s := by simp [catN]

theorem tagC_one (key s : List Nat) : tagC key [s] = tagS key s := by
  rw [tagC_eq]
  show tagS key (catN [s] 1) = _
  rw [catN_one]

end Go.Proofs.Ytgebgjhjegadpaa

namespace Go.Proofs.Ytgebgjhjegadpaa
open Go

def leN : List Nat → Nat
  | [] => 0
  | b :: bs => b + 256 * leN bs

def digs : Nat → Nat → List Nat
  | 0, _ => []
  | n + 1, v => v % 256 :: digs n (v / 256)

theorem digs_len : ∀ n v, (digs n v).length = n
  | 0, _ => rfl
  | n + 1, v => by simp [digs, digs_len n]

theorem leN_digs : ∀ n v, leN (digs n v) = v % 256 ^ n
  | 0, v => by simp [digs, leN, Nat.mod_one]
  | n + 1, v => by
    rw [digs, leN, leN_digs n, Nat.pow_succ, Nat.mul_comm (256 ^ n) 256, Nat.mod_mul]

theorem leN_append : ∀ (xs ys : List Nat), leN (xs ++ ys) = leN xs + 256 ^ xs.length * leN ys
  | [], ys => by simp [leN]
  | x :: xs, ys => by
    simp only [List.cons_append, leN, leN_append xs ys, List.length_cons, Nat.pow_succ]
    rw [Nat.mul_add, Nat.mul_comm (256 ^ xs.length) 256, Nat.mul_assoc, Nat.add_assoc]

theorem leN_lt : ∀ {xs : List Nat}, (∀ x ∈ xs, x < 256) → leN xs < 256 ^ xs.length
  | [], _ => by simp [leN]
  | x :: xs, h => by
    have h1 := leN_lt (xs := xs) fun y hy => h y (List.mem_cons_of_mem _ hy)
    have h2 := h x List.mem_cons_self
    simp only [leN, List.length_cons, Nat.pow_succ]
    omega

theorem digs_leN : ∀ {xs : List Nat}, (∀ x ∈ xs, x < 256) → digs xs.length (leN xs) = xs
  | [], _ => rfl
  | x :: xs, h => by
    have h1 := digs_leN (xs := xs) fun y hy => h y (List.mem_cons_of_mem _ hy)
    have h2 := h x List.mem_cons_self
    simp only [leN, List.length_cons, digs]
    rw [show (x + 256 * leN xs) % 256 = x by omega, show (x + 256 * leN xs) / 256 = leN xs by omega, h1]

theorem digs_of {xs : List Nat} {n : Nat} (hl : xs.length = n) (h : ∀ i, i < n → xs.getD i 0 < 256) : xs = digs n (leN xs) := by
  subst hl
  rw [digs_leN]
  intro x hx
  obtain ⟨i, hi, rfl⟩ := List.getElem_of_mem hx
  have := h i hi
  rwa [List.getD, List.getElem?_eq_getElem hi, Option.getD_some] at this

theorem digs_lt : ∀ (n v : Nat), ∀ x ∈ digs n v, x < 256
  | 0, _, x, h => by cases h
  | n + 1, v, x, h => by
    simp only [digs, List.mem_cons] at h
    rcases h with rfl | h
    · exact Nat.mod_lt _ (by omega)
    · exact digs_lt n _ x h

theorem digs_get : ∀ (n v i : Nat), (digs n v).getD i 0 = if i < n then v / 256 ^ i % 256 else 0
  | 0, v, i => by simp [digs]
  | n + 1, v, 0 => by simp [digs]
  | n + 1, v, i + 1 => by
    rw [digs, List.getD_cons_succ, digs_get n, Nat.pow_succ, Nat.mul_comm (256 ^ i) 256, ← Nat.div_div_eq_div_mul]
    by_cases h : i < n
    · rw [if_pos h, if_pos (by omega)]
    · rw [if_neg h, if_neg (by omega)]

theorem leN_set : ∀ (xs : List Nat) (i v : Nat), i < xs.length → leN (xs.set i v) + xs.getD i 0 * 256 ^ i = leN xs + v * 256 ^ i
  | [], i, v, h => by simp at h
  | x :: xs, 0, v, _ => by simp [leN]; omega
  | x :: xs, i + 1, v, h => by
    have := leN_set xs i v (by simpa using h)
    simp only [List.set_cons_succ, leN, List.getD_cons_succ, Nat.pow_succ]
    have e1 : xs.getD i 0 * (256 ^ i * 256) = 256 * (xs.getD i 0 * 256 ^ i) := by rw [← Nat.mul_assoc, Nat.mul_comm]
    have e2 : v * (256 ^ i * 256) = 256 * (v * 256 ^ i) := by rw [← Nat.mul_assoc, Nat.mul_comm]
    rw [e1, e2]
    omega

theorem getD_set (xs : List Nat) (i j v : Nat) : (xs.set i v).getD j 0 = if i = j ∧ j < xs.length then v else xs.getD j 0 := by
  rw [List.getD, List.getD, List.getElem?_set]
  by_cases h : i = j
  · subst h
    by_cases hl : i < xs.length
    · simp [hl]
    · simp [hl, List.getElem?_eq_none (Nat.le_of_not_lt hl)]
  · simp [h]

theorem leN_zero : ∀ (n : Nat), leN (List.replicate n 0) = 0
  | 0 => rfl
  | n + 1 => by simp [List.replicate_succ, leN, leN_zero n]

/-! Carrying. -/
def car1 (xs : List Nat) (j : Nat) : List Nat :=
  (xs.set (j + 1) (xs.getD (j + 1) 0 + xs.getD j 0 / 256)).set j ((xs.set (j + 1) (xs.getD (j + 1) 0 + xs.getD j 0 / 256)).getD j 0 % 256)

def carN (xs : List Nat) : Nat → List Nat
  | 0 => xs
  | j + 1 => car1 (carN xs j) j

theorem car1_len (xs : List Nat) (j : Nat) : (car1 xs j).length = xs.length := by simp [car1]
theorem carN_len (xs : List Nat) : ∀ j, (carN xs j).length = xs.length
  | 0 => rfl
  | j + 1 => by rw [carN, car1_len, carN_len xs j]

theorem car1_leN {xs : List Nat} {j : Nat} (h : j + 1 < xs.length) : leN (car1 xs j) = leN xs := by
  have h1 := leN_set xs (j + 1) (xs.getD (j + 1) 0 + xs.getD j 0 / 256) h
  have h2 := leN_set (xs.set (j + 1) (xs.getD (j + 1) 0 + xs.getD j 0 / 256)) j ((xs.set (j + 1) (xs.getD (j + 1) 0 + xs.getD j 0 / 256)).getD j 0 % 256) (by simp; omega)
  have e : (xs.set (j + 1) (xs.getD (j + 1) 0 + xs.getD j 0 / 256)).getD j 0 = xs.getD j 0 := by
    rw [getD_set, if_neg (by omega)]
  unfold car1
  rw [e] at h2 ⊢
  rw [Nat.pow_succ] at h1
  generalize xs.getD j 0 = u at *
  generalize xs.getD (j + 1) 0 = w at *
  have e3 : (w + u / 256) * (256 ^ j * 256) = w * (256 ^ j * 256) + (u / 256 * 256) * 256 ^ j := by
    rw [Nat.add_mul, Nat.mul_assoc (u / 256), Nat.mul_comm 256 (256 ^ j)]
  have e4 : u * 256 ^ j = (u / 256 * 256) * 256 ^ j + (u % 256) * 256 ^ j := by
    rw [← Nat.add_mul]; congr 1; omega
  rw [e3] at h1
  rw [e4] at h2
  omega

theorem carN_leN {xs : List Nat} : ∀ {j : Nat}, j < xs.length → leN (carN xs j) = leN xs
  | 0, _ => rfl
  | j + 1, h => by rw [carN, car1_leN (by rw [carN_len]; exact h), carN_leN (by omega)]

theorem carN_get {xs : List Nat} {B : Nat} (hB : ∀ i, xs.getD i 0 < B) : ∀ {j : Nat}, j < xs.length → (∀ i, i < j → (carN xs j).getD i 0 < 256) ∧ (carN xs j).getD j 0 < 2 * B ∧ (∀ i, j < i → (carN xs j).getD i 0 = xs.getD i 0)
  | 0, _ => ⟨fun i h => by omega, by have := hB 0; simp only [carN]; omega, fun i _ => rfl⟩
  | j + 1, h => by
    obtain ⟨h1, h2, h3⟩ := carN_get hB (j := j) (by omega)
    have hl := carN_len xs j
    have hb := hB (j + 1)
    rw [carN, car1]
    refine ⟨fun i hi => ?_, ?_, fun i hi => ?_⟩
    · rw [getD_set]
      by_cases hij : j = i
      · rw [if_pos ⟨hij, by simp; omega⟩]; exact Nat.mod_lt _ (by omega)
      · rw [if_neg (fun h => hij h.1), getD_set, if_neg (by omega)]
        exact h1 i (by omega)
    · rw [getD_set, if_neg (by omega), getD_set, if_pos ⟨rfl, by omega⟩, h3 (j + 1) (by omega)]
      omega
    · rw [getD_set, if_neg (by omega), getD_set, if_neg (by omega)]
      exact h3 i (by omega)

/-- Carried to the end it is the digits. -/
theorem carN_digs {xs : List Nat} {n : Nat} (hl : xs.length = n + 1) (hv : leN xs < 256 ^ (n + 1)) : carN xs n = digs (n + 1) (leN xs) := by
  have hB : ∀ i, xs.getD i 0 < leN xs + xs.foldr max 0 + 1 := by
    intro i
    have : xs.getD i 0 ≤ xs.foldr max 0 := by
      clear hv hl
      induction xs generalizing i with
      | nil => simp
      | cons x xs ih =>
        cases i with
        | zero => simp only [List.getD_cons_zero, List.foldr_cons]; omega
        | succ i => have := ih i; simp only [List.getD_cons_succ, List.foldr_cons]; omega
    omega
  obtain ⟨h1, _, _⟩ := carN_get hB (j := n) (by omega)
  have h2 := carN_leN (xs := xs) (j := n) (by omega)
  have h3 := carN_len xs n
  rw [← h2]
  refine digs_of (by omega) fun i hi => ?_
  by_cases e : i < n
  · exact h1 i e
  · have e : i = n := by omega
    subst e
    -- the last digit
    have h4 := leN_set (carN xs i) i 0 (by omega)
    rw [h2] at h4
    refine Nat.lt_of_not_le fun hc => ?_
    have : 256 * 256 ^ i ≤ (carN xs i).getD i 0 * 256 ^ i := Nat.mul_le_mul_right _ hc
    rw [Nat.pow_succ] at hv
    omega

end Go.Proofs.Ytgebgjhjegadpaa

namespace Go.Proofs.Ytgebgjhjegadpaa
open Go

def v5 (x : List Nat) : Nat := x.getD 0 0 + 67108864 * x.getD 1 0 + 4503599627370496 * x.getD 2 0 + 302231454903657293676544 * x.getD 3 0 + 20282409603651670423947251286016 * x.getD 4 0

theorem and26 (x : Nat) : x &&& 67108863 = x % 67108864 := Nat.and_two_pow_sub_one_eq_mod x 26

/-- Five parts below B. -/
def lim5 (B : Nat) (x : List Nat) : Prop := x.length = 5 ∧ ∀ i, x.getD i 0 < B

theorem lim5_mk {B a b c d e : Nat} (ha : a < B) (hb : b < B) (hc : c < B) (hd : d < B) (he : e < B) : lim5 B [a, b, c, d, e] := by
  refine ⟨rfl, fun i => ?_⟩
  match i with
  | 0 => exact ha
  | 1 => exact hb
  | 2 => exact hc
  | 3 => exact hd
  | 4 => exact he
  | i + 5 => simp; omega

theorem v5_mk (a b c d e : Nat) : v5 [a, b, c, d, e] = a + 67108864 * b + 4503599627370496 * c + 302231454903657293676544 * d + 20282409603651670423947251286016 * e := rfl

theorem carr_mk {a b c d e : Nat} (ha : a < 9223372036854775808) (hb : b < 9223372036854775808) (hc : c < 9223372036854775808) (hd : d < 9223372036854775808) (he : e < 9223372036854775808) :
    ∃ c0 c1 c2 c3 c4 : Nat, c0 = a / 67108864 ∧ c1 = (b + c0) / 67108864 ∧ c2 = (c + c1) / 67108864 ∧ c3 = (d + c2) / 67108864 ∧ c4 = (e + c3) / 67108864 ∧
      carr [a, b, c, d, e] = [a % 67108864 + 5 * c4, (b + c0) % 67108864, (c + c1) % 67108864, (d + c2) % 67108864, (e + c3) % 67108864] := by
  refine ⟨_, _, _, _, _, rfl, rfl, rfl, rfl, rfl, ?_⟩
  show carr5 a b c d e = _
  unfold carr5 carrO ct
  simp only [and26, Nat.reducePow, Nat.add_zero]
  have h0 : a % 18446744073709551616 = a := Nat.mod_eq_of_lt (by omega)
  rw [h0]
  have h1 : (b + a / 67108864) % 18446744073709551616 = b + a / 67108864 := Nat.mod_eq_of_lt (by omega)
  rw [h1]
  have h2 : (c + (b + a / 67108864) / 67108864) % 18446744073709551616 = c + (b + a / 67108864) / 67108864 := Nat.mod_eq_of_lt (by omega)
  rw [h2]
  have h3 : (d + (c + (b + a / 67108864) / 67108864) / 67108864) % 18446744073709551616 = d + (c + (b + a / 67108864) / 67108864) / 67108864 := Nat.mod_eq_of_lt (by omega)
  rw [h3]
  have h4 : (e + (d + (c + (b + a / 67108864) / 67108864) / 67108864) / 67108864) % 18446744073709551616 = e + (d + (c + (b + a / 67108864) / 67108864) / 67108864) / 67108864 := Nat.mod_eq_of_lt (by omega)
  rw [h4]
  have hz : (e + (d + (c + (b + a / 67108864) / 67108864) / 67108864) / 67108864) / 67108864 < 274877906944 := by omega
  generalize (e + (d + (c + (b + a / 67108864) / 67108864) / 67108864) / 67108864) / 67108864 = z at *
  congr 1
  omega

abbrev P130 : Nat := 1361129467683753853853498429727072845819

/-- Carried once: below 2^59 each it is below 2^37, the first, and 2^26. -/
theorem carr_one {x : List Nat} (h : lim5 576460752303423488 x) : ∃ a b c d e k, carr x = [a, b, c, d, e] ∧ a < 137438953472 ∧ b < 67108864 ∧ c < 67108864 ∧ d < 67108864 ∧ e < 67108864 ∧ v5 x = v5 (carr x) + k * P130 := by
  obtain ⟨a, b, c, d, e, rfl⟩ := five h.1
  have h0 : a < _ := h.2 0
  have h1 : b < _ := h.2 1
  have h2 : c < _ := h.2 2
  have h3 : d < _ := h.2 3
  have h4 : e < _ := h.2 4
  obtain ⟨c0, c1, c2, c3, c4, e0, e1, e2, e3, e4, hc⟩ := carr_mk (a := a) (b := b) (c := c) (d := d) (e := e) (by omega) (by omega) (by omega) (by omega) (by omega)
  refine ⟨_, _, _, _, _, c4, hc, by omega, by omega, by omega, by omega, by omega, ?_⟩
  rw [hc, v5_mk, v5_mk]
  show _ = _ + c4 * 1361129467683753853853498429727072845819
  omega

theorem carr_two {a b c d e : Nat} (h0 : a < 137438953472) (h1 : b < 67108864) (h2 : c < 67108864) (h3 : d < 67108864) (h4 : e < 67108864) :
    ∃ a' b' c' d' e' k, carr [a, b, c, d, e] = [a', b', c', d', e'] ∧ a' < 67108869 + 1 ∧ b' < 67108864 ∧ c' < 67108864 ∧ d' < 67108864 ∧ e' < 67108864 ∧ v5 [a, b, c, d, e] = v5 [a', b', c', d', e'] + k * P130 := by
  obtain ⟨c0, c1, c2, c3, c4, e0, e1, e2, e3, e4, hc⟩ := carr_mk (a := a) (b := b) (c := c) (d := d) (e := e) (by omega) (by omega) (by omega) (by omega) (by omega)
  refine ⟨_, _, _, _, _, c4, hc, by omega, by omega, by omega, by omega, by omega, ?_⟩
  rw [v5_mk, v5_mk]
  show _ = _ + c4 * 1361129467683753853853498429727072845819
  omega

theorem carr_both {x : List Nat} (h : lim5 576460752303423488 x) : ∃ k, lim5 67108870 (carr (carr x)) ∧ v5 x = v5 (carr (carr x)) + k * P130 := by
  obtain ⟨a, b, c, d, e, k, h1, g0, g1, g2, g3, g4, hv⟩ := carr_one h
  obtain ⟨a', b', c', d', e', k', h1', g0', g1', g2', g3', g4', hv'⟩ := carr_two g0 g1 g2 g3 g4
  refine ⟨k + k', ?_, ?_⟩
  · rw [h1, h1']
    exact lim5_mk g0' (by omega) (by omega) (by omega) (by omega)
  · rw [hv, h1, hv', h1', Nat.add_mul]
    omega

/-! Products. -/
theorem mul_lt {a b A B : Nat} (ha : a < A) (hb : b < B) : a * b ≤ A * B := Nat.mul_le_mul (Nat.le_of_lt ha) (Nat.le_of_lt hb)

theorem times_val {x y : List Nat} (hx : lim5 268435456 x) (hy : lim5 67108864 y) : ∃ k, lim5 576460752303423488 (timesL x y) ∧ v5 x * v5 y = v5 (timesL x y) + k * P130 := by
  obtain ⟨x0, x1, x2, x3, x4, rfl⟩ := five hx.1
  obtain ⟨y0, y1, y2, y3, y4, rfl⟩ := five hy.1
  have a0 : x0 < _ := hx.2 0
  have a1 : x1 < _ := hx.2 1
  have a2 : x2 < _ := hx.2 2
  have a3 : x3 < _ := hx.2 3
  have a4 : x4 < _ := hx.2 4
  have b0 : y0 < _ := hy.2 0
  have b1 : y1 < _ := hy.2 1
  have b2 : y2 < _ := hy.2 2
  have b3 : y3 < _ := hy.2 3
  have b4 : y4 < _ := hy.2 4
  have m00 := mul_lt a0 b0
  have m01 := mul_lt a0 b1
  have m02 := mul_lt a0 b2
  have m03 := mul_lt a0 b3
  have m04 := mul_lt a0 b4
  have m10 := mul_lt a1 b0
  have m11 := mul_lt a1 b1
  have m12 := mul_lt a1 b2
  have m13 := mul_lt a1 b3
  have m14 := mul_lt a1 b4
  have m20 := mul_lt a2 b0
  have m21 := mul_lt a2 b1
  have m22 := mul_lt a2 b2
  have m23 := mul_lt a2 b3
  have m24 := mul_lt a2 b4
  have m30 := mul_lt a3 b0
  have m31 := mul_lt a3 b1
  have m32 := mul_lt a3 b2
  have m33 := mul_lt a3 b3
  have m34 := mul_lt a3 b4
  have m40 := mul_lt a4 b0
  have m41 := mul_lt a4 b1
  have m42 := mul_lt a4 b2
  have m43 := mul_lt a4 b3
  have m44 := mul_lt a4 b4
  have hp : ∀ {a b : Nat}, a * b ≤ 268435456 * 67108864 → pl a b = a * b := fun h => Nat.mod_eq_of_lt (by omega)
  have h5 : ∀ {a b : Nat}, a < 268435456 → a * b ≤ 268435456 * 67108864 → p5 a b = 5 * (a * b) := fun {a b} h h' => by
    unfold p5
    rw [Nat.mod_eq_of_lt (a := 5 * a) (by omega), Nat.mul_assoc]
    exact Nat.mod_eq_of_lt (by omega)
  have e : timesL [x0, x1, x2, x3, x4] [y0, y1, y2, y3, y4] =
    [x0 * y0 + 5 * (x1 * y4) + 5 * (x2 * y3) + 5 * (x3 * y2) + 5 * (x4 * y1),
     x0 * y1 + x1 * y0 + 5 * (x2 * y4) + 5 * (x3 * y3) + 5 * (x4 * y2),
     x0 * y2 + x1 * y1 + x2 * y0 + 5 * (x3 * y4) + 5 * (x4 * y3),
     x0 * y3 + x1 * y2 + x2 * y1 + x3 * y0 + 5 * (x4 * y4),
     x0 * y4 + x1 * y3 + x2 * y2 + x3 * y1 + x4 * y0] := by
    show times5 x0 x1 x2 x3 x4 y0 y1 y2 y3 y4 = _
    unfold times5
    rw [hp m00, h5 a1 m14, h5 a2 m23, h5 a3 m32, h5 a4 m41, hp m01, hp m10, h5 a2 m24, h5 a3 m33, h5 a4 m42, hp m02, hp m11, hp m20, h5 a3 m34, h5 a4 m43, hp m03, hp m12, hp m21, hp m30, h5 a4 m44, hp m04, hp m13, hp m22, hp m31, hp m40]
    unfold ad
    simp only [Nat.zero_add]
    congr 1
    · omega
    · congr 1
      · omega
      · congr 1
        · omega
        · congr 1
          · omega
          · congr 1
            omega
  rw [e]
  refine ⟨x1 * y4 + x2 * y3 + x3 * y2 + x4 * y1 + 67108864 * (x2 * y4 + x3 * y3 + x4 * y2) + 4503599627370496 * (x3 * y4 + x4 * y3) + 302231454903657293676544 * (x4 * y4), lim5_mk (by omega) (by omega) (by omega) (by omega) (by omega), ?_⟩
  rw [v5_mk, v5_mk, v5_mk]
  show _ = _ + _ * 1361129467683753853853498429727072845819
  clear e hp h5 m00 m01 m02 m03 m04 m10 m11 m12 m13 m14 m20 m21 m22 m23 m24 m30 m31 m32 m33 m34 m40 m41 m42 m43 m44 a0 a1 a2 a3 a4 b0 b1 b2 b3 b4 hx hy
  grind

end Go.Proofs.Ytgebgjhjegadpaa

namespace Go.Proofs.Ytgebgjhjegadpaa
open Go

def hx (xs : List Nat) (i : Nat) : Nat := if i = 16 then xs.getD i 0 - xs.getD 16 0 % 4 else xs.getD i 0

def loN (xs : List Nat) : Nat → List Nat
  | 0 => xs
  | j + 1 => (loN xs j).set (16 + j) ((loN xs j).getD (16 + j) 0 - hx (loN xs j) (16 + j))

def hiN (xs hs : List Nat) : Nat → List Nat
  | 0 => hs
  | j + 1 => (hiN xs hs j).set (16 + j) (hx (loN xs j) (16 + j))

def ovN (xs : List Nat) : Nat → Bool
  | 0 => false
  | j + 1 => cond (ovN xs j) true (!decide (hx (loN xs j) (16 + j) = 0))

def dn1 (xs hs : List Nat) (i : Nat) : List Nat := xs.set (i - 16) (xs.getD (i - 16) 0 + hs.getD i 0 * 5 / 4)

def dn2 (xs hs : List Nat) (i : Nat) : List Nat := xs.set (i - 17) (xs.getD (i - 17) 0 + hs.getD i 0 * 5 % 4 * 64)

def dnS (xs hs : List Nat) (i : Nat) : List Nat :=
  if hs.getD i 0 * 5 % 4 ≠ 0 ∧ 16 < i then dn2 (dn1 xs hs i) hs i else dn1 xs hs i

def dnN (xs hs : List Nat) : Nat → List Nat
  | 0 => xs
  | j + 1 => dnS (dnN xs hs j) hs (16 + j)

theorem loN_len (xs : List Nat) : ∀ j, (loN xs j).length = xs.length
  | 0 => rfl
  | j + 1 => by simp [loN, loN_len xs j]

theorem hiN_len (xs hs : List Nat) : ∀ j, (hiN xs hs j).length = hs.length
  | 0 => rfl
  | j + 1 => by simp [hiN, hiN_len xs hs j]

theorem dnS_len (xs hs : List Nat) (i : Nat) : (dnS xs hs i).length = xs.length := by
  unfold dnS dn2 dn1
  split <;> simp

theorem dnN_len (xs hs : List Nat) : ∀ j, (dnN xs hs j).length = xs.length
  | 0 => rfl
  | j + 1 => by rw [dnN, dnS_len, dnN_len xs hs j]

theorem hx_le (xs : List Nat) (i : Nat) : hx xs i ≤ xs.getD i 0 := by
  unfold hx; split <;> omega

theorem loN_get {xs : List Nat} (h40 : xs.length = 40) : ∀ {j : Nat}, j ≤ 24 → ∀ i, (loN xs j).getD i 0 = if 16 ≤ i ∧ i < 16 + j then xs.getD i 0 - hx xs i else xs.getD i 0
  | 0, _, i => by rw [if_neg (by omega)]; rfl
  | j + 1, h, i => by
    have hl := loN_len xs j
    have ih := loN_get h40 (j := j) (by omega)
    rw [loN, getD_set, ih (16 + j), if_neg (by omega : ¬ (16 ≤ 16 + j ∧ 16 + j < 16 + j))]
    have hh : hx (loN xs j) (16 + j) = hx xs (16 + j) := by
      unfold hx
      rw [ih (16 + j), if_neg (by omega : ¬ (16 ≤ 16 + j ∧ 16 + j < 16 + j))]
      by_cases h16 : 16 + j = 16
      · rw [if_pos h16, if_pos h16, ih 16, if_neg (by omega)]
      · rw [if_neg h16, if_neg h16]
    rw [hh]
    by_cases e : 16 + j = i
    · subst e
      rw [if_pos ⟨rfl, by omega⟩, if_pos ⟨by omega, by omega⟩]
    · rw [if_neg (fun h => e h.1), ih i]
      by_cases hc : 16 ≤ i ∧ i < 16 + j
      · rw [if_pos hc, if_pos (by omega)]
      · rw [if_neg hc, if_neg (by omega)]

theorem hx_lo {xs : List Nat} (h40 : xs.length = 40) {j : Nat} (hj : j ≤ 24) : hx (loN xs j) (16 + j) = hx xs (16 + j) := by
  unfold hx
  rw [loN_get h40 hj (16 + j), if_neg (by omega : ¬ (16 ≤ 16 + j ∧ 16 + j < 16 + j))]
  by_cases h16 : 16 + j = 16
  · rw [if_pos h16, if_pos h16, loN_get h40 hj 16, if_neg (by omega)]
  · rw [if_neg h16, if_neg h16]

theorem hiN_get {xs hs : List Nat} (h40 : xs.length = 40) (h41 : hs.length = 40) : ∀ {j : Nat}, j ≤ 24 → ∀ i, (hiN xs hs j).getD i 0 = if 16 ≤ i ∧ i < 16 + j then hx xs i else hs.getD i 0
  | 0, _, i => by rw [if_neg (by omega)]; rfl
  | j + 1, h, i => by
    have hl := hiN_len xs hs j
    have ih := hiN_get h40 h41 (j := j) (by omega)
    rw [hiN, getD_set, hx_lo h40 (by omega)]
    by_cases e : 16 + j = i
    · subst e
      rw [if_pos ⟨rfl, by omega⟩, if_pos ⟨by omega, by omega⟩]
    · rw [if_neg (fun h => e h.1), ih i]
      by_cases hc : 16 ≤ i ∧ i < 16 + j
      · rw [if_pos hc, if_pos (by omega)]
      · rw [if_neg hc, if_neg (by omega)]

theorem ovN_iff {xs : List Nat} (h40 : xs.length = 40) : ∀ {j : Nat}, j ≤ 24 → (ovN xs j = true ↔ ∃ i, 16 ≤ i ∧ i < 16 + j ∧ hx xs i ≠ 0)
  | 0, _ => by simp only [ovN]; constructor
               · intro h; cases h
               · rintro ⟨i, h1, h2, _⟩; omega
  | j + 1, h => by
    have ih := ovN_iff h40 (j := j) (by omega)
    rw [ovN, hx_lo h40 (by omega)]
    cases hb : ovN xs j with
    | true =>
      obtain ⟨i, h1, h2, h3⟩ := ih.1 hb
      simp only [cond_true, true_iff]
      exact ⟨i, h1, by omega, h3⟩
    | false =>
      rw [cond_false, Bool.not_eq_true', decide_eq_false_iff_not]
      constructor
      · intro h'; exact ⟨16 + j, by omega, by omega, h'⟩
      · rintro ⟨i, h1, h2, h3⟩
        by_cases e : i = 16 + j
        · subst e; exact h3
        · exfalso
          have := ih.2 ⟨i, h1, by omega, h3⟩
          rw [hb] at this; cases this

/-- The sum of digits times their weights. -/
def sumW (f : Nat → Nat) : Nat → Nat
  | 0 => 0
  | n + 1 => sumW f n + f n * 256 ^ n

theorem sumW_congr {f g : Nat → Nat} : ∀ {n : Nat}, (∀ i, i < n → f i = g i) → sumW f n = sumW g n
  | 0, _ => rfl
  | n + 1, h => by rw [sumW, sumW, sumW_congr fun i hi => h i (by omega), h n (by omega)]

theorem sumW_add (f g : Nat → Nat) : ∀ n, sumW (fun i => f i + g i) n = sumW f n + sumW g n
  | 0 => rfl
  | n + 1 => by simp only [sumW, sumW_add f g n, Nat.add_mul]; omega

theorem sumW_split (f : Nat → Nat) (m : Nat) : ∀ n, sumW f (m + n) = sumW f m + 256 ^ m * sumW (fun i => f (m + i)) n
  | 0 => by simp [sumW]
  | n + 1 => by
    rw [← Nat.add_assoc, sumW, sumW_split f m n, sumW, Nat.mul_add, Nat.pow_add]
    have : f (m + n) * (256 ^ m * 256 ^ n) = 256 ^ m * (f (m + n) * 256 ^ n) := by
      rw [← Nat.mul_assoc, Nat.mul_comm (f (m + n)) (256 ^ m), Nat.mul_assoc]
    omega

theorem leN_sumW : ∀ (xs : List Nat), leN xs = sumW (fun i => xs.getD i 0) xs.length
  | [] => rfl
  | x :: xs => by
    rw [leN, leN_sumW xs, List.length_cons, Nat.add_comm xs.length 1, sumW_split]
    simp only [sumW, Nat.zero_add, Nat.pow_zero, Nat.mul_one, List.getD_cons_zero, Nat.pow_one]
    congr 2
    exact sumW_congr fun i _ => by rw [Nat.add_comm 1 i, List.getD_cons_succ]

theorem sumW_lt {f : Nat → Nat} (h : ∀ i, f i < 256) : ∀ n, sumW f n < 256 ^ n
  | 0 => by simp [sumW]
  | n + 1 => by
    have h1 := sumW_lt h n
    have h2 : f n * 256 ^ n ≤ 255 * 256 ^ n := Nat.mul_le_mul_right _ (by have := h n; omega)
    rw [sumW, Nat.pow_succ]
    omega

theorem sumW_zero {f : Nat → Nat} : ∀ {n : Nat}, (∀ i, i < n → f i = 0) → sumW f n = 0
  | 0, _ => rfl
  | n + 1, h => by rw [sumW, sumW_zero fun i hi => h i (by omega), h n (by omega)]; simp

theorem sumW_mul4 {f : Nat → Nat} (c : Nat) : ∀ n, sumW (fun i => c * f i) n = c * sumW f n
  | 0 => rfl
  | n + 1 => by rw [sumW, sumW, sumW_mul4 c n, Nat.mul_add, Nat.mul_assoc]

theorem sumW_ne {f : Nat → Nat} {n i : Nat} (hi : i < n) (h : f i ≠ 0) : sumW f n ≠ 0 := by
  induction n with
  | zero => omega
  | succ n ih =>
    rw [sumW]
    by_cases e : i = n
    · subst e
      have : 0 < f i * 256 ^ i := Nat.mul_pos (by omega) (Nat.pow_pos (by omega))
      omega
    · have := ih (by omega)
      omega

end Go.Proofs.Ytgebgjhjegadpaa

namespace Go.Proofs.Ytgebgjhjegadpaa
open Go

theorem leN_addAt {xs : List Nat} {i : Nat} (h : i < xs.length) (v : Nat) : leN (xs.set i (xs.getD i 0 + v)) = leN xs + v * 256 ^ i := by
  have := leN_set xs i (xs.getD i 0 + v) h
  rw [Nat.add_mul] at this
  omega

theorem dnS_leN {xs hs : List Nat} (h40 : xs.length = 40) {j : Nat} (hj : j < 24) (h16 : j = 0 → hs.getD 16 0 % 4 = 0) : 4 * leN (dnS xs hs (16 + j)) = 4 * leN xs + 5 * (hs.getD (16 + j) 0 * 256 ^ j) := by
  have h1 : leN (dn1 xs hs (16 + j)) = leN xs + (hs.getD (16 + j) 0 * 5 / 4) * 256 ^ j := by
    unfold dn1
    rw [show 16 + j - 16 = j by omega]
    exact leN_addAt (by omega) _
  unfold dnS
  generalize hh : hs.getD (16 + j) 0 = h at *
  split
  · rename_i hc
    obtain ⟨k, rfl⟩ : ∃ k, j = k + 1 := ⟨j - 1, by omega⟩
    unfold dn2
    rw [hh, show 16 + (k + 1) - 17 = k by omega, leN_addAt (by simp [dn1]; omega), h1, Nat.pow_succ]
    have e1 : h * 5 / 4 * (256 ^ k * 256) = (h * 5 / 4 * 256) * 256 ^ k := by rw [Nat.mul_assoc, Nat.mul_comm 256]
    have e2 : h * (256 ^ k * 256) = (h * 256) * 256 ^ k := by rw [Nat.mul_assoc, Nat.mul_comm 256]
    rw [e1, e2]
    have e3 : 5 * (h * 256) = 4 * (h * 5 / 4 * 256) + 4 * (h * 5 % 4 * 64) := by omega
    have e4 : 5 * (h * 256 * 256 ^ k) = (4 * (h * 5 / 4 * 256) + 4 * (h * 5 % 4 * 64)) * 256 ^ k := by rw [← Nat.mul_assoc, e3]
    rw [e4, Nat.add_mul, Nat.mul_assoc 4, Nat.mul_assoc 4]
    omega
  · rename_i hc
    have h0 : h * 5 % 4 = 0 := by
      by_cases hj0 : j = 0
      · subst hj0
        have := h16 rfl
        rw [hh] at this
        omega
      · by_cases hz : h * 5 % 4 = 0
        · exact hz
        · exact absurd ⟨hz, by omega⟩ hc
    rw [h1]
    have e4 : 5 * (h * 256 ^ j) = (4 * (h * 5 / 4)) * 256 ^ j := by
      rw [← Nat.mul_assoc, show 5 * h = 4 * (h * 5 / 4) by omega]
    rw [e4, Nat.mul_add, Nat.mul_assoc 4]

theorem dnN_leN {xs hs : List Nat} (h40 : xs.length = 40) (h16 : hs.getD 16 0 % 4 = 0) : ∀ {j : Nat}, j ≤ 24 → 4 * leN (dnN xs hs j) = 4 * leN xs + 5 * sumW (fun i => hs.getD (16 + i) 0) j
  | 0, _ => by simp [dnN, sumW]
  | j + 1, h => by
    rw [dnN, dnS_leN (by rw [dnN_len]; exact h40) (by omega) (fun _ => h16), dnN_leN h40 h16 (by omega), sumW, Nat.mul_add]
    omega

/-- Bounds of the digits. -/
theorem dnN_get {xs hs : List Nat} {B C : Nat} (h40 : xs.length = 40) (hB : ∀ i, xs.getD i 0 < B) (hC : ∀ i, hs.getD i 0 < C) : ∀ {j : Nat}, j ≤ 24 →
    (∀ i, (dnN xs hs j).getD i 0 < B + 2 * C + 192) ∧ (∀ i, j ≤ i → (dnN xs hs j).getD i 0 = xs.getD i 0) ∧ (∀ i, j ≤ i + 1 → (dnN xs hs j).getD i 0 < B + 2 * C)
  | 0, _ => ⟨fun i => by have := hB i; simp only [dnN]; omega, fun i _ => rfl, fun i _ => by have := hB i; simp only [dnN]; omega⟩
  | j + 1, h => by
    obtain ⟨h1, h2, h3⟩ := dnN_get h40 hB hC (j := j) (by omega)
    have hl := dnN_len xs hs j
    have hc := hC (16 + j)
    have hb := hB j
    rw [dnN]
    generalize dnN xs hs j = ys at *
    have g : ∀ i, (dn1 ys hs (16 + j)).getD i 0 = if i = j then ys.getD j 0 + hs.getD (16 + j) 0 * 5 / 4 else ys.getD i 0 := by
      intro i
      unfold dn1
      rw [show 16 + j - 16 = j by omega, getD_set]
      by_cases e : j = i
      · subst e; rw [if_pos ⟨rfl, by omega⟩, if_pos rfl]
      · rw [if_neg (fun h => e h.1), if_neg (fun h => e h.symm)]
    have hj := h2 j (Nat.le_refl _)
    unfold dnS
    split
    · rename_i hcc
      obtain ⟨k, rfl⟩ : ∃ k, j = k + 1 := ⟨j - 1, by omega⟩
      have gk := h3 k (by omega)
      have g2 : ∀ i, (dn2 (dn1 ys hs (16 + (k + 1))) hs (16 + (k + 1))).getD i 0 = if i = k then ys.getD k 0 + hs.getD (16 + (k + 1)) 0 * 5 % 4 * 64 else (dn1 ys hs (16 + (k + 1))).getD i 0 := by
        intro i
        unfold dn2
        rw [show 16 + (k + 1) - 17 = k by omega, getD_set]
        by_cases e : k = i
        · subst e; rw [if_pos ⟨rfl, by simp [dn1]; omega⟩, if_pos rfl, g, if_neg (by omega)]
        · rw [if_neg (fun h => e h.1), if_neg (fun h => e h.symm)]
      refine ⟨fun i => ?_, fun i hi => ?_, fun i hi => ?_⟩
      · rw [g2, g]
        have := h1 i
        split
        · omega
        · split <;> omega
      · rw [g2, if_neg (by omega), g, if_neg (by omega)]; exact h2 i (by omega)
      · rw [g2, if_neg (by omega), g]
        have := h3 i (by omega)
        split <;> omega
    · refine ⟨fun i => ?_, fun i hi => ?_, fun i hi => ?_⟩
      · rw [g]
        have := h1 i
        split <;> omega
      · rw [g, if_neg (by omega)]; exact h2 i (by omega)
      · rw [g]
        have := h3 i (by omega)
        split <;> omega

def zs40 : List Nat := List.replicate 40 0

def nx (v : Nat) : Nat := v % 1361129467683753853853498429727072845824 + 5 * (v / 1361129467683753853853498429727072845824)

def lowD (v : Nat) : List Nat := loN (digs 40 v) 24
def highD (v : Nat) : List Nat := hiN (digs 40 v) zs40 24
def nextD (v : Nat) : List Nat := dnN (lowD v) (highD v) 24

theorem zs40_get (i : Nat) : zs40.getD i 0 = 0 := by
  rw [List.getD]
  cases h : zs40[i]? with
  | none => rfl
  | some x => exact (List.mem_replicate.1 (List.mem_of_getElem? h)).2

theorem round_spec {v : Nat} (hv : v < 256 ^ 40) : leN (nextD v) = nx v ∧ (∀ i, (nextD v).getD i 0 < 1000) ∧ (nextD v).length = 40 ∧ (ovN (digs 40 v) 24 = true ↔ 1361129467683753853853498429727072845824 ≤ v) ∧ (v < 1361129467683753853853498429727072845824 → lowD v = digs 40 v) := by
  have h40 : (digs 40 v).length = 40 := digs_len 40 v
  have hd : ∀ i, (digs 40 v).getD i 0 < 256 := fun i => by rw [digs_get]; split <;> omega
  have hL : ∀ i, (lowD v).getD i 0 = if 16 ≤ i ∧ i < 40 then (digs 40 v).getD i 0 - hx (digs 40 v) i else (digs 40 v).getD i 0 := loN_get h40 (j := 24) (by omega)
  have hH : ∀ i, (highD v).getD i 0 = if 16 ≤ i ∧ i < 40 then hx (digs 40 v) i else 0 := fun i => by
    have := hiN_get (hs := zs40) h40 (List.length_replicate) (j := 24) (by omega) i
    rw [zs40_get] at this
    exact this
  have hov := ovN_iff h40 (j := 24) (by omega)
  have hval : leN (digs 40 v) = v := by rw [leN_digs, Nat.mod_eq_of_lt hv]
  have hhx : ∀ i, hx (digs 40 v) i ≤ (digs 40 v).getD i 0 := hx_le _
  have hxd : ∀ i, i ≠ 16 → hx (digs 40 v) i = (digs 40 v).getD i 0 := fun i h => if_neg h
  have hx16 : hx (digs 40 v) 16 = (digs 40 v).getD 16 0 - (digs 40 v).getD 16 0 % 4 := if_pos rfl
  have l40 : (lowD v).length = 40 := by rw [lowD, loN_len, h40]
  generalize digs 40 v = xs at *
  -- the parts
  have e1 := leN_sumW xs
  have e2 := leN_sumW (lowD v)
  rw [h40, show 40 = 16 + 24 from rfl, sumW_split] at e1
  rw [l40, show 40 = 16 + 24 from rfl, sumW_split] at e2
  have a1 : sumW (fun i => (lowD v).getD i 0) 16 = sumW (fun i => xs.getD i 0) 16 := sumW_congr fun i hi => by rw [hL, if_neg (by omega)]
  have a2 : sumW (fun i => (lowD v).getD (16 + i) 0) 24 = xs.getD 16 0 % 4 := by
    rw [show 24 = 1 + 23 from rfl, sumW_split, sumW_zero (n := 23) fun i hi => by rw [hL, if_pos (by omega), hxd _ (by omega)]; omega]
    simp only [sumW, Nat.add_zero]
    rw [hL, if_pos (by omega), hx16]
    simp
    omega
  have a3 : sumW (fun i => xs.getD (16 + i) 0) 24 = xs.getD 16 0 % 4 + sumW (fun i => (highD v).getD (16 + i) 0) 24 := by
    rw [show 24 = 1 + 23 from rfl, sumW_split, sumW_split (fun i => (highD v).getD (16 + i) 0)]
    have : sumW (fun i => (highD v).getD (16 + (1 + i)) 0) 23 = sumW (fun i => xs.getD (16 + (1 + i)) 0) 23 := sumW_congr fun i hi => by rw [hH, if_pos (by omega), hxd _ (by omega)]
    rw [this]
    simp only [sumW, Nat.add_zero, Nat.pow_zero, Nat.mul_one, Nat.zero_add]
    rw [hH 16, if_pos (by omega), hx16]
    omega
  have a4 : (highD v).getD 16 0 % 4 = 0 := by rw [hH 16, if_pos (by omega), hx16]; omega
  have a5 : sumW (fun i => (highD v).getD (16 + i) 0) 24 % 4 = 0 := by
    rw [show 24 = 1 + 23 from rfl, sumW_split]
    simp only [sumW, Nat.add_zero, Nat.pow_zero, Nat.mul_one, Nat.zero_add]
    omega
  have a6 : sumW (fun i => xs.getD i 0) 16 < 256 ^ 16 := sumW_lt hd 16
  have a7 := dnN_leN l40 a4 (j := 24) (by omega)
  rw [a1, a2] at e2
  rw [a3] at e1
  rw [hval] at e1
  have hT : ∃ t, sumW (fun i => (highD v).getD (16 + i) 0) 24 = 4 * t := ⟨_, (Nat.mul_div_cancel' (Nat.dvd_of_mod_eq_zero a5)).symm⟩
  obtain ⟨t, ht⟩ := hT
  have hnz : (∃ i, 16 ≤ i ∧ i < 16 + 24 ∧ hx xs i ≠ 0) ↔ t ≠ 0 := by
    constructor
    · rintro ⟨i, g1, g2, g3⟩ h0
      have := sumW_ne (f := fun i => (highD v).getD (16 + i) 0) (n := 24) (i := i - 16) (by omega) (by
        rw [show 16 + (i - 16) = i by omega, hH, if_pos (by omega)]; exact g3)
      omega
    · intro h0
      refine Classical.byContradiction fun hn => h0 ?_
      have : sumW (fun i => (highD v).getD (16 + i) 0) 24 = 0 := sumW_zero fun i hi => by
        rw [hH, if_pos (by omega)]
        exact Classical.byContradiction fun hne => hn ⟨16 + i, by omega, by omega, hne⟩
      omega
  rw [ht] at e1
  rw [show dnN (lowD v) (highD v) 24 = nextD v from rfl, ht] at a7
  generalize hA : sumW (fun i => xs.getD i 0) 16 = A at *
  have hm : xs.getD 16 0 % 4 < 4 := Nat.mod_lt _ (by omega)
  generalize xs.getD 16 0 % 4 = m at *
  have p16 : (256 : Nat) ^ 16 = 340282366920938463463374607431768211456 := by decide
  rw [p16] at e1 e2 a6
  have hmod : v % 1361129467683753853853498429727072845824 = A + 340282366920938463463374607431768211456 * m := by omega
  have hdiv : v / 1361129467683753853853498429727072845824 = t := by omega
  refine ⟨?_, ?_, ?_, ?_, ?_⟩
  · unfold nx; rw [hmod, hdiv]; omega
  · intro i
    have := (dnN_get (xs := lowD v) (hs := highD v) (B := 256) (C := 256) l40 (fun i => by rw [hL]; have := hd i; split <;> omega) (fun i => by rw [hH]; have := hd i; have := hhx i; split <;> omega) (j := 24) (by omega)).1 i
    show (dnN (lowD v) (highD v) 24).getD i 0 < 1000
    omega
  · rw [nextD, dnN_len, l40]
  · rw [hov, hnz]
    omega
  · intro hlt
    have ht0 : t = 0 := by omega
    have hz : ∀ i, 16 ≤ i → i < 40 → hx xs i = 0 := fun i g1 g2 => Classical.byContradiction fun hne => (hnz.1 ⟨i, g1, g2, hne⟩) ht0
    apply List.ext_getElem (by omega)
    intro i g1 g2
    have := hL i
    rw [List.getD, List.getD, List.getElem?_eq_getElem g1, List.getElem?_eq_getElem g2, Option.getD_some, Option.getD_some] at this
    rw [this]
    split
    · rename_i hc; rw [hz i hc.1 hc.2]; rfl
    · rfl

end Go.Proofs.Ytgebgjhjegadpaa

namespace Go.Proofs.Ytgebgjhjegadpaa
open Go

def slw (b : Nat) : AV := .s (.sl .whole b 0 40 1)

def allB (B : Nat) (xs : List Nat) : Bool := xs.all fun x => decide (x < B)

theorem allB_get {B : Nat} {xs : List Nat} (hB : 0 < B) (h : allB B xs = true) (i : Nat) : xs.getD i 0 < B := by
  rw [List.getD]
  cases hj : xs[i]? with
  | none => exact hB
  | some p =>
    have := List.all_eq_true.1 h p (List.mem_of_getElem? hj)
    simpa using this

theorem allB_of {B : Nat} {xs : List Nat} (h : ∀ i, xs.getD i 0 < B) : allB B xs = true := by
  refine List.all_eq_true.2 fun x hx => ?_
  obtain ⟨i, hi, rfl⟩ := List.getElem_of_mem hx
  have := h i
  rw [List.getD, List.getElem?_eq_getElem hi, Option.getD_some] at this
  exact decide_eq_true this

def R2 : LSem := ⟨[0, 3], [0], fun args hin => match args, hin with
  | [.s (.sl .whole 0 0 40 1), .s (.nat .i64 0)], [[.ints .i64 40 xs]] =>
    some (Tr.needs [decide (xs.length = 40), allB 36028797018963968 xs] (.leaf (.normal, [slw 0], [some [.ints .i64 40 (carN xs 39)]])))
  | _, _ => none⟩

set_option maxRecDepth 100000 in
theorem rr2 (j : Nat) (xs : List Nat) : runR Try.prog [] [] .nat 7 [] Try.f39 2 R2 1 [.s (.sl .whole 0 0 40 1), .s (.nat .i64 j)] [some [.ints .i64 40 xs]] =
(nd [decide (j + 1 < 9223372036854775808)]
 (cond (decide (j + 1 < 40))
 (nd [decide (j + 1 < 9223372036854775808), decide (j + 1 < 40), decide (j + 1 < 40), decide (j < 40), decide (j < 40), decide (xs.getD (j + 1) 0 + xs.getD (j) 0 / 256 < 9223372036854775808), decide (j + 1 < 40), decide (j + 1 < 40), decide (j < 40), decide (j < 40), decide (j < 40), decide (j < 40), decide (j + 1 < 9223372036854775808)]
 (some (Ex.normal, [AV.s (SV.sl LK.whole 0 0 40 1), AV.s (SV.nat IntKind.i64 (j + 1))], [some [Ch.ints IntKind.i64 40 ((xs.set (j + 1) (xs.getD (j + 1) 0 + xs.getD (j) 0 / 256)).set (j) ((xs.set (j + 1) (xs.getD (j + 1) 0 + xs.getD (j) 0 / 256)).getD (j) 0 % 256))]])))
 (some (Ex.exit 2, [AV.s (SV.sl LK.whole 0 0 40 1)], [some [Ch.ints IntKind.i64 40 xs]])))) := by kernel_rfl

theorem lokR2 : LOk Try.prog Try.f39.ntmps (.block 2 (.loop (lb 2 Try.f39))) R2 := by
  refine lokR (fs := []) (xs := []) (m := .nat) (fuel := 7) (sums := []) .nil mixedP (loopsOk_none rfl _) ?_
  intro args hin t e vs hout h hg
  unfold R2 at h
  simp only at h
  split at h
  · rename_i xs
    simp only [Option.some.injEq] at h
    subst h
    obtain ⟨hc, hgt⟩ := Tr.needs_get hg
    clear hg
    have e1 : xs.length = 40 := of_decide_eq_true (hc _ (by simp))
    have e2 : allB 36028797018963968 xs = true := hc (allB 36028797018963968 xs) (by simp)
    clear hc
    cases hgt
    refine ⟨39, fun i => ([slw 0, .s (.nat .i64 i)], [some [.ints .i64 40 (carN xs i)]]), .exit 2, rfl, fun i hi => ?_, ?_, rfl⟩
    · simp only [slw, List.length_cons, List.length_nil]
      rw [rr2]
      obtain ⟨g1, g2, g3⟩ := carN_get (allB_get (by omega) e2) (j := i) (by omega)
      have g4 := g3 (i + 1) (by omega)
      have g5 := allB_get (by omega) e2 (i + 1)
      refine nd_of ?_ (cond_t (decide_eq_true (by omega)) (nd_of ?_ rfl))
      · simp only [List.mem_cons, List.not_mem_nil, or_false, forall_eq, decide_eq_true_eq]; omega
      · simp only [List.mem_cons, List.not_mem_nil, or_false, forall_eq_or_imp, forall_eq, decide_eq_true_eq, true_and, and_true]; omega
    · simp only [slw, List.length_cons, List.length_nil]
      rw [rr2]
      refine nd_of ?_ (cond_f (decide_eq_false (by omega)) rfl)
      simp only [List.mem_cons, List.not_mem_nil, or_false, forall_eq, decide_eq_true_eq]; omega
  · cases h

def R4 : LSem := ⟨[0, 4, 5, 6], [0, 4, 5], fun args hin => match args, hin with
  | [.s (.sl .whole 0 0 40 1), .s (.sl .whole 1 0 40 1), .s (.bool false), .s (.nat .i64 16)], [[.ints .i64 40 xs], [.ints .i64 40 hs]] =>
    some (.leaf (.normal, [slw 0, slw 1, .s (.bool (ovN xs 24))], [some [.ints .i64 40 (loN xs 24)], some [.ints .i64 40 (hiN xs hs 24)]]))
  | _, _ => none⟩

set_option maxRecDepth 100000 in
theorem rr4 (j : Nat) (b : Bool) (xs hs : List Nat) : runR Try.prog [] [] .nat 7 [] Try.f39 4 R4 2 [.s (.sl .whole 0 0 40 1), .s (.sl .whole 1 0 40 1), .s (.bool b), .s (.nat .i64 j)] [some [.ints .i64 40 xs], some [.ints .i64 40 hs]] =
(cond (decide (j < 40))
 (nd [decide (j < 40), decide (j < 40)]
 (cond (decide (j = 16))
 (nd [decide (xs.getD (16) 0 % 4 ≤ xs.getD (j) 0)]
 (cond (b)
 (nd [decide (j < 40), decide (j < 40), decide (j < 40), decide (j < 40), decide (xs.getD (j) 0 - xs.getD (16) 0 % 4 ≤ xs.getD (j) 0), decide (j < 40), decide (j < 40), decide (j + 1 < 9223372036854775808)]
 (some (Ex.normal, [AV.s (SV.sl LK.whole 0 0 40 1), AV.s (SV.sl LK.whole 1 0 40 1), AV.s (SV.bool true), AV.s (SV.nat IntKind.i64 (j + 1))], [some [Ch.ints IntKind.i64 40 (xs.set (j) (xs.getD (j) 0 - (xs.getD (j) 0 - xs.getD (16) 0 % 4)))], some [Ch.ints IntKind.i64 40 (hs.set (j) (xs.getD (j) 0 - xs.getD (16) 0 % 4))]])))
 (nd [decide (j < 40), decide (j < 40), decide (j < 40), decide (j < 40), decide (xs.getD (j) 0 - xs.getD (16) 0 % 4 ≤ xs.getD (j) 0), decide (j < 40), decide (j < 40), decide (j + 1 < 9223372036854775808)]
 (some (Ex.normal, [AV.s (SV.sl LK.whole 0 0 40 1), AV.s (SV.sl LK.whole 1 0 40 1), AV.s (SV.bool !decide (xs.getD (j) 0 - xs.getD (16) 0 % 4 = 0)), AV.s (SV.nat IntKind.i64 (j + 1))], [some [Ch.ints IntKind.i64 40 (xs.set (j) (xs.getD (j) 0 - (xs.getD (j) 0 - xs.getD (16) 0 % 4)))], some [Ch.ints IntKind.i64 40 (hs.set (j) (xs.getD (j) 0 - xs.getD (16) 0 % 4))]])))))
 (cond (b)
 (nd [decide (j < 40), decide (j < 40), decide (j < 40), decide (j < 40), decide (xs.getD (j) 0 ≤ xs.getD (j) 0), decide (j < 40), decide (j < 40), decide (j + 1 < 9223372036854775808)]
 (some (Ex.normal, [AV.s (SV.sl LK.whole 0 0 40 1), AV.s (SV.sl LK.whole 1 0 40 1), AV.s (SV.bool true), AV.s (SV.nat IntKind.i64 (j + 1))], [some [Ch.ints IntKind.i64 40 (xs.set (j) (xs.getD (j) 0 - xs.getD (j) 0))], some [Ch.ints IntKind.i64 40 (hs.set (j) (xs.getD (j) 0))]])))
 (nd [decide (j < 40), decide (j < 40), decide (j < 40), decide (j < 40), decide (xs.getD (j) 0 ≤ xs.getD (j) 0), decide (j < 40), decide (j < 40), decide (j + 1 < 9223372036854775808)]
 (some (Ex.normal, [AV.s (SV.sl LK.whole 0 0 40 1), AV.s (SV.sl LK.whole 1 0 40 1), AV.s (SV.bool !decide (xs.getD (j) 0 = 0)), AV.s (SV.nat IntKind.i64 (j + 1))], [some [Ch.ints IntKind.i64 40 (xs.set (j) (xs.getD (j) 0 - xs.getD (j) 0))], some [Ch.ints IntKind.i64 40 (hs.set (j) (xs.getD (j) 0))]]))))))
 (some (Ex.exit 4, [AV.s (SV.sl LK.whole 0 0 40 1), AV.s (SV.sl LK.whole 1 0 40 1), AV.s (SV.bool b)], [some [Ch.ints IntKind.i64 40 xs], some [Ch.ints IntKind.i64 40 hs]]))) := by kernel_rfl

theorem lokR4 : LOk Try.prog Try.f39.ntmps (.block 4 (.loop (lb 4 Try.f39))) R4 := by
  refine lokR (fs := []) (xs := []) (m := .nat) (fuel := 7) (sums := []) .nil mixedP (loopsOk_none rfl _) ?_
  intro args hin t e vs hout h hg
  unfold R4 at h
  simp only at h
  split at h
  · rename_i xs hs
    cases h
    cases hg
    refine ⟨24, fun i => ([slw 0, slw 1, .s (.bool (ovN xs i)), .s (.nat .i64 (16 + i))], [some [.ints .i64 40 (loN xs i)], some [.ints .i64 40 (hiN xs hs i)]]), .exit 4, rfl, fun i hi => ?_, ?_, rfl⟩
    · simp only [slw, List.length_cons, List.length_nil]
      rw [rr4]
      have hle := hx_le (loN xs i) (16 + i)
      refine cond_t (decide_eq_true (by omega)) (nd_of ?_ ?_)
      · simp only [List.mem_cons, List.not_mem_nil, or_false, forall_eq_or_imp, forall_eq, decide_eq_true_eq, true_and, and_true]; omega
      by_cases h16 : 16 + i = 16
      · have hxe : hx (loN xs i) (16 + i) = (loN xs i).getD (16 + i) 0 - (loN xs i).getD 16 0 % 4 := by rw [hx, if_pos h16]
        rw [← hxe]
        refine cond_t (decide_eq_true h16) (nd_of ?_ ?_)
        · rw [h16]; simp only [List.mem_cons, List.not_mem_nil, or_false, forall_eq, decide_eq_true_eq]; omega
        simp only [ovN, loN, hiN, Nat.add_assoc]
        cases ovN xs i
        · refine cond_f rfl (nd_of ?_ rfl)
          simp only [List.mem_cons, List.not_mem_nil, or_false, forall_eq_or_imp, forall_eq, decide_eq_true_eq, true_and, and_true]; omega
        · refine cond_t rfl (nd_of ?_ rfl)
          simp only [List.mem_cons, List.not_mem_nil, or_false, forall_eq_or_imp, forall_eq, decide_eq_true_eq, true_and, and_true]; omega
      · have hxe : hx (loN xs i) (16 + i) = (loN xs i).getD (16 + i) 0 := by rw [hx, if_neg h16]
        refine cond_f (decide_eq_false h16) ?_
        simp only [ovN, loN, hiN, Nat.add_assoc, hxe]
        cases ovN xs i
        · refine cond_f rfl (nd_of ?_ rfl)
          simp only [List.mem_cons, List.not_mem_nil, or_false, forall_eq_or_imp, forall_eq, decide_eq_true_eq, true_and, and_true]; omega
        · refine cond_t rfl (nd_of ?_ rfl)
          simp only [List.mem_cons, List.not_mem_nil, or_false, forall_eq_or_imp, forall_eq, decide_eq_true_eq, true_and, and_true]; omega
    · simp only [slw, List.length_cons, List.length_nil]
      rw [rr4]
      exact cond_f (decide_eq_false (by omega)) rfl
  · cases h

def R6 : LSem := ⟨[0, 4, 8], [0], fun args hin => match args, hin with
  | [.s (.sl .whole 0 0 40 1), .s (.sl .whole 1 0 40 1), .s (.nat .i64 16)], [[.ints .i64 40 xs], [.ints .i64 40 hs]] =>
    some (Tr.needs [decide (xs.length = 40), allB 36028797018963968 xs, allB 36028797018963968 hs] (.leaf (.normal, [slw 0], [some [.ints .i64 40 (dnN xs hs 24)], some [.ints .i64 40 hs]])))
  | _, _ => none⟩

set_option maxRecDepth 100000 in
theorem rr6 (j : Nat) (xs hs : List Nat) : runR Try.prog [] [] .nat 7 [] Try.f39 6 R6 2 [.s (.sl .whole 0 0 40 1), .s (.sl .whole 1 0 40 1), .s (.nat .i64 j)] [some [.ints .i64 40 xs], some [.ints .i64 40 hs]] =
(cond (decide (j < 40))
 (nd [decide (j < 40), decide (j < 40), decide (hs.getD (j) 0 * 5 < 9223372036854775808), decide (16 ≤ j), decide (j - 16 < 40), decide (j - 16 < 40), decide (xs.getD (j - 16) 0 + hs.getD (j) 0 * 5 / 4 < 9223372036854775808), decide (j - 16 < 40), decide (j - 16 < 40)]
 (cond (!decide (hs.getD (j) 0 * 5 % 4 = 0))
 (cond (decide (16 < j))
 (nd [decide (17 ≤ j), decide (j - 17 < 40), decide (j - 17 < 40), decide (hs.getD (j) 0 * 5 % 4 * 64 < 9223372036854775808), decide ((xs.set (j - 16) (xs.getD (j - 16) 0 + hs.getD (j) 0 * 5 / 4)).getD (j - 17) 0 + hs.getD (j) 0 * 5 % 4 * 64 < 9223372036854775808), decide (j - 17 < 40), decide (j - 17 < 40), decide (j + 1 < 9223372036854775808)]
 (some (Ex.normal, [AV.s (SV.sl LK.whole 0 0 40 1), AV.s (SV.sl LK.whole 1 0 40 1), AV.s (SV.nat IntKind.i64 (j + 1))], [some [Ch.ints IntKind.i64 40 ((xs.set (j - 16) (xs.getD (j - 16) 0 + hs.getD (j) 0 * 5 / 4)).set (j - 17) ((xs.set (j - 16) (xs.getD (j - 16) 0 + hs.getD (j) 0 * 5 / 4)).getD (j - 17) 0 + hs.getD (j) 0 * 5 % 4 * 64))], some [Ch.ints IntKind.i64 40 hs]])))
 (nd [decide (j + 1 < 9223372036854775808)]
 (some (Ex.normal, [AV.s (SV.sl LK.whole 0 0 40 1), AV.s (SV.sl LK.whole 1 0 40 1), AV.s (SV.nat IntKind.i64 (j + 1))], [some [Ch.ints IntKind.i64 40 (xs.set (j - 16) (xs.getD (j - 16) 0 + hs.getD (j) 0 * 5 / 4))], some [Ch.ints IntKind.i64 40 hs]]))))
 (nd [decide (j + 1 < 9223372036854775808)]
 (some (Ex.normal, [AV.s (SV.sl LK.whole 0 0 40 1), AV.s (SV.sl LK.whole 1 0 40 1), AV.s (SV.nat IntKind.i64 (j + 1))], [some [Ch.ints IntKind.i64 40 (xs.set (j - 16) (xs.getD (j - 16) 0 + hs.getD (j) 0 * 5 / 4))], some [Ch.ints IntKind.i64 40 hs]])))))
 (some (Ex.exit 6, [AV.s (SV.sl LK.whole 0 0 40 1)], [some [Ch.ints IntKind.i64 40 xs], some [Ch.ints IntKind.i64 40 hs]]))) := by kernel_rfl

theorem dn1_lt {xs hs : List Nat} {i : Nat} (h : xs.getD (i - 17) 0 < 4611686018427387904) (h2 : xs.getD (i - 16) 0 < 4611686018427387904) (h3 : hs.getD i 0 < 36028797018963968) : (dn1 xs hs i).getD (i - 17) 0 < 4611686018427387904 + 45035996273704960 := by
  unfold dn1
  rw [getD_set]
  split <;> omega

theorem lokR6 : LOk Try.prog Try.f39.ntmps (.block 6 (.loop (lb 6 Try.f39))) R6 := by
  refine lokR (fs := []) (xs := []) (m := .nat) (fuel := 7) (sums := []) .nil mixedP (loopsOk_none rfl _) ?_
  intro args hin t e vs hout h hg
  unfold R6 at h
  simp only at h
  split at h
  · rename_i xs hs
    simp only [Option.some.injEq] at h
    subst h
    obtain ⟨hc, hgt⟩ := Tr.needs_get hg
    clear hg
    have e1 : xs.length = 40 := of_decide_eq_true (hc _ (by simp))
    have e2 : allB 36028797018963968 xs = true := hc (allB 36028797018963968 xs) (by simp)
    have e3 : allB 36028797018963968 hs = true := hc (allB 36028797018963968 hs) (by simp)
    clear hc
    cases hgt
    refine ⟨24, fun i => ([slw 0, slw 1, .s (.nat .i64 (16 + i))], [some [.ints .i64 40 (dnN xs hs i)], some [.ints .i64 40 hs]]), .exit 6, rfl, fun i hi => ?_, ?_, rfl⟩
    · simp only [slw, List.length_cons, List.length_nil]
      rw [rr6]
      have g1 := (dnN_get e1 (allB_get (by omega) e2) (allB_get (by omega) e3) (j := i) (by omega)).1
      have g2 := g1 (16 + i - 16)
      have g3 := g1 (16 + i - 17)
      have g4 := allB_get (by omega) e3 (16 + i)
      have g5 := dn1_lt (xs := dnN xs hs i) (hs := hs) (i := 16 + i) (by omega) (by omega) g4
      unfold dn1 at g5
      refine cond_t (decide_eq_true (by omega)) (nd_of ?_ ?_)
      · simp only [List.mem_cons, List.not_mem_nil, or_false, forall_eq_or_imp, forall_eq, decide_eq_true_eq, true_and, and_true]; omega
      by_cases hz : hs.getD (16 + i) 0 * 5 % 4 = 0
      · rw [decide_eq_true hz]
        refine cond_f rfl (nd_of ?_ ?_)
        · simp only [List.mem_cons, List.not_mem_nil, or_false, forall_eq, decide_eq_true_eq]; omega
        · rw [dnN, dnS, if_neg (fun h => h.1 hz)]
          rfl
      · rw [decide_eq_false hz]
        refine cond_t rfl ?_
        by_cases h16 : 16 < 16 + i
        · refine cond_t (decide_eq_true h16) (nd_of ?_ ?_)
          · simp only [List.mem_cons, List.not_mem_nil, or_false, forall_eq_or_imp, forall_eq, decide_eq_true_eq, true_and, and_true]; omega
          · rw [dnN, dnS, if_pos ⟨hz, h16⟩]
            rfl
        · refine cond_f (decide_eq_false h16) (nd_of ?_ ?_)
          · simp only [List.mem_cons, List.not_mem_nil, or_false, forall_eq, decide_eq_true_eq]; omega
          · rw [dnN, dnS, if_neg (fun h => h16 h.2)]
            rfl
    · simp only [slw, List.length_cons, List.length_nil]
      rw [rr6]
      exact cond_f (decide_eq_false (by omega)) rfl
  · cases h

/-- Are the digits 1 .. j all 255? -/
def leN8 (b : Bool) (xs : List Nat) : Nat → Bool
  | 0 => b
  | j + 1 => cond (leN8 b xs j) (decide (xs.getD (1 + j) 0 = 255)) false

def R8 : LSem := ⟨[0, 10, 11], [0, 10], fun args hin => match args, hin with
  | [.s (.sl .whole 0 0 40 1), .s (.bool b), .s (.nat .i64 1)], [[.ints .i64 40 xs]] =>
    some (.leaf (.normal, [slw 0, .s (.bool (leN8 b xs 15))], [some [.ints .i64 40 xs]]))
  | _, _ => none⟩

set_option maxRecDepth 100000 in
theorem rr8 (j : Nat) (b : Bool) (xs : List Nat) : runR Try.prog [] [] .nat 7 [] Try.f39 8 R8 1 [.s (.sl .whole 0 0 40 1), .s (.bool b), .s (.nat .i64 j)] [some [.ints .i64 40 xs]] =
(cond (decide (j < 16))
 (cond (b)
 (nd [decide (j < 40), decide (j < 40), decide (j + 1 < 9223372036854775808)]
 (some (Ex.normal, [AV.s (SV.sl LK.whole 0 0 40 1), AV.s (SV.bool (decide (xs.getD (j) 0 = 255))), AV.s (SV.nat IntKind.i64 (j + 1))], [some [Ch.ints IntKind.i64 40 xs]])))
 (nd [decide (j + 1 < 9223372036854775808)]
 (some (Ex.normal, [AV.s (SV.sl LK.whole 0 0 40 1), AV.s (SV.bool false), AV.s (SV.nat IntKind.i64 (j + 1))], [some [Ch.ints IntKind.i64 40 xs]]))))
 (some (Ex.exit 8, [AV.s (SV.sl LK.whole 0 0 40 1), AV.s (SV.bool b)], [some [Ch.ints IntKind.i64 40 xs]]))) := by kernel_rfl

theorem lokR8 : LOk Try.prog Try.f39.ntmps (.block 8 (.loop (lb 8 Try.f39))) R8 := by
  refine lokR (fs := []) (xs := []) (m := .nat) (fuel := 7) (sums := []) .nil mixedP (loopsOk_none rfl _) ?_
  intro args hin t e vs hout h hg
  unfold R8 at h
  simp only at h
  split at h
  · rename_i b xs
    cases h
    cases hg
    refine ⟨15, fun i => ([slw 0, .s (.bool (leN8 b xs i)), .s (.nat .i64 (1 + i))], [some [.ints .i64 40 xs]]), .exit 8, rfl, fun i hi => ?_, ?_, rfl⟩
    · simp only [slw, List.length_cons, List.length_nil]
      rw [rr8]
      refine cond_t (decide_eq_true (by omega)) ?_
      simp only [leN8, Nat.add_assoc]
      cases leN8 b xs i
      · refine cond_f rfl (nd_of ?_ rfl)
        simp only [List.mem_cons, List.not_mem_nil, or_false, forall_eq, decide_eq_true_eq]; omega
      · refine cond_t rfl (nd_of ?_ rfl)
        simp only [List.mem_cons, List.not_mem_nil, or_false, forall_eq_or_imp, forall_eq, decide_eq_true_eq, true_and, and_true]; omega
    · simp only [slw, List.length_cons, List.length_nil]
      rw [rr8]
      exact cond_f (decide_eq_false (by omega)) rfl
  · cases h

end Go.Proofs.Ytgebgjhjegadpaa

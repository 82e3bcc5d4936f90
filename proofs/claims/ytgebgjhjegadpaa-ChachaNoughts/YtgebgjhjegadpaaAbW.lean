/-
  The abstract machine: regions, sound: in order, and in any order.
-/
import Derived.Test.YtgebgjhjegadpaaAbV
namespace Go.Proofs.Ytgebgjhjegadpaa
open Go

section
variable {X : Kit} {C : C0} {ops : Array Oper} {T : Nat → AV} {H : Nat → Option Blk} {a : Act} {w : World}

theorem zip_get {os : List Oper} {rs : List Did} (hlen : rs.length = os.length) {j : Nat} {o : Oper} (ho : os[j]? = some o) : ∃ r, rs[j]? = some r ∧ (os.zip rs)[j]? = some (o, r) := by
  have hj := (List.getElem?_eq_some_iff.1 ho).1
  refine ⟨rs[j]'(by omega), List.getElem?_eq_getElem _, ?_⟩
  rw [List.getElem?_zip_eq_some]
  exact ⟨ho, List.getElem?_eq_getElem _⟩

theorem zip_get' {os : List Oper} {rs : List Did} {j : Nat} {p : Pr} (h : (os.zip rs)[j]? = some p) : os[j]? = some p.1 ∧ rs[j]? = some p.2 := by
  obtain ⟨o, r⟩ := p
  rw [List.getElem?_zip_eq_some] at h
  exact h

theorem fresh_at {os : List Oper} {rs : List Did} {nx j nxj : Nat} {o : Oper} {r : Did} {S : Nat → Bool} (hSj : S j = false) (hp : (os.zip rs)[j]? = some (o, r)) (hst : ∀ n, (lkF r.out.nw n).isSome = true → nxj ≤ n ∧ n < nxj + r.out.nw.length) (hnx : nx ≤ nxj)
    (h3 : ∀ (k : Nat) (p : Pr) (n : Nat), (os.zip rs)[k]? = some p → (lkF p.2.out.nw n).isSome = true → nx ≤ n ∧ (k < j → n < nxj) ∧ (j < k → nxj + r.out.nw.length ≤ n)) :
    ∀ n, (lkF r.out.nw n).isSome = true → ¬ selD S (os.zip rs) (fun n => n < nx) n := by
  intro n hn h
  have hr := hst n hn
  rcases h with h | ⟨k, p, e1, e2, e3⟩
  · omega
  · have := h3 k p n e1 e3
    rcases Nat.lt_trichotomy k j with h | h | h
    · have := this.2.1 h; omega
    · subst h; rw [hSj] at e2; cases e2
    · have := this.2.2 h; omega

theorem selD_end {os : List Oper} {rs : List Did} {nx : Nat} {S : Nat → Bool} (ht : TraceP X ops os rs T H nx) (n : Nat) (h : selD S (os.zip rs) (fun n => n < nx) n) : n < nx + ((os.zip rs).map (·.2.out.nw.length)).sum := by
  rcases h with h | ⟨k, p, e1, e2, e3⟩
  · omega
  · clear e2
    induction os generalizing rs T H nx k with
    | nil => simp at e1
    | cons o os ih =>
      cases rs with
      | nil => simp at e1
      | cons r rs =>
        obtain ⟨hs, ht⟩ := ht
        cases k with
        | zero =>
          simp only [List.zip_cons_cons, List.getElem?_cons_zero, Option.some.injEq] at e1
          subst e1
          have := (hs.names e3).2
          simp only [List.zip_cons_cons, List.map_cons, List.sum_cons]
          omega
        | succ k =>
          have := ih ht k (by simpa using e1)
          simp only [List.zip_cons_cons, List.map_cons, List.sum_cons]
          omega

theorem region_seq (hX : KitOk X C) {rs : List Did} {nx : Nat} {Q : Exit → Act → World → Prop} (hlen : rs.length = ops.toList.length) (ht : TraceP X ops ops.toList rs T H nx) (hI : RelA C T H (fun n => n < nx) a w)
    (hQ : ∀ a' w', RelA C (selT (fun _ => true) 0 (ops.toList.zip rs) T) (selH (fun _ => true) 0 (ops.toList.zip rs) H) (fun n => n < nx + ((ops.toList.zip rs).map (·.2.out.nw.length)).sum) a' w' → Q .normal a' w') :
    wpOps X.E.P ops Q (List.range ops.size) a w := by
  have key : ∀ (m j : Nat) (a : Act) (w : World), j + m = ops.size → RelA C (selT (fun k => decide (k < j)) 0 (ops.toList.zip rs) T) (selH (fun k => decide (k < j)) 0 (ops.toList.zip rs) H) (selD (fun k => decide (k < j)) (ops.toList.zip rs) (fun n => n < nx)) a w →
      wpOps X.E.P ops Q (List.range' j m) a w := by
    intro m
    induction m with
    | zero =>
      intro j a w hj hI
      simp only [List.range'_zero, wpOps]
      refine hQ a w ?_
      have e1 : selT (fun k => decide (k < j)) 0 (ops.toList.zip rs) T = selT (fun _ => true) 0 (ops.toList.zip rs) T := by
        funext t
        rw [selT_get, selT_get]
        refine selV_congr fun k u hu => ?_
        have := (List.getElem?_eq_some_iff.1 hu).1
        simp at this
        simp; omega
      have e2 : selH (fun k => decide (k < j)) 0 (ops.toList.zip rs) H = selH (fun _ => true) 0 (ops.toList.zip rs) H := by
        funext t
        rw [selH_get, selH_get]
        refine selV_congr fun k u hu => ?_
        have := (List.getElem?_eq_some_iff.1 hu).1
        simp at this
        simp; omega
      rw [e1, e2] at hI
      exact hI.weaken fun n hn => selD_end ht n hn
    | succ m ih =>
      intro j a w hj hI
      rw [List.range'_succ, wpOps_cons]
      have hlt : j < ops.size := by omega
      have ho : ops[j]? = some ops[j] := Array.getElem?_eq_getElem hlt
      obtain ⟨r, hr, hp⟩ := zip_get hlen (j := j) (o := ops[j]) (by rw [Array.getElem?_toList]; exact ho)
      obtain ⟨nxj, h1, h2, h3⟩ := TraceP_get (i := 0) ht hp
      rw [Nat.zero_add] at h1
      refine step_at hX ho hp (by simp) h1 (fun _ _ => rfl) (fun _ _ => rfl) (fresh_at (by simp) hp (fun n hn => h1.names hn) h2 h3) (fun t _ k p hk _ hS => ?_) (fun n _ k p hk _ hS => ?_) hI (fun S' a' w' hS' hI' => ?_)
      · simp at hS; omega
      · simp at hS; omega
      · have : S' = fun k => decide (k < j + 1) := by
          funext k
          rw [hS' k]
          by_cases h : k = j
          · subst h; simp
          · have : (k == j) = false := by simp [h]
            rw [this, Bool.or_false]
            by_cases h' : k < j
            · simp [h']; omega
            · simp [h']; omega
        subst this
        exact ih (j + 1) a' w' (by omega) hI'
  rw [List.range_eq_range']
  refine key ops.size 0 a w (by omega) ?_
  have e1 : selT (fun k => decide (k < 0)) 0 (ops.toList.zip rs) T = T := by
    funext t; rw [selT_get]; exact selV_none fun k u _ => by simp
  have e2 : selH (fun k => decide (k < 0)) 0 (ops.toList.zip rs) H = H := by
    funext t; rw [selH_get]; exact selV_none fun k u _ => by simp
  rw [e1, e2]
  exact hI.weaken fun n hn => .inl hn

/-! Which come before which. -/
theorem hasBit_lor (a b x : Nat) : hasBit (Nat.lor a b) x = (hasBit a x || hasBit b x) := Nat.testBit_or a b x
theorem hasBit_pow (t x : Nat) : hasBit (Nat.pow 2 t) x = decide (t = x) := Nat.testBit_two_pow
theorem hasBit_zero (x : Nat) : hasBit 0 x = false := Nat.zero_testBit x

theorem bindE_eq (e : Edge) : Region.binds .any e = bindE e := by
  unfold Region.binds bindE
  cases e.ground <;> rfl

theorem ancE_spec {j : Nat} {anc : List Nat} : ∀ {es : List Edge} {m : Nat}, ancE j anc es = some m → (∀ e ∈ es, bindE e = true → e.on < j) ∧
    ∀ x, hasBit m x = true → ∃ e ∈ es, bindE e = true ∧ (x = e.on ∨ ∃ m', anc[e.on]? = some m' ∧ hasBit m' x = true)
  | [], m, h => by
    simp only [ancE, Option.some.injEq] at h
    subst h
    exact ⟨by simp, fun x hx => by rw [hasBit_zero] at hx; cases hx⟩
  | e :: es, m, h => by
    unfold ancE at h
    split at h
    · rename_i hb
      obtain ⟨h1, h2⟩ := ancE_spec h
      refine ⟨fun e' he' hb' => ?_, fun x hx => ?_⟩
      · rcases List.mem_cons.1 he' with rfl | he'
        · rw [hb] at hb'; cases hb'
        · exact h1 e' he' hb'
      · obtain ⟨e', he', h3⟩ := h2 x hx
        exact ⟨e', List.mem_cons_of_mem _ he', h3⟩
    · rename_i hb
      split at h
      · rename_i m0 r hlt hm0 hr
        simp only [Option.some.injEq] at h
        subst h
        obtain ⟨h1, h2⟩ := ancE_spec hr
        refine ⟨fun e' he' hb' => ?_, fun x hx => ?_⟩
        · rcases List.mem_cons.1 he' with rfl | he'
          · exact Nat.le_of_ble_eq_true hlt
          · exact h1 e' he' hb'
        · rw [hasBit_lor, hasBit_lor, hasBit_pow] at hx
          simp only [Bool.or_eq_true, decide_eq_true_eq] at hx
          rcases hx with (hx | hx) | hx
          · exact ⟨e, List.mem_cons_self, hb, .inl hx.symm⟩
          · exact ⟨e, List.mem_cons_self, hb, .inr ⟨m0, hm0, hx⟩⟩
          · obtain ⟨e', he', h3⟩ := h2 x hx
            exact ⟨e', List.mem_cons_of_mem _ he', h3⟩
      · cases h

theorem ancs_spec : ∀ {os : List Oper} {acc ms : List Nat}, ancs os acc = some ms → (∃ l, ms = acc ++ l ∧ l.length = os.length) ∧
    ∀ (i : Nat) (o : Oper), os[i]? = some o → ∃ m, ms[acc.length + i]? = some m ∧ (∀ e ∈ o.after, bindE e = true → e.on < acc.length + i) ∧
      ∀ x, hasBit m x = true → ∃ e ∈ o.after, bindE e = true ∧ (x = e.on ∨ ∃ m', ms[e.on]? = some m' ∧ hasBit m' x = true)
  | [], acc, ms, h => by
    simp only [ancs, Option.some.injEq] at h
    subst h
    exact ⟨⟨[], by simp, rfl⟩, fun i o e => by simp at e⟩
  | o :: os, acc, ms, h => by
    unfold ancs at h
    split at h
    · rename_i m hm
      obtain ⟨⟨l, hl, hll⟩, h2⟩ := ancs_spec h
      obtain ⟨h3, h4⟩ := ancE_spec hm
      refine ⟨⟨m :: l, by rw [hl]; simp, by simp [hll]⟩, fun i o' e => ?_⟩
      cases i with
      | zero =>
        simp only [List.getElem?_cons_zero, Option.some.injEq] at e
        subst e
        refine ⟨m, by rw [hl]; simp, fun e he hb => h3 e (by simpa using he) hb, fun x hx => ?_⟩
        obtain ⟨e, he, hb, h5⟩ := h4 x hx
        refine ⟨e, by simpa using he, hb, h5.imp id fun ⟨m', h6, h7⟩ => ⟨m', ?_, h7⟩⟩
        have hlt := (List.getElem?_eq_some_iff.1 h6).1
        rw [hl, List.append_assoc, List.getElem?_append_left hlt]
        exact h6
      | succ i =>
        obtain ⟨m', h5, h6, h7⟩ := h2 i o' (by simpa using e)
        simp only [List.length_append, List.length_singleton] at h5 h6
        rw [show acc.length + 1 + i = acc.length + (i + 1) by omega] at h5 h6
        exact ⟨m', h5, h6, h7⟩
    · cases h

theorem stas_spec : ∀ {os : List Oper} {ms : List Nat} {st : List Sta}, stas ops os ms = some st → st.length = os.length ∧ ms.length = os.length ∧ ∀ (i : Nat) (o : Oper) (m : Nat), os[i]? = some o → ms[i]? = some m → st[i]? = some ⟨o.dst, lookMask ops o, m⟩
  | [], [], st, h => by simp only [stas, Option.some.injEq] at h; subst h; exact ⟨rfl, rfl, fun i o m e => by simp at e⟩
  | [], _ :: _, st, h => by simp [stas] at h
  | _ :: _, [], st, h => by simp [stas] at h
  | o :: os, m :: ms, st, h => by
    unfold stas at h
    split at h
    · rename_i r hr
      simp only [Option.some.injEq] at h
      subst h
      obtain ⟨h1, h2, h3⟩ := stas_spec hr
      refine ⟨by simp [h1], by simp [h2], fun i o' m' e1 e2 => ?_⟩
      cases i with
      | zero => simp only [List.getElem?_cons_zero, Option.some.injEq] at e1 e2 ⊢; subst e1; subst e2; rfl
      | succ i => simpa using h3 i o' m' (by simpa using e1) (by simpa using e2)
    · cases h

theorem tmpMask_spec : ∀ {l : List Operand} {t : Nat}, .tmp t ∈ l → hasBit (tmpMask l) t = true
  | [], t, h => by cases h
  | x :: l, t, h => by
    rcases List.mem_cons.1 h with e | h
    · subst e; simp only [tmpMask, hasBit_lor, hasBit_pow, decide_true, Bool.true_or]
    · have := tmpMask_spec h
      cases x <;> simp only [tmpMask, hasBit_lor, this, Bool.or_true]

theorem lookMask_spec {o : Oper} {t : Nat} (h : Looks ops o t) : hasBit (lookMask ops o) t = true := by
  unfold lookMask
  rcases h with h | h
  · have := tmpMask_spec (Array.mem_toList_iff.2 h)
    split
    · rw [hasBit_lor, this, Bool.or_true]
    · exact this
  · rw [h]; simp only [hasBit_lor, hasBit_pow, decide_true, Bool.true_or]

theorem staAgainst_spec {i : Nat} {x : Sta} : ∀ {ys : List Sta}, staAgainst i x ys = true → ∀ (q : Nat) (y : Sta), ys[q]? = some y → staPair i x y = true
  | [], _, q, y, e => by simp at e
  | z :: ys, h, q, y, e => by
    unfold staAgainst at h
    split at h
    · rename_i hz
      cases q with
      | zero => simp only [List.getElem?_cons_zero, Option.some.injEq] at e; subst e; exact hz
      | succ q => exact staAgainst_spec h q y (by simpa using e)
    · cases h

theorem staAll_spec : ∀ {xs : List Sta} {i : Nat}, staAll i xs = true → ∀ (p q : Nat) (x y : Sta), p < q → xs[p]? = some x → xs[q]? = some y → staPair (i + p) x y = true
  | [], i, _, p, q, x, y, _, e, _ => by simp at e
  | z :: xs, i, h, p, q, x, y, hpq, e1, e2 => by
    unfold staAll at h
    split at h
    · rename_i hz
      obtain ⟨q, rfl⟩ : ∃ q', q = q' + 1 := ⟨q - 1, by omega⟩
      cases p with
      | zero =>
        simp only [List.getElem?_cons_zero, Option.some.injEq] at e1
        subst e1
        exact staAgainst_spec hz q y (by simpa using e2)
      | succ p =>
        have := staAll_spec h p q x y (by omega) (by simpa using e1) (by simpa using e2)
        rw [show i + (p + 1) = i + 1 + p by omega]; exact this
    · cases h

theorem didFwd_spec {i : Nat} {ts : List Nat} : ∀ {ys : List Sta} {rs : List Did}, didFwd i ts ys rs = true → ∀ (q : Nat) (y : Sta) (r : Did), ys[q]? = some y → rs[q]? = some r → hasBit y.anc i = true ∨ (disjN ts r.rd = true ∧ disjN ts r.tch = true)
  | [], rs, _, q, y, r, e, _ => by simp at e
  | _ :: _, [], _, q, y, r, _, e => by simp at e
  | z :: ys, s :: rs, h, q, y, r, e1, e2 => by
    unfold didFwd at h
    split at h
    · rename_i hz
      cases q with
      | zero =>
        simp only [List.getElem?_cons_zero, Option.some.injEq] at e1 e2
        subst e1; subst e2
        simpa [Bool.or_eq_true, Bool.and_eq_true] using hz
      | succ q => exact didFwd_spec h q y r (by simpa using e1) (by simpa using e2)
    · cases h

theorem didBwd_spec {i : Nat} {rd : List Nat} : ∀ {ys : List Sta} {rs : List Did}, didBwd i rd ys rs = true → ∀ (q : Nat) (y : Sta) (r : Did), ys[q]? = some y → rs[q]? = some r → r.tch = [] ∨ hasBit y.anc i = true ∨ disjN r.tch rd = true
  | [], rs, _, q, y, r, e, _ => by simp at e
  | _ :: _, [], _, q, y, r, _, e => by simp at e
  | z :: ys, s :: rs, h, q, y, r, e1, e2 => by
    unfold didBwd at h
    split at h
    · rename_i hz
      cases q with
      | zero =>
        simp only [List.getElem?_cons_zero, Option.some.injEq] at e1 e2
        subst e1; subst e2
        simp only [Bool.or_eq_true] at hz
        refine hz.imp (fun h => ?_) id
        cases ht : s.tch with
        | nil => rfl
        | cons _ _ => rw [ht] at h; cases h
      | succ q => exact didBwd_spec h q y r (by simpa using e1) (by simpa using e2)
    · cases h

theorem didAll_spec : ∀ {ys : List Sta} {rs : List Did} {i : Nat}, didAll i ys rs = true → ∀ (p q : Nat) (x y : Did) (z : Sta), p < q → ys.length = rs.length → rs[p]? = some x → rs[q]? = some y → ys[q]? = some z →
    (x.tch = [] ∨ hasBit z.anc (i + p) = true ∨ (disjN x.tch y.rd = true ∧ disjN x.tch y.tch = true)) ∧ (y.tch = [] ∨ hasBit z.anc (i + p) = true ∨ disjN y.tch x.rd = true)
  | [], rs, i, _, p, q, x, y, z, _, _, _, _, e => by simp at e
  | _ :: _, [], i, _, p, q, x, y, z, _, _, e, _, _ => by simp at e
  | s :: ys, r :: rs, i, h, p, q, x, y, z, hpq, hl, e1, e2, e3 => by
    unfold didAll at h
    split at h
    · rename_i hz
      rw [Bool.and_eq_true, Bool.or_eq_true] at hz
      obtain ⟨q, rfl⟩ : ∃ q', q = q' + 1 := ⟨q - 1, by omega⟩
      have e2 : rs[q]? = some y := by simpa using e2
      have e3 : ys[q]? = some z := by simpa using e3
      cases p with
      | zero =>
        simp only [List.getElem?_cons_zero, Option.some.injEq] at e1
        subst e1
        refine ⟨?_, didBwd_spec hz.2 q z y e3 e2⟩
        rcases hz.1 with h1 | h1
        · left
          cases ht : r.tch with
          | nil => rfl
          | cons _ _ => rw [ht] at h1; cases h1
        · exact .inr (didFwd_spec h1 q z y e3 e2)
      | succ p =>
        have := didAll_spec h p q x y z (by omega) (by simpa using hl) (by simpa using e1) e2 e3
        rw [show i + (p + 1) = i + 1 + p by omega]; exact this
    · cases h

end
end Go.Proofs.Ytgebgjhjegadpaa

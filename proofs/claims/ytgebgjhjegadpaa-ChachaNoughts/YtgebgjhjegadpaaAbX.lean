/-
  The abstract machine: regions in any order, sound; the evaluator's regions.
-/
import Derived.Test.YtgebgjhjegadpaaAbW
namespace Go.Proofs.Ytgebgjhjegadpaa
open Go

section
variable {X : Kit} {C : C0} {ops : Array Oper} {T : Nat → AV} {H : Nat → Option Blk} {a : Act} {w : World}

def lst (listed : Array Bool) : Nat → Bool := fun k => listed.getD k false

/-- Each listed operation's grounds are listed. -/
def Closed (ops : Array Oper) (S : Nat → Bool) : Prop := ∀ (k : Nat) (o : Oper), ops[k]? = some o → S k = true → ∀ e ∈ o.after, bindE e = true → S e.on = true

theorem anc_in {S : Nat → Bool} (hS : Closed ops S) {ms : List Nat} (hms : ∀ (i : Nat) (o : Oper), ops[i]? = some o → ∃ m, ms[i]? = some m ∧ (∀ e ∈ o.after, bindE e = true → e.on < i) ∧
    ∀ x, hasBit m x = true → ∃ e ∈ o.after, bindE e = true ∧ (x = e.on ∨ ∃ m', ms[e.on]? = some m' ∧ hasBit m' x = true)) :
    ∀ (j : Nat) (o : Oper) (m x : Nat), ops[j]? = some o → (∀ e ∈ o.after, bindE e = true → S e.on = true) → ms[j]? = some m → hasBit m x = true → S x = true := by
  intro j
  induction j using Nat.strongRecOn with
  | _ j ih =>
    intro o m x ho hd hm hx
    obtain ⟨m1, h1, h2, h3⟩ := hms j o ho
    rw [hm] at h1
    cases h1
    obtain ⟨e, he, hb, h4⟩ := h3 x hx
    have hlt := h2 e he hb
    have hSe := hd e he hb
    rcases h4 with rfl | ⟨m', h5, h6⟩
    · exact hSe
    · have hj := (Array.getElem?_eq_some_iff.1 ho).1
      have hoe : ops[e.on]? = some ops[e.on] := Array.getElem?_eq_getElem (by omega)
      exact ih e.on hlt _ m' x hoe (hS e.on _ hoe hSe) h5 h6

theorem region_any (hX : KitOk X C) {rs : List Did} {st : List Sta} {nx : Nat} {Q : Exit → Act → World → Prop} (hst : stasOf ops = some st) (hall : staAll 0 st = true) (hdid : didAll 0 st rs = true) (hlen : rs.length = ops.toList.length)
    (ht : TraceP X ops ops.toList rs T H nx) (hI : RelA C T H (fun n => n < nx) a w)
    (hQ : ∀ a' w', RelA C (selT (fun _ => true) 0 (ops.toList.zip rs) T) (selH (fun _ => true) 0 (ops.toList.zip rs) H) (fun n => n < nx + ((ops.toList.zip rs).map (·.2.out.nw.length)).sum) a' w' → Q .normal a' w') :
    wpAny X.E.P .any ops Q ops.size (Array.replicate ops.size false) a w := by
  -- the static side
  unfold stasOf at hst
  split at hst
  rotate_left
  · cases hst
  rename_i ms hms
  obtain ⟨⟨l, hl, _⟩, hanc⟩ := ancs_spec hms
  obtain ⟨hsl, _, hsg⟩ := stas_spec hst
  have hms' : ∀ (i : Nat) (o : Oper), ops[i]? = some o → ∃ m, ms[i]? = some m ∧ (∀ e ∈ o.after, bindE e = true → e.on < i) ∧
      ∀ x, hasBit m x = true → ∃ e ∈ o.after, bindE e = true ∧ (x = e.on ∨ ∃ m', ms[e.on]? = some m' ∧ hasBit m' x = true) := fun i o ho => by
    have := hanc i o (by rw [Array.getElem?_toList]; exact ho)
    simpa using this
  -- two operations, the one in front of the other: ordered, or apart
  have hpair : ∀ {i j : Nat} {oi oj : Oper} {ri rj : Did}, i < j → (ops.toList.zip rs)[i]? = some (oi, ri) → (ops.toList.zip rs)[j]? = some (oj, rj) →
      (∃ m, ms[j]? = some m ∧ hasBit m i = true) ∨
      ((∀ t, oi.dst = some t → ¬ Looks ops oj t) ∧ (∀ t, oi.dst = some t → oj.dst ≠ some t) ∧ (∀ t, oj.dst = some t → ¬ Looks ops oi t) ∧
        (∀ n, n ∈ ri.tch → n ∉ rj.rd) ∧ (∀ n, n ∈ ri.tch → n ∉ rj.tch) ∧ (∀ n, n ∈ rj.tch → n ∉ ri.rd)) := by
    intro i j oi oj ri rj hij hi hj
    obtain ⟨hoi, hri⟩ := zip_get' hi
    obtain ⟨hoj, hrj⟩ := zip_get' hj
    obtain ⟨mi, hmi, _⟩ := hanc i oi hoi
    obtain ⟨mj, hmj, _⟩ := hanc j oj hoj
    simp only [List.length_nil, Nat.zero_add] at hmi hmj
    have hsi := hsg i oi mi hoi hmi
    have hsj := hsg j oj mj hoj hmj
    have h1 := staAll_spec hall i j _ _ hij hsi hsj
    have h2 := didAll_spec hdid i j _ _ _ hij (by omega) hri hrj hsj
    simp only [Nat.zero_add, staPair, Bool.or_eq_true, Bool.and_eq_true] at h1 h2
    by_cases hb : hasBit mj i = true
    · exact .inl ⟨mj, hmj, hb⟩
    · right
      rcases h1 with h1 | ⟨⟨h1, h3⟩, h4⟩
      · exact absurd h1 hb
      · refine ⟨fun t e hl => ?_, fun t e e' => ?_, fun t e hl => ?_, fun n hn => ?_, fun n hn => ?_, fun n hn => ?_⟩
        · rw [e] at h1; simp only [dstNot, lookMask_spec hl] at h1; cases h1
        · rw [e, e'] at h3; simp [dstNe] at h3
        · rw [e] at h4; simp only [dstNot, lookMask_spec hl] at h4; cases h4
        · rcases h2.1 with h | h | h
          · rw [h] at hn; cases hn
          · exact absurd h hb
          · exact fun h' => disjN_spec h.1 n h' hn
        · rcases h2.1 with h | h | h
          · rw [h] at hn; cases hn
          · exact absurd h hb
          · exact fun h' => disjN_spec h.2 n h' hn
        · rcases h2.2 with h | h | h
          · rw [h] at hn; cases hn
          · exact absurd h hb
          · exact fun h' => disjN_spec h n h' hn
  have key : ∀ (fuel : Nat) (listed : Array Bool) (a : Act) (w : World) (un : List Nat), listed.size = ops.size → un.length ≤ fuel → (∀ k, k < ops.size → lst listed k = false → k ∈ un) → Closed ops (lst listed) →
      RelA C (selT (lst listed) 0 (ops.toList.zip rs) T) (selH (lst listed) 0 (ops.toList.zip rs) H) (selD (lst listed) (ops.toList.zip rs) (fun n => n < nx)) a w → wpAny X.E.P .any ops Q fuel listed a w := by
    -- once all are listed
    have hdone : ∀ (listed : Array Bool) (a : Act) (w : World), listed.size = ops.size → (∀ k, k < ops.size → lst listed k = true) →
        RelA C (selT (lst listed) 0 (ops.toList.zip rs) T) (selH (lst listed) 0 (ops.toList.zip rs) H) (selD (lst listed) (ops.toList.zip rs) (fun n => n < nx)) a w → Region.ready .any ops listed = [] ∧ Q .normal a w := by
      intro listed a w hsz hl hI
      refine ⟨?_, hQ a w ?_⟩
      · rw [List.eq_nil_iff_forall_not_mem]
        intro j hj
        obtain ⟨h0, o, ho, _⟩ := mem_ready.1 hj
        have hlt := (Array.getElem?_eq_some_iff.1 ho).1
        have := hl j hlt
        unfold lst at this
        rw [Array.getD_eq_getD_getElem?, Array.getElem?_eq_getElem (by omega)] at this h0
        simp only [Option.getD_some] at this h0
        rw [h0] at this
        cases this
      · have e1 : selT (lst listed) 0 (ops.toList.zip rs) T = selT (fun _ => true) 0 (ops.toList.zip rs) T := by
          funext t
          rw [selT_get, selT_get]
          refine selV_congr fun k u hu => ?_
          have := (List.getElem?_eq_some_iff.1 hu).1
          simp at this
          rw [Nat.zero_add]
          exact hl k (by omega)
        have e2 : selH (lst listed) 0 (ops.toList.zip rs) H = selH (fun _ => true) 0 (ops.toList.zip rs) H := by
          funext t
          rw [selH_get, selH_get]
          refine selV_congr fun k u hu => ?_
          have := (List.getElem?_eq_some_iff.1 hu).1
          simp at this
          rw [Nat.zero_add]
          exact hl k (by omega)
        rw [e1, e2] at hI
        exact hI.weaken fun n hn => selD_end ht n hn
    -- if none is ready, all are listed
    have hprog : ∀ (listed : Array Bool), listed.size = ops.size → Region.ready .any ops listed = [] → ∀ k, k < ops.size → lst listed k = true := by
      intro listed hsz hr k
      induction k using Nat.strongRecOn with
      | _ k ih =>
        intro hk
        cases hl : lst listed k with
        | true => rfl
        | false =>
          exfalso
          have ho : ops[k]? = some ops[k] := Array.getElem?_eq_getElem hk
          have : k ∈ Region.ready .any ops listed := by
            rw [mem_ready]
            refine ⟨?_, _, ho, fun e he hb => ?_⟩
            · unfold lst at hl
              rw [Array.getD_eq_getD_getElem?, Array.getElem?_eq_getElem (by omega)] at hl ⊢
              exact hl
            · rw [bindE_eq] at hb
              obtain ⟨m, _, h2, _⟩ := hms' k _ ho
              have := h2 e he hb
              exact ih e.on this (by omega)
          rw [hr] at this
          cases this
    intro fuel
    induction fuel with
    | zero =>
      intro listed a w un hsz hun hcov hcl hI
      have : un = [] := List.length_eq_zero_iff.1 (by omega)
      subst this
      exact hdone listed a w hsz (fun k hk => by cases h : lst listed k with
        | true => rfl
        | false => exact absurd (hcov k hk h) (by simp)) hI
    | succ fuel ih =>
      intro listed a w un hsz hun hcov hcl hI
      refine ⟨fun hr => (hdone listed a w hsz (hprog listed hsz hr) hI).2, fun j hj => ?_⟩
      obtain ⟨h0, o, ho, hedge⟩ := mem_ready.1 hj
      have hlt := (Array.getElem?_eq_some_iff.1 ho).1
      have hSj : lst listed j = false := by
        unfold lst
        rw [Array.getD_eq_getD_getElem?, Array.getElem?_eq_getElem (by omega)] at h0 ⊢
        exact h0
      have hedge' : ∀ e ∈ o.after, bindE e = true → lst listed e.on = true := fun e he hb => hedge e he (by rw [bindE_eq]; exact hb)
      obtain ⟨r, hr, hp⟩ := zip_get hlen (j := j) (o := o) (by rw [Array.getElem?_toList]; exact ho)
      obtain ⟨nxj, h1, h2, h3⟩ := TraceP_get (i := 0) ht hp
      rw [Nat.zero_add] at h1
      -- one in front of j that is not listed yet; one behind it that is: both apart from it
      have hfront : ∀ {k : Nat} {p : Pr}, k < j → lst listed k = false → (ops.toList.zip rs)[k]? = some p → (∀ t, p.1.dst = some t → ¬ Looks ops o t) ∧ (∀ n, n ∈ p.2.tch → n ∉ r.rd) := by
        intro k p hk hS hpk
        rcases hpair hk hpk hp with ⟨m, hm, hb⟩ | h
        · have := anc_in hcl hms' j o m k ho hedge' hm hb
          rw [hS] at this; cases this
        · exact ⟨h.1, h.2.2.2.1⟩
      have hback : ∀ {k : Nat} {p : Pr}, j < k → lst listed k = true → (ops.toList.zip rs)[k]? = some p → (∀ t, p.1.dst = some t → ¬ Looks ops o t) ∧ (∀ n, n ∈ p.2.tch → n ∉ r.rd) ∧ (∀ t, o.dst = some t → p.1.dst ≠ some t) ∧ (∀ n, n ∈ r.tch → n ∉ p.2.tch) := by
        intro k p hk hS hpk
        rcases hpair hk hp hpk with ⟨m, hm, hb⟩ | h
        · have hok : ops[k]? = some p.1 := by rw [← Array.getElem?_toList]; exact (zip_get' hpk).1
          have := anc_in hcl hms' k p.1 m j hok (hcl k p.1 hok hS) hm hb
          rw [hSj] at this; cases this
        · exact ⟨h.2.2.1, h.2.2.2.2.2, h.2.1, h.2.2.2.2.1⟩
      refine step_at hX ho hp hSj h1 (fun t htl => ?_) (fun n hn => ?_) (fresh_at hSj hp (fun n hn => h1.names hn) h2 h3) (fun t e k p hk hpk hS => (hback hk hS hpk).2.2.1 t e) (fun n hn k p hk hpk hS => (hback hk hS hpk).2.2.2 n hn) hI ?_
      · rw [selT_get, selT_get]
        refine selV_congr fun k u hu => ?_
        rw [List.getElem?_map, Option.map_eq_some_iff] at hu
        obtain ⟨p, hpk, hu⟩ := hu
        have hd : p.1.dst = some t := by
          unfold updT at hu
          split at hu
          · assumption
          · cases hu
        rw [Nat.zero_add]
        rcases Nat.lt_trichotomy k j with h | h | h
        · cases hS : lst listed k with
          | true => simp [h]
          | false => exact absurd htl ((hfront h hS hpk).1 t hd)
        · subst h; simp [hSj]
        · cases hS : lst listed k with
          | true => exact absurd htl ((hback h hS hpk).1 t hd)
          | false => simp; omega
      · rw [selH_get, selH_get]
        refine selV_congr fun k u hu => ?_
        rw [List.getElem?_map, Option.map_eq_some_iff] at hu
        obtain ⟨p, hpk, hu⟩ := hu
        have hd : n ∈ p.2.tch := updH_touch (by rw [hu]; rfl)
        rw [Nat.zero_add]
        rcases Nat.lt_trichotomy k j with h | h | h
        · cases hS : lst listed k with
          | true => simp [h]
          | false => exact absurd hn ((hfront h hS hpk).2 n hd)
        · subst h; simp [hSj]
        · cases hS : lst listed k with
          | true => exact absurd hn ((hback h hS hpk).2.1 n hd)
          | false => simp; omega
      · intro S' a' w' hS' hI'
        have hlset : lst (listed.setIfInBounds j true) = S' := by
          funext k
          rw [hS' k]
          unfold lst
          by_cases hkj : k = j
          · subst hkj
            have : k < listed.size := by omega
            simp [this]
          · have : (k == j) = false := by simp [hkj]
            rw [this, Bool.or_false]
            exact getD_set_ne false (fun e => hkj e.symm)
        rw [← hlset] at hI'
        refine ih _ a' w' (un.erase j) (by simp [hsz]) ?_ (fun k hk hS => ?_) (fun k ok hok hS e he hb => ?_) hI'
        · have := List.length_erase_of_mem (hcov j hlt hSj)
          omega
        · rw [hlset, hS' k] at hS
          simp only [Bool.or_eq_false_iff, beq_eq_false_iff_ne] at hS
          exact (List.mem_erase_of_ne hS.2).2 (hcov k hk hS.1)
        · rw [hlset] at hS ⊢
          rw [hS'] at hS ⊢
          rw [Bool.or_eq_true] at hS
          rcases hS with hS | hS
          · rw [hcl k ok hok hS e he hb]; rfl
          · have hkj : k = j := by simpa using hS
            subst hkj
            rw [ho] at hok
            cases hok
            rw [hedge' e he hb]; rfl
  refine key ops.size _ a w (List.range ops.size) (by simp) (by simp) (fun k hk _ => by simpa using hk) (fun k o ho hS => ?_) ?_
  · exfalso
    unfold lst at hS
    have hk := (Array.getElem?_eq_some_iff.1 ho).1
    simp [Array.getD_eq_getD_getElem?, hk] at hS
  · have hno : ∀ k, lst (Array.replicate ops.size false) k = false := fun k => by
      unfold lst
      by_cases hk : k < ops.size <;> simp [Array.getD_eq_getD_getElem?, hk]
    have e1 : selT (lst (Array.replicate ops.size false)) 0 (ops.toList.zip rs) T = T := by
      funext t; rw [selT_get]; exact selV_none fun k u _ => hno _
    have e2 : selH (lst (Array.replicate ops.size false)) 0 (ops.toList.zip rs) H = H := by
      funext t; rw [selH_get]; exact selV_none fun k u _ => hno _
    rw [e1, e2]
    exact hI.weaken fun n hn => .inl hn

/-- A state of the evaluator. -/
abbrev RelSt (C : C0) (s : St) (a : Act) (w : World) : Prop := RelA C (lkT s.T) (lkF s.H) (fun n => n < s.nx) a w

theorem evRegion_sound {R : Type} {id : Nat} {draw : Bool} {s : St} {K : St → Option R} {res : R} {Q : Exit → Act → World → Prop} (hX : KitOk X C) (hm : X.E.P.follows .mixedOrders = true) (h : evRegion X ops draw s K = some res) (hI : RelSt C s a w)
    (hQ : ∀ s' a' w', K s' = some res → RelSt C s' a' w' → Q .normal a' w') : (Code.region id ops draw).wp X.E.P Q a w := by
  unfold evRegion at h
  split at h
  · obtain ⟨rs, s', h1, h2, h3, h4⟩ := evOps_trace h
    refine wp_region (region_seq hX h2 h3 hI fun a' w' hI' => hQ s' a' w' h1 ?_)
    unfold RelSt
    rw [h4.T, h4.H, h4.nx]
    exact hI'
  · split at h
    · rename_i st hst
      split at h
      · rename_i hall
        obtain ⟨rs, s', h1, h2, h3, h4⟩ := evOps_trace h
        split at h1
        · rename_i hdid
          rw [List.append_nil, List.reverse_reverse] at hdid
          refine wp_region_any hm ?_
          refine region_any hX hst hall hdid h2 h3 (RelA.drew hI) fun a' w' hI' => hQ s' a' w' h1 ?_
          unfold RelSt
          rw [h4.T, h4.H, h4.nx]
          exact hI'
        · cases h1
      · cases h
    · cases h

end
end Go.Proofs.Ytgebgjhjegadpaa
